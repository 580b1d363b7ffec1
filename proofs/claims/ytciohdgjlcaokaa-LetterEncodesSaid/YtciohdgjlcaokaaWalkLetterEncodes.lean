import Derived.Test.YtciohdgjlcaokaaKindsT1
import Derived.Test.YtciohdgjlcaokaaProg
set_option linter.unusedVariables false
set_option linter.unusedSimpArgs false
set_option maxRecDepth 100000
namespace Go.GL
open Go Go.Proofs

/-! tontine/letter.May -/
noncomputable def c23_0 : Code := bodyOf Try.f23
noncomputable def c23_1 : Code := cdL c23_0
noncomputable def c23_2 : Code := cdR c23_0
noncomputable def c23_3 : Code := cdL c23_2
noncomputable def c23_4 : Code := cdL c23_3
noncomputable def c23_5 : Code := cdR c23_3
noncomputable def c23_6 : Code := cdL c23_5
noncomputable def c23_7 : Code := cdL c23_6
noncomputable def c23_8 : Code := cdR c23_6
noncomputable def c23_9 : Code := cdR c23_5
noncomputable def c23_10 : Code := cdR c23_2
noncomputable def c23_11 : Code := cdL c23_10
noncomputable def c23_12 : Code := cdL c23_11
noncomputable def c23_13 : Code := cdR c23_11
noncomputable def c23_14 : Code := cdL c23_13
noncomputable def c23_15 : Code := cdL c23_14
noncomputable def c23_16 : Code := cdR c23_14
noncomputable def c23_17 : Code := cdR c23_13
noncomputable def c23_18 : Code := cdR c23_10
noncomputable def c23_19 : Code := cdL c23_18
noncomputable def c23_20 : Code := cdL c23_19
noncomputable def c23_21 : Code := cdR c23_19
noncomputable def c23_22 : Code := cdL c23_21
noncomputable def c23_23 : Code := cdL c23_22
noncomputable def c23_24 : Code := cdL c23_23
noncomputable def c23_25 : Code := cdR c23_23
noncomputable def c23_26 : Code := cdL c23_25
noncomputable def c23_27 : Code := cdL c23_26
noncomputable def c23_28 : Code := cdR c23_26
noncomputable def c23_29 : Code := cdR c23_25
noncomputable def c23_30 : Code := cdL c23_29
noncomputable def c23_31 : Code := cdL c23_30
noncomputable def c23_32 : Code := cdL c23_31
noncomputable def c23_33 : Code := cdR c23_31
noncomputable def c23_34 : Code := cdL c23_33
noncomputable def c23_35 : Code := cdR c23_33
noncomputable def c23_36 : Code := cdL c23_35
noncomputable def c23_37 : Code := cdL c23_36
noncomputable def c23_38 : Code := cdR c23_36
noncomputable def c23_39 : Code := cdR c23_35
noncomputable def c23_40 : Code := cdR c23_29
noncomputable def c23_41 : Code := cdR c23_18
noncomputable def c23_42 : Code := cdL c23_41
noncomputable def c23_43 : Code := cdR c23_41
noncomputable def r23_1 : Array Oper := cdO c23_1
noncomputable def r23_4 : Array Oper := cdO c23_4
noncomputable def r23_7 : Array Oper := cdO c23_7
noncomputable def r23_12 : Array Oper := cdO c23_12
noncomputable def r23_15 : Array Oper := cdO c23_15
noncomputable def r23_20 : Array Oper := cdO c23_20
noncomputable def r23_24 : Array Oper := cdO c23_24
noncomputable def r23_32 : Array Oper := cdO c23_32
noncomputable def r23_34 : Array Oper := cdO c23_34
noncomputable def r23_37 : Array Oper := cdO c23_37
noncomputable def r23_40 : Array Oper := cdO c23_40
noncomputable def r23_42 : Array Oper := cdO c23_42
theorem c23_0e : c23_0 = .seq c23_1 c23_2 := by kernel_rfl
theorem c23_1e : c23_1 = .region 0 r23_1 false := by kernel_rfl
theorem c23_2e : c23_2 = .seq c23_3 c23_10 := by kernel_rfl
theorem c23_3e : c23_3 = .seq c23_4 c23_5 := by kernel_rfl
theorem c23_4e : c23_4 = .region 1 r23_4 false := by kernel_rfl
theorem c23_5e : c23_5 = .cond (cdC c23_5) c23_6 c23_9 := by kernel_rfl
theorem c23_6e : c23_6 = .seq c23_7 c23_8 := by kernel_rfl
theorem c23_7e : c23_7 = .region 2 r23_7 false := by kernel_rfl
theorem c23_8e : c23_8 = .ret := by kernel_rfl
theorem c23_9e : c23_9 = .skip := by kernel_rfl
theorem c23_10e : c23_10 = .seq c23_11 c23_18 := by kernel_rfl
theorem c23_11e : c23_11 = .seq c23_12 c23_13 := by kernel_rfl
theorem c23_12e : c23_12 = .region 3 r23_12 false := by kernel_rfl
theorem c23_13e : c23_13 = .cond (cdC c23_13) c23_14 c23_17 := by kernel_rfl
theorem c23_14e : c23_14 = .seq c23_15 c23_16 := by kernel_rfl
theorem c23_15e : c23_15 = .region 4 r23_15 false := by kernel_rfl
theorem c23_16e : c23_16 = .ret := by kernel_rfl
theorem c23_17e : c23_17 = .skip := by kernel_rfl
theorem c23_18e : c23_18 = .seq c23_19 c23_41 := by kernel_rfl
theorem c23_19e : c23_19 = .seq c23_20 c23_21 := by kernel_rfl
theorem c23_20e : c23_20 = .region 5 r23_20 false := by kernel_rfl
theorem c23_21e : c23_21 = .block 0 c23_22 := by kernel_rfl
theorem c23_22e : c23_22 = .loop c23_23 := by kernel_rfl
theorem c23_23e : c23_23 = .seq c23_24 c23_25 := by kernel_rfl
theorem c23_24e : c23_24 = .region 6 r23_24 false := by kernel_rfl
theorem c23_25e : c23_25 = .seq c23_26 c23_29 := by kernel_rfl
theorem c23_26e : c23_26 = .cond (cdC c23_26) c23_27 c23_28 := by kernel_rfl
theorem c23_27e : c23_27 = .skip := by kernel_rfl
theorem c23_28e : c23_28 = .exit 0 := by kernel_rfl
theorem c23_29e : c23_29 = .seq c23_30 c23_40 := by kernel_rfl
theorem c23_30e : c23_30 = .block 1 c23_31 := by kernel_rfl
theorem c23_31e : c23_31 = .seq c23_32 c23_33 := by kernel_rfl
theorem c23_32e : c23_32 = .region 7 r23_32 false := by kernel_rfl
theorem c23_33e : c23_33 = .seq c23_34 c23_35 := by kernel_rfl
theorem c23_34e : c23_34 = .region 8 r23_34 false := by kernel_rfl
theorem c23_35e : c23_35 = .cond (cdC c23_35) c23_36 c23_39 := by kernel_rfl
theorem c23_36e : c23_36 = .seq c23_37 c23_38 := by kernel_rfl
theorem c23_37e : c23_37 = .region 9 r23_37 false := by kernel_rfl
theorem c23_38e : c23_38 = .ret := by kernel_rfl
theorem c23_39e : c23_39 = .skip := by kernel_rfl
theorem c23_40e : c23_40 = .region 10 r23_40 false := by kernel_rfl
theorem c23_41e : c23_41 = .seq c23_42 c23_43 := by kernel_rfl
theorem c23_42e : c23_42 = .region 11 r23_42 false := by kernel_rfl
theorem c23_43e : c23_43 = .ret := by kernel_rfl
noncomputable def letter_May.R (A_2 : Option Addr) (c_3 : Nat) : Pst Bool where
  ε := Unit
  v := fun r x => .bool r
  H := fun r x => []
  B := fun r x => []
noncomputable def letter_May.cx (A_2 : Option Addr) (c_3 : Nat) (w0 : World) (S0 : Fam) : Cx Bool := ⟨Try.prog, 23, Try.f23, 76, w0, S0, [], 0, letter_May.R A_2 c_3⟩
theorem letter_May_j2_ok (n : Nat) (L0 : Int → Option Bool) (x_1 : T_api_Letter) (x_17 : Int) (A_2 : Option Addr) (c_3 : Nat) (w0 : World) (S0 : Fam) (ih0 : ∀ (x_17 : Int), GoO (letter_May.cx A_2 c_3 w0 S0) [(55, .slice A_2 x_1.Entries.length c_3), (56, .int .i64 (x_1.Entries.length : Int)), (57, .int .i64 x_17)] [] [Rd 0 kT_api_Entry A_2 c_3 x_1.Entries] [.code c23_23, .inLoop c23_23, .inBlock 0, .code c23_41] (L0 x_17)) (b_23 : Bool) :
    GoO (letter_May.cx A_2 c_3 w0 S0) [(55, .slice A_2 x_1.Entries.length c_3), (56, .int .i64 (x_1.Entries.length : Int)), (57, .int .i64 x_17), (74, .bool b_23)] [] [Rd 0 kT_api_Entry A_2 c_3 x_1.Entries] [.code c23_35, .inBlock 1, .code c23_40, .inLoop c23_23, .inBlock 0, .code c23_41] (letter_May.j2 n L0 x_17 b_23) := by
  unfold letter_May.j2
  refine GoO.ite' c23_35e (by kernel_rfl) (fun h24 => ?_) (fun h24 => ?_)
  · refine GoO.seq' c23_36e ?_
    refine GoO.region' (is := [0]) c23_37e (by kernel_rfl) ?_
    refine GoO.exec (is := [0]) (hs := [.p]) (rest := []) (ks := [2]) (env' := [(2, .bool false)]) (H' := []) (ps := []) (by kernel_rfl) trivial ?_
    refine GoO.regionEnd ?_
    exact GoO.ret' (h := c23_38e) (hs := []) (ps := []) (hk := []) (bk := []) Try.func23 () (by kernel_rfl) trivial (by kernel_rfl) (by kernel_rfl)
  · refine GoO.skip' c23_39e ?_
    refine GoO.inBlock ?_
    refine GoO.region' (is := [0, 1]) c23_40e (by kernel_rfl) ?_
    refine GoO.exec (is := [0, 1]) (hs := [.p, .p]) (rest := []) (ks := [55, 56, 57]) (env' := [(55, .slice A_2 x_1.Entries.length c_3), (56, .int .i64 (x_1.Entries.length : Int)), (57, .int .i64 (wi64 (x_17 + 1)))]) (H' := []) (ps := []) (by kernel_rfl) trivial ?_
    refine GoO.regionEnd ?_
    refine GoO.inLoop ?_
    exact GoO.sub (ks := [55, 56, 57]) (hk := []) (bk := [0]) (by kernel_rfl) (by kernel_rfl) (by kernel_rfl) (ih0 (wi64 (x_17 + 1)))
theorem letter_May_l0_ok (n : Nat) (x_1 : T_api_Letter) (A_2 : Option Addr) (c_3 : Nat) (w0 : World) (S0 : Fam) :
    ∀ (k : Nat) (x_17 : Int), GoO (letter_May.cx A_2 c_3 w0 S0) [(55, .slice A_2 x_1.Entries.length c_3), (56, .int .i64 (x_1.Entries.length : Int)), (57, .int .i64 x_17)] [] [Rd 0 kT_api_Entry A_2 c_3 x_1.Entries] [.code c23_23, .inLoop c23_23, .inBlock 0, .code c23_41] (letter_May.l0 n x_1 k x_17) := by
  intro k
  induction k with
  | zero => intros; rw [letter_May.l0.eq_1]; exact GoO.stop
  | succ k ih0 =>
    intro x_17
    rw [letter_May.l0.eq_2]
    refine GoO.seq' c23_23e ?_
    refine GoO.region' (is := [0]) c23_24e (by kernel_rfl) ?_
    refine GoO.exec (is := [0]) (hs := [.p]) (rest := []) (ks := [55, 56, 57, 58]) (env' := [(55, .slice A_2 x_1.Entries.length c_3), (56, .int .i64 (x_1.Entries.length : Int)), (57, .int .i64 x_17), (58, .bool (decide (x_17 < (x_1.Entries.length : Int))))]) (H' := []) (ps := []) (by kernel_rfl) trivial ?_
    refine GoO.regionEnd ?_
    refine GoO.seq' c23_25e ?_
    refine GoO.ite' c23_26e (by kernel_rfl) (fun h18 => ?_) (fun h18 => ?_)
    · refine GoO.skip' c23_27e ?_
      refine GoO.seq' c23_29e ?_
      refine GoO.block' c23_30e ?_
      refine GoO.seq' c23_31e ?_
      refine GoO.region' (is := [0, 1, 2, 3]) c23_32e (by kernel_rfl) ?_
      refine GoO.guard (fun h19 => ?_)
      refine OpTo.go (GoO.idx (kk := .i64) (e := 93) (K := kT_api_Entry) (A := A_2) (c := c_3) (xs := x_1.Entries) (iv := x_17) (j := 0) rfl (by kernel_rfl) (by kernel_rfl) (by kernel_rfl) (by kernel_rfl) rfl Reads.rd rfl h19.1 h19.2 (by decide) rfl ?_)
      refine OpTo.go (GoO.ldE' (K := kT_api_Entry) (A := A_2) (c := c_3) (xs := x_1.Entries) (iN := x_17.toNat) (off := 0) (j := 0) rfl (by kernel_rfl) rfl Reads.rd (idx_lt h19.1 h19.2) (by decide) (Opn.flat _ _ _ _ _) (v := fun _ => .agg ⟨[.int .u64 ((rdL x_1.Entries x_17).Term), .int .u64 ((rdL x_1.Entries x_17).Index), .int .i64 ((rdL x_1.Entries x_17).Kind), .string (bs ((rdL x_1.Entries x_17).Data))]⟩) (fun _ => by kernel_rfl) _ (fun _ => rfl) (fun _ => ?_))
      refine OpTo.go (GoO.new rfl 41 (cs := [.int .u64 0, .int .u64 0, .int .i64 0, .string (bs [])]) (by kernel_rfl) _ (fun _ => rfl) (fun b_20 => ?_))
      refine GoO.exec (is := [3]) (hs := [.b 0]) (rest := []) (ks := [4, 55, 56, 57]) (env' := [(4, .pointer (some ⟨b_20, 0, none⟩)), (55, .slice A_2 x_1.Entries.length c_3), (56, .int .i64 (x_1.Entries.length : Int)), (57, .int .i64 x_17)]) (H' := [⟨41, b_20, [.int .u64 ((rdL x_1.Entries x_17).Term), .int .u64 ((rdL x_1.Entries x_17).Index), .int .i64 ((rdL x_1.Entries x_17).Kind), .string (bs ((rdL x_1.Entries x_17).Data))]⟩]) (ps := [b_20 = b_20]) (by kernel_rfl) (And.intro rfl trivial) ?_
      refine GoO.regionEnd ?_
      refine GoO.seq' c23_33e ?_
      refine GoO.region' (is := [0, 1, 2, 3, 4, 5, 6, 7, 8, 9, 10, 11, 12, 13]) c23_34e (by kernel_rfl) ?_
      refine GoO.exec (is := [0, 1, 2, 3]) (hs := [.p, .b 0, .p, .p]) (rest := [4, 5, 6, 7, 8, 9, 10, 11, 12, 13]) (ks := [4, 55, 56, 57, 64]) (env' := [(4, .pointer (some ⟨b_20, 0, none⟩)), (55, .slice A_2 x_1.Entries.length c_3), (56, .int .i64 (x_1.Entries.length : Int)), (57, .int .i64 x_17), (64, .bool (decide (((rdL x_1.Entries x_17).Kind) < 0)))]) (H' := [⟨41, b_20, [.int .u64 ((rdL x_1.Entries x_17).Term), .int .u64 ((rdL x_1.Entries x_17).Index), .int .i64 ((rdL x_1.Entries x_17).Kind), .string (bs ((rdL x_1.Entries x_17).Data))]⟩]) (ps := [b_20 = b_20]) (by kernel_rfl) (And.intro rfl trivial) ?_
      refine GoO.bsplit (t := 64) (by kernel_rfl) (fun h21 => ?_) (fun h21 => ?_)
      · refine GoO.exec (is := [4, 5, 6, 7, 8, 9, 10, 11, 12, 13]) (hs := [.p, .p, .p, .p, .p, .p, .p, .p, .p, .p]) (rest := []) (ks := [55, 56, 57, 74]) (env' := [(55, .slice A_2 x_1.Entries.length c_3), (56, .int .i64 (x_1.Entries.length : Int)), (57, .int .i64 x_17), (74, .bool true)]) (H' := [⟨41, b_20, [.int .u64 ((rdL x_1.Entries x_17).Term), .int .u64 ((rdL x_1.Entries x_17).Index), .int .i64 ((rdL x_1.Entries x_17).Kind), .string (bs ((rdL x_1.Entries x_17).Data))]⟩]) (ps := []) (by kernel_rfl) trivial ?_
        refine GoO.regionEnd ?_
        exact GoO.sub (ks := [55, 56, 57, 74]) (hk := []) (bk := [0]) (by kernel_rfl) (by kernel_rfl) (by kernel_rfl) (letter_May_j2_ok n (letter_May.l0 n x_1 k) x_1 x_17 A_2 c_3 w0 S0 ih0 true)
      · refine GoO.exec (is := [4, 5, 6, 7, 8]) (hs := [.p, .b 0, .p, .p, .p]) (rest := [9, 10, 11, 12, 13]) (ks := [4, 55, 56, 57, 69]) (env' := [(4, .pointer (some ⟨b_20, 0, none⟩)), (55, .slice A_2 x_1.Entries.length c_3), (56, .int .i64 (x_1.Entries.length : Int)), (57, .int .i64 x_17), (69, .bool (decide (((rdL x_1.Entries x_17).Kind) > 2)))]) (H' := [⟨41, b_20, [.int .u64 ((rdL x_1.Entries x_17).Term), .int .u64 ((rdL x_1.Entries x_17).Index), .int .i64 ((rdL x_1.Entries x_17).Kind), .string (bs ((rdL x_1.Entries x_17).Data))]⟩]) (ps := [b_20 = b_20]) (by kernel_rfl) (And.intro rfl trivial) ?_
        refine GoO.bsplit (t := 69) (by kernel_rfl) (fun h22 => ?_) (fun h22 => ?_)
        · refine GoO.exec (is := [9, 10, 11, 12, 13]) (hs := [.p, .p, .p, .p, .p]) (rest := []) (ks := [55, 56, 57, 74]) (env' := [(55, .slice A_2 x_1.Entries.length c_3), (56, .int .i64 (x_1.Entries.length : Int)), (57, .int .i64 x_17), (74, .bool true)]) (H' := [⟨41, b_20, [.int .u64 ((rdL x_1.Entries x_17).Term), .int .u64 ((rdL x_1.Entries x_17).Index), .int .i64 ((rdL x_1.Entries x_17).Kind), .string (bs ((rdL x_1.Entries x_17).Data))]⟩]) (ps := []) (by kernel_rfl) trivial ?_
          refine GoO.regionEnd ?_
          exact GoO.sub (ks := [55, 56, 57, 74]) (hk := []) (bk := [0]) (by kernel_rfl) (by kernel_rfl) (by kernel_rfl) (letter_May_j2_ok n (letter_May.l0 n x_1 k) x_1 x_17 A_2 c_3 w0 S0 ih0 true)
        · refine GoO.exec (is := [9, 10, 11, 12, 13]) (hs := [.p, .b 0, .p, .p, .p]) (rest := []) (ks := [55, 56, 57, 74]) (env' := [(55, .slice A_2 x_1.Entries.length c_3), (56, .int .i64 (x_1.Entries.length : Int)), (57, .int .i64 x_17), (74, .bool (decide ((((rdL x_1.Entries x_17).Data).length : Int) > 65536)))]) (H' := [⟨41, b_20, [.int .u64 ((rdL x_1.Entries x_17).Term), .int .u64 ((rdL x_1.Entries x_17).Index), .int .i64 ((rdL x_1.Entries x_17).Kind), .string (bs ((rdL x_1.Entries x_17).Data))]⟩]) (ps := [b_20 = b_20]) (by kernel_rfl) (And.intro rfl trivial) ?_
          refine GoO.regionEnd ?_
          exact GoO.sub (ks := [55, 56, 57, 74]) (hk := []) (bk := [0]) (by kernel_rfl) (by kernel_rfl) (by kernel_rfl) (letter_May_j2_ok n (letter_May.l0 n x_1 k) x_1 x_17 A_2 c_3 w0 S0 ih0 (decide ((((rdL x_1.Entries x_17).Data).length : Int) > 65536)))
    · refine GoO.exit' c23_28e rfl ?_
      refine GoO.seq' c23_41e ?_
      refine GoO.region' (is := [0]) c23_42e (by kernel_rfl) ?_
      refine GoO.exec (is := [0]) (hs := [.p]) (rest := []) (ks := [2]) (env' := [(2, .bool true)]) (H' := []) (ps := []) (by kernel_rfl) trivial ?_
      refine GoO.regionEnd ?_
      exact GoO.ret' (h := c23_43e) (hs := []) (ps := []) (hk := []) (bk := []) Try.func23 () (by kernel_rfl) trivial (by kernel_rfl) (by kernel_rfl)
theorem letter_May_j1_ok (n : Nat) (x_1 : T_api_Letter) (A_2 : Option Addr) (c_3 : Nat) (b_4 : Nat) (w0 : World) (S0 : Fam) (b_15 : Bool) :
    GoO (letter_May.cx A_2 c_3 w0 S0) [(1, .pointer (some ⟨b_4, 0, none⟩)), (53, .bool b_15)] [⟨40, b_4, [.int .i64 x_1.Kind, .int .i64 x_1.From, .int .i64 x_1.To, .int .u64 x_1.Term, .int .u64 x_1.Index, .int .u64 x_1.Prev, .int .u64 x_1.Commit, .bool x_1.Ok, .slice A_2 x_1.Entries.length c_3, .string (bs x_1.Data)]⟩] [Rd 0 kT_api_Entry A_2 c_3 x_1.Entries] [.code c23_13, .code c23_18] (letter_May.j1 n x_1 b_15) := by
  unfold letter_May.j1
  refine GoO.ite' c23_13e (by kernel_rfl) (fun h16 => ?_) (fun h16 => ?_)
  · refine GoO.seq' c23_14e ?_
    refine GoO.region' (is := [0]) c23_15e (by kernel_rfl) ?_
    refine GoO.exec (is := [0]) (hs := [.p]) (rest := []) (ks := [2]) (env' := [(2, .bool false)]) (H' := [⟨40, b_4, [.int .i64 x_1.Kind, .int .i64 x_1.From, .int .i64 x_1.To, .int .u64 x_1.Term, .int .u64 x_1.Index, .int .u64 x_1.Prev, .int .u64 x_1.Commit, .bool x_1.Ok, .slice A_2 x_1.Entries.length c_3, .string (bs x_1.Data)]⟩]) (ps := []) (by kernel_rfl) trivial ?_
    refine GoO.regionEnd ?_
    exact GoO.ret' (h := c23_16e) (hs := []) (ps := []) (hk := []) (bk := []) Try.func23 () (by kernel_rfl) trivial (by kernel_rfl) (by kernel_rfl)
  · refine GoO.skip' c23_17e ?_
    refine GoO.seq' c23_18e ?_
    refine GoO.seq' c23_19e ?_
    refine GoO.region' (is := [0, 1, 2, 3]) c23_20e (by kernel_rfl) ?_
    refine GoO.exec (is := [0, 1, 2, 3]) (hs := [.p, .b 0, .p, .p]) (rest := []) (ks := [55, 56, 57]) (env' := [(55, .slice A_2 x_1.Entries.length c_3), (56, .int .i64 (x_1.Entries.length : Int)), (57, .int .i64 0)]) (H' := [⟨40, b_4, [.int .i64 x_1.Kind, .int .i64 x_1.From, .int .i64 x_1.To, .int .u64 x_1.Term, .int .u64 x_1.Index, .int .u64 x_1.Prev, .int .u64 x_1.Commit, .bool x_1.Ok, .slice A_2 x_1.Entries.length c_3, .string (bs x_1.Data)]⟩]) (ps := [b_4 = b_4]) (by kernel_rfl) (And.intro rfl trivial) ?_
    refine GoO.regionEnd ?_
    refine GoO.block' c23_21e ?_
    refine GoO.loop' c23_22e ?_
    exact GoO.sub (ks := [55, 56, 57]) (hk := []) (bk := [0]) (by kernel_rfl) (by kernel_rfl) (by kernel_rfl) (letter_May_l0_ok n x_1 A_2 c_3 w0 S0 n 0)
theorem letter_May_j0_ok (n : Nat) (x_1 : T_api_Letter) (A_2 : Option Addr) (c_3 : Nat) (b_4 : Nat) (w0 : World) (S0 : Fam) (b_12 : Bool) :
    GoO (letter_May.cx A_2 c_3 w0 S0) [(1, .pointer (some ⟨b_4, 0, none⟩)), (44, .bool b_12)] [⟨40, b_4, [.int .i64 x_1.Kind, .int .i64 x_1.From, .int .i64 x_1.To, .int .u64 x_1.Term, .int .u64 x_1.Index, .int .u64 x_1.Prev, .int .u64 x_1.Commit, .bool x_1.Ok, .slice A_2 x_1.Entries.length c_3, .string (bs x_1.Data)]⟩] [Rd 0 kT_api_Entry A_2 c_3 x_1.Entries] [.code c23_5, .code c23_10] (letter_May.j0 n x_1 b_12) := by
  unfold letter_May.j0
  refine GoO.ite' c23_5e (by kernel_rfl) (fun h13 => ?_) (fun h13 => ?_)
  · refine GoO.seq' c23_6e ?_
    refine GoO.region' (is := [0]) c23_7e (by kernel_rfl) ?_
    refine GoO.exec (is := [0]) (hs := [.p]) (rest := []) (ks := [2]) (env' := [(2, .bool false)]) (H' := [⟨40, b_4, [.int .i64 x_1.Kind, .int .i64 x_1.From, .int .i64 x_1.To, .int .u64 x_1.Term, .int .u64 x_1.Index, .int .u64 x_1.Prev, .int .u64 x_1.Commit, .bool x_1.Ok, .slice A_2 x_1.Entries.length c_3, .string (bs x_1.Data)]⟩]) (ps := []) (by kernel_rfl) trivial ?_
    refine GoO.regionEnd ?_
    exact GoO.ret' (h := c23_8e) (hs := []) (ps := []) (hk := []) (bk := []) Try.func23 () (by kernel_rfl) trivial (by kernel_rfl) (by kernel_rfl)
  · refine GoO.skip' c23_9e ?_
    refine GoO.seq' c23_10e ?_
    refine GoO.seq' c23_11e ?_
    refine GoO.region' (is := [0, 1, 2, 3, 4, 5, 6, 7, 8]) c23_12e (by kernel_rfl) ?_
    refine GoO.exec (is := [0, 1, 2, 3, 4]) (hs := [.p, .b 0, .p, .p, .p]) (rest := [5, 6, 7, 8]) (ks := [1, 49]) (env' := [(1, .pointer (some ⟨b_4, 0, none⟩)), (49, .bool (decide ((x_1.Entries.length : Int) > 0)))]) (H' := [⟨40, b_4, [.int .i64 x_1.Kind, .int .i64 x_1.From, .int .i64 x_1.To, .int .u64 x_1.Term, .int .u64 x_1.Index, .int .u64 x_1.Prev, .int .u64 x_1.Commit, .bool x_1.Ok, .slice A_2 x_1.Entries.length c_3, .string (bs x_1.Data)]⟩]) (ps := [b_4 = b_4]) (by kernel_rfl) (And.intro rfl trivial) ?_
    refine GoO.bsplit (t := 49) (by kernel_rfl) (fun h14 => ?_) (fun h14 => ?_)
    · refine GoO.exec (is := [5, 6, 7, 8]) (hs := [.p, .b 0, .p, .p]) (rest := []) (ks := [1, 53]) (env' := [(1, .pointer (some ⟨b_4, 0, none⟩)), (53, .bool (x_1.Kind != 3))]) (H' := [⟨40, b_4, [.int .i64 x_1.Kind, .int .i64 x_1.From, .int .i64 x_1.To, .int .u64 x_1.Term, .int .u64 x_1.Index, .int .u64 x_1.Prev, .int .u64 x_1.Commit, .bool x_1.Ok, .slice A_2 x_1.Entries.length c_3, .string (bs x_1.Data)]⟩]) (ps := [b_4 = b_4]) (by kernel_rfl) (And.intro rfl trivial) ?_
      refine GoO.regionEnd ?_
      exact GoO.sub (ks := [1, 53]) (hk := [0]) (bk := [0]) (by kernel_rfl) (by kernel_rfl) (by kernel_rfl) (letter_May_j1_ok n x_1 A_2 c_3 b_4 w0 S0 (x_1.Kind != 3))
    · refine GoO.exec (is := [5, 6, 7, 8]) (hs := [.p, .p, .p, .p]) (rest := []) (ks := [1, 53]) (env' := [(1, .pointer (some ⟨b_4, 0, none⟩)), (53, .bool false)]) (H' := [⟨40, b_4, [.int .i64 x_1.Kind, .int .i64 x_1.From, .int .i64 x_1.To, .int .u64 x_1.Term, .int .u64 x_1.Index, .int .u64 x_1.Prev, .int .u64 x_1.Commit, .bool x_1.Ok, .slice A_2 x_1.Entries.length c_3, .string (bs x_1.Data)]⟩]) (ps := []) (by kernel_rfl) trivial ?_
      refine GoO.regionEnd ?_
      exact GoO.sub (ks := [1, 53]) (hk := [0]) (bk := [0]) (by kernel_rfl) (by kernel_rfl) (by kernel_rfl) (letter_May_j1_ok n x_1 A_2 c_3 b_4 w0 S0 false)
theorem letter_May_ok (n : Nat) (x_1 : T_api_Letter) (A_2 : Option Addr) (c_3 : Nat) :
    Meets Try.prog 23 [.agg ⟨[.int .i64 x_1.Kind, .int .i64 x_1.From, .int .i64 x_1.To, .int .u64 x_1.Term, .int .u64 x_1.Index, .int .u64 x_1.Prev, .int .u64 x_1.Commit, .bool x_1.Ok, .slice A_2 x_1.Entries.length c_3, .string (bs x_1.Data)]⟩] 0 [] [] [Rd 0 kT_api_Entry A_2 c_3 x_1.Entries] (letter_May.f n x_1) (letter_May.R A_2 c_3) := by
  refine Meets.of (c := c23_0) (n := 76) Try.func23 (by kernel_rfl) (by kernel_rfl) (by kernel_rfl) fun w0 S0 => ?_
  unfold letter_May.f
  show GoO (letter_May.cx A_2 c_3 w0 S0) [(0, .agg ⟨[.int .i64 x_1.Kind, .int .i64 x_1.From, .int .i64 x_1.To, .int .u64 x_1.Term, .int .u64 x_1.Index, .int .u64 x_1.Prev, .int .u64 x_1.Commit, .bool x_1.Ok, .slice A_2 x_1.Entries.length c_3, .string (bs x_1.Data)]⟩)] [] [Rd 0 kT_api_Entry A_2 c_3 x_1.Entries] [.code c23_0] _
  refine GoO.seq' c23_0e ?_
  refine GoO.region' (is := [0, 1]) c23_1e (by kernel_rfl) ?_
  refine OpTo.go (GoO.new rfl 40 (cs := [.int .i64 x_1.Kind, .int .i64 x_1.From, .int .i64 x_1.To, .int .u64 x_1.Term, .int .u64 x_1.Index, .int .u64 x_1.Prev, .int .u64 x_1.Commit, .bool x_1.Ok, .slice A_2 x_1.Entries.length c_3, .string (bs x_1.Data)]) (by kernel_rfl) _ (fun _ => rfl) (fun b_4 => ?_))
  refine GoO.exec (is := [1]) (hs := [.p]) (rest := []) (ks := [1]) (env' := [(1, .pointer (some ⟨b_4, 0, none⟩))]) (H' := [⟨40, b_4, [.int .i64 x_1.Kind, .int .i64 x_1.From, .int .i64 x_1.To, .int .u64 x_1.Term, .int .u64 x_1.Index, .int .u64 x_1.Prev, .int .u64 x_1.Commit, .bool x_1.Ok, .slice A_2 x_1.Entries.length c_3, .string (bs x_1.Data)]⟩]) (ps := []) (by kernel_rfl) trivial ?_
  refine GoO.regionEnd ?_
  refine GoO.seq' c23_2e ?_
  refine GoO.seq' c23_3e ?_
  refine GoO.region' (is := [0, 1, 2, 3, 4, 5, 6, 7, 8, 9, 10, 11, 12, 13, 14, 15, 16, 17, 18, 19, 20, 21, 22, 23, 24, 25, 26, 27, 28, 29, 30, 31, 32, 33, 34, 35, 36, 37, 38, 39]) c23_4e (by kernel_rfl) ?_
  refine GoO.exec (is := [0, 1, 2, 3]) (hs := [.p, .b 0, .p, .p]) (rest := [4, 5, 6, 7, 8, 9, 10, 11, 12, 13, 14, 15, 16, 17, 18, 19, 20, 21, 22, 23, 24, 25, 26, 27, 28, 29, 30, 31, 32, 33, 34, 35, 36, 37, 38, 39]) (ks := [1, 8]) (env' := [(1, .pointer (some ⟨b_4, 0, none⟩)), (8, .bool (decide (x_1.Kind < 1)))]) (H' := [⟨40, b_4, [.int .i64 x_1.Kind, .int .i64 x_1.From, .int .i64 x_1.To, .int .u64 x_1.Term, .int .u64 x_1.Index, .int .u64 x_1.Prev, .int .u64 x_1.Commit, .bool x_1.Ok, .slice A_2 x_1.Entries.length c_3, .string (bs x_1.Data)]⟩]) (ps := [b_4 = b_4]) (by kernel_rfl) (And.intro rfl trivial) ?_
  refine GoO.bsplit (t := 8) (by kernel_rfl) (fun h5 => ?_) (fun h5 => ?_)
  · refine GoO.exec (is := [4, 5, 6, 7, 8, 9, 10, 11, 12, 13, 14, 15, 16, 17, 18, 19, 20, 21, 22, 23, 24, 25, 26, 27, 28, 29, 30, 31, 32, 33, 34, 35, 36, 37, 38, 39]) (hs := [.p, .p, .p, .p, .p, .p, .p, .p, .p, .p, .p, .p, .p, .p, .p, .p, .p, .p, .p, .p, .p, .p, .p, .p, .p, .p, .p, .p, .p, .p, .p, .p, .p, .p, .p, .p]) (rest := []) (ks := [1, 44]) (env' := [(1, .pointer (some ⟨b_4, 0, none⟩)), (44, .bool true)]) (H' := [⟨40, b_4, [.int .i64 x_1.Kind, .int .i64 x_1.From, .int .i64 x_1.To, .int .u64 x_1.Term, .int .u64 x_1.Index, .int .u64 x_1.Prev, .int .u64 x_1.Commit, .bool x_1.Ok, .slice A_2 x_1.Entries.length c_3, .string (bs x_1.Data)]⟩]) (ps := []) (by kernel_rfl) trivial ?_
    refine GoO.regionEnd ?_
    exact GoO.sub (ks := [1, 44]) (hk := [0]) (bk := [0]) (by kernel_rfl) (by kernel_rfl) (by kernel_rfl) (letter_May_j0_ok n x_1 A_2 c_3 b_4 w0 S0 true)
  · refine GoO.exec (is := [4, 5, 6, 7, 8]) (hs := [.p, .b 0, .p, .p, .p]) (rest := [9, 10, 11, 12, 13, 14, 15, 16, 17, 18, 19, 20, 21, 22, 23, 24, 25, 26, 27, 28, 29, 30, 31, 32, 33, 34, 35, 36, 37, 38, 39]) (ks := [1, 13]) (env' := [(1, .pointer (some ⟨b_4, 0, none⟩)), (13, .bool (decide (x_1.Kind > 9)))]) (H' := [⟨40, b_4, [.int .i64 x_1.Kind, .int .i64 x_1.From, .int .i64 x_1.To, .int .u64 x_1.Term, .int .u64 x_1.Index, .int .u64 x_1.Prev, .int .u64 x_1.Commit, .bool x_1.Ok, .slice A_2 x_1.Entries.length c_3, .string (bs x_1.Data)]⟩]) (ps := [b_4 = b_4]) (by kernel_rfl) (And.intro rfl trivial) ?_
    refine GoO.bsplit (t := 13) (by kernel_rfl) (fun h6 => ?_) (fun h6 => ?_)
    · refine GoO.exec (is := [9, 10, 11, 12, 13, 14, 15, 16, 17, 18, 19, 20, 21, 22, 23, 24, 25, 26, 27, 28, 29, 30, 31, 32, 33, 34, 35, 36, 37, 38, 39]) (hs := [.p, .p, .p, .p, .p, .p, .p, .p, .p, .p, .p, .p, .p, .p, .p, .p, .p, .p, .p, .p, .p, .p, .p, .p, .p, .p, .p, .p, .p, .p, .p]) (rest := []) (ks := [1, 44]) (env' := [(1, .pointer (some ⟨b_4, 0, none⟩)), (44, .bool true)]) (H' := [⟨40, b_4, [.int .i64 x_1.Kind, .int .i64 x_1.From, .int .i64 x_1.To, .int .u64 x_1.Term, .int .u64 x_1.Index, .int .u64 x_1.Prev, .int .u64 x_1.Commit, .bool x_1.Ok, .slice A_2 x_1.Entries.length c_3, .string (bs x_1.Data)]⟩]) (ps := []) (by kernel_rfl) trivial ?_
      refine GoO.regionEnd ?_
      exact GoO.sub (ks := [1, 44]) (hk := [0]) (bk := [0]) (by kernel_rfl) (by kernel_rfl) (by kernel_rfl) (letter_May_j0_ok n x_1 A_2 c_3 b_4 w0 S0 true)
    · refine GoO.exec (is := [9, 10, 11, 12, 13]) (hs := [.p, .b 0, .p, .p, .p]) (rest := [14, 15, 16, 17, 18, 19, 20, 21, 22, 23, 24, 25, 26, 27, 28, 29, 30, 31, 32, 33, 34, 35, 36, 37, 38, 39]) (ks := [1, 18]) (env' := [(1, .pointer (some ⟨b_4, 0, none⟩)), (18, .bool (decide (x_1.From < 0)))]) (H' := [⟨40, b_4, [.int .i64 x_1.Kind, .int .i64 x_1.From, .int .i64 x_1.To, .int .u64 x_1.Term, .int .u64 x_1.Index, .int .u64 x_1.Prev, .int .u64 x_1.Commit, .bool x_1.Ok, .slice A_2 x_1.Entries.length c_3, .string (bs x_1.Data)]⟩]) (ps := [b_4 = b_4]) (by kernel_rfl) (And.intro rfl trivial) ?_
      refine GoO.bsplit (t := 18) (by kernel_rfl) (fun h7 => ?_) (fun h7 => ?_)
      · refine GoO.exec (is := [14, 15, 16, 17, 18, 19, 20, 21, 22, 23, 24, 25, 26, 27, 28, 29, 30, 31, 32, 33, 34, 35, 36, 37, 38, 39]) (hs := [.p, .p, .p, .p, .p, .p, .p, .p, .p, .p, .p, .p, .p, .p, .p, .p, .p, .p, .p, .p, .p, .p, .p, .p, .p, .p]) (rest := []) (ks := [1, 44]) (env' := [(1, .pointer (some ⟨b_4, 0, none⟩)), (44, .bool true)]) (H' := [⟨40, b_4, [.int .i64 x_1.Kind, .int .i64 x_1.From, .int .i64 x_1.To, .int .u64 x_1.Term, .int .u64 x_1.Index, .int .u64 x_1.Prev, .int .u64 x_1.Commit, .bool x_1.Ok, .slice A_2 x_1.Entries.length c_3, .string (bs x_1.Data)]⟩]) (ps := []) (by kernel_rfl) trivial ?_
        refine GoO.regionEnd ?_
        exact GoO.sub (ks := [1, 44]) (hk := [0]) (bk := [0]) (by kernel_rfl) (by kernel_rfl) (by kernel_rfl) (letter_May_j0_ok n x_1 A_2 c_3 b_4 w0 S0 true)
      · refine GoO.exec (is := [14, 15, 16, 17, 18]) (hs := [.p, .b 0, .p, .p, .p]) (rest := [19, 20, 21, 22, 23, 24, 25, 26, 27, 28, 29, 30, 31, 32, 33, 34, 35, 36, 37, 38, 39]) (ks := [1, 23]) (env' := [(1, .pointer (some ⟨b_4, 0, none⟩)), (23, .bool (decide (x_1.From > 255)))]) (H' := [⟨40, b_4, [.int .i64 x_1.Kind, .int .i64 x_1.From, .int .i64 x_1.To, .int .u64 x_1.Term, .int .u64 x_1.Index, .int .u64 x_1.Prev, .int .u64 x_1.Commit, .bool x_1.Ok, .slice A_2 x_1.Entries.length c_3, .string (bs x_1.Data)]⟩]) (ps := [b_4 = b_4]) (by kernel_rfl) (And.intro rfl trivial) ?_
        refine GoO.bsplit (t := 23) (by kernel_rfl) (fun h8 => ?_) (fun h8 => ?_)
        · refine GoO.exec (is := [19, 20, 21, 22, 23, 24, 25, 26, 27, 28, 29, 30, 31, 32, 33, 34, 35, 36, 37, 38, 39]) (hs := [.p, .p, .p, .p, .p, .p, .p, .p, .p, .p, .p, .p, .p, .p, .p, .p, .p, .p, .p, .p, .p]) (rest := []) (ks := [1, 44]) (env' := [(1, .pointer (some ⟨b_4, 0, none⟩)), (44, .bool true)]) (H' := [⟨40, b_4, [.int .i64 x_1.Kind, .int .i64 x_1.From, .int .i64 x_1.To, .int .u64 x_1.Term, .int .u64 x_1.Index, .int .u64 x_1.Prev, .int .u64 x_1.Commit, .bool x_1.Ok, .slice A_2 x_1.Entries.length c_3, .string (bs x_1.Data)]⟩]) (ps := []) (by kernel_rfl) trivial ?_
          refine GoO.regionEnd ?_
          exact GoO.sub (ks := [1, 44]) (hk := [0]) (bk := [0]) (by kernel_rfl) (by kernel_rfl) (by kernel_rfl) (letter_May_j0_ok n x_1 A_2 c_3 b_4 w0 S0 true)
        · refine GoO.exec (is := [19, 20, 21, 22, 23]) (hs := [.p, .b 0, .p, .p, .p]) (rest := [24, 25, 26, 27, 28, 29, 30, 31, 32, 33, 34, 35, 36, 37, 38, 39]) (ks := [1, 28]) (env' := [(1, .pointer (some ⟨b_4, 0, none⟩)), (28, .bool (decide (x_1.To < 0)))]) (H' := [⟨40, b_4, [.int .i64 x_1.Kind, .int .i64 x_1.From, .int .i64 x_1.To, .int .u64 x_1.Term, .int .u64 x_1.Index, .int .u64 x_1.Prev, .int .u64 x_1.Commit, .bool x_1.Ok, .slice A_2 x_1.Entries.length c_3, .string (bs x_1.Data)]⟩]) (ps := [b_4 = b_4]) (by kernel_rfl) (And.intro rfl trivial) ?_
          refine GoO.bsplit (t := 28) (by kernel_rfl) (fun h9 => ?_) (fun h9 => ?_)
          · refine GoO.exec (is := [24, 25, 26, 27, 28, 29, 30, 31, 32, 33, 34, 35, 36, 37, 38, 39]) (hs := [.p, .p, .p, .p, .p, .p, .p, .p, .p, .p, .p, .p, .p, .p, .p, .p]) (rest := []) (ks := [1, 44]) (env' := [(1, .pointer (some ⟨b_4, 0, none⟩)), (44, .bool true)]) (H' := [⟨40, b_4, [.int .i64 x_1.Kind, .int .i64 x_1.From, .int .i64 x_1.To, .int .u64 x_1.Term, .int .u64 x_1.Index, .int .u64 x_1.Prev, .int .u64 x_1.Commit, .bool x_1.Ok, .slice A_2 x_1.Entries.length c_3, .string (bs x_1.Data)]⟩]) (ps := []) (by kernel_rfl) trivial ?_
            refine GoO.regionEnd ?_
            exact GoO.sub (ks := [1, 44]) (hk := [0]) (bk := [0]) (by kernel_rfl) (by kernel_rfl) (by kernel_rfl) (letter_May_j0_ok n x_1 A_2 c_3 b_4 w0 S0 true)
          · refine GoO.exec (is := [24, 25, 26, 27, 28]) (hs := [.p, .b 0, .p, .p, .p]) (rest := [29, 30, 31, 32, 33, 34, 35, 36, 37, 38, 39]) (ks := [1, 33]) (env' := [(1, .pointer (some ⟨b_4, 0, none⟩)), (33, .bool (decide (x_1.To > 255)))]) (H' := [⟨40, b_4, [.int .i64 x_1.Kind, .int .i64 x_1.From, .int .i64 x_1.To, .int .u64 x_1.Term, .int .u64 x_1.Index, .int .u64 x_1.Prev, .int .u64 x_1.Commit, .bool x_1.Ok, .slice A_2 x_1.Entries.length c_3, .string (bs x_1.Data)]⟩]) (ps := [b_4 = b_4]) (by kernel_rfl) (And.intro rfl trivial) ?_
            refine GoO.bsplit (t := 33) (by kernel_rfl) (fun h10 => ?_) (fun h10 => ?_)
            · refine GoO.exec (is := [29, 30, 31, 32, 33, 34, 35, 36, 37, 38, 39]) (hs := [.p, .p, .p, .p, .p, .p, .p, .p, .p, .p, .p]) (rest := []) (ks := [1, 44]) (env' := [(1, .pointer (some ⟨b_4, 0, none⟩)), (44, .bool true)]) (H' := [⟨40, b_4, [.int .i64 x_1.Kind, .int .i64 x_1.From, .int .i64 x_1.To, .int .u64 x_1.Term, .int .u64 x_1.Index, .int .u64 x_1.Prev, .int .u64 x_1.Commit, .bool x_1.Ok, .slice A_2 x_1.Entries.length c_3, .string (bs x_1.Data)]⟩]) (ps := []) (by kernel_rfl) trivial ?_
              refine GoO.regionEnd ?_
              exact GoO.sub (ks := [1, 44]) (hk := [0]) (bk := [0]) (by kernel_rfl) (by kernel_rfl) (by kernel_rfl) (letter_May_j0_ok n x_1 A_2 c_3 b_4 w0 S0 true)
            · refine GoO.exec (is := [29, 30, 31, 32, 33, 34]) (hs := [.p, .b 0, .p, .p, .p, .p]) (rest := [35, 36, 37, 38, 39]) (ks := [1, 39]) (env' := [(1, .pointer (some ⟨b_4, 0, none⟩)), (39, .bool (decide ((x_1.Entries.length : Int) > 8)))]) (H' := [⟨40, b_4, [.int .i64 x_1.Kind, .int .i64 x_1.From, .int .i64 x_1.To, .int .u64 x_1.Term, .int .u64 x_1.Index, .int .u64 x_1.Prev, .int .u64 x_1.Commit, .bool x_1.Ok, .slice A_2 x_1.Entries.length c_3, .string (bs x_1.Data)]⟩]) (ps := [b_4 = b_4]) (by kernel_rfl) (And.intro rfl trivial) ?_
              refine GoO.bsplit (t := 39) (by kernel_rfl) (fun h11 => ?_) (fun h11 => ?_)
              · refine GoO.exec (is := [35, 36, 37, 38, 39]) (hs := [.p, .p, .p, .p, .p]) (rest := []) (ks := [1, 44]) (env' := [(1, .pointer (some ⟨b_4, 0, none⟩)), (44, .bool true)]) (H' := [⟨40, b_4, [.int .i64 x_1.Kind, .int .i64 x_1.From, .int .i64 x_1.To, .int .u64 x_1.Term, .int .u64 x_1.Index, .int .u64 x_1.Prev, .int .u64 x_1.Commit, .bool x_1.Ok, .slice A_2 x_1.Entries.length c_3, .string (bs x_1.Data)]⟩]) (ps := []) (by kernel_rfl) trivial ?_
                refine GoO.regionEnd ?_
                exact GoO.sub (ks := [1, 44]) (hk := [0]) (bk := [0]) (by kernel_rfl) (by kernel_rfl) (by kernel_rfl) (letter_May_j0_ok n x_1 A_2 c_3 b_4 w0 S0 true)
              · refine GoO.exec (is := [35, 36, 37, 38, 39]) (hs := [.p, .b 0, .p, .p, .p]) (rest := []) (ks := [1, 44]) (env' := [(1, .pointer (some ⟨b_4, 0, none⟩)), (44, .bool (decide ((x_1.Data.length : Int) > 65536)))]) (H' := [⟨40, b_4, [.int .i64 x_1.Kind, .int .i64 x_1.From, .int .i64 x_1.To, .int .u64 x_1.Term, .int .u64 x_1.Index, .int .u64 x_1.Prev, .int .u64 x_1.Commit, .bool x_1.Ok, .slice A_2 x_1.Entries.length c_3, .string (bs x_1.Data)]⟩]) (ps := [b_4 = b_4]) (by kernel_rfl) (And.intro rfl trivial) ?_
                refine GoO.regionEnd ?_
                exact GoO.sub (ks := [1, 44]) (hk := [0]) (bk := [0]) (by kernel_rfl) (by kernel_rfl) (by kernel_rfl) (letter_May_j0_ok n x_1 A_2 c_3 b_4 w0 S0 (decide ((x_1.Data.length : Int) > 65536)))

/-! (*tontine/pack.Writer).Num -/
noncomputable def c38_0 : Code := bodyOf Try.f38
noncomputable def c38_1 : Code := cdL c38_0
noncomputable def c38_2 : Code := cdR c38_0
noncomputable def c38_3 : Code := cdL c38_2
noncomputable def c38_4 : Code := cdL c38_3
noncomputable def c38_5 : Code := cdR c38_3
noncomputable def c38_9 : Code := cdR c38_5
noncomputable def c38_10 : Code := cdR c38_2
noncomputable def c38_11 : Code := cdL c38_10
noncomputable def c38_12 : Code := cdR c38_10
noncomputable def c38_13 : Code := cdL c38_12
noncomputable def c38_14 : Code := cdL c38_13
noncomputable def c38_15 : Code := cdR c38_13
noncomputable def c38_16 : Code := cdL c38_15
noncomputable def c38_17 : Code := cdL c38_16
noncomputable def c38_18 : Code := cdL c38_17
noncomputable def c38_19 : Code := cdL c38_18
noncomputable def c38_20 : Code := cdR c38_18
noncomputable def c38_21 : Code := cdL c38_20
noncomputable def c38_22 : Code := cdR c38_20
noncomputable def c38_23 : Code := cdR c38_17
noncomputable def c38_24 : Code := cdL c38_23
noncomputable def c38_25 : Code := cdL c38_24
noncomputable def c38_26 : Code := cdR c38_23
noncomputable def c38_27 : Code := cdR c38_12
noncomputable def c38_28 : Code := cdL c38_27
noncomputable def c38_29 : Code := cdR c38_27
noncomputable def c38_30 : Code := cdL c38_29
noncomputable def c38_31 : Code := cdL c38_30
noncomputable def c38_32 : Code := cdR c38_30
noncomputable def c38_33 : Code := cdL c38_32
noncomputable def c38_34 : Code := cdL c38_33
noncomputable def c38_35 : Code := cdL c38_34
noncomputable def c38_36 : Code := cdL c38_35
noncomputable def c38_37 : Code := cdR c38_35
noncomputable def c38_38 : Code := cdL c38_37
noncomputable def c38_39 : Code := cdR c38_37
noncomputable def c38_40 : Code := cdR c38_34
noncomputable def c38_41 : Code := cdL c38_40
noncomputable def c38_42 : Code := cdL c38_41
noncomputable def c38_43 : Code := cdR c38_40
noncomputable def c38_44 : Code := cdR c38_29
noncomputable def c38_45 : Code := cdL c38_44
noncomputable def c38_46 : Code := cdR c38_44
noncomputable def c38_6 : Code := cdL c38_5
noncomputable def r38_1 : Array Oper := cdO c38_1
noncomputable def r38_4 : Array Oper := cdO c38_4
noncomputable def r38_11 : Array Oper := cdO c38_11
noncomputable def r38_14 : Array Oper := cdO c38_14
noncomputable def r38_19 : Array Oper := cdO c38_19
noncomputable def r38_25 : Array Oper := cdO c38_25
noncomputable def r38_26 : Array Oper := cdO c38_26
noncomputable def r38_28 : Array Oper := cdO c38_28
noncomputable def r38_31 : Array Oper := cdO c38_31
noncomputable def r38_36 : Array Oper := cdO c38_36
noncomputable def r38_42 : Array Oper := cdO c38_42
noncomputable def r38_43 : Array Oper := cdO c38_43
noncomputable def r38_45 : Array Oper := cdO c38_45
theorem c38_0e : c38_0 = .seq c38_1 c38_2 := by kernel_rfl
theorem c38_1e : c38_1 = .region 0 r38_1 false := by kernel_rfl
theorem c38_2e : c38_2 = .seq c38_3 c38_10 := by kernel_rfl
theorem c38_3e : c38_3 = .seq c38_4 c38_5 := by kernel_rfl
theorem c38_4e : c38_4 = .region 1 r38_4 false := by kernel_rfl
theorem c38_5e : c38_5 = .cond (cdC c38_5) c38_6 c38_9 := by kernel_rfl
theorem c38_9e : c38_9 = .skip := by kernel_rfl
theorem c38_10e : c38_10 = .seq c38_11 c38_12 := by kernel_rfl
theorem c38_11e : c38_11 = .region 3 r38_11 false := by kernel_rfl
theorem c38_12e : c38_12 = .seq c38_13 c38_27 := by kernel_rfl
theorem c38_13e : c38_13 = .seq c38_14 c38_15 := by kernel_rfl
theorem c38_14e : c38_14 = .region 4 r38_14 false := by kernel_rfl
theorem c38_15e : c38_15 = .block 0 c38_16 := by kernel_rfl
theorem c38_16e : c38_16 = .loop c38_17 := by kernel_rfl
theorem c38_17e : c38_17 = .seq c38_18 c38_23 := by kernel_rfl
theorem c38_18e : c38_18 = .seq c38_19 c38_20 := by kernel_rfl
theorem c38_19e : c38_19 = .region 5 r38_19 false := by kernel_rfl
theorem c38_20e : c38_20 = .cond (cdC c38_20) c38_21 c38_22 := by kernel_rfl
theorem c38_21e : c38_21 = .skip := by kernel_rfl
theorem c38_22e : c38_22 = .exit 0 := by kernel_rfl
theorem c38_23e : c38_23 = .seq c38_24 c38_26 := by kernel_rfl
theorem c38_24e : c38_24 = .block 1 c38_25 := by kernel_rfl
theorem c38_25e : c38_25 = .region 7 r38_25 false := by kernel_rfl
theorem c38_26e : c38_26 = .region 6 r38_26 false := by kernel_rfl
theorem c38_27e : c38_27 = .seq c38_28 c38_29 := by kernel_rfl
theorem c38_28e : c38_28 = .region 8 r38_28 false := by kernel_rfl
theorem c38_29e : c38_29 = .seq c38_30 c38_44 := by kernel_rfl
theorem c38_30e : c38_30 = .seq c38_31 c38_32 := by kernel_rfl
theorem c38_31e : c38_31 = .region 9 r38_31 false := by kernel_rfl
theorem c38_32e : c38_32 = .block 2 c38_33 := by kernel_rfl
theorem c38_33e : c38_33 = .loop c38_34 := by kernel_rfl
theorem c38_34e : c38_34 = .seq c38_35 c38_40 := by kernel_rfl
theorem c38_35e : c38_35 = .seq c38_36 c38_37 := by kernel_rfl
theorem c38_36e : c38_36 = .region 10 r38_36 false := by kernel_rfl
theorem c38_37e : c38_37 = .cond (cdC c38_37) c38_38 c38_39 := by kernel_rfl
theorem c38_38e : c38_38 = .skip := by kernel_rfl
theorem c38_39e : c38_39 = .exit 2 := by kernel_rfl
theorem c38_40e : c38_40 = .seq c38_41 c38_43 := by kernel_rfl
theorem c38_41e : c38_41 = .block 3 c38_42 := by kernel_rfl
theorem c38_42e : c38_42 = .region 12 r38_42 true := by kernel_rfl
theorem c38_43e : c38_43 = .region 11 r38_43 false := by kernel_rfl
theorem c38_44e : c38_44 = .seq c38_45 c38_46 := by kernel_rfl
theorem c38_45e : c38_45 = .region 13 r38_45 false := by kernel_rfl
theorem c38_46e : c38_46 = .ret := by kernel_rfl
noncomputable def pack_Writer_Num.R (b_2 : Nat) (A_3 : Option Addr) (c_4 : Nat) : Pst T_pack_Writer where
  ε := Option Addr × Nat
  v := fun r x => .pointer (some ⟨b_2, 0, none⟩)
  H := fun r x => [⟨1, b_2, [.slice x.1 r.b.length x.2]⟩]
  B := fun r x => [Ow 2 Kd.u8 x.1 x.2 r.b]
noncomputable def pack_Writer_Num.cx (b_2 : Nat) (A_3 : Option Addr) (c_4 : Nat) (w0 : World) (S0 : Fam) : Cx T_pack_Writer := ⟨Try.prog, 38, Try.f38, 49, w0, S0, [1, 2], 2, pack_Writer_Num.R b_2 A_3 c_4⟩
theorem pack_Writer_Num_l1_ok (n : Nat) (x_5 : Int) (b_2 : Nat) (A_3 : Option Addr) (c_4 : Nat) (w0 : World) (S0 : Fam) :
    ∀ (k : Nat) (f_14 : (List UInt8)) (i_17 : Int) (A_15 : Option Addr) (c_16 : Nat), GoO (pack_Writer_Num.cx b_2 A_3 c_4 w0 S0) [(0, .pointer (some ⟨b_2, 0, none⟩)), (1, .int .u64 x_5), (7, .int .i64 i_17)] [⟨1, b_2, [.slice A_15 f_14.length c_16]⟩] [Ow 2 Kd.u8 A_15 c_16 f_14] [.code c38_34, .inLoop c38_34, .inBlock 2, .code c38_44] (pack_Writer_Num.l1 n x_5 k f_14 i_17) := by
  intro k
  induction k with
  | zero => intros; rw [pack_Writer_Num.l1.eq_1]; exact GoO.stop
  | succ k ih1 =>
    intro f_14 i_17 A_15 c_16
    rw [pack_Writer_Num.l1.eq_2]
    refine GoO.seq' c38_34e ?_
    refine GoO.seq' c38_35e ?_
    refine GoO.region' (is := [0, 1]) c38_36e (by kernel_rfl) ?_
    refine GoO.exec (is := [0, 1]) (hs := [.p, .p]) (rest := []) (ks := [0, 1, 7, 31]) (env' := [(0, .pointer (some ⟨b_2, 0, none⟩)), (1, .int .u64 x_5), (7, .int .i64 i_17), (31, .bool (decide (i_17 ≥ 0)))]) (H' := [⟨1, b_2, [.slice A_15 f_14.length c_16]⟩]) (ps := []) (by kernel_rfl) trivial ?_
    refine GoO.regionEnd ?_
    refine GoO.ite' c38_37e (by kernel_rfl) (fun h18 => ?_) (fun h18 => ?_)
    · refine GoO.skip' c38_38e ?_
      refine GoO.seq' c38_40e ?_
      refine GoO.block' c38_41e ?_
      refine GoO.draw c38_42e (by kernel_rfl) [12, 13, 14] [⟨1, b_2, [.slice A_15 f_14.length c_16]⟩] [] (n := 15) (by kernel_rfl) ?_
      simp only [List.replicate]
      refine GoF.guard (fun h19 => ?_)
      refine GoF.take [0, 1, 2, 3, 4, 5, 6, 7, 8, 9] [.p, .p, .p, .p, .b 0, .p, .p, .p, .p, .p] (ks := [0, 1, 7, 34, 38, 43]) (fu := 5) (li := [true, true, true, true, true, true, true, true, true, true, false, false, false, false, false]) (env' := [(0, .pointer (some ⟨b_2, 0, none⟩)), (1, .int .u64 x_5), (7, .int .i64 i_17), (34, .pointer (some ⟨b_2, 0, none⟩)), (38, .slice A_15 f_14.length c_16), (43, .int .u8 (wu8 (shR .u64 x_5 (wi64 (8 * i_17)))))]) (ps := [b_2 = b_2, (0 : Int) ≤ (wi64 (8 * i_17))]) (hk := [0]) (bk := []) (by kernel_rfl) (And.intro rfl (And.intro h19 trivial)) rfl rfl ?_
      refine OpTo.goF (i := 10) (by kernel_rfl) (hk := [0]) (bk := []) (GoO.lit (e := 5) (K := Kd.u8) rfl (by kernel_rfl) (by kernel_rfl) (cs := [.int .u8 (wu8 (shR .u64 x_5 (wi64 (8 * i_17))))]) (by kernel_rfl) [u8of (shR .u64 x_5 (wi64 (8 * i_17)))] (by kernel_rfl) (by kernel_rfl) (fun w S hB => ⟨[.int .u8 (wu8 (shR .u64 x_5 (wi64 (8 * i_17))))], _, rfl, congrArg (fun v => [v]) (u8cell _), rfl⟩) 41 _ (fun _ _ => rfl) (fun A_20 c_21 => ⟨rfl, rfl, ?_⟩))
      refine GoF.guard (fun h22 => ?_)
      refine OpTo.goF (i := 11) (by kernel_rfl) (hk := [0]) (bk := []) (GoO.appW (e := 5) (K := Kd.u8) (A := A_15) (c := c_16) (tg := 2) (bytes := 1) (zs := [.int .u8 0]) (xs := f_14) (ys := [u8of (shR .u64 x_5 (wi64 (8 * i_17)))]) (xv := .slice A_20 [u8of (shR .u64 x_5 (wi64 (8 * i_17)))].length c_21) (j := 1) (bk := [0]) rfl (by kernel_rfl) (by kernel_rfl) (by kernel_rfl) (by kernel_rfl) rfl (by kernel_rfl) rfl (fun w S hB => SrcIs.row (Reads.own w S (hB _ (List.mem_of_getElem? (i := 0) rfl)))) h22 rfl rfl rfl rfl _ (fun _ _ => rfl) (fun A_23 c_24 => ⟨rfl, rfl, ?_⟩))
      refine GoF.fin1 (i := 12) (hint := .p) (ps := []) (hk := []) (bk := []) (by kernel_rfl) rfl trivial (.inl rfl) ?_
      refine GoF.fin1 (i := 13) (hint := .p) (ps := []) (hk := []) (bk := []) (by kernel_rfl) rfl trivial (.inl rfl) ?_
      refine GoF.fin1 (i := 14) (hint := .b 0) (ps := [b_2 = b_2]) (hk := []) (bk := []) (by kernel_rfl) rfl (And.intro rfl trivial) (.inl rfl) ?_
      refine GoF.done (by kernel_rfl) ?_
      refine GoO.inBlock ?_
      refine GoO.region' (is := [0, 1, 2]) c38_43e (by kernel_rfl) ?_
      refine GoO.exec (is := [0, 1, 2]) (hs := [.p, .p, .p]) (rest := []) (ks := [0, 1, 7]) (env' := [(0, .pointer (some ⟨b_2, 0, none⟩)), (1, .int .u64 x_5), (7, .int .i64 (wi64 (i_17 - 1)))]) (H' := [⟨1, b_2, [.slice A_23 (f_14 ++ [u8of (shR .u64 x_5 (wi64 (8 * i_17)))]).length c_24]⟩]) (ps := []) (by kernel_rfl) trivial ?_
      refine GoO.regionEnd ?_
      refine GoO.inLoop ?_
      exact GoO.sub (ks := [0, 1, 7]) (hk := [0]) (bk := [0]) (by kernel_rfl) (by kernel_rfl) (by kernel_rfl) (ih1 (f_14 ++ [u8of (shR .u64 x_5 (wi64 (8 * i_17)))]) (wi64 (i_17 - 1)) A_23 c_24)
    · refine GoO.exit' c38_39e rfl ?_
      refine GoO.seq' c38_44e ?_
      refine GoO.region' (is := [0, 1]) c38_45e (by kernel_rfl) ?_
      refine GoO.exec (is := [0, 1]) (hs := [.p, .p]) (rest := []) (ks := [4]) (env' := [(4, .pointer (some ⟨b_2, 0, none⟩))]) (H' := [⟨1, b_2, [.slice A_15 f_14.length c_16]⟩]) (ps := []) (by kernel_rfl) trivial ?_
      refine GoO.regionEnd ?_
      exact GoO.ret' (h := c38_46e) (hs := []) (ps := []) (hk := [0]) (bk := [0]) Try.func38 (⟨A_15, c_16⟩ : Option Addr × Nat) (by kernel_rfl) trivial (by kernel_rfl) (by kernel_rfl)
theorem pack_Writer_Num_l0_ok (n : Nat) (w_1 : T_pack_Writer) (x_5 : Int) (b_2 : Nat) (A_3 : Option Addr) (c_4 : Nat) (w0 : World) (S0 : Fam) :
    ∀ (k : Nat) (n_6 : Int) (y_7 : Int), GoO (pack_Writer_Num.cx b_2 A_3 c_4 w0 S0) [(0, .pointer (some ⟨b_2, 0, none⟩)), (1, .int .u64 x_5), (5, .int .i64 n_6), (6, .int .u64 y_7)] [⟨1, b_2, [.slice A_3 w_1.b.length c_4]⟩] [Ow 2 Kd.u8 A_3 c_4 w_1.b] [.code c38_17, .inLoop c38_17, .inBlock 0, .code c38_27] (pack_Writer_Num.l0 n w_1 x_5 k n_6 y_7) := by
  intro k
  induction k with
  | zero => intros; rw [pack_Writer_Num.l0.eq_1]; exact GoO.stop
  | succ k ih0 =>
    intro n_6 y_7
    rw [pack_Writer_Num.l0.eq_2]
    refine GoO.seq' c38_17e ?_
    refine GoO.seq' c38_18e ?_
    refine GoO.region' (is := [0, 1]) c38_19e (by kernel_rfl) ?_
    refine GoO.exec (is := [0, 1]) (hs := [.p, .p]) (rest := []) (ks := [0, 1, 5, 6, 12]) (env' := [(0, .pointer (some ⟨b_2, 0, none⟩)), (1, .int .u64 x_5), (5, .int .i64 n_6), (6, .int .u64 y_7), (12, .bool (decide (y_7 > 0)))]) (H' := [⟨1, b_2, [.slice A_3 w_1.b.length c_4]⟩]) (ps := []) (by kernel_rfl) trivial ?_
    refine GoO.regionEnd ?_
    refine GoO.ite' c38_20e (by kernel_rfl) (fun h8 => ?_) (fun h8 => ?_)
    · refine GoO.skip' c38_21e ?_
      refine GoO.seq' c38_23e ?_
      refine GoO.block' c38_24e ?_
      refine GoO.region' (is := [0, 1, 2]) c38_25e (by kernel_rfl) ?_
      refine GoO.exec (is := [0, 1, 2]) (hs := [.p, .p, .p]) (rest := []) (ks := [0, 1, 5, 6]) (env' := [(0, .pointer (some ⟨b_2, 0, none⟩)), (1, .int .u64 x_5), (5, .int .i64 (wi64 (n_6 + 1))), (6, .int .u64 y_7)]) (H' := [⟨1, b_2, [.slice A_3 w_1.b.length c_4]⟩]) (ps := []) (by kernel_rfl) trivial ?_
      refine GoO.regionEnd ?_
      refine GoO.inBlock ?_
      refine GoO.region' (is := [0, 1, 2]) c38_26e (by kernel_rfl) ?_
      refine GoO.exec (is := [0, 1, 2]) (hs := [.p, .p, .p]) (rest := []) (ks := [0, 1, 5, 6]) (env' := [(0, .pointer (some ⟨b_2, 0, none⟩)), (1, .int .u64 x_5), (5, .int .i64 (wi64 (n_6 + 1))), (6, .int .u64 (shR .u64 y_7 8))]) (H' := [⟨1, b_2, [.slice A_3 w_1.b.length c_4]⟩]) (ps := [(0 : Int) ≤ 8]) (by kernel_rfl) (And.intro (by decide) trivial) ?_
      refine GoO.regionEnd ?_
      refine GoO.inLoop ?_
      exact GoO.sub (ks := [0, 1, 5, 6]) (hk := [0]) (bk := [0]) (by kernel_rfl) (by kernel_rfl) (by kernel_rfl) (ih0 (wi64 (n_6 + 1)) (shR .u64 y_7 8))
    · refine GoO.exit' c38_22e rfl ?_
      refine GoO.seq' c38_27e ?_
      refine GoO.region' (is := [0, 1, 2, 3, 4, 5, 6, 7, 8, 9, 10, 11]) c38_28e (by kernel_rfl) ?_
      refine GoO.exec (is := [0, 1, 2, 3, 4, 5, 6]) (hs := [.p, .p, .p, .p, .b 0, .p, .p]) (rest := [7, 8, 9, 10, 11]) (ks := [0, 1, 5, 17, 21, 23]) (env' := [(0, .pointer (some ⟨b_2, 0, none⟩)), (1, .int .u64 x_5), (5, .int .i64 n_6), (17, .pointer (some ⟨b_2, 0, none⟩)), (21, .slice A_3 w_1.b.length c_4), (23, .int .u8 (wu8 n_6))]) (H' := [⟨1, b_2, [.slice A_3 w_1.b.length c_4]⟩]) (ps := [b_2 = b_2]) (by kernel_rfl) (And.intro rfl trivial) ?_
      refine OpTo.go (GoO.lit (e := 5) (K := Kd.u8) rfl (by kernel_rfl) (by kernel_rfl) (cs := [.int .u8 (wu8 n_6)]) (by kernel_rfl) [u8of n_6] (by kernel_rfl) (by kernel_rfl) (fun w S hB => ⟨[.int .u8 (wu8 n_6)], _, rfl, congrArg (fun v => [v]) (u8cell _), rfl⟩) 40 _ (fun _ _ => rfl) (fun A_9 c_10 => ?_))
      refine GoO.guard (fun h11 => ?_)
      refine OpTo.go (GoO.appW (e := 5) (K := Kd.u8) (A := A_3) (c := c_4) (tg := 2) (bytes := 1) (zs := [.int .u8 0]) (xs := w_1.b) (ys := [u8of n_6]) (xv := .slice A_9 [u8of n_6].length c_10) (j := 1) (bk := [0]) rfl (by kernel_rfl) (by kernel_rfl) (by kernel_rfl) (by kernel_rfl) rfl (by kernel_rfl) rfl (fun w S hB => SrcIs.row (Reads.own w S (hB _ (List.mem_of_getElem? (i := 0) rfl)))) h11 rfl rfl rfl rfl _ (fun _ _ => rfl) (fun A_12 c_13 => ?_))
      refine GoO.exec (is := [9, 10, 11]) (hs := [.p, .p, .b 0]) (rest := []) (ks := [0, 1, 5]) (env' := [(0, .pointer (some ⟨b_2, 0, none⟩)), (1, .int .u64 x_5), (5, .int .i64 n_6)]) (H' := [⟨1, b_2, [.slice A_12 (w_1.b ++ [u8of n_6]).length c_13]⟩]) (ps := [b_2 = b_2]) (by kernel_rfl) (And.intro rfl trivial) ?_
      refine GoO.regionEnd ?_
      refine GoO.seq' c38_29e ?_
      refine GoO.seq' c38_30e ?_
      refine GoO.region' (is := [0, 1, 2]) c38_31e (by kernel_rfl) ?_
      refine GoO.exec (is := [0, 1, 2]) (hs := [.p, .p, .p]) (rest := []) (ks := [0, 1, 7]) (env' := [(0, .pointer (some ⟨b_2, 0, none⟩)), (1, .int .u64 x_5), (7, .int .i64 (wi64 (n_6 - 1)))]) (H' := [⟨1, b_2, [.slice A_12 (w_1.b ++ [u8of n_6]).length c_13]⟩]) (ps := []) (by kernel_rfl) trivial ?_
      refine GoO.regionEnd ?_
      refine GoO.block' c38_32e ?_
      refine GoO.loop' c38_33e ?_
      exact GoO.sub (ks := [0, 1, 7]) (hk := [0]) (bk := [0]) (by kernel_rfl) (by kernel_rfl) (by kernel_rfl) (pack_Writer_Num_l1_ok n x_5 b_2 A_3 c_4 w0 S0 n (w_1.b ++ [u8of n_6]) (wi64 (n_6 - 1)) A_12 c_13)
theorem pack_Writer_Num_ok (n : Nat) (w_1 : T_pack_Writer) (x_5 : Int) (b_2 : Nat) (A_3 : Option Addr) (c_4 : Nat) :
    Meets Try.prog 38 [.pointer (some ⟨b_2, 0, none⟩), .int .u64 x_5] 2 [1, 2] [⟨1, b_2, [.slice A_3 w_1.b.length c_4]⟩] [Ow 2 Kd.u8 A_3 c_4 w_1.b] (pack_Writer_Num.f n w_1 x_5) (pack_Writer_Num.R b_2 A_3 c_4) := by
  refine Meets.of (c := c38_0) (n := 49) Try.func38 (by kernel_rfl) (by kernel_rfl) (by kernel_rfl) fun w0 S0 => ?_
  unfold pack_Writer_Num.f
  show GoO (pack_Writer_Num.cx b_2 A_3 c_4 w0 S0) [(0, .pointer (some ⟨b_2, 0, none⟩)), (1, .int .u64 x_5)] [⟨1, b_2, [.slice A_3 w_1.b.length c_4]⟩] [Ow 2 Kd.u8 A_3 c_4 w_1.b] [.code c38_0] _
  refine GoO.seq' c38_0e ?_
  refine GoO.region' (is := [0]) c38_1e (by kernel_rfl) ?_
  refine GoO.exec (is := [0]) (hs := [.p]) (rest := []) (ks := [0, 1]) (env' := [(0, .pointer (some ⟨b_2, 0, none⟩)), (1, .int .u64 x_5)]) (H' := [⟨1, b_2, [.slice A_3 w_1.b.length c_4]⟩]) (ps := []) (by kernel_rfl) trivial ?_
  refine GoO.regionEnd ?_
  refine GoO.seq' c38_2e ?_
  refine GoO.seq' c38_3e ?_
  refine GoO.region' (is := [0, 1]) c38_4e (by kernel_rfl) ?_
  refine GoO.exec (is := [0, 1]) (hs := [.p, .p]) (rest := []) (ks := [0, 1, 9]) (env' := [(0, .pointer (some ⟨b_2, 0, none⟩)), (1, .int .u64 x_5), (9, .bool false)]) (H' := [⟨1, b_2, [.slice A_3 w_1.b.length c_4]⟩]) (ps := []) (by kernel_rfl) trivial ?_
  refine GoO.regionEnd ?_
  refine GoO.condF c38_5e (by kernel_rfl) ?_
  refine GoO.skip' c38_9e ?_
  refine GoO.seq' c38_10e ?_
  refine GoO.region' (is := [0]) c38_11e (by kernel_rfl) ?_
  refine GoO.exec (is := [0]) (hs := [.p]) (rest := []) (ks := [0, 1, 5]) (env' := [(0, .pointer (some ⟨b_2, 0, none⟩)), (1, .int .u64 x_5), (5, .int .i64 0)]) (H' := [⟨1, b_2, [.slice A_3 w_1.b.length c_4]⟩]) (ps := []) (by kernel_rfl) trivial ?_
  refine GoO.regionEnd ?_
  refine GoO.seq' c38_12e ?_
  refine GoO.seq' c38_13e ?_
  refine GoO.region' (is := [0, 1]) c38_14e (by kernel_rfl) ?_
  refine GoO.exec (is := [0, 1]) (hs := [.p, .p]) (rest := []) (ks := [0, 1, 5, 6]) (env' := [(0, .pointer (some ⟨b_2, 0, none⟩)), (1, .int .u64 x_5), (5, .int .i64 0), (6, .int .u64 x_5)]) (H' := [⟨1, b_2, [.slice A_3 w_1.b.length c_4]⟩]) (ps := []) (by kernel_rfl) trivial ?_
  refine GoO.regionEnd ?_
  refine GoO.block' c38_15e ?_
  refine GoO.loop' c38_16e ?_
  exact GoO.sub (ks := [0, 1, 5, 6]) (hk := [0]) (bk := [0]) (by kernel_rfl) (by kernel_rfl) (by kernel_rfl) (pack_Writer_Num_l0_ok n w_1 x_5 b_2 A_3 c_4 w0 S0 n 0 x_5)

/-! (*tontine/pack.Writer).Bool -/
noncomputable def c39_0 : Code := bodyOf Try.f39
noncomputable def c39_1 : Code := cdL c39_0
noncomputable def c39_2 : Code := cdR c39_0
noncomputable def c39_3 : Code := cdL c39_2
noncomputable def c39_4 : Code := cdL c39_3
noncomputable def c39_5 : Code := cdR c39_3
noncomputable def c39_6 : Code := cdL c39_5
noncomputable def c39_7 : Code := cdL c39_6
noncomputable def c39_8 : Code := cdR c39_6
noncomputable def c39_9 : Code := cdR c39_5
noncomputable def c39_10 : Code := cdR c39_2
noncomputable def c39_11 : Code := cdL c39_10
noncomputable def c39_12 : Code := cdR c39_10
noncomputable def r39_1 : Array Oper := cdO c39_1
noncomputable def r39_4 : Array Oper := cdO c39_4
noncomputable def r39_7 : Array Oper := cdO c39_7
noncomputable def r39_11 : Array Oper := cdO c39_11
theorem c39_0e : c39_0 = .seq c39_1 c39_2 := by kernel_rfl
theorem c39_1e : c39_1 = .region 0 r39_1 false := by kernel_rfl
theorem c39_2e : c39_2 = .seq c39_3 c39_10 := by kernel_rfl
theorem c39_3e : c39_3 = .seq c39_4 c39_5 := by kernel_rfl
theorem c39_4e : c39_4 = .region 1 r39_4 false := by kernel_rfl
theorem c39_5e : c39_5 = .cond (cdC c39_5) c39_6 c39_9 := by kernel_rfl
theorem c39_6e : c39_6 = .seq c39_7 c39_8 := by kernel_rfl
theorem c39_7e : c39_7 = .region 2 r39_7 false := by kernel_rfl
theorem c39_8e : c39_8 = .ret := by kernel_rfl
theorem c39_9e : c39_9 = .skip := by kernel_rfl
theorem c39_10e : c39_10 = .seq c39_11 c39_12 := by kernel_rfl
theorem c39_11e : c39_11 = .region 3 r39_11 false := by kernel_rfl
theorem c39_12e : c39_12 = .ret := by kernel_rfl
noncomputable def pack_Writer_Bool.R (b_2 : Nat) (A_3 : Option Addr) (c_4 : Nat) : Pst T_pack_Writer where
  ε := Option Addr × Nat
  v := fun r x => .pointer (some ⟨b_2, 0, none⟩)
  H := fun r x => [⟨1, b_2, [.slice x.1 r.b.length x.2]⟩]
  B := fun r x => [Ow 2 Kd.u8 x.1 x.2 r.b]
noncomputable def pack_Writer_Bool.cx (b_2 : Nat) (A_3 : Option Addr) (c_4 : Nat) (w0 : World) (S0 : Fam) : Cx T_pack_Writer := ⟨Try.prog, 39, Try.f39, 10, w0, S0, [1, 2], 2, pack_Writer_Bool.R b_2 A_3 c_4⟩
theorem pack_Writer_Bool_ok (n : Nat) (w_1 : T_pack_Writer) (x_5 : Bool) (b_2 : Nat) (A_3 : Option Addr) (c_4 : Nat) :
    Meets Try.prog 39 [.pointer (some ⟨b_2, 0, none⟩), .bool x_5] 2 [1, 2] [⟨1, b_2, [.slice A_3 w_1.b.length c_4]⟩] [Ow 2 Kd.u8 A_3 c_4 w_1.b] (pack_Writer_Bool.f n w_1 x_5) (pack_Writer_Bool.R b_2 A_3 c_4) := by
  refine Meets.of (c := c39_0) (n := 10) Try.func39 (by kernel_rfl) (by kernel_rfl) (by kernel_rfl) fun w0 S0 => ?_
  unfold pack_Writer_Bool.f
  show GoO (pack_Writer_Bool.cx b_2 A_3 c_4 w0 S0) [(0, .pointer (some ⟨b_2, 0, none⟩)), (1, .bool x_5)] [⟨1, b_2, [.slice A_3 w_1.b.length c_4]⟩] [Ow 2 Kd.u8 A_3 c_4 w_1.b] [.code c39_0] _
  refine GoO.seq' c39_0e ?_
  refine GoO.region' (is := [0]) c39_1e (by kernel_rfl) ?_
  refine GoO.exec (is := [0]) (hs := [.p]) (rest := []) (ks := [0, 1]) (env' := [(0, .pointer (some ⟨b_2, 0, none⟩)), (1, .bool x_5)]) (H' := [⟨1, b_2, [.slice A_3 w_1.b.length c_4]⟩]) (ps := []) (by kernel_rfl) trivial ?_
  refine GoO.regionEnd ?_
  refine GoO.seq' c39_2e ?_
  refine GoO.seq' c39_3e ?_
  refine GoO.region' (is := [0]) c39_4e (by kernel_rfl) ?_
  refine GoO.exec (is := [0]) (hs := [.p]) (rest := []) (ks := [0, 5]) (env' := [(0, .pointer (some ⟨b_2, 0, none⟩)), (5, .bool x_5)]) (H' := [⟨1, b_2, [.slice A_3 w_1.b.length c_4]⟩]) (ps := []) (by kernel_rfl) trivial ?_
  refine GoO.regionEnd ?_
  refine GoO.ite' c39_5e (by kernel_rfl) (fun h6 => ?_) (fun h6 => ?_)
  · refine GoO.seq' c39_6e ?_
    refine GoO.region' (is := [0, 1, 2]) c39_7e (by kernel_rfl) ?_
    refine GoO.exec (is := [0]) (hs := [.p]) (rest := [1, 2]) (ks := [6]) (env' := [(6, .pointer (some ⟨b_2, 0, none⟩))]) (H' := [⟨1, b_2, [.slice A_3 w_1.b.length c_4]⟩]) (ps := []) (by kernel_rfl) trivial ?_
    refine OpTo.go (GoO.call rfl (by kernel_rfl) (by kernel_rfl) (pack_Writer_Num_ok n w_1 1 b_2 A_3 c_4) [[0], [1], [2]] [(1, 1), (2, 2)] [(1, 0)] [(2, 0)] (hks := []) (bks := []) (by kernel_rfl) (by kernel_rfl) (by kernel_rfl) (.inl rfl) rfl rfl (by kernel_rfl) (by kernel_rfl) _ (fun _ _ => rfl) _ _ (fun _ _ => rfl) (fun _ _ => rfl) (fun _ _ => by kernel_rfl) (fun _ _ => by kernel_rfl) (fun r_7 x_10 => ?_))
    obtain ⟨A_8, c_9⟩ := x_10
    refine GoO.shape (env' := [(6, .pointer (some ⟨b_2, 0, none⟩)), (7, .pointer (some ⟨b_2, 0, none⟩))]) (H' := [⟨1, b_2, [.slice A_8 r_7.b.length c_9]⟩]) (B' := [Ow 2 Kd.u8 A_8 c_9 r_7.b]) (ks := [6, 7]) (by kernel_rfl) (by kernel_rfl) (by kernel_rfl) ?_
    refine GoO.exec (is := [2]) (hs := [.p]) (rest := []) (ks := [4]) (env' := [(4, .pointer (some ⟨b_2, 0, none⟩))]) (H' := [⟨1, b_2, [.slice A_8 r_7.b.length c_9]⟩]) (ps := []) (by kernel_rfl) trivial ?_
    refine GoO.regionEnd ?_
    exact GoO.ret' (h := c39_8e) (hs := []) (ps := []) (hk := [0]) (bk := [0]) Try.func39 (⟨A_8, c_9⟩ : Option Addr × Nat) (by kernel_rfl) trivial (by kernel_rfl) (by kernel_rfl)
  · refine GoO.skip' c39_9e ?_
    refine GoO.seq' c39_10e ?_
    refine GoO.region' (is := [0, 1, 2]) c39_11e (by kernel_rfl) ?_
    refine GoO.exec (is := [0]) (hs := [.p]) (rest := [1, 2]) (ks := [8]) (env' := [(8, .pointer (some ⟨b_2, 0, none⟩))]) (H' := [⟨1, b_2, [.slice A_3 w_1.b.length c_4]⟩]) (ps := []) (by kernel_rfl) trivial ?_
    refine OpTo.go (GoO.call rfl (by kernel_rfl) (by kernel_rfl) (pack_Writer_Num_ok n w_1 0 b_2 A_3 c_4) [[0], [1], [2]] [(1, 1), (2, 2)] [(1, 0)] [(2, 0)] (hks := []) (bks := []) (by kernel_rfl) (by kernel_rfl) (by kernel_rfl) (.inl rfl) rfl rfl (by kernel_rfl) (by kernel_rfl) _ (fun _ _ => rfl) _ _ (fun _ _ => rfl) (fun _ _ => rfl) (fun _ _ => by kernel_rfl) (fun _ _ => by kernel_rfl) (fun r_11 x_14 => ?_))
    obtain ⟨A_12, c_13⟩ := x_14
    refine GoO.shape (env' := [(8, .pointer (some ⟨b_2, 0, none⟩)), (9, .pointer (some ⟨b_2, 0, none⟩))]) (H' := [⟨1, b_2, [.slice A_12 r_11.b.length c_13]⟩]) (B' := [Ow 2 Kd.u8 A_12 c_13 r_11.b]) (ks := [8, 9]) (by kernel_rfl) (by kernel_rfl) (by kernel_rfl) ?_
    refine GoO.exec (is := [2]) (hs := [.p]) (rest := []) (ks := [4]) (env' := [(4, .pointer (some ⟨b_2, 0, none⟩))]) (H' := [⟨1, b_2, [.slice A_12 r_11.b.length c_13]⟩]) (ps := []) (by kernel_rfl) trivial ?_
    refine GoO.regionEnd ?_
    exact GoO.ret' (h := c39_12e) (hs := []) (ps := []) (hk := [0]) (bk := [0]) Try.func39 (⟨A_12, c_13⟩ : Option Addr × Nat) (by kernel_rfl) trivial (by kernel_rfl) (by kernel_rfl)

/-! (*tontine/pack.Writer).Text -/
noncomputable def c40_0 : Code := bodyOf Try.f40
noncomputable def c40_1 : Code := cdL c40_0
noncomputable def c40_2 : Code := cdR c40_0
noncomputable def c40_3 : Code := cdL c40_2
noncomputable def c40_4 : Code := cdL c40_3
noncomputable def c40_5 : Code := cdR c40_3
noncomputable def c40_9 : Code := cdR c40_5
noncomputable def c40_10 : Code := cdR c40_2
noncomputable def c40_11 : Code := cdL c40_10
noncomputable def c40_12 : Code := cdR c40_10
noncomputable def c40_13 : Code := cdL c40_12
noncomputable def c40_14 : Code := cdR c40_12
noncomputable def c40_15 : Code := cdL c40_14
noncomputable def c40_16 : Code := cdR c40_14
noncomputable def c40_6 : Code := cdL c40_5
noncomputable def r40_1 : Array Oper := cdO c40_1
noncomputable def r40_4 : Array Oper := cdO c40_4
noncomputable def r40_11 : Array Oper := cdO c40_11
noncomputable def r40_13 : Array Oper := cdO c40_13
noncomputable def r40_15 : Array Oper := cdO c40_15
theorem c40_0e : c40_0 = .seq c40_1 c40_2 := by kernel_rfl
theorem c40_1e : c40_1 = .region 0 r40_1 false := by kernel_rfl
theorem c40_2e : c40_2 = .seq c40_3 c40_10 := by kernel_rfl
theorem c40_3e : c40_3 = .seq c40_4 c40_5 := by kernel_rfl
theorem c40_4e : c40_4 = .region 1 r40_4 false := by kernel_rfl
theorem c40_5e : c40_5 = .cond (cdC c40_5) c40_6 c40_9 := by kernel_rfl
theorem c40_9e : c40_9 = .skip := by kernel_rfl
theorem c40_10e : c40_10 = .seq c40_11 c40_12 := by kernel_rfl
theorem c40_11e : c40_11 = .region 3 r40_11 false := by kernel_rfl
theorem c40_12e : c40_12 = .seq c40_13 c40_14 := by kernel_rfl
theorem c40_13e : c40_13 = .region 4 r40_13 false := by kernel_rfl
theorem c40_14e : c40_14 = .seq c40_15 c40_16 := by kernel_rfl
theorem c40_15e : c40_15 = .region 5 r40_15 false := by kernel_rfl
theorem c40_16e : c40_16 = .ret := by kernel_rfl
noncomputable def pack_Writer_Text.R (b_2 : Nat) (A_3 : Option Addr) (c_4 : Nat) : Pst T_pack_Writer where
  ε := Option Addr × Nat
  v := fun r x => .pointer (some ⟨b_2, 0, none⟩)
  H := fun r x => [⟨1, b_2, [.slice x.1 r.b.length x.2]⟩]
  B := fun r x => [Ow 2 Kd.u8 x.1 x.2 r.b]
noncomputable def pack_Writer_Text.cx (b_2 : Nat) (A_3 : Option Addr) (c_4 : Nat) (w0 : World) (S0 : Fam) : Cx T_pack_Writer := ⟨Try.prog, 40, Try.f40, 22, w0, S0, [1, 2], 2, pack_Writer_Text.R b_2 A_3 c_4⟩
theorem pack_Writer_Text_ok (n : Nat) (w_1 : T_pack_Writer) (s_5 : (List UInt8)) (b_2 : Nat) (A_3 : Option Addr) (c_4 : Nat) :
    Meets Try.prog 40 [.pointer (some ⟨b_2, 0, none⟩), .string (bs s_5)] 2 [1, 2] [⟨1, b_2, [.slice A_3 w_1.b.length c_4]⟩] [Ow 2 Kd.u8 A_3 c_4 w_1.b] (pack_Writer_Text.f n w_1 s_5) (pack_Writer_Text.R b_2 A_3 c_4) := by
  refine Meets.of (c := c40_0) (n := 22) Try.func40 (by kernel_rfl) (by kernel_rfl) (by kernel_rfl) fun w0 S0 => ?_
  unfold pack_Writer_Text.f
  show GoO (pack_Writer_Text.cx b_2 A_3 c_4 w0 S0) [(0, .pointer (some ⟨b_2, 0, none⟩)), (1, .string (bs s_5))] [⟨1, b_2, [.slice A_3 w_1.b.length c_4]⟩] [Ow 2 Kd.u8 A_3 c_4 w_1.b] [.code c40_0] _
  refine GoO.seq' c40_0e ?_
  refine GoO.region' (is := [0]) c40_1e (by kernel_rfl) ?_
  refine GoO.exec (is := [0]) (hs := [.p]) (rest := []) (ks := [0, 1]) (env' := [(0, .pointer (some ⟨b_2, 0, none⟩)), (1, .string (bs s_5))]) (H' := [⟨1, b_2, [.slice A_3 w_1.b.length c_4]⟩]) (ps := []) (by kernel_rfl) trivial ?_
  refine GoO.regionEnd ?_
  refine GoO.seq' c40_2e ?_
  refine GoO.seq' c40_3e ?_
  refine GoO.region' (is := [0, 1]) c40_4e (by kernel_rfl) ?_
  refine GoO.exec (is := [0, 1]) (hs := [.p, .p]) (rest := []) (ks := [0, 1, 6]) (env' := [(0, .pointer (some ⟨b_2, 0, none⟩)), (1, .string (bs s_5)), (6, .bool false)]) (H' := [⟨1, b_2, [.slice A_3 w_1.b.length c_4]⟩]) (ps := []) (by kernel_rfl) trivial ?_
  refine GoO.regionEnd ?_
  refine GoO.condF c40_5e (by kernel_rfl) ?_
  refine GoO.skip' c40_9e ?_
  refine GoO.seq' c40_10e ?_
  refine GoO.region' (is := [0, 1, 2, 3, 4]) c40_11e (by kernel_rfl) ?_
  refine GoO.exec (is := [0, 1, 2, 3]) (hs := [.p, .p, .p, .p]) (rest := [4]) (ks := [0, 1, 7, 10]) (env' := [(0, .pointer (some ⟨b_2, 0, none⟩)), (1, .string (bs s_5)), (7, .pointer (some ⟨b_2, 0, none⟩)), (10, .int .u64 (wu64 (s_5.length : Int)))]) (H' := [⟨1, b_2, [.slice A_3 w_1.b.length c_4]⟩]) (ps := []) (by kernel_rfl) trivial ?_
  refine OpTo.go (GoO.call rfl (by kernel_rfl) (by kernel_rfl) (pack_Writer_Num_ok n w_1 (wu64 (s_5.length : Int)) b_2 A_3 c_4) [[0], [1], [2]] [(1, 1), (2, 2)] [(1, 0)] [(2, 0)] (hks := []) (bks := []) (by kernel_rfl) (by kernel_rfl) (by kernel_rfl) (.inl rfl) rfl rfl (by kernel_rfl) (by kernel_rfl) _ (fun _ _ => rfl) _ _ (fun _ _ => rfl) (fun _ _ => rfl) (fun _ _ => by kernel_rfl) (fun _ _ => by kernel_rfl) (fun r_6 x_12 => ?_))
  obtain ⟨A_7, c_8⟩ := x_12
  refine GoO.shape (env' := [(0, .pointer (some ⟨b_2, 0, none⟩)), (1, .string (bs s_5)), (7, .pointer (some ⟨b_2, 0, none⟩)), (10, .int .u64 (wu64 (s_5.length : Int))), (11, .pointer (some ⟨b_2, 0, none⟩))]) (H' := [⟨1, b_2, [.slice A_7 r_6.b.length c_8]⟩]) (B' := [Ow 2 Kd.u8 A_7 c_8 r_6.b]) (ks := [0, 1, 7, 10, 11]) (by kernel_rfl) (by kernel_rfl) (by kernel_rfl) ?_
  refine GoO.regionEnd ?_
  refine GoO.seq' c40_12e ?_
  refine GoO.region' (is := [0, 1, 2, 3, 4, 5, 6, 7, 8, 9]) c40_13e (by kernel_rfl) ?_
  refine GoO.exec (is := [0, 1, 2, 3, 4, 5]) (hs := [.p, .p, .p, .p, .b 0, .p]) (rest := [6, 7, 8, 9]) (ks := [0, 12, 16, 17]) (env' := [(0, .pointer (some ⟨b_2, 0, none⟩)), (12, .pointer (some ⟨b_2, 0, none⟩)), (16, .slice A_7 r_6.b.length c_8), (17, .string (bs s_5))]) (H' := [⟨1, b_2, [.slice A_7 r_6.b.length c_8]⟩]) (ps := [b_2 = b_2]) (by kernel_rfl) (And.intro rfl trivial) ?_
  refine GoO.guard (fun h9 => ?_)
  refine OpTo.go (GoO.appW (e := 5) (K := Kd.u8) (A := A_7) (c := c_8) (tg := 2) (bytes := 1) (zs := [.int .u8 0]) (xs := r_6.b) (ys := s_5) (xv := .string (bs s_5)) (j := 0) (bk := []) rfl (by kernel_rfl) (by kernel_rfl) (by kernel_rfl) (by kernel_rfl) rfl (by kernel_rfl) rfl (fun _ _ _ => SrcIs.str _) h9 rfl rfl rfl rfl _ (fun _ _ => rfl) (fun A_10 c_11 => ?_))
  refine GoO.exec (is := [7, 8, 9]) (hs := [.p, .p, .b 0]) (rest := []) (ks := [0]) (env' := [(0, .pointer (some ⟨b_2, 0, none⟩))]) (H' := [⟨1, b_2, [.slice A_10 (r_6.b ++ s_5).length c_11]⟩]) (ps := [b_2 = b_2]) (by kernel_rfl) (And.intro rfl trivial) ?_
  refine GoO.regionEnd ?_
  refine GoO.seq' c40_14e ?_
  refine GoO.region' (is := [0, 1]) c40_15e (by kernel_rfl) ?_
  refine GoO.exec (is := [0, 1]) (hs := [.p, .p]) (rest := []) (ks := [4]) (env' := [(4, .pointer (some ⟨b_2, 0, none⟩))]) (H' := [⟨1, b_2, [.slice A_10 (r_6.b ++ s_5).length c_11]⟩]) (ps := []) (by kernel_rfl) trivial ?_
  refine GoO.regionEnd ?_
  exact GoO.ret' (h := c40_16e) (hs := []) (ps := []) (hk := [0]) (bk := [0]) Try.func40 (⟨A_10, c_11⟩ : Option Addr × Nat) (by kernel_rfl) trivial (by kernel_rfl) (by kernel_rfl)

/-! (*tontine/pack.Writer).Bytes -/
noncomputable def c29_0 : Code := bodyOf Try.f29
noncomputable def c29_1 : Code := cdL c29_0
noncomputable def c29_2 : Code := cdR c29_0
noncomputable def c29_3 : Code := cdL c29_2
noncomputable def c29_4 : Code := cdL c29_3
noncomputable def c29_5 : Code := cdR c29_3
noncomputable def c29_9 : Code := cdR c29_5
noncomputable def c29_10 : Code := cdR c29_2
noncomputable def c29_11 : Code := cdL c29_10
noncomputable def c29_12 : Code := cdR c29_10
noncomputable def c29_6 : Code := cdL c29_5
noncomputable def r29_1 : Array Oper := cdO c29_1
noncomputable def r29_4 : Array Oper := cdO c29_4
noncomputable def r29_11 : Array Oper := cdO c29_11
theorem c29_0e : c29_0 = .seq c29_1 c29_2 := by kernel_rfl
theorem c29_1e : c29_1 = .region 0 r29_1 false := by kernel_rfl
theorem c29_2e : c29_2 = .seq c29_3 c29_10 := by kernel_rfl
theorem c29_3e : c29_3 = .seq c29_4 c29_5 := by kernel_rfl
theorem c29_4e : c29_4 = .region 1 r29_4 false := by kernel_rfl
theorem c29_5e : c29_5 = .cond (cdC c29_5) c29_6 c29_9 := by kernel_rfl
theorem c29_9e : c29_9 = .skip := by kernel_rfl
theorem c29_10e : c29_10 = .seq c29_11 c29_12 := by kernel_rfl
theorem c29_11e : c29_11 = .region 3 r29_11 false := by kernel_rfl
theorem c29_12e : c29_12 = .ret := by kernel_rfl
noncomputable def pack_Writer_Bytes.R (b_2 : Nat) (A_3 : Option Addr) (c_4 : Nat) : Pst (List UInt8) where
  ε := Unit
  v := fun r x => .string (bs r)
  H := fun r x => []
  B := fun r x => []
noncomputable def pack_Writer_Bytes.cx (b_2 : Nat) (A_3 : Option Addr) (c_4 : Nat) (w0 : World) (S0 : Fam) : Cx (List UInt8) := ⟨Try.prog, 29, Try.f29, 10, w0, S0, [], 2, pack_Writer_Bytes.R b_2 A_3 c_4⟩
theorem pack_Writer_Bytes_ok (n : Nat) (w_1 : T_pack_Writer) (b_2 : Nat) (A_3 : Option Addr) (c_4 : Nat) :
    Meets Try.prog 29 [.pointer (some ⟨b_2, 0, none⟩)] 2 [] [⟨1, b_2, [.slice A_3 w_1.b.length c_4]⟩] [Ow 2 Kd.u8 A_3 c_4 w_1.b] (pack_Writer_Bytes.f n w_1) (pack_Writer_Bytes.R b_2 A_3 c_4) := by
  refine Meets.of (c := c29_0) (n := 10) Try.func29 (by kernel_rfl) (by kernel_rfl) (by kernel_rfl) fun w0 S0 => ?_
  unfold pack_Writer_Bytes.f
  show GoO (pack_Writer_Bytes.cx b_2 A_3 c_4 w0 S0) [(0, .pointer (some ⟨b_2, 0, none⟩))] [⟨1, b_2, [.slice A_3 w_1.b.length c_4]⟩] [Ow 2 Kd.u8 A_3 c_4 w_1.b] [.code c29_0] _
  refine GoO.seq' c29_0e ?_
  refine GoO.region' (is := [0]) c29_1e (by kernel_rfl) ?_
  refine GoO.exec (is := [0]) (hs := [.p]) (rest := []) (ks := [0]) (env' := [(0, .pointer (some ⟨b_2, 0, none⟩))]) (H' := [⟨1, b_2, [.slice A_3 w_1.b.length c_4]⟩]) (ps := []) (by kernel_rfl) trivial ?_
  refine GoO.regionEnd ?_
  refine GoO.seq' c29_2e ?_
  refine GoO.seq' c29_3e ?_
  refine GoO.region' (is := [0, 1]) c29_4e (by kernel_rfl) ?_
  refine GoO.exec (is := [0, 1]) (hs := [.p, .p]) (rest := []) (ks := [0, 4]) (env' := [(0, .pointer (some ⟨b_2, 0, none⟩)), (4, .bool false)]) (H' := [⟨1, b_2, [.slice A_3 w_1.b.length c_4]⟩]) (ps := []) (by kernel_rfl) trivial ?_
  refine GoO.regionEnd ?_
  refine GoO.condF c29_5e (by kernel_rfl) ?_
  refine GoO.skip' c29_9e ?_
  refine GoO.seq' c29_10e ?_
  refine GoO.region' (is := [0, 1, 2, 3, 4, 5]) c29_11e (by kernel_rfl) ?_
  refine GoO.exec (is := [0, 1, 2, 3]) (hs := [.p, .p, .p, .b 0]) (rest := [4, 5]) (ks := [8]) (env' := [(8, .slice A_3 w_1.b.length c_4)]) (H' := [⟨1, b_2, [.slice A_3 w_1.b.length c_4]⟩]) (ps := [b_2 = b_2]) (by kernel_rfl) (And.intro rfl trivial) ?_
  refine OpTo.go (GoO.toStr (e := 5) (A := A_3) (c := c_4) (xs := w_1.b) (j := 0) rfl (by kernel_rfl) (by kernel_rfl) (by kernel_rfl) (by kernel_rfl) rfl Reads.own rfl rfl ?_)
  refine GoO.exec (is := [5]) (hs := [.p]) (rest := []) (ks := [2]) (env' := [(2, .string (bs w_1.b))]) (H' := [⟨1, b_2, [.slice A_3 w_1.b.length c_4]⟩]) (ps := []) (by kernel_rfl) trivial ?_
  refine GoO.regionEnd ?_
  exact GoO.ret' (h := c29_12e) (hs := []) (ps := []) (hk := []) (bk := []) Try.func29 () (by kernel_rfl) trivial (by kernel_rfl) (by kernel_rfl)

/-! tontine/letter.Encode -/
noncomputable def c21_0 : Code := bodyOf Try.f21
noncomputable def c21_1 : Code := cdL c21_0
noncomputable def c21_2 : Code := cdR c21_0
noncomputable def c21_3 : Code := cdL c21_2
noncomputable def c21_4 : Code := cdL c21_3
noncomputable def c21_5 : Code := cdR c21_3
noncomputable def c21_6 : Code := cdL c21_5
noncomputable def c21_7 : Code := cdL c21_6
noncomputable def c21_8 : Code := cdR c21_6
noncomputable def c21_9 : Code := cdR c21_5
noncomputable def c21_10 : Code := cdR c21_2
noncomputable def c21_11 : Code := cdL c21_10
noncomputable def c21_12 : Code := cdR c21_10
noncomputable def c21_13 : Code := cdL c21_12
noncomputable def c21_14 : Code := cdL c21_13
noncomputable def c21_15 : Code := cdR c21_13
noncomputable def c21_16 : Code := cdL c21_15
noncomputable def c21_17 : Code := cdL c21_16
noncomputable def c21_18 : Code := cdL c21_17
noncomputable def c21_19 : Code := cdR c21_17
noncomputable def c21_20 : Code := cdL c21_19
noncomputable def c21_21 : Code := cdL c21_20
noncomputable def c21_22 : Code := cdR c21_20
noncomputable def c21_23 : Code := cdR c21_19
noncomputable def c21_24 : Code := cdL c21_23
noncomputable def c21_25 : Code := cdL c21_24
noncomputable def c21_26 : Code := cdL c21_25
noncomputable def c21_27 : Code := cdR c21_25
noncomputable def c21_28 : Code := cdR c21_23
noncomputable def c21_29 : Code := cdR c21_12
noncomputable def c21_30 : Code := cdL c21_29
noncomputable def c21_31 : Code := cdR c21_29
noncomputable def r21_1 : Array Oper := cdO c21_1
noncomputable def r21_4 : Array Oper := cdO c21_4
noncomputable def r21_7 : Array Oper := cdO c21_7
noncomputable def r21_11 : Array Oper := cdO c21_11
noncomputable def r21_14 : Array Oper := cdO c21_14
noncomputable def r21_18 : Array Oper := cdO c21_18
noncomputable def r21_26 : Array Oper := cdO c21_26
noncomputable def r21_27 : Array Oper := cdO c21_27
noncomputable def r21_28 : Array Oper := cdO c21_28
noncomputable def r21_30 : Array Oper := cdO c21_30
theorem c21_0e : c21_0 = .seq c21_1 c21_2 := by kernel_rfl
theorem c21_1e : c21_1 = .region 0 r21_1 false := by kernel_rfl
theorem c21_2e : c21_2 = .seq c21_3 c21_10 := by kernel_rfl
theorem c21_3e : c21_3 = .seq c21_4 c21_5 := by kernel_rfl
theorem c21_4e : c21_4 = .region 1 r21_4 false := by kernel_rfl
theorem c21_5e : c21_5 = .cond (cdC c21_5) c21_6 c21_9 := by kernel_rfl
theorem c21_6e : c21_6 = .seq c21_7 c21_8 := by kernel_rfl
theorem c21_7e : c21_7 = .region 2 r21_7 false := by kernel_rfl
theorem c21_8e : c21_8 = .ret := by kernel_rfl
theorem c21_9e : c21_9 = .skip := by kernel_rfl
theorem c21_10e : c21_10 = .seq c21_11 c21_12 := by kernel_rfl
theorem c21_11e : c21_11 = .region 3 r21_11 true := by kernel_rfl
theorem c21_12e : c21_12 = .seq c21_13 c21_29 := by kernel_rfl
theorem c21_13e : c21_13 = .seq c21_14 c21_15 := by kernel_rfl
theorem c21_14e : c21_14 = .region 4 r21_14 false := by kernel_rfl
theorem c21_15e : c21_15 = .block 0 c21_16 := by kernel_rfl
theorem c21_16e : c21_16 = .loop c21_17 := by kernel_rfl
theorem c21_17e : c21_17 = .seq c21_18 c21_19 := by kernel_rfl
theorem c21_18e : c21_18 = .region 5 r21_18 false := by kernel_rfl
theorem c21_19e : c21_19 = .seq c21_20 c21_23 := by kernel_rfl
theorem c21_20e : c21_20 = .cond (cdC c21_20) c21_21 c21_22 := by kernel_rfl
theorem c21_21e : c21_21 = .skip := by kernel_rfl
theorem c21_22e : c21_22 = .exit 0 := by kernel_rfl
theorem c21_23e : c21_23 = .seq c21_24 c21_28 := by kernel_rfl
theorem c21_24e : c21_24 = .block 1 c21_25 := by kernel_rfl
theorem c21_25e : c21_25 = .seq c21_26 c21_27 := by kernel_rfl
theorem c21_26e : c21_26 = .region 6 r21_26 false := by kernel_rfl
theorem c21_27e : c21_27 = .region 7 r21_27 true := by kernel_rfl
theorem c21_28e : c21_28 = .region 8 r21_28 false := by kernel_rfl
theorem c21_29e : c21_29 = .seq c21_30 c21_31 := by kernel_rfl
theorem c21_30e : c21_30 = .region 9 r21_30 false := by kernel_rfl
theorem c21_31e : c21_31 = .ret := by kernel_rfl
noncomputable def letter_Encode.R (A_2 : Option Addr) (c_3 : Nat) : Pst ((List UInt8) × Int) where
  ε := Unit
  v := fun r x => .tuple ⟨[.string (bs r.1), .int .i64 r.2]⟩
  H := fun r x => []
  B := fun r x => []
noncomputable def letter_Encode.cx (A_2 : Option Addr) (c_3 : Nat) (w0 : World) (S0 : Fam) : Cx ((List UInt8) × Int) := ⟨Try.prog, 21, Try.f21, 70, w0, S0, [], 0, letter_Encode.R A_2 c_3⟩
theorem letter_Encode_l0_ok (n : Nat) (x_1 : T_api_Letter) (A_2 : Option Addr) (c_3 : Nat) (b_4 : Nat) (b_7 : Nat) (w0 : World) (S0 : Fam) :
    ∀ (k : Nat) (f_35 : (List UInt8)) (x_38 : Int) (A_36 : Option Addr) (c_37 : Nat), GoO (letter_Encode.cx A_2 c_3 w0 S0) [(1, .pointer (some ⟨b_4, 0, none⟩)), (4, .pointer (some ⟨b_7, 0, none⟩)), (44, .slice A_2 x_1.Entries.length c_3), (45, .int .i64 (x_1.Entries.length : Int)), (46, .int .i64 x_38)] [⟨40, b_4, [.int .i64 x_1.Kind, .int .i64 x_1.From, .int .i64 x_1.To, .int .u64 x_1.Term, .int .u64 x_1.Index, .int .u64 x_1.Prev, .int .u64 x_1.Commit, .bool x_1.Ok, .slice A_2 x_1.Entries.length c_3, .string (bs x_1.Data)]⟩, ⟨41, b_7, [.slice A_36 f_35.length c_37]⟩] [Rd 0 kT_api_Entry A_2 c_3 x_1.Entries, Ow 42 Kd.u8 A_36 c_37 f_35] [.code c21_17, .inLoop c21_17, .inBlock 0, .code c21_29] (letter_Encode.l0 n x_1 k f_35 x_38) := by
  intro k
  induction k with
  | zero => intros; rw [letter_Encode.l0.eq_1]; exact GoO.stop
  | succ k ih0 =>
    intro f_35 x_38 A_36 c_37
    rw [letter_Encode.l0.eq_2]
    refine GoO.seq' c21_17e ?_
    refine GoO.region' (is := [0]) c21_18e (by kernel_rfl) ?_
    refine GoO.exec (is := [0]) (hs := [.p]) (rest := []) (ks := [1, 4, 44, 45, 46, 47]) (env' := [(1, .pointer (some ⟨b_4, 0, none⟩)), (4, .pointer (some ⟨b_7, 0, none⟩)), (44, .slice A_2 x_1.Entries.length c_3), (45, .int .i64 (x_1.Entries.length : Int)), (46, .int .i64 x_38), (47, .bool (decide (x_38 < (x_1.Entries.length : Int))))]) (H' := [⟨40, b_4, [.int .i64 x_1.Kind, .int .i64 x_1.From, .int .i64 x_1.To, .int .u64 x_1.Term, .int .u64 x_1.Index, .int .u64 x_1.Prev, .int .u64 x_1.Commit, .bool x_1.Ok, .slice A_2 x_1.Entries.length c_3, .string (bs x_1.Data)]⟩, ⟨41, b_7, [.slice A_36 f_35.length c_37]⟩]) (ps := []) (by kernel_rfl) trivial ?_
    refine GoO.regionEnd ?_
    refine GoO.seq' c21_19e ?_
    refine GoO.ite' c21_20e (by kernel_rfl) (fun h39 => ?_) (fun h39 => ?_)
    · refine GoO.skip' c21_21e ?_
      refine GoO.seq' c21_23e ?_
      refine GoO.block' c21_24e ?_
      refine GoO.seq' c21_25e ?_
      refine GoO.region' (is := [0, 1, 2, 3]) c21_26e (by kernel_rfl) ?_
      refine GoO.guard (fun h40 => ?_)
      refine OpTo.go (GoO.idx (kk := .i64) (e := 93) (K := kT_api_Entry) (A := A_2) (c := c_3) (xs := x_1.Entries) (iv := x_38) (j := 0) rfl (by kernel_rfl) (by kernel_rfl) (by kernel_rfl) (by kernel_rfl) rfl Reads.rd rfl h40.1 h40.2 (by decide) rfl ?_)
      refine OpTo.go (GoO.ldE' (K := kT_api_Entry) (A := A_2) (c := c_3) (xs := x_1.Entries) (iN := x_38.toNat) (off := 0) (j := 0) rfl (by kernel_rfl) rfl Reads.rd (idx_lt h40.1 h40.2) (by decide) (Opn.flat _ _ _ _ _) (v := fun _ => .agg ⟨[.int .u64 ((rdL x_1.Entries x_38).Term), .int .u64 ((rdL x_1.Entries x_38).Index), .int .i64 ((rdL x_1.Entries x_38).Kind), .string (bs ((rdL x_1.Entries x_38).Data))]⟩) (fun _ => by kernel_rfl) _ (fun _ => rfl) (fun _ => ?_))
      refine OpTo.go (GoO.new rfl 43 (cs := [.int .u64 0, .int .u64 0, .int .i64 0, .string (bs [])]) (by kernel_rfl) _ (fun _ => rfl) (fun b_41 => ?_))
      refine GoO.exec (is := [3]) (hs := [.b 0]) (rest := []) (ks := [1, 4, 6, 44, 45, 46]) (env' := [(1, .pointer (some ⟨b_4, 0, none⟩)), (4, .pointer (some ⟨b_7, 0, none⟩)), (6, .pointer (some ⟨b_41, 0, none⟩)), (44, .slice A_2 x_1.Entries.length c_3), (45, .int .i64 (x_1.Entries.length : Int)), (46, .int .i64 x_38)]) (H' := [⟨43, b_41, [.int .u64 ((rdL x_1.Entries x_38).Term), .int .u64 ((rdL x_1.Entries x_38).Index), .int .i64 ((rdL x_1.Entries x_38).Kind), .string (bs ((rdL x_1.Entries x_38).Data))]⟩, ⟨40, b_4, [.int .i64 x_1.Kind, .int .i64 x_1.From, .int .i64 x_1.To, .int .u64 x_1.Term, .int .u64 x_1.Index, .int .u64 x_1.Prev, .int .u64 x_1.Commit, .bool x_1.Ok, .slice A_2 x_1.Entries.length c_3, .string (bs x_1.Data)]⟩, ⟨41, b_7, [.slice A_36 f_35.length c_37]⟩]) (ps := [b_41 = b_41]) (by kernel_rfl) (And.intro rfl trivial) ?_
      refine GoO.regionEnd ?_
      refine GoO.draw c21_27e (by kernel_rfl) [] [⟨43, b_41, [.int .u64 ((rdL x_1.Entries x_38).Term), .int .u64 ((rdL x_1.Entries x_38).Index), .int .i64 ((rdL x_1.Entries x_38).Kind), .string (bs ((rdL x_1.Entries x_38).Data))]⟩] [] (n := 14) (by kernel_rfl) ?_
      simp only [List.replicate]
      refine GoF.take [0, 1, 2, 4, 5, 7, 8, 9, 11, 12] [.p, .p, .b 0, .p, .b 0, .p, .b 0, .p, .p, .b 0] (ks := [1, 4, 44, 45, 46, 50, 52, 55, 59, 62]) (fu := 4) (li := [true, true, true, false, true, true, false, true, true, true, false, true, true, false]) (env' := [(1, .pointer (some ⟨b_4, 0, none⟩)), (4, .pointer (some ⟨b_7, 0, none⟩)), (44, .slice A_2 x_1.Entries.length c_3), (45, .int .i64 (x_1.Entries.length : Int)), (46, .int .i64 x_38), (50, .pointer (some ⟨b_7, 0, none⟩)), (52, .int .u64 ((rdL x_1.Entries x_38).Term)), (55, .int .u64 ((rdL x_1.Entries x_38).Index)), (59, .int .u64 (wu64 ((rdL x_1.Entries x_38).Kind))), (62, .string (bs ((rdL x_1.Entries x_38).Data)))]) (ps := [b_41 = b_41, b_41 = b_41, b_41 = b_41, b_41 = b_41]) (hk := [0]) (bk := []) (by kernel_rfl) (And.intro rfl (And.intro rfl (And.intro rfl (And.intro rfl trivial)))) rfl rfl ?_
      refine OpTo.goF (i := 3) (by kernel_rfl) (hk := [1]) (bk := []) (GoO.call rfl (by kernel_rfl) (by kernel_rfl) (pack_Writer_Num_ok n (⟨f_35⟩ : T_pack_Writer) ((rdL x_1.Entries x_38).Term) b_7 A_36 c_37) [[0], [41], [42]] [(41, 1), (42, 2)] [(1, 2)] [(2, 1)] (hks := [0, 1]) (bks := [0]) (by kernel_rfl) (by kernel_rfl) (by kernel_rfl) (.inl rfl) rfl rfl (by kernel_rfl) (by kernel_rfl) _ (fun _ _ => rfl) _ _ (fun _ _ => rfl) (fun _ _ => rfl) (fun _ _ => by kernel_rfl) (fun _ _ => by kernel_rfl) (fun r_42 x_57 => ⟨rfl, rfl, ?_⟩))
      obtain ⟨A_43, c_44⟩ := x_57
      refine GoF.shape (env' := [(1, .pointer (some ⟨b_4, 0, none⟩)), (4, .pointer (some ⟨b_7, 0, none⟩)), (44, .slice A_2 x_1.Entries.length c_3), (45, .int .i64 (x_1.Entries.length : Int)), (46, .int .i64 x_38), (50, .pointer (some ⟨b_7, 0, none⟩)), (52, .int .u64 ((rdL x_1.Entries x_38).Term)), (53, .pointer (some ⟨b_7, 0, none⟩)), (55, .int .u64 ((rdL x_1.Entries x_38).Index)), (59, .int .u64 (wu64 ((rdL x_1.Entries x_38).Kind))), (62, .string (bs ((rdL x_1.Entries x_38).Data)))]) (H' := [⟨41, b_7, [.slice A_43 r_42.b.length c_44]⟩, ⟨43, b_41, [.int .u64 ((rdL x_1.Entries x_38).Term), .int .u64 ((rdL x_1.Entries x_38).Index), .int .i64 ((rdL x_1.Entries x_38).Kind), .string (bs ((rdL x_1.Entries x_38).Data))]⟩, ⟨40, b_4, [.int .i64 x_1.Kind, .int .i64 x_1.From, .int .i64 x_1.To, .int .u64 x_1.Term, .int .u64 x_1.Index, .int .u64 x_1.Prev, .int .u64 x_1.Commit, .bool x_1.Ok, .slice A_2 x_1.Entries.length c_3, .string (bs x_1.Data)]⟩]) (B' := [Ow 42 Kd.u8 A_43 c_44 r_42.b, Rd 0 kT_api_Entry A_2 c_3 x_1.Entries]) (ks := [1, 4, 44, 45, 46, 50, 52, 53, 55, 59, 62]) (by kernel_rfl) (by kernel_rfl) (by kernel_rfl) ?_
      refine OpTo.goF (i := 6) (by kernel_rfl) (hk := [1]) (bk := []) (GoO.call rfl (by kernel_rfl) (by kernel_rfl) (pack_Writer_Num_ok n r_42 ((rdL x_1.Entries x_38).Index) b_7 A_43 c_44) [[0], [41], [42]] [(41, 1), (42, 2)] [(1, 0)] [(2, 0)] (hks := [1, 2]) (bks := [1]) (by kernel_rfl) (by kernel_rfl) (by kernel_rfl) (.inl rfl) rfl rfl (by kernel_rfl) (by kernel_rfl) _ (fun _ _ => rfl) _ _ (fun _ _ => rfl) (fun _ _ => rfl) (fun _ _ => by kernel_rfl) (fun _ _ => by kernel_rfl) (fun r_45 x_56 => ⟨rfl, rfl, ?_⟩))
      obtain ⟨A_46, c_47⟩ := x_56
      refine GoF.shape (env' := [(1, .pointer (some ⟨b_4, 0, none⟩)), (4, .pointer (some ⟨b_7, 0, none⟩)), (44, .slice A_2 x_1.Entries.length c_3), (45, .int .i64 (x_1.Entries.length : Int)), (46, .int .i64 x_38), (50, .pointer (some ⟨b_7, 0, none⟩)), (52, .int .u64 ((rdL x_1.Entries x_38).Term)), (53, .pointer (some ⟨b_7, 0, none⟩)), (55, .int .u64 ((rdL x_1.Entries x_38).Index)), (56, .pointer (some ⟨b_7, 0, none⟩)), (59, .int .u64 (wu64 ((rdL x_1.Entries x_38).Kind))), (62, .string (bs ((rdL x_1.Entries x_38).Data)))]) (H' := [⟨41, b_7, [.slice A_46 r_45.b.length c_47]⟩, ⟨43, b_41, [.int .u64 ((rdL x_1.Entries x_38).Term), .int .u64 ((rdL x_1.Entries x_38).Index), .int .i64 ((rdL x_1.Entries x_38).Kind), .string (bs ((rdL x_1.Entries x_38).Data))]⟩, ⟨40, b_4, [.int .i64 x_1.Kind, .int .i64 x_1.From, .int .i64 x_1.To, .int .u64 x_1.Term, .int .u64 x_1.Index, .int .u64 x_1.Prev, .int .u64 x_1.Commit, .bool x_1.Ok, .slice A_2 x_1.Entries.length c_3, .string (bs x_1.Data)]⟩]) (B' := [Ow 42 Kd.u8 A_46 c_47 r_45.b, Rd 0 kT_api_Entry A_2 c_3 x_1.Entries]) (ks := [1, 4, 44, 45, 46, 50, 52, 53, 55, 56, 59, 62]) (by kernel_rfl) (by kernel_rfl) (by kernel_rfl) ?_
      refine OpTo.goF (i := 10) (by kernel_rfl) (hk := [1]) (bk := []) (GoO.call rfl (by kernel_rfl) (by kernel_rfl) (pack_Writer_Num_ok n r_45 (wu64 ((rdL x_1.Entries x_38).Kind)) b_7 A_46 c_47) [[0], [41], [42]] [(41, 1), (42, 2)] [(1, 0)] [(2, 0)] (hks := [1, 2]) (bks := [1]) (by kernel_rfl) (by kernel_rfl) (by kernel_rfl) (.inl rfl) rfl rfl (by kernel_rfl) (by kernel_rfl) _ (fun _ _ => rfl) _ _ (fun _ _ => rfl) (fun _ _ => rfl) (fun _ _ => by kernel_rfl) (fun _ _ => by kernel_rfl) (fun r_48 x_55 => ⟨rfl, rfl, ?_⟩))
      obtain ⟨A_49, c_50⟩ := x_55
      refine GoF.shape (env' := [(1, .pointer (some ⟨b_4, 0, none⟩)), (4, .pointer (some ⟨b_7, 0, none⟩)), (44, .slice A_2 x_1.Entries.length c_3), (45, .int .i64 (x_1.Entries.length : Int)), (46, .int .i64 x_38), (50, .pointer (some ⟨b_7, 0, none⟩)), (52, .int .u64 ((rdL x_1.Entries x_38).Term)), (53, .pointer (some ⟨b_7, 0, none⟩)), (55, .int .u64 ((rdL x_1.Entries x_38).Index)), (56, .pointer (some ⟨b_7, 0, none⟩)), (59, .int .u64 (wu64 ((rdL x_1.Entries x_38).Kind))), (60, .pointer (some ⟨b_7, 0, none⟩)), (62, .string (bs ((rdL x_1.Entries x_38).Data)))]) (H' := [⟨41, b_7, [.slice A_49 r_48.b.length c_50]⟩, ⟨43, b_41, [.int .u64 ((rdL x_1.Entries x_38).Term), .int .u64 ((rdL x_1.Entries x_38).Index), .int .i64 ((rdL x_1.Entries x_38).Kind), .string (bs ((rdL x_1.Entries x_38).Data))]⟩, ⟨40, b_4, [.int .i64 x_1.Kind, .int .i64 x_1.From, .int .i64 x_1.To, .int .u64 x_1.Term, .int .u64 x_1.Index, .int .u64 x_1.Prev, .int .u64 x_1.Commit, .bool x_1.Ok, .slice A_2 x_1.Entries.length c_3, .string (bs x_1.Data)]⟩]) (B' := [Ow 42 Kd.u8 A_49 c_50 r_48.b, Rd 0 kT_api_Entry A_2 c_3 x_1.Entries]) (ks := [1, 4, 44, 45, 46, 50, 52, 53, 55, 56, 59, 60, 62]) (by kernel_rfl) (by kernel_rfl) (by kernel_rfl) ?_
      refine OpTo.goF (i := 13) (by kernel_rfl) (hk := [1]) (bk := []) (GoO.call rfl (by kernel_rfl) (by kernel_rfl) (pack_Writer_Text_ok n r_48 ((rdL x_1.Entries x_38).Data) b_7 A_49 c_50) [[0], [41], [42]] [(41, 1), (42, 2)] [(1, 0)] [(2, 0)] (hks := [1, 2]) (bks := [1]) (by kernel_rfl) (by kernel_rfl) (by kernel_rfl) (.inl rfl) rfl rfl (by kernel_rfl) (by kernel_rfl) _ (fun _ _ => rfl) _ _ (fun _ _ => rfl) (fun _ _ => rfl) (fun _ _ => by kernel_rfl) (fun _ _ => by kernel_rfl) (fun r_51 x_54 => ⟨rfl, rfl, ?_⟩))
      obtain ⟨A_52, c_53⟩ := x_54
      refine GoF.shape (env' := [(1, .pointer (some ⟨b_4, 0, none⟩)), (4, .pointer (some ⟨b_7, 0, none⟩)), (44, .slice A_2 x_1.Entries.length c_3), (45, .int .i64 (x_1.Entries.length : Int)), (46, .int .i64 x_38), (50, .pointer (some ⟨b_7, 0, none⟩)), (52, .int .u64 ((rdL x_1.Entries x_38).Term)), (53, .pointer (some ⟨b_7, 0, none⟩)), (55, .int .u64 ((rdL x_1.Entries x_38).Index)), (56, .pointer (some ⟨b_7, 0, none⟩)), (59, .int .u64 (wu64 ((rdL x_1.Entries x_38).Kind))), (60, .pointer (some ⟨b_7, 0, none⟩)), (62, .string (bs ((rdL x_1.Entries x_38).Data))), (63, .pointer (some ⟨b_7, 0, none⟩))]) (H' := [⟨41, b_7, [.slice A_52 r_51.b.length c_53]⟩, ⟨43, b_41, [.int .u64 ((rdL x_1.Entries x_38).Term), .int .u64 ((rdL x_1.Entries x_38).Index), .int .i64 ((rdL x_1.Entries x_38).Kind), .string (bs ((rdL x_1.Entries x_38).Data))]⟩, ⟨40, b_4, [.int .i64 x_1.Kind, .int .i64 x_1.From, .int .i64 x_1.To, .int .u64 x_1.Term, .int .u64 x_1.Index, .int .u64 x_1.Prev, .int .u64 x_1.Commit, .bool x_1.Ok, .slice A_2 x_1.Entries.length c_3, .string (bs x_1.Data)]⟩]) (B' := [Ow 42 Kd.u8 A_52 c_53 r_51.b, Rd 0 kT_api_Entry A_2 c_3 x_1.Entries]) (ks := [1, 4, 44, 45, 46, 50, 52, 53, 55, 56, 59, 60, 62, 63]) (by kernel_rfl) (by kernel_rfl) (by kernel_rfl) ?_
      refine GoF.done (by kernel_rfl) ?_
      refine GoO.inBlock ?_
      refine GoO.region' (is := [0, 1]) c21_28e (by kernel_rfl) ?_
      refine GoO.exec (is := [0, 1]) (hs := [.p, .p]) (rest := []) (ks := [1, 4, 44, 45, 46]) (env' := [(1, .pointer (some ⟨b_4, 0, none⟩)), (4, .pointer (some ⟨b_7, 0, none⟩)), (44, .slice A_2 x_1.Entries.length c_3), (45, .int .i64 (x_1.Entries.length : Int)), (46, .int .i64 (wi64 (x_38 + 1)))]) (H' := [⟨41, b_7, [.slice A_52 r_51.b.length c_53]⟩, ⟨43, b_41, [.int .u64 ((rdL x_1.Entries x_38).Term), .int .u64 ((rdL x_1.Entries x_38).Index), .int .i64 ((rdL x_1.Entries x_38).Kind), .string (bs ((rdL x_1.Entries x_38).Data))]⟩, ⟨40, b_4, [.int .i64 x_1.Kind, .int .i64 x_1.From, .int .i64 x_1.To, .int .u64 x_1.Term, .int .u64 x_1.Index, .int .u64 x_1.Prev, .int .u64 x_1.Commit, .bool x_1.Ok, .slice A_2 x_1.Entries.length c_3, .string (bs x_1.Data)]⟩]) (ps := []) (by kernel_rfl) trivial ?_
      refine GoO.regionEnd ?_
      refine GoO.inLoop ?_
      exact GoO.sub (ks := [1, 4, 44, 45, 46]) (hk := [2, 0]) (bk := [1, 0]) (by kernel_rfl) (by kernel_rfl) (by kernel_rfl) (ih0 r_51.b (wi64 (x_38 + 1)) A_52 c_53)
    · refine GoO.exit' c21_22e rfl ?_
      refine GoO.seq' c21_29e ?_
      refine GoO.region' (is := [0, 1, 2, 3, 4, 5, 6]) c21_30e (by kernel_rfl) ?_
      refine GoO.exec (is := [0, 1, 2]) (hs := [.p, .p, .b 0]) (rest := [3, 4, 5, 6]) (ks := [65, 67]) (env' := [(65, .pointer (some ⟨b_7, 0, none⟩)), (67, .string (bs x_1.Data))]) (H' := [⟨40, b_4, [.int .i64 x_1.Kind, .int .i64 x_1.From, .int .i64 x_1.To, .int .u64 x_1.Term, .int .u64 x_1.Index, .int .u64 x_1.Prev, .int .u64 x_1.Commit, .bool x_1.Ok, .slice A_2 x_1.Entries.length c_3, .string (bs x_1.Data)]⟩, ⟨41, b_7, [.slice A_36 f_35.length c_37]⟩]) (ps := [b_4 = b_4]) (by kernel_rfl) (And.intro rfl trivial) ?_
      refine OpTo.go (GoO.call rfl (by kernel_rfl) (by kernel_rfl) (pack_Writer_Text_ok n (⟨f_35⟩ : T_pack_Writer) x_1.Data b_7 A_36 c_37) [[0], [41], [42]] [(41, 1), (42, 2)] [(1, 1)] [(2, 1)] (hks := [0]) (bks := [0]) (by kernel_rfl) (by kernel_rfl) (by kernel_rfl) (.inl rfl) rfl rfl (by kernel_rfl) (by kernel_rfl) _ (fun _ _ => rfl) _ _ (fun _ _ => rfl) (fun _ _ => rfl) (fun _ _ => by kernel_rfl) (fun _ _ => by kernel_rfl) (fun r_58 x_63 => ?_))
      obtain ⟨A_59, c_60⟩ := x_63
      refine GoO.shape (env' := [(65, .pointer (some ⟨b_7, 0, none⟩)), (67, .string (bs x_1.Data)), (68, .pointer (some ⟨b_7, 0, none⟩))]) (H' := [⟨41, b_7, [.slice A_59 r_58.b.length c_60]⟩, ⟨40, b_4, [.int .i64 x_1.Kind, .int .i64 x_1.From, .int .i64 x_1.To, .int .u64 x_1.Term, .int .u64 x_1.Index, .int .u64 x_1.Prev, .int .u64 x_1.Commit, .bool x_1.Ok, .slice A_2 x_1.Entries.length c_3, .string (bs x_1.Data)]⟩]) (B' := [Ow 42 Kd.u8 A_59 c_60 r_58.b, Rd 0 kT_api_Entry A_2 c_3 x_1.Entries]) (ks := [65, 67, 68]) (by kernel_rfl) (by kernel_rfl) (by kernel_rfl) ?_
      refine OpTo.go (GoO.call rfl (by kernel_rfl) (by kernel_rfl) (pack_Writer_Bytes_ok n r_58 b_7 A_59 c_60) [[0], [41], [42]] [] [(1, 0)] [(2, 0)] (hks := [0, 1]) (bks := [0, 1]) (by kernel_rfl) (by kernel_rfl) (by kernel_rfl) (.inl rfl) rfl rfl (by kernel_rfl) (by kernel_rfl) _ (fun _ _ => rfl) _ _ (fun _ _ => rfl) (fun _ _ => rfl) (fun _ _ => by kernel_rfl) (fun _ _ => by kernel_rfl) (fun r_61 x_62 => ?_))
      refine GoO.shape (env' := [(65, .pointer (some ⟨b_7, 0, none⟩)), (67, .string (bs x_1.Data)), (68, .pointer (some ⟨b_7, 0, none⟩)), (69, .string (bs r_61))]) (H' := [⟨41, b_7, [.slice A_59 r_58.b.length c_60]⟩, ⟨40, b_4, [.int .i64 x_1.Kind, .int .i64 x_1.From, .int .i64 x_1.To, .int .u64 x_1.Term, .int .u64 x_1.Index, .int .u64 x_1.Prev, .int .u64 x_1.Commit, .bool x_1.Ok, .slice A_2 x_1.Entries.length c_3, .string (bs x_1.Data)]⟩]) (B' := [Ow 42 Kd.u8 A_59 c_60 r_58.b, Rd 0 kT_api_Entry A_2 c_3 x_1.Entries]) (ks := [65, 67, 68, 69]) (by kernel_rfl) (by kernel_rfl) (by kernel_rfl) ?_
      refine GoO.exec (is := [5, 6]) (hs := [.p, .p]) (rest := []) (ks := [2, 3]) (env' := [(2, .string (bs r_61)), (3, .int .i64 0)]) (H' := [⟨41, b_7, [.slice A_59 r_58.b.length c_60]⟩, ⟨40, b_4, [.int .i64 x_1.Kind, .int .i64 x_1.From, .int .i64 x_1.To, .int .u64 x_1.Term, .int .u64 x_1.Index, .int .u64 x_1.Prev, .int .u64 x_1.Commit, .bool x_1.Ok, .slice A_2 x_1.Entries.length c_3, .string (bs x_1.Data)]⟩]) (ps := []) (by kernel_rfl) trivial ?_
      refine GoO.regionEnd ?_
      exact GoO.ret' (h := c21_31e) (hs := []) (ps := []) (hk := []) (bk := []) Try.func21 () (by kernel_rfl) trivial (by kernel_rfl) (by kernel_rfl)
theorem letter_Encode_ok (n : Nat) (x_1 : T_api_Letter) (A_2 : Option Addr) (c_3 : Nat) :
    Meets Try.prog 21 [.agg ⟨[.int .i64 x_1.Kind, .int .i64 x_1.From, .int .i64 x_1.To, .int .u64 x_1.Term, .int .u64 x_1.Index, .int .u64 x_1.Prev, .int .u64 x_1.Commit, .bool x_1.Ok, .slice A_2 x_1.Entries.length c_3, .string (bs x_1.Data)]⟩] 0 [] [] [Rd 0 kT_api_Entry A_2 c_3 x_1.Entries] (letter_Encode.f n x_1) (letter_Encode.R A_2 c_3) := by
  refine Meets.of (c := c21_0) (n := 70) Try.func21 (by kernel_rfl) (by kernel_rfl) (by kernel_rfl) fun w0 S0 => ?_
  unfold letter_Encode.f
  show GoO (letter_Encode.cx A_2 c_3 w0 S0) [(0, .agg ⟨[.int .i64 x_1.Kind, .int .i64 x_1.From, .int .i64 x_1.To, .int .u64 x_1.Term, .int .u64 x_1.Index, .int .u64 x_1.Prev, .int .u64 x_1.Commit, .bool x_1.Ok, .slice A_2 x_1.Entries.length c_3, .string (bs x_1.Data)]⟩)] [] [Rd 0 kT_api_Entry A_2 c_3 x_1.Entries] [.code c21_0] _
  refine GoO.seq' c21_0e ?_
  refine GoO.region' (is := [0, 1, 2]) c21_1e (by kernel_rfl) ?_
  refine OpTo.go (GoO.new rfl 40 (cs := [.int .i64 x_1.Kind, .int .i64 x_1.From, .int .i64 x_1.To, .int .u64 x_1.Term, .int .u64 x_1.Index, .int .u64 x_1.Prev, .int .u64 x_1.Commit, .bool x_1.Ok, .slice A_2 x_1.Entries.length c_3, .string (bs x_1.Data)]) (by kernel_rfl) _ (fun _ => rfl) (fun b_4 => ?_))
  refine GoO.exec (is := [1, 2]) (hs := [.p, .p]) (rest := []) (ks := [1]) (env' := [(1, .pointer (some ⟨b_4, 0, none⟩))]) (H' := [⟨40, b_4, [.int .i64 x_1.Kind, .int .i64 x_1.From, .int .i64 x_1.To, .int .u64 x_1.Term, .int .u64 x_1.Index, .int .u64 x_1.Prev, .int .u64 x_1.Commit, .bool x_1.Ok, .slice A_2 x_1.Entries.length c_3, .string (bs x_1.Data)]⟩]) (ps := []) (by kernel_rfl) trivial ?_
  refine GoO.regionEnd ?_
  refine GoO.seq' c21_2e ?_
  refine GoO.seq' c21_3e ?_
  refine GoO.region' (is := [0, 1, 2]) c21_4e (by kernel_rfl) ?_
  refine GoO.exec (is := [0]) (hs := [.b 0]) (rest := [1, 2]) (ks := [1, 7]) (env' := [(1, .pointer (some ⟨b_4, 0, none⟩)), (7, .agg ⟨[.int .i64 x_1.Kind, .int .i64 x_1.From, .int .i64 x_1.To, .int .u64 x_1.Term, .int .u64 x_1.Index, .int .u64 x_1.Prev, .int .u64 x_1.Commit, .bool x_1.Ok, .slice A_2 x_1.Entries.length c_3, .string (bs x_1.Data)]⟩)]) (H' := [⟨40, b_4, [.int .i64 x_1.Kind, .int .i64 x_1.From, .int .i64 x_1.To, .int .u64 x_1.Term, .int .u64 x_1.Index, .int .u64 x_1.Prev, .int .u64 x_1.Commit, .bool x_1.Ok, .slice A_2 x_1.Entries.length c_3, .string (bs x_1.Data)]⟩]) (ps := [b_4 = b_4]) (by kernel_rfl) (And.intro rfl trivial) ?_
  refine OpTo.go (GoO.call rfl (by kernel_rfl) (by kernel_rfl) (letter_May_ok n x_1 A_2 c_3) [[0]] [] [] [(0, 0)] (hks := [0]) (bks := [0]) (by kernel_rfl) (by kernel_rfl) (by kernel_rfl) (.inl rfl) rfl rfl (by kernel_rfl) (by kernel_rfl) _ (fun _ _ => rfl) _ _ (fun _ _ => rfl) (fun _ _ => rfl) (fun _ _ => by kernel_rfl) (fun _ _ => by kernel_rfl) (fun r_5 x_73 => ?_))
  refine GoO.shape (env' := [(1, .pointer (some ⟨b_4, 0, none⟩)), (7, .agg ⟨[.int .i64 x_1.Kind, .int .i64 x_1.From, .int .i64 x_1.To, .int .u64 x_1.Term, .int .u64 x_1.Index, .int .u64 x_1.Prev, .int .u64 x_1.Commit, .bool x_1.Ok, .slice A_2 x_1.Entries.length c_3, .string (bs x_1.Data)]⟩), (8, .bool r_5)]) (H' := [⟨40, b_4, [.int .i64 x_1.Kind, .int .i64 x_1.From, .int .i64 x_1.To, .int .u64 x_1.Term, .int .u64 x_1.Index, .int .u64 x_1.Prev, .int .u64 x_1.Commit, .bool x_1.Ok, .slice A_2 x_1.Entries.length c_3, .string (bs x_1.Data)]⟩]) (B' := [Rd 0 kT_api_Entry A_2 c_3 x_1.Entries]) (ks := [1, 7, 8]) (by kernel_rfl) (by kernel_rfl) (by kernel_rfl) ?_
  refine GoO.exec (is := [2]) (hs := [.p]) (rest := []) (ks := [1, 9]) (env' := [(1, .pointer (some ⟨b_4, 0, none⟩)), (9, .bool (!r_5))]) (H' := [⟨40, b_4, [.int .i64 x_1.Kind, .int .i64 x_1.From, .int .i64 x_1.To, .int .u64 x_1.Term, .int .u64 x_1.Index, .int .u64 x_1.Prev, .int .u64 x_1.Commit, .bool x_1.Ok, .slice A_2 x_1.Entries.length c_3, .string (bs x_1.Data)]⟩]) (ps := []) (by kernel_rfl) trivial ?_
  refine GoO.regionEnd ?_
  refine GoO.ite' c21_5e (by kernel_rfl) (fun h6 => ?_) (fun h6 => ?_)
  · refine GoO.seq' c21_6e ?_
    refine GoO.region' (is := [0, 1]) c21_7e (by kernel_rfl) ?_
    refine GoO.exec (is := [0, 1]) (hs := [.p, .p]) (rest := []) (ks := [2, 3]) (env' := [(2, .string (bs [])), (3, .int .i64 1)]) (H' := [⟨40, b_4, [.int .i64 x_1.Kind, .int .i64 x_1.From, .int .i64 x_1.To, .int .u64 x_1.Term, .int .u64 x_1.Index, .int .u64 x_1.Prev, .int .u64 x_1.Commit, .bool x_1.Ok, .slice A_2 x_1.Entries.length c_3, .string (bs x_1.Data)]⟩]) (ps := []) (by kernel_rfl) trivial ?_
    refine GoO.regionEnd ?_
    exact GoO.ret' (h := c21_8e) (hs := []) (ps := []) (hk := []) (bk := []) Try.func21 () (by kernel_rfl) trivial (by kernel_rfl) (by kernel_rfl)
  · refine GoO.skip' c21_9e ?_
    refine GoO.seq' c21_10e ?_
    refine GoO.draw c21_11e (by kernel_rfl) [33] [⟨40, b_4, [.int .i64 x_1.Kind, .int .i64 x_1.From, .int .i64 x_1.To, .int .u64 x_1.Term, .int .u64 x_1.Index, .int .u64 x_1.Prev, .int .u64 x_1.Commit, .bool x_1.Ok, .slice A_2 x_1.Entries.length c_3, .string (bs x_1.Data)]⟩] [] (n := 34) (by kernel_rfl) ?_
    simp only [List.replicate]
    refine GoF.take [1, 2, 3, 5, 6, 7, 9, 10, 11, 13, 14, 16, 17, 19, 20, 22, 23, 25, 26, 28, 29, 30, 31] [.p, .b 0, .p, .p, .b 0, .p, .p, .b 0, .p, .p, .b 0, .p, .b 0, .p, .b 0, .p, .b 0, .p, .b 0, .p, .b 0, .p, .p] (ks := [1, 13, 17, 21, 24, 27, 30, 33, 36, 41]) (fu := 11) (li := [false, true, true, true, false, true, true, true, false, true, true, true, false, true, true, false, true, true, false, true, true, false, true, true, false, true, true, false, true, true, true, true, false, false]) (env' := [(1, .pointer (some ⟨b_4, 0, none⟩)), (13, .int .u64 (wu64 x_1.Kind)), (17, .int .u64 (wu64 x_1.From)), (21, .int .u64 (wu64 x_1.To)), (24, .int .u64 x_1.Term), (27, .int .u64 x_1.Index), (30, .int .u64 x_1.Prev), (33, .int .u64 x_1.Commit), (36, .bool x_1.Ok), (41, .int .u64 (wu64 (x_1.Entries.length : Int)))]) (ps := [b_4 = b_4, b_4 = b_4, b_4 = b_4, b_4 = b_4, b_4 = b_4, b_4 = b_4, b_4 = b_4, b_4 = b_4, b_4 = b_4]) (hk := [0]) (bk := []) (by kernel_rfl) (And.intro rfl (And.intro rfl (And.intro rfl (And.intro rfl (And.intro rfl (And.intro rfl (And.intro rfl (And.intro rfl (And.intro rfl trivial))))))))) rfl rfl ?_
    refine OpTo.goF (i := 0) (by kernel_rfl) (hk := [1]) (bk := []) (GoO.new rfl 41 (cs := [.slice none ([] : List UInt8).length 0]) (by kernel_rfl) _ (fun _ => rfl) (fun b_7 => ⟨rfl, rfl, ?_⟩))
    refine GoF.nilOwn Kd.u8 42 ?_
    refine OpTo.goF (i := 4) (by kernel_rfl) (hk := [1]) (bk := []) (GoO.call rfl (by kernel_rfl) (by kernel_rfl) (pack_Writer_Num_ok n (⟨[]⟩ : T_pack_Writer) (wu64 x_1.Kind) b_7 none 0) [[0], [41], [42]] [(41, 1), (42, 2)] [(1, 0)] [(2, 0)] (hks := [1]) (bks := [1]) (by kernel_rfl) (by kernel_rfl) (by kernel_rfl) (.inl rfl) rfl rfl (by kernel_rfl) (by kernel_rfl) _ (fun _ _ => rfl) _ _ (fun _ _ => rfl) (fun _ _ => rfl) (fun _ _ => by kernel_rfl) (fun _ _ => by kernel_rfl) (fun r_8 x_72 => ⟨rfl, rfl, ?_⟩))
    obtain ⟨A_9, c_10⟩ := x_72
    refine GoF.shape (env' := [(1, .pointer (some ⟨b_4, 0, none⟩)), (10, .pointer (some ⟨b_7, 0, none⟩)), (13, .int .u64 (wu64 x_1.Kind)), (14, .pointer (some ⟨b_7, 0, none⟩)), (17, .int .u64 (wu64 x_1.From)), (21, .int .u64 (wu64 x_1.To)), (24, .int .u64 x_1.Term), (27, .int .u64 x_1.Index), (30, .int .u64 x_1.Prev), (33, .int .u64 x_1.Commit), (36, .bool x_1.Ok), (41, .int .u64 (wu64 (x_1.Entries.length : Int)))]) (H' := [⟨41, b_7, [.slice A_9 r_8.b.length c_10]⟩, ⟨40, b_4, [.int .i64 x_1.Kind, .int .i64 x_1.From, .int .i64 x_1.To, .int .u64 x_1.Term, .int .u64 x_1.Index, .int .u64 x_1.Prev, .int .u64 x_1.Commit, .bool x_1.Ok, .slice A_2 x_1.Entries.length c_3, .string (bs x_1.Data)]⟩]) (B' := [Ow 42 Kd.u8 A_9 c_10 r_8.b, Rd 0 kT_api_Entry A_2 c_3 x_1.Entries]) (ks := [1, 10, 13, 14, 17, 21, 24, 27, 30, 33, 36, 41]) (by kernel_rfl) (by kernel_rfl) (by kernel_rfl) ?_
    refine OpTo.goF (i := 8) (by kernel_rfl) (hk := [1]) (bk := []) (GoO.call rfl (by kernel_rfl) (by kernel_rfl) (pack_Writer_Num_ok n r_8 (wu64 x_1.From) b_7 A_9 c_10) [[0], [41], [42]] [(41, 1), (42, 2)] [(1, 0)] [(2, 0)] (hks := [1]) (bks := [1]) (by kernel_rfl) (by kernel_rfl) (by kernel_rfl) (.inl rfl) rfl rfl (by kernel_rfl) (by kernel_rfl) _ (fun _ _ => rfl) _ _ (fun _ _ => rfl) (fun _ _ => rfl) (fun _ _ => by kernel_rfl) (fun _ _ => by kernel_rfl) (fun r_11 x_71 => ⟨rfl, rfl, ?_⟩))
    obtain ⟨A_12, c_13⟩ := x_71
    refine GoF.shape (env' := [(1, .pointer (some ⟨b_4, 0, none⟩)), (10, .pointer (some ⟨b_7, 0, none⟩)), (13, .int .u64 (wu64 x_1.Kind)), (14, .pointer (some ⟨b_7, 0, none⟩)), (17, .int .u64 (wu64 x_1.From)), (18, .pointer (some ⟨b_7, 0, none⟩)), (21, .int .u64 (wu64 x_1.To)), (24, .int .u64 x_1.Term), (27, .int .u64 x_1.Index), (30, .int .u64 x_1.Prev), (33, .int .u64 x_1.Commit), (36, .bool x_1.Ok), (41, .int .u64 (wu64 (x_1.Entries.length : Int)))]) (H' := [⟨41, b_7, [.slice A_12 r_11.b.length c_13]⟩, ⟨40, b_4, [.int .i64 x_1.Kind, .int .i64 x_1.From, .int .i64 x_1.To, .int .u64 x_1.Term, .int .u64 x_1.Index, .int .u64 x_1.Prev, .int .u64 x_1.Commit, .bool x_1.Ok, .slice A_2 x_1.Entries.length c_3, .string (bs x_1.Data)]⟩]) (B' := [Ow 42 Kd.u8 A_12 c_13 r_11.b, Rd 0 kT_api_Entry A_2 c_3 x_1.Entries]) (ks := [1, 10, 13, 14, 17, 18, 21, 24, 27, 30, 33, 36, 41]) (by kernel_rfl) (by kernel_rfl) (by kernel_rfl) ?_
    refine OpTo.goF (i := 12) (by kernel_rfl) (hk := [1]) (bk := []) (GoO.call rfl (by kernel_rfl) (by kernel_rfl) (pack_Writer_Num_ok n r_11 (wu64 x_1.To) b_7 A_12 c_13) [[0], [41], [42]] [(41, 1), (42, 2)] [(1, 0)] [(2, 0)] (hks := [1]) (bks := [1]) (by kernel_rfl) (by kernel_rfl) (by kernel_rfl) (.inl rfl) rfl rfl (by kernel_rfl) (by kernel_rfl) _ (fun _ _ => rfl) _ _ (fun _ _ => rfl) (fun _ _ => rfl) (fun _ _ => by kernel_rfl) (fun _ _ => by kernel_rfl) (fun r_14 x_70 => ⟨rfl, rfl, ?_⟩))
    obtain ⟨A_15, c_16⟩ := x_70
    refine GoF.shape (env' := [(1, .pointer (some ⟨b_4, 0, none⟩)), (10, .pointer (some ⟨b_7, 0, none⟩)), (13, .int .u64 (wu64 x_1.Kind)), (14, .pointer (some ⟨b_7, 0, none⟩)), (17, .int .u64 (wu64 x_1.From)), (18, .pointer (some ⟨b_7, 0, none⟩)), (21, .int .u64 (wu64 x_1.To)), (22, .pointer (some ⟨b_7, 0, none⟩)), (24, .int .u64 x_1.Term), (27, .int .u64 x_1.Index), (30, .int .u64 x_1.Prev), (33, .int .u64 x_1.Commit), (36, .bool x_1.Ok), (41, .int .u64 (wu64 (x_1.Entries.length : Int)))]) (H' := [⟨41, b_7, [.slice A_15 r_14.b.length c_16]⟩, ⟨40, b_4, [.int .i64 x_1.Kind, .int .i64 x_1.From, .int .i64 x_1.To, .int .u64 x_1.Term, .int .u64 x_1.Index, .int .u64 x_1.Prev, .int .u64 x_1.Commit, .bool x_1.Ok, .slice A_2 x_1.Entries.length c_3, .string (bs x_1.Data)]⟩]) (B' := [Ow 42 Kd.u8 A_15 c_16 r_14.b, Rd 0 kT_api_Entry A_2 c_3 x_1.Entries]) (ks := [1, 10, 13, 14, 17, 18, 21, 22, 24, 27, 30, 33, 36, 41]) (by kernel_rfl) (by kernel_rfl) (by kernel_rfl) ?_
    refine OpTo.goF (i := 15) (by kernel_rfl) (hk := [1]) (bk := []) (GoO.call rfl (by kernel_rfl) (by kernel_rfl) (pack_Writer_Num_ok n r_14 x_1.Term b_7 A_15 c_16) [[0], [41], [42]] [(41, 1), (42, 2)] [(1, 0)] [(2, 0)] (hks := [1]) (bks := [1]) (by kernel_rfl) (by kernel_rfl) (by kernel_rfl) (.inl rfl) rfl rfl (by kernel_rfl) (by kernel_rfl) _ (fun _ _ => rfl) _ _ (fun _ _ => rfl) (fun _ _ => rfl) (fun _ _ => by kernel_rfl) (fun _ _ => by kernel_rfl) (fun r_17 x_69 => ⟨rfl, rfl, ?_⟩))
    obtain ⟨A_18, c_19⟩ := x_69
    refine GoF.shape (env' := [(1, .pointer (some ⟨b_4, 0, none⟩)), (10, .pointer (some ⟨b_7, 0, none⟩)), (13, .int .u64 (wu64 x_1.Kind)), (14, .pointer (some ⟨b_7, 0, none⟩)), (17, .int .u64 (wu64 x_1.From)), (18, .pointer (some ⟨b_7, 0, none⟩)), (21, .int .u64 (wu64 x_1.To)), (22, .pointer (some ⟨b_7, 0, none⟩)), (24, .int .u64 x_1.Term), (25, .pointer (some ⟨b_7, 0, none⟩)), (27, .int .u64 x_1.Index), (30, .int .u64 x_1.Prev), (33, .int .u64 x_1.Commit), (36, .bool x_1.Ok), (41, .int .u64 (wu64 (x_1.Entries.length : Int)))]) (H' := [⟨41, b_7, [.slice A_18 r_17.b.length c_19]⟩, ⟨40, b_4, [.int .i64 x_1.Kind, .int .i64 x_1.From, .int .i64 x_1.To, .int .u64 x_1.Term, .int .u64 x_1.Index, .int .u64 x_1.Prev, .int .u64 x_1.Commit, .bool x_1.Ok, .slice A_2 x_1.Entries.length c_3, .string (bs x_1.Data)]⟩]) (B' := [Ow 42 Kd.u8 A_18 c_19 r_17.b, Rd 0 kT_api_Entry A_2 c_3 x_1.Entries]) (ks := [1, 10, 13, 14, 17, 18, 21, 22, 24, 25, 27, 30, 33, 36, 41]) (by kernel_rfl) (by kernel_rfl) (by kernel_rfl) ?_
    refine OpTo.goF (i := 18) (by kernel_rfl) (hk := [1]) (bk := []) (GoO.call rfl (by kernel_rfl) (by kernel_rfl) (pack_Writer_Num_ok n r_17 x_1.Index b_7 A_18 c_19) [[0], [41], [42]] [(41, 1), (42, 2)] [(1, 0)] [(2, 0)] (hks := [1]) (bks := [1]) (by kernel_rfl) (by kernel_rfl) (by kernel_rfl) (.inl rfl) rfl rfl (by kernel_rfl) (by kernel_rfl) _ (fun _ _ => rfl) _ _ (fun _ _ => rfl) (fun _ _ => rfl) (fun _ _ => by kernel_rfl) (fun _ _ => by kernel_rfl) (fun r_20 x_68 => ⟨rfl, rfl, ?_⟩))
    obtain ⟨A_21, c_22⟩ := x_68
    refine GoF.shape (env' := [(1, .pointer (some ⟨b_4, 0, none⟩)), (10, .pointer (some ⟨b_7, 0, none⟩)), (13, .int .u64 (wu64 x_1.Kind)), (14, .pointer (some ⟨b_7, 0, none⟩)), (17, .int .u64 (wu64 x_1.From)), (18, .pointer (some ⟨b_7, 0, none⟩)), (21, .int .u64 (wu64 x_1.To)), (22, .pointer (some ⟨b_7, 0, none⟩)), (24, .int .u64 x_1.Term), (25, .pointer (some ⟨b_7, 0, none⟩)), (27, .int .u64 x_1.Index), (28, .pointer (some ⟨b_7, 0, none⟩)), (30, .int .u64 x_1.Prev), (33, .int .u64 x_1.Commit), (36, .bool x_1.Ok), (41, .int .u64 (wu64 (x_1.Entries.length : Int)))]) (H' := [⟨41, b_7, [.slice A_21 r_20.b.length c_22]⟩, ⟨40, b_4, [.int .i64 x_1.Kind, .int .i64 x_1.From, .int .i64 x_1.To, .int .u64 x_1.Term, .int .u64 x_1.Index, .int .u64 x_1.Prev, .int .u64 x_1.Commit, .bool x_1.Ok, .slice A_2 x_1.Entries.length c_3, .string (bs x_1.Data)]⟩]) (B' := [Ow 42 Kd.u8 A_21 c_22 r_20.b, Rd 0 kT_api_Entry A_2 c_3 x_1.Entries]) (ks := [1, 10, 13, 14, 17, 18, 21, 22, 24, 25, 27, 28, 30, 33, 36, 41]) (by kernel_rfl) (by kernel_rfl) (by kernel_rfl) ?_
    refine OpTo.goF (i := 21) (by kernel_rfl) (hk := [1]) (bk := []) (GoO.call rfl (by kernel_rfl) (by kernel_rfl) (pack_Writer_Num_ok n r_20 x_1.Prev b_7 A_21 c_22) [[0], [41], [42]] [(41, 1), (42, 2)] [(1, 0)] [(2, 0)] (hks := [1]) (bks := [1]) (by kernel_rfl) (by kernel_rfl) (by kernel_rfl) (.inl rfl) rfl rfl (by kernel_rfl) (by kernel_rfl) _ (fun _ _ => rfl) _ _ (fun _ _ => rfl) (fun _ _ => rfl) (fun _ _ => by kernel_rfl) (fun _ _ => by kernel_rfl) (fun r_23 x_67 => ⟨rfl, rfl, ?_⟩))
    obtain ⟨A_24, c_25⟩ := x_67
    refine GoF.shape (env' := [(1, .pointer (some ⟨b_4, 0, none⟩)), (10, .pointer (some ⟨b_7, 0, none⟩)), (13, .int .u64 (wu64 x_1.Kind)), (14, .pointer (some ⟨b_7, 0, none⟩)), (17, .int .u64 (wu64 x_1.From)), (18, .pointer (some ⟨b_7, 0, none⟩)), (21, .int .u64 (wu64 x_1.To)), (22, .pointer (some ⟨b_7, 0, none⟩)), (24, .int .u64 x_1.Term), (25, .pointer (some ⟨b_7, 0, none⟩)), (27, .int .u64 x_1.Index), (28, .pointer (some ⟨b_7, 0, none⟩)), (30, .int .u64 x_1.Prev), (31, .pointer (some ⟨b_7, 0, none⟩)), (33, .int .u64 x_1.Commit), (36, .bool x_1.Ok), (41, .int .u64 (wu64 (x_1.Entries.length : Int)))]) (H' := [⟨41, b_7, [.slice A_24 r_23.b.length c_25]⟩, ⟨40, b_4, [.int .i64 x_1.Kind, .int .i64 x_1.From, .int .i64 x_1.To, .int .u64 x_1.Term, .int .u64 x_1.Index, .int .u64 x_1.Prev, .int .u64 x_1.Commit, .bool x_1.Ok, .slice A_2 x_1.Entries.length c_3, .string (bs x_1.Data)]⟩]) (B' := [Ow 42 Kd.u8 A_24 c_25 r_23.b, Rd 0 kT_api_Entry A_2 c_3 x_1.Entries]) (ks := [1, 10, 13, 14, 17, 18, 21, 22, 24, 25, 27, 28, 30, 31, 33, 36, 41]) (by kernel_rfl) (by kernel_rfl) (by kernel_rfl) ?_
    refine OpTo.goF (i := 24) (by kernel_rfl) (hk := [1]) (bk := []) (GoO.call rfl (by kernel_rfl) (by kernel_rfl) (pack_Writer_Num_ok n r_23 x_1.Commit b_7 A_24 c_25) [[0], [41], [42]] [(41, 1), (42, 2)] [(1, 0)] [(2, 0)] (hks := [1]) (bks := [1]) (by kernel_rfl) (by kernel_rfl) (by kernel_rfl) (.inl rfl) rfl rfl (by kernel_rfl) (by kernel_rfl) _ (fun _ _ => rfl) _ _ (fun _ _ => rfl) (fun _ _ => rfl) (fun _ _ => by kernel_rfl) (fun _ _ => by kernel_rfl) (fun r_26 x_66 => ⟨rfl, rfl, ?_⟩))
    obtain ⟨A_27, c_28⟩ := x_66
    refine GoF.shape (env' := [(1, .pointer (some ⟨b_4, 0, none⟩)), (10, .pointer (some ⟨b_7, 0, none⟩)), (13, .int .u64 (wu64 x_1.Kind)), (14, .pointer (some ⟨b_7, 0, none⟩)), (17, .int .u64 (wu64 x_1.From)), (18, .pointer (some ⟨b_7, 0, none⟩)), (21, .int .u64 (wu64 x_1.To)), (22, .pointer (some ⟨b_7, 0, none⟩)), (24, .int .u64 x_1.Term), (25, .pointer (some ⟨b_7, 0, none⟩)), (27, .int .u64 x_1.Index), (28, .pointer (some ⟨b_7, 0, none⟩)), (30, .int .u64 x_1.Prev), (31, .pointer (some ⟨b_7, 0, none⟩)), (33, .int .u64 x_1.Commit), (34, .pointer (some ⟨b_7, 0, none⟩)), (36, .bool x_1.Ok), (41, .int .u64 (wu64 (x_1.Entries.length : Int)))]) (H' := [⟨41, b_7, [.slice A_27 r_26.b.length c_28]⟩, ⟨40, b_4, [.int .i64 x_1.Kind, .int .i64 x_1.From, .int .i64 x_1.To, .int .u64 x_1.Term, .int .u64 x_1.Index, .int .u64 x_1.Prev, .int .u64 x_1.Commit, .bool x_1.Ok, .slice A_2 x_1.Entries.length c_3, .string (bs x_1.Data)]⟩]) (B' := [Ow 42 Kd.u8 A_27 c_28 r_26.b, Rd 0 kT_api_Entry A_2 c_3 x_1.Entries]) (ks := [1, 10, 13, 14, 17, 18, 21, 22, 24, 25, 27, 28, 30, 31, 33, 34, 36, 41]) (by kernel_rfl) (by kernel_rfl) (by kernel_rfl) ?_
    refine OpTo.goF (i := 27) (by kernel_rfl) (hk := [1]) (bk := []) (GoO.call rfl (by kernel_rfl) (by kernel_rfl) (pack_Writer_Bool_ok n r_26 x_1.Ok b_7 A_27 c_28) [[0], [41], [42]] [(41, 1), (42, 2)] [(1, 0)] [(2, 0)] (hks := [1]) (bks := [1]) (by kernel_rfl) (by kernel_rfl) (by kernel_rfl) (.inl rfl) rfl rfl (by kernel_rfl) (by kernel_rfl) _ (fun _ _ => rfl) _ _ (fun _ _ => rfl) (fun _ _ => rfl) (fun _ _ => by kernel_rfl) (fun _ _ => by kernel_rfl) (fun r_29 x_65 => ⟨rfl, rfl, ?_⟩))
    obtain ⟨A_30, c_31⟩ := x_65
    refine GoF.shape (env' := [(1, .pointer (some ⟨b_4, 0, none⟩)), (10, .pointer (some ⟨b_7, 0, none⟩)), (13, .int .u64 (wu64 x_1.Kind)), (14, .pointer (some ⟨b_7, 0, none⟩)), (17, .int .u64 (wu64 x_1.From)), (18, .pointer (some ⟨b_7, 0, none⟩)), (21, .int .u64 (wu64 x_1.To)), (22, .pointer (some ⟨b_7, 0, none⟩)), (24, .int .u64 x_1.Term), (25, .pointer (some ⟨b_7, 0, none⟩)), (27, .int .u64 x_1.Index), (28, .pointer (some ⟨b_7, 0, none⟩)), (30, .int .u64 x_1.Prev), (31, .pointer (some ⟨b_7, 0, none⟩)), (33, .int .u64 x_1.Commit), (34, .pointer (some ⟨b_7, 0, none⟩)), (36, .bool x_1.Ok), (37, .pointer (some ⟨b_7, 0, none⟩)), (41, .int .u64 (wu64 (x_1.Entries.length : Int)))]) (H' := [⟨41, b_7, [.slice A_30 r_29.b.length c_31]⟩, ⟨40, b_4, [.int .i64 x_1.Kind, .int .i64 x_1.From, .int .i64 x_1.To, .int .u64 x_1.Term, .int .u64 x_1.Index, .int .u64 x_1.Prev, .int .u64 x_1.Commit, .bool x_1.Ok, .slice A_2 x_1.Entries.length c_3, .string (bs x_1.Data)]⟩]) (B' := [Ow 42 Kd.u8 A_30 c_31 r_29.b, Rd 0 kT_api_Entry A_2 c_3 x_1.Entries]) (ks := [1, 10, 13, 14, 17, 18, 21, 22, 24, 25, 27, 28, 30, 31, 33, 34, 36, 37, 41]) (by kernel_rfl) (by kernel_rfl) (by kernel_rfl) ?_
    refine OpTo.goF (i := 32) (by kernel_rfl) (hk := [1]) (bk := []) (GoO.call rfl (by kernel_rfl) (by kernel_rfl) (pack_Writer_Num_ok n r_29 (wu64 (x_1.Entries.length : Int)) b_7 A_30 c_31) [[0], [41], [42]] [(41, 1), (42, 2)] [(1, 0)] [(2, 0)] (hks := [1]) (bks := [1]) (by kernel_rfl) (by kernel_rfl) (by kernel_rfl) (.inl rfl) rfl rfl (by kernel_rfl) (by kernel_rfl) _ (fun _ _ => rfl) _ _ (fun _ _ => rfl) (fun _ _ => rfl) (fun _ _ => by kernel_rfl) (fun _ _ => by kernel_rfl) (fun r_32 x_64 => ⟨rfl, rfl, ?_⟩))
    obtain ⟨A_33, c_34⟩ := x_64
    refine GoF.shape (env' := [(1, .pointer (some ⟨b_4, 0, none⟩)), (10, .pointer (some ⟨b_7, 0, none⟩)), (13, .int .u64 (wu64 x_1.Kind)), (14, .pointer (some ⟨b_7, 0, none⟩)), (17, .int .u64 (wu64 x_1.From)), (18, .pointer (some ⟨b_7, 0, none⟩)), (21, .int .u64 (wu64 x_1.To)), (22, .pointer (some ⟨b_7, 0, none⟩)), (24, .int .u64 x_1.Term), (25, .pointer (some ⟨b_7, 0, none⟩)), (27, .int .u64 x_1.Index), (28, .pointer (some ⟨b_7, 0, none⟩)), (30, .int .u64 x_1.Prev), (31, .pointer (some ⟨b_7, 0, none⟩)), (33, .int .u64 x_1.Commit), (34, .pointer (some ⟨b_7, 0, none⟩)), (36, .bool x_1.Ok), (37, .pointer (some ⟨b_7, 0, none⟩)), (41, .int .u64 (wu64 (x_1.Entries.length : Int))), (42, .pointer (some ⟨b_7, 0, none⟩))]) (H' := [⟨41, b_7, [.slice A_33 r_32.b.length c_34]⟩, ⟨40, b_4, [.int .i64 x_1.Kind, .int .i64 x_1.From, .int .i64 x_1.To, .int .u64 x_1.Term, .int .u64 x_1.Index, .int .u64 x_1.Prev, .int .u64 x_1.Commit, .bool x_1.Ok, .slice A_2 x_1.Entries.length c_3, .string (bs x_1.Data)]⟩]) (B' := [Ow 42 Kd.u8 A_33 c_34 r_32.b, Rd 0 kT_api_Entry A_2 c_3 x_1.Entries]) (ks := [1, 10, 13, 14, 17, 18, 21, 22, 24, 25, 27, 28, 30, 31, 33, 34, 36, 37, 41, 42]) (by kernel_rfl) (by kernel_rfl) (by kernel_rfl) ?_
    refine GoF.fin1 (i := 33) (hint := .p) (ps := []) (hk := []) (bk := []) (by kernel_rfl) rfl trivial (.inl rfl) ?_
    refine GoF.done (by kernel_rfl) ?_
    refine GoO.seq' c21_12e ?_
    refine GoO.seq' c21_13e ?_
    refine GoO.region' (is := [0, 1, 2, 3]) c21_14e (by kernel_rfl) ?_
    refine GoO.exec (is := [0, 1, 2, 3]) (hs := [.p, .b 1, .p, .p]) (rest := []) (ks := [1, 4, 44, 45, 46]) (env' := [(1, .pointer (some ⟨b_4, 0, none⟩)), (4, .pointer (some ⟨b_7, 0, none⟩)), (44, .slice A_2 x_1.Entries.length c_3), (45, .int .i64 (x_1.Entries.length : Int)), (46, .int .i64 0)]) (H' := [⟨41, b_7, [.slice A_33 r_32.b.length c_34]⟩, ⟨40, b_4, [.int .i64 x_1.Kind, .int .i64 x_1.From, .int .i64 x_1.To, .int .u64 x_1.Term, .int .u64 x_1.Index, .int .u64 x_1.Prev, .int .u64 x_1.Commit, .bool x_1.Ok, .slice A_2 x_1.Entries.length c_3, .string (bs x_1.Data)]⟩]) (ps := [b_4 = b_4]) (by kernel_rfl) (And.intro rfl trivial) ?_
    refine GoO.regionEnd ?_
    refine GoO.block' c21_15e ?_
    refine GoO.loop' c21_16e ?_
    exact GoO.sub (ks := [1, 4, 44, 45, 46]) (hk := [1, 0]) (bk := [1, 0]) (by kernel_rfl) (by kernel_rfl) (by kernel_rfl) (letter_Encode_l0_ok n x_1 A_2 c_3 b_4 b_7 w0 S0 n r_32.b 0 A_33 c_34)

/-! tontine/tontinelaw11.begun -/
noncomputable def c20_0 : Code := bodyOf Try.f20
noncomputable def c20_1 : Code := cdL c20_0
noncomputable def c20_2 : Code := cdR c20_0
noncomputable def c20_3 : Code := cdL c20_2
noncomputable def c20_4 : Code := cdR c20_2
noncomputable def c20_5 : Code := cdL c20_4
noncomputable def c20_6 : Code := cdR c20_4
noncomputable def r20_1 : Array Oper := cdO c20_1
noncomputable def r20_3 : Array Oper := cdO c20_3
noncomputable def r20_5 : Array Oper := cdO c20_5
theorem c20_0e : c20_0 = .seq c20_1 c20_2 := by kernel_rfl
theorem c20_1e : c20_1 = .region 0 r20_1 false := by kernel_rfl
theorem c20_2e : c20_2 = .seq c20_3 c20_4 := by kernel_rfl
theorem c20_3e : c20_3 = .region 1 r20_3 false := by kernel_rfl
theorem c20_4e : c20_4 = .seq c20_5 c20_6 := by kernel_rfl
theorem c20_5e : c20_5 = .region 2 r20_5 false := by kernel_rfl
theorem c20_6e : c20_6 = .ret := by kernel_rfl
noncomputable def tontinelaw11_begun.R : Pst Bool where
  ε := Unit
  v := fun r x => .bool r
  H := fun r x => []
  B := fun r x => []
noncomputable def tontinelaw11_begun.cx (w0 : World) (S0 : Fam) : Cx Bool := ⟨Try.prog, 20, Try.f20, 14, w0, S0, [], 0, tontinelaw11_begun.R⟩
theorem tontinelaw11_begun_ok (n : Nat) :
    Meets Try.prog 20 [] 0 [] [] [] (tontinelaw11_begun.f n) (tontinelaw11_begun.R) := by
  refine Meets.of (c := c20_0) (n := 14) Try.func20 (by kernel_rfl) (by kernel_rfl) (by kernel_rfl) fun w0 S0 => ?_
  unfold tontinelaw11_begun.f
  show GoO (tontinelaw11_begun.cx w0 S0) [] [] [] [.code c20_0] _
  refine GoO.seq' c20_0e ?_
  refine GoO.region' (is := [0]) c20_1e (by kernel_rfl) ?_
  refine GoO.exec (is := [0]) (hs := [.p]) (rest := []) (ks := []) (env' := []) (H' := []) (ps := []) (by kernel_rfl) trivial ?_
  refine GoO.regionEnd ?_
  refine GoO.seq' c20_2e ?_
  refine GoO.region' (is := [0, 1, 2, 3, 4, 5, 6]) c20_3e (by kernel_rfl) ?_
  refine GoO.exec (is := [0]) (hs := [.p]) (rest := [1, 2, 3, 4, 5, 6]) (ks := [4]) (env' := [(4, .agg ⟨[.int .i64 2, .int .i64 0, .int .i64 1, .int .u64 3, .int .u64 0, .int .u64 0, .int .u64 0, .bool true, .slice none ([] : List T_api_Entry).length 0, .string (bs [])]⟩)]) (H' := []) (ps := []) (by kernel_rfl) trivial ?_
  refine GoO.nilRd kT_api_Entry ?_
  refine OpTo.go (GoO.call rfl (by kernel_rfl) (by kernel_rfl) (letter_Encode_ok n (⟨2, 0, 1, 3, 0, 0, 0, true, [], []⟩ : T_api_Letter) none 0) [[0]] [] [] [(0, 0)] (hks := []) (bks := [0]) (by kernel_rfl) (by kernel_rfl) (by kernel_rfl) (.inl rfl) rfl rfl (by kernel_rfl) (by kernel_rfl) _ (fun _ _ => rfl) _ _ (fun _ _ => rfl) (fun _ _ => rfl) (fun _ _ => by kernel_rfl) (fun _ _ => by kernel_rfl) (fun r_1 x_3 => ?_))
  refine GoO.shape (env' := [(4, .agg ⟨[.int .i64 2, .int .i64 0, .int .i64 1, .int .u64 3, .int .u64 0, .int .u64 0, .int .u64 0, .bool true, .slice none ([] : List T_api_Entry).length 0, .string (bs [])]⟩), (5, .tuple ⟨[.string (bs r_1.1), .int .i64 r_1.2]⟩)]) (H' := []) (B' := [Rd 0 kT_api_Entry none 0 ([] : List T_api_Entry)]) (ks := [4, 5]) (by kernel_rfl) (by kernel_rfl) (by kernel_rfl) ?_
  refine GoO.exec (is := [2, 3, 4, 5, 6]) (hs := [.p, .p, .p, .p, .p]) (rest := []) (ks := [1, 2]) (env' := [(1, .string (bs r_1.1)), (2, .int .i64 r_1.2)]) (H' := []) (ps := []) (by kernel_rfl) trivial ?_
  refine GoO.regionEnd ?_
  refine GoO.seq' c20_4e ?_
  refine GoO.region' (is := [0, 1, 2, 3, 4, 5, 6]) c20_5e (by kernel_rfl) ?_
  refine GoO.exec (is := [0, 1, 2]) (hs := [.p, .p, .p]) (rest := [3, 4, 5, 6]) (ks := [1, 10]) (env' := [(1, .string (bs r_1.1)), (10, .bool (r_1.2 == 0))]) (H' := []) (ps := []) (by kernel_rfl) trivial ?_
  refine GoO.bsplit (t := 10) (by kernel_rfl) (fun h2 => ?_) (fun h2 => ?_)
  · refine GoO.exec (is := [3, 4, 5, 6]) (hs := [.p, .p, .p, .p]) (rest := []) (ks := [0]) (env' := [(0, .bool (r_1.1 == ([1, 2, 0, 1, 1, 1, 3, 0, 0, 0, 1, 1, 0, 0] : List UInt8)))]) (H' := []) (ps := []) (by kernel_rfl) trivial ?_
    refine GoO.regionEnd ?_
    exact GoO.ret' (h := c20_6e) (hs := []) (ps := []) (hk := []) (bk := []) Try.func20 () (by kernel_rfl) trivial (by kernel_rfl) (by kernel_rfl)
  · refine GoO.exec (is := [3, 4, 5, 6]) (hs := [.p, .p, .p, .p]) (rest := []) (ks := [0]) (env' := [(0, .bool false)]) (H' := []) (ps := []) (by kernel_rfl) trivial ?_
    refine GoO.regionEnd ?_
    exact GoO.ret' (h := c20_6e) (hs := []) (ps := []) (hk := []) (bk := []) Try.func20 () (by kernel_rfl) trivial (by kernel_rfl) (by kernel_rfl)

/-! tontine/tontineref11.May -/
noncomputable def c41_0 : Code := bodyOf Try.f41
noncomputable def c41_1 : Code := cdL c41_0
noncomputable def c41_2 : Code := cdR c41_0
noncomputable def c41_3 : Code := cdL c41_2
noncomputable def c41_4 : Code := cdR c41_2
noncomputable def c41_5 : Code := cdL c41_4
noncomputable def c41_6 : Code := cdL c41_5
noncomputable def c41_7 : Code := cdR c41_5
noncomputable def c41_8 : Code := cdL c41_7
noncomputable def c41_9 : Code := cdL c41_8
noncomputable def c41_10 : Code := cdR c41_8
noncomputable def c41_11 : Code := cdR c41_7
noncomputable def c41_12 : Code := cdR c41_4
noncomputable def c41_13 : Code := cdL c41_12
noncomputable def c41_14 : Code := cdL c41_13
noncomputable def c41_15 : Code := cdR c41_13
noncomputable def c41_16 : Code := cdL c41_15
noncomputable def c41_17 : Code := cdL c41_16
noncomputable def c41_18 : Code := cdL c41_17
noncomputable def c41_19 : Code := cdL c41_18
noncomputable def c41_20 : Code := cdR c41_18
noncomputable def c41_21 : Code := cdL c41_20
noncomputable def c41_22 : Code := cdR c41_20
noncomputable def c41_23 : Code := cdR c41_17
noncomputable def c41_24 : Code := cdL c41_23
noncomputable def c41_25 : Code := cdL c41_24
noncomputable def c41_26 : Code := cdL c41_25
noncomputable def c41_27 : Code := cdR c41_25
noncomputable def c41_28 : Code := cdR c41_23
noncomputable def c41_29 : Code := cdR c41_12
noncomputable def c41_30 : Code := cdL c41_29
noncomputable def c41_31 : Code := cdR c41_29
noncomputable def r41_1 : Array Oper := cdO c41_1
noncomputable def r41_3 : Array Oper := cdO c41_3
noncomputable def r41_6 : Array Oper := cdO c41_6
noncomputable def r41_9 : Array Oper := cdO c41_9
noncomputable def r41_14 : Array Oper := cdO c41_14
noncomputable def r41_19 : Array Oper := cdO c41_19
noncomputable def r41_26 : Array Oper := cdO c41_26
noncomputable def r41_27 : Array Oper := cdO c41_27
noncomputable def r41_28 : Array Oper := cdO c41_28
noncomputable def r41_30 : Array Oper := cdO c41_30
theorem c41_0e : c41_0 = .seq c41_1 c41_2 := by kernel_rfl
theorem c41_1e : c41_1 = .region 0 r41_1 false := by kernel_rfl
theorem c41_2e : c41_2 = .seq c41_3 c41_4 := by kernel_rfl
theorem c41_3e : c41_3 = .region 1 r41_3 false := by kernel_rfl
theorem c41_4e : c41_4 = .seq c41_5 c41_12 := by kernel_rfl
theorem c41_5e : c41_5 = .seq c41_6 c41_7 := by kernel_rfl
theorem c41_6e : c41_6 = .region 2 r41_6 false := by kernel_rfl
theorem c41_7e : c41_7 = .cond (cdC c41_7) c41_8 c41_11 := by kernel_rfl
theorem c41_8e : c41_8 = .seq c41_9 c41_10 := by kernel_rfl
theorem c41_9e : c41_9 = .region 3 r41_9 false := by kernel_rfl
theorem c41_10e : c41_10 = .ret := by kernel_rfl
theorem c41_11e : c41_11 = .skip := by kernel_rfl
theorem c41_12e : c41_12 = .seq c41_13 c41_29 := by kernel_rfl
theorem c41_13e : c41_13 = .seq c41_14 c41_15 := by kernel_rfl
theorem c41_14e : c41_14 = .region 4 r41_14 false := by kernel_rfl
theorem c41_15e : c41_15 = .block 0 c41_16 := by kernel_rfl
theorem c41_16e : c41_16 = .loop c41_17 := by kernel_rfl
theorem c41_17e : c41_17 = .seq c41_18 c41_23 := by kernel_rfl
theorem c41_18e : c41_18 = .seq c41_19 c41_20 := by kernel_rfl
theorem c41_19e : c41_19 = .region 5 r41_19 false := by kernel_rfl
theorem c41_20e : c41_20 = .cond (cdC c41_20) c41_21 c41_22 := by kernel_rfl
theorem c41_21e : c41_21 = .skip := by kernel_rfl
theorem c41_22e : c41_22 = .exit 0 := by kernel_rfl
theorem c41_23e : c41_23 = .seq c41_24 c41_28 := by kernel_rfl
theorem c41_24e : c41_24 = .block 1 c41_25 := by kernel_rfl
theorem c41_25e : c41_25 = .seq c41_26 c41_27 := by kernel_rfl
theorem c41_26e : c41_26 = .region 7 r41_26 false := by kernel_rfl
theorem c41_27e : c41_27 = .region 8 r41_27 false := by kernel_rfl
theorem c41_28e : c41_28 = .region 6 r41_28 false := by kernel_rfl
theorem c41_29e : c41_29 = .seq c41_30 c41_31 := by kernel_rfl
theorem c41_30e : c41_30 = .region 9 r41_30 false := by kernel_rfl
theorem c41_31e : c41_31 = .ret := by kernel_rfl
noncomputable def tontineref11_May.R (A_2 : Option Addr) (c_3 : Nat) : Pst Bool where
  ε := Unit
  v := fun r x => .bool r
  H := fun r x => []
  B := fun r x => []
noncomputable def tontineref11_May.cx (A_2 : Option Addr) (c_3 : Nat) (w0 : World) (S0 : Fam) : Cx Bool := ⟨Try.prog, 41, Try.f41, 85, w0, S0, [], 0, tontineref11_May.R A_2 c_3⟩
theorem tontineref11_May_j2_ok (n : Nat) (L0 : Bool → Int → Option Bool) (x_1 : T_api_Letter) (ok_16 : Bool) (i_17 : Int) (A_2 : Option Addr) (c_3 : Nat) (b_4 : Nat) (w0 : World) (S0 : Fam) (ih0 : ∀ (ok_16 : Bool) (i_17 : Int), GoO (tontineref11_May.cx A_2 c_3 w0 S0) [(1, .pointer (some ⟨b_4, 0, none⟩)), (3, .bool ok_16), (4, .int .i64 i_17)] [⟨40, b_4, [.int .i64 x_1.Kind, .int .i64 x_1.From, .int .i64 x_1.To, .int .u64 x_1.Term, .int .u64 x_1.Index, .int .u64 x_1.Prev, .int .u64 x_1.Commit, .bool x_1.Ok, .slice A_2 x_1.Entries.length c_3, .string (bs x_1.Data)]⟩] [Rd 0 kT_api_Entry A_2 c_3 x_1.Entries] [.code c41_17, .inLoop c41_17, .inBlock 0, .code c41_29] (L0 ok_16 i_17)) (b_19 : Bool) :
    GoO (tontineref11_May.cx A_2 c_3 w0 S0) [(1, .pointer (some ⟨b_4, 0, none⟩)), (3, .bool ok_16), (4, .int .i64 i_17), (62, .bool b_19)] [⟨40, b_4, [.int .i64 x_1.Kind, .int .i64 x_1.From, .int .i64 x_1.To, .int .u64 x_1.Term, .int .u64 x_1.Index, .int .u64 x_1.Prev, .int .u64 x_1.Commit, .bool x_1.Ok, .slice A_2 x_1.Entries.length c_3, .string (bs x_1.Data)]⟩] [Rd 0 kT_api_Entry A_2 c_3 x_1.Entries] [.code c41_20, .code c41_23, .inLoop c41_17, .inBlock 0, .code c41_29] (tontineref11_May.j2 n L0 x_1 ok_16 i_17 b_19) := by
  unfold tontineref11_May.j2
  refine GoO.ite' c41_20e (by kernel_rfl) (fun h20 => ?_) (fun h20 => ?_)
  · refine GoO.skip' c41_21e ?_
    refine GoO.seq' c41_23e ?_
    refine GoO.block' c41_24e ?_
    refine GoO.seq' c41_25e ?_
    refine GoO.region' (is := [0, 1, 2, 3, 4, 5, 6]) c41_26e (by kernel_rfl) ?_
    refine GoO.exec (is := [0, 1, 2]) (hs := [.p, .b 0, .p]) (rest := [3, 4, 5, 6]) (ks := [1, 4, 66, 67]) (env' := [(1, .pointer (some ⟨b_4, 0, none⟩)), (4, .int .i64 i_17), (66, .slice A_2 x_1.Entries.length c_3), (67, .int .i64 i_17)]) (H' := [⟨40, b_4, [.int .i64 x_1.Kind, .int .i64 x_1.From, .int .i64 x_1.To, .int .u64 x_1.Term, .int .u64 x_1.Index, .int .u64 x_1.Prev, .int .u64 x_1.Commit, .bool x_1.Ok, .slice A_2 x_1.Entries.length c_3, .string (bs x_1.Data)]⟩]) (ps := [b_4 = b_4]) (by kernel_rfl) (And.intro rfl trivial) ?_
    refine GoO.guard (fun h21 => ?_)
    refine OpTo.go (GoO.idx (kk := .i64) (e := 93) (K := kT_api_Entry) (A := A_2) (c := c_3) (xs := x_1.Entries) (iv := i_17) (j := 0) rfl (by kernel_rfl) (by kernel_rfl) (by kernel_rfl) (by kernel_rfl) rfl Reads.rd rfl h21.1 h21.2 (by decide) rfl ?_)
    refine OpTo.go (GoO.ldE' (K := kT_api_Entry) (A := A_2) (c := c_3) (xs := x_1.Entries) (iN := i_17.toNat) (off := 0) (j := 0) rfl (by kernel_rfl) rfl Reads.rd (idx_lt h21.1 h21.2) (by decide) (Opn.flat _ _ _ _ _) (v := fun _ => .agg ⟨[.int .u64 ((rdL x_1.Entries i_17).Term), .int .u64 ((rdL x_1.Entries i_17).Index), .int .i64 ((rdL x_1.Entries i_17).Kind), .string (bs ((rdL x_1.Entries i_17).Data))]⟩) (fun _ => by kernel_rfl) _ (fun _ => rfl) (fun _ => ?_))
    refine OpTo.go (GoO.new rfl 41 (cs := [.int .u64 0, .int .u64 0, .int .i64 0, .string (bs [])]) (by kernel_rfl) _ (fun _ => rfl) (fun b_22 => ?_))
    refine GoO.exec (is := [6]) (hs := [.b 0]) (rest := []) (ks := [1, 4, 5]) (env' := [(1, .pointer (some ⟨b_4, 0, none⟩)), (4, .int .i64 i_17), (5, .pointer (some ⟨b_22, 0, none⟩))]) (H' := [⟨41, b_22, [.int .u64 ((rdL x_1.Entries i_17).Term), .int .u64 ((rdL x_1.Entries i_17).Index), .int .i64 ((rdL x_1.Entries i_17).Kind), .string (bs ((rdL x_1.Entries i_17).Data))]⟩, ⟨40, b_4, [.int .i64 x_1.Kind, .int .i64 x_1.From, .int .i64 x_1.To, .int .u64 x_1.Term, .int .u64 x_1.Index, .int .u64 x_1.Prev, .int .u64 x_1.Commit, .bool x_1.Ok, .slice A_2 x_1.Entries.length c_3, .string (bs x_1.Data)]⟩]) (ps := [b_22 = b_22]) (by kernel_rfl) (And.intro rfl trivial) ?_
    refine GoO.regionEnd ?_
    refine GoO.region' (is := [0, 1, 2, 3, 4, 5, 6, 7, 8, 9, 10, 11, 12, 13, 14]) c41_27e (by kernel_rfl) ?_
    refine GoO.exec (is := [0, 1, 2, 3]) (hs := [.p, .b 0, .p, .p]) (rest := [4, 5, 6, 7, 8, 9, 10, 11, 12, 13, 14]) (ks := [1, 4, 5, 73]) (env' := [(1, .pointer (some ⟨b_4, 0, none⟩)), (4, .int .i64 i_17), (5, .pointer (some ⟨b_22, 0, none⟩)), (73, .bool (decide (((rdL x_1.Entries i_17).Kind) ≥ 0)))]) (H' := [⟨41, b_22, [.int .u64 ((rdL x_1.Entries i_17).Term), .int .u64 ((rdL x_1.Entries i_17).Index), .int .i64 ((rdL x_1.Entries i_17).Kind), .string (bs ((rdL x_1.Entries i_17).Data))]⟩, ⟨40, b_4, [.int .i64 x_1.Kind, .int .i64 x_1.From, .int .i64 x_1.To, .int .u64 x_1.Term, .int .u64 x_1.Index, .int .u64 x_1.Prev, .int .u64 x_1.Commit, .bool x_1.Ok, .slice A_2 x_1.Entries.length c_3, .string (bs x_1.Data)]⟩]) (ps := [b_22 = b_22]) (by kernel_rfl) (And.intro rfl trivial) ?_
    refine GoO.bsplit (t := 73) (by kernel_rfl) (fun h23 => ?_) (fun h23 => ?_)
    · refine GoO.exec (is := [4, 5, 6, 7, 8]) (hs := [.p, .b 0, .p, .p, .p]) (rest := [9, 10, 11, 12, 13, 14]) (ks := [1, 4, 5, 78]) (env' := [(1, .pointer (some ⟨b_4, 0, none⟩)), (4, .int .i64 i_17), (5, .pointer (some ⟨b_22, 0, none⟩)), (78, .bool (decide (((rdL x_1.Entries i_17).Kind) ≤ 2)))]) (H' := [⟨41, b_22, [.int .u64 ((rdL x_1.Entries i_17).Term), .int .u64 ((rdL x_1.Entries i_17).Index), .int .i64 ((rdL x_1.Entries i_17).Kind), .string (bs ((rdL x_1.Entries i_17).Data))]⟩, ⟨40, b_4, [.int .i64 x_1.Kind, .int .i64 x_1.From, .int .i64 x_1.To, .int .u64 x_1.Term, .int .u64 x_1.Index, .int .u64 x_1.Prev, .int .u64 x_1.Commit, .bool x_1.Ok, .slice A_2 x_1.Entries.length c_3, .string (bs x_1.Data)]⟩]) (ps := [b_22 = b_22]) (by kernel_rfl) (And.intro rfl trivial) ?_
      refine GoO.bsplit (t := 78) (by kernel_rfl) (fun h24 => ?_) (fun h24 => ?_)
      · refine GoO.exec (is := [9, 10, 11, 12, 13, 14]) (hs := [.p, .b 0, .p, .p, .p, .p]) (rest := []) (ks := [1, 3, 4]) (env' := [(1, .pointer (some ⟨b_4, 0, none⟩)), (3, .bool (decide ((((rdL x_1.Entries i_17).Data).length : Int) ≤ 65536))), (4, .int .i64 i_17)]) (H' := [⟨41, b_22, [.int .u64 ((rdL x_1.Entries i_17).Term), .int .u64 ((rdL x_1.Entries i_17).Index), .int .i64 ((rdL x_1.Entries i_17).Kind), .string (bs ((rdL x_1.Entries i_17).Data))]⟩, ⟨40, b_4, [.int .i64 x_1.Kind, .int .i64 x_1.From, .int .i64 x_1.To, .int .u64 x_1.Term, .int .u64 x_1.Index, .int .u64 x_1.Prev, .int .u64 x_1.Commit, .bool x_1.Ok, .slice A_2 x_1.Entries.length c_3, .string (bs x_1.Data)]⟩]) (ps := [b_22 = b_22]) (by kernel_rfl) (And.intro rfl trivial) ?_
        refine GoO.regionEnd ?_
        refine GoO.inBlock ?_
        refine GoO.region' (is := [0, 1, 2]) c41_28e (by kernel_rfl) ?_
        refine GoO.exec (is := [0, 1, 2]) (hs := [.p, .p, .p]) (rest := []) (ks := [1, 3, 4]) (env' := [(1, .pointer (some ⟨b_4, 0, none⟩)), (3, .bool (decide ((((rdL x_1.Entries i_17).Data).length : Int) ≤ 65536))), (4, .int .i64 (wi64 (i_17 + 1)))]) (H' := [⟨41, b_22, [.int .u64 ((rdL x_1.Entries i_17).Term), .int .u64 ((rdL x_1.Entries i_17).Index), .int .i64 ((rdL x_1.Entries i_17).Kind), .string (bs ((rdL x_1.Entries i_17).Data))]⟩, ⟨40, b_4, [.int .i64 x_1.Kind, .int .i64 x_1.From, .int .i64 x_1.To, .int .u64 x_1.Term, .int .u64 x_1.Index, .int .u64 x_1.Prev, .int .u64 x_1.Commit, .bool x_1.Ok, .slice A_2 x_1.Entries.length c_3, .string (bs x_1.Data)]⟩]) (ps := []) (by kernel_rfl) trivial ?_
        refine GoO.regionEnd ?_
        refine GoO.inLoop ?_
        exact GoO.sub (ks := [1, 3, 4]) (hk := [1]) (bk := [0]) (by kernel_rfl) (by kernel_rfl) (by kernel_rfl) (ih0 (decide ((((rdL x_1.Entries i_17).Data).length : Int) ≤ 65536)) (wi64 (i_17 + 1)))
      · refine GoO.exec (is := [9, 10, 11, 12, 13, 14]) (hs := [.p, .p, .p, .p, .p, .p]) (rest := []) (ks := [1, 3, 4]) (env' := [(1, .pointer (some ⟨b_4, 0, none⟩)), (3, .bool false), (4, .int .i64 i_17)]) (H' := [⟨41, b_22, [.int .u64 ((rdL x_1.Entries i_17).Term), .int .u64 ((rdL x_1.Entries i_17).Index), .int .i64 ((rdL x_1.Entries i_17).Kind), .string (bs ((rdL x_1.Entries i_17).Data))]⟩, ⟨40, b_4, [.int .i64 x_1.Kind, .int .i64 x_1.From, .int .i64 x_1.To, .int .u64 x_1.Term, .int .u64 x_1.Index, .int .u64 x_1.Prev, .int .u64 x_1.Commit, .bool x_1.Ok, .slice A_2 x_1.Entries.length c_3, .string (bs x_1.Data)]⟩]) (ps := []) (by kernel_rfl) trivial ?_
        refine GoO.regionEnd ?_
        refine GoO.inBlock ?_
        refine GoO.region' (is := [0, 1, 2]) c41_28e (by kernel_rfl) ?_
        refine GoO.exec (is := [0, 1, 2]) (hs := [.p, .p, .p]) (rest := []) (ks := [1, 3, 4]) (env' := [(1, .pointer (some ⟨b_4, 0, none⟩)), (3, .bool false), (4, .int .i64 (wi64 (i_17 + 1)))]) (H' := [⟨41, b_22, [.int .u64 ((rdL x_1.Entries i_17).Term), .int .u64 ((rdL x_1.Entries i_17).Index), .int .i64 ((rdL x_1.Entries i_17).Kind), .string (bs ((rdL x_1.Entries i_17).Data))]⟩, ⟨40, b_4, [.int .i64 x_1.Kind, .int .i64 x_1.From, .int .i64 x_1.To, .int .u64 x_1.Term, .int .u64 x_1.Index, .int .u64 x_1.Prev, .int .u64 x_1.Commit, .bool x_1.Ok, .slice A_2 x_1.Entries.length c_3, .string (bs x_1.Data)]⟩]) (ps := []) (by kernel_rfl) trivial ?_
        refine GoO.regionEnd ?_
        refine GoO.inLoop ?_
        exact GoO.sub (ks := [1, 3, 4]) (hk := [1]) (bk := [0]) (by kernel_rfl) (by kernel_rfl) (by kernel_rfl) (ih0 false (wi64 (i_17 + 1)))
    · refine GoO.exec (is := [4, 5, 6, 7, 8, 9, 10, 11, 12, 13, 14]) (hs := [.p, .p, .p, .p, .p, .p, .p, .p, .p, .p, .p]) (rest := []) (ks := [1, 3, 4]) (env' := [(1, .pointer (some ⟨b_4, 0, none⟩)), (3, .bool false), (4, .int .i64 i_17)]) (H' := [⟨41, b_22, [.int .u64 ((rdL x_1.Entries i_17).Term), .int .u64 ((rdL x_1.Entries i_17).Index), .int .i64 ((rdL x_1.Entries i_17).Kind), .string (bs ((rdL x_1.Entries i_17).Data))]⟩, ⟨40, b_4, [.int .i64 x_1.Kind, .int .i64 x_1.From, .int .i64 x_1.To, .int .u64 x_1.Term, .int .u64 x_1.Index, .int .u64 x_1.Prev, .int .u64 x_1.Commit, .bool x_1.Ok, .slice A_2 x_1.Entries.length c_3, .string (bs x_1.Data)]⟩]) (ps := []) (by kernel_rfl) trivial ?_
      refine GoO.regionEnd ?_
      refine GoO.inBlock ?_
      refine GoO.region' (is := [0, 1, 2]) c41_28e (by kernel_rfl) ?_
      refine GoO.exec (is := [0, 1, 2]) (hs := [.p, .p, .p]) (rest := []) (ks := [1, 3, 4]) (env' := [(1, .pointer (some ⟨b_4, 0, none⟩)), (3, .bool false), (4, .int .i64 (wi64 (i_17 + 1)))]) (H' := [⟨41, b_22, [.int .u64 ((rdL x_1.Entries i_17).Term), .int .u64 ((rdL x_1.Entries i_17).Index), .int .i64 ((rdL x_1.Entries i_17).Kind), .string (bs ((rdL x_1.Entries i_17).Data))]⟩, ⟨40, b_4, [.int .i64 x_1.Kind, .int .i64 x_1.From, .int .i64 x_1.To, .int .u64 x_1.Term, .int .u64 x_1.Index, .int .u64 x_1.Prev, .int .u64 x_1.Commit, .bool x_1.Ok, .slice A_2 x_1.Entries.length c_3, .string (bs x_1.Data)]⟩]) (ps := []) (by kernel_rfl) trivial ?_
      refine GoO.regionEnd ?_
      refine GoO.inLoop ?_
      exact GoO.sub (ks := [1, 3, 4]) (hk := [1]) (bk := [0]) (by kernel_rfl) (by kernel_rfl) (by kernel_rfl) (ih0 false (wi64 (i_17 + 1)))
  · refine GoO.exit' c41_22e rfl ?_
    refine GoO.seq' c41_29e ?_
    refine GoO.region' (is := [0, 1]) c41_30e (by kernel_rfl) ?_
    refine GoO.exec (is := [0, 1]) (hs := [.p, .p]) (rest := []) (ks := [2]) (env' := [(2, .bool ok_16)]) (H' := [⟨40, b_4, [.int .i64 x_1.Kind, .int .i64 x_1.From, .int .i64 x_1.To, .int .u64 x_1.Term, .int .u64 x_1.Index, .int .u64 x_1.Prev, .int .u64 x_1.Commit, .bool x_1.Ok, .slice A_2 x_1.Entries.length c_3, .string (bs x_1.Data)]⟩]) (ps := []) (by kernel_rfl) trivial ?_
    refine GoO.regionEnd ?_
    exact GoO.ret' (h := c41_31e) (hs := []) (ps := []) (hk := []) (bk := []) Try.func41 () (by kernel_rfl) trivial (by kernel_rfl) (by kernel_rfl)
theorem tontineref11_May_l0_ok (n : Nat) (x_1 : T_api_Letter) (A_2 : Option Addr) (c_3 : Nat) (b_4 : Nat) (w0 : World) (S0 : Fam) :
    ∀ (k : Nat) (ok_16 : Bool) (i_17 : Int), GoO (tontineref11_May.cx A_2 c_3 w0 S0) [(1, .pointer (some ⟨b_4, 0, none⟩)), (3, .bool ok_16), (4, .int .i64 i_17)] [⟨40, b_4, [.int .i64 x_1.Kind, .int .i64 x_1.From, .int .i64 x_1.To, .int .u64 x_1.Term, .int .u64 x_1.Index, .int .u64 x_1.Prev, .int .u64 x_1.Commit, .bool x_1.Ok, .slice A_2 x_1.Entries.length c_3, .string (bs x_1.Data)]⟩] [Rd 0 kT_api_Entry A_2 c_3 x_1.Entries] [.code c41_17, .inLoop c41_17, .inBlock 0, .code c41_29] (tontineref11_May.l0 n x_1 k ok_16 i_17) := by
  intro k
  induction k with
  | zero => intros; rw [tontineref11_May.l0.eq_1]; exact GoO.stop
  | succ k ih0 =>
    intro ok_16 i_17
    rw [tontineref11_May.l0.eq_2]
    refine GoO.seq' c41_17e ?_
    refine GoO.seq' c41_18e ?_
    refine GoO.region' (is := [0, 1, 2, 3, 4, 5, 6, 7]) c41_19e (by kernel_rfl) ?_
    refine GoO.exec (is := [0, 1, 2, 3, 4, 5]) (hs := [.p, .p, .b 0, .p, .p, .p]) (rest := [6, 7]) (ks := [1, 3, 4, 60]) (env' := [(1, .pointer (some ⟨b_4, 0, none⟩)), (3, .bool ok_16), (4, .int .i64 i_17), (60, .bool (decide (i_17 < (x_1.Entries.length : Int))))]) (H' := [⟨40, b_4, [.int .i64 x_1.Kind, .int .i64 x_1.From, .int .i64 x_1.To, .int .u64 x_1.Term, .int .u64 x_1.Index, .int .u64 x_1.Prev, .int .u64 x_1.Commit, .bool x_1.Ok, .slice A_2 x_1.Entries.length c_3, .string (bs x_1.Data)]⟩]) (ps := [b_4 = b_4]) (by kernel_rfl) (And.intro rfl trivial) ?_
    refine GoO.bsplit (t := 60) (by kernel_rfl) (fun h18 => ?_) (fun h18 => ?_)
    · refine GoO.exec (is := [6, 7]) (hs := [.p, .p]) (rest := []) (ks := [1, 3, 4, 62]) (env' := [(1, .pointer (some ⟨b_4, 0, none⟩)), (3, .bool ok_16), (4, .int .i64 i_17), (62, .bool ok_16)]) (H' := [⟨40, b_4, [.int .i64 x_1.Kind, .int .i64 x_1.From, .int .i64 x_1.To, .int .u64 x_1.Term, .int .u64 x_1.Index, .int .u64 x_1.Prev, .int .u64 x_1.Commit, .bool x_1.Ok, .slice A_2 x_1.Entries.length c_3, .string (bs x_1.Data)]⟩]) (ps := []) (by kernel_rfl) trivial ?_
      refine GoO.regionEnd ?_
      exact GoO.sub (ks := [1, 3, 4, 62]) (hk := [0]) (bk := [0]) (by kernel_rfl) (by kernel_rfl) (by kernel_rfl) (tontineref11_May_j2_ok n (tontineref11_May.l0 n x_1 k) x_1 ok_16 i_17 A_2 c_3 b_4 w0 S0 ih0 ok_16)
    · refine GoO.exec (is := [6, 7]) (hs := [.p, .p]) (rest := []) (ks := [1, 3, 4, 62]) (env' := [(1, .pointer (some ⟨b_4, 0, none⟩)), (3, .bool ok_16), (4, .int .i64 i_17), (62, .bool false)]) (H' := [⟨40, b_4, [.int .i64 x_1.Kind, .int .i64 x_1.From, .int .i64 x_1.To, .int .u64 x_1.Term, .int .u64 x_1.Index, .int .u64 x_1.Prev, .int .u64 x_1.Commit, .bool x_1.Ok, .slice A_2 x_1.Entries.length c_3, .string (bs x_1.Data)]⟩]) (ps := []) (by kernel_rfl) trivial ?_
      refine GoO.regionEnd ?_
      exact GoO.sub (ks := [1, 3, 4, 62]) (hk := [0]) (bk := [0]) (by kernel_rfl) (by kernel_rfl) (by kernel_rfl) (tontineref11_May_j2_ok n (tontineref11_May.l0 n x_1 k) x_1 ok_16 i_17 A_2 c_3 b_4 w0 S0 ih0 false)
theorem tontineref11_May_j1_ok (n : Nat) (x_1 : T_api_Letter) (ok_12 : Bool) (A_2 : Option Addr) (c_3 : Nat) (b_4 : Nat) (w0 : World) (S0 : Fam) (b_14 : Bool) :
    GoO (tontineref11_May.cx A_2 c_3 w0 S0) [(1, .pointer (some ⟨b_4, 0, none⟩)), (3, .bool ok_12), (54, .bool b_14)] [⟨40, b_4, [.int .i64 x_1.Kind, .int .i64 x_1.From, .int .i64 x_1.To, .int .u64 x_1.Term, .int .u64 x_1.Index, .int .u64 x_1.Prev, .int .u64 x_1.Commit, .bool x_1.Ok, .slice A_2 x_1.Entries.length c_3, .string (bs x_1.Data)]⟩] [Rd 0 kT_api_Entry A_2 c_3 x_1.Entries] [.code c41_7, .code c41_12] (tontineref11_May.j1 n x_1 ok_12 b_14) := by
  unfold tontineref11_May.j1
  refine GoO.ite' c41_7e (by kernel_rfl) (fun h15 => ?_) (fun h15 => ?_)
  · refine GoO.seq' c41_8e ?_
    refine GoO.region' (is := [0]) c41_9e (by kernel_rfl) ?_
    refine GoO.exec (is := [0]) (hs := [.p]) (rest := []) (ks := [2]) (env' := [(2, .bool false)]) (H' := [⟨40, b_4, [.int .i64 x_1.Kind, .int .i64 x_1.From, .int .i64 x_1.To, .int .u64 x_1.Term, .int .u64 x_1.Index, .int .u64 x_1.Prev, .int .u64 x_1.Commit, .bool x_1.Ok, .slice A_2 x_1.Entries.length c_3, .string (bs x_1.Data)]⟩]) (ps := []) (by kernel_rfl) trivial ?_
    refine GoO.regionEnd ?_
    exact GoO.ret' (h := c41_10e) (hs := []) (ps := []) (hk := []) (bk := []) Try.func41 () (by kernel_rfl) trivial (by kernel_rfl) (by kernel_rfl)
  · refine GoO.skip' c41_11e ?_
    refine GoO.seq' c41_12e ?_
    refine GoO.seq' c41_13e ?_
    refine GoO.region' (is := [0]) c41_14e (by kernel_rfl) ?_
    refine GoO.exec (is := [0]) (hs := [.p]) (rest := []) (ks := [1, 3, 4]) (env' := [(1, .pointer (some ⟨b_4, 0, none⟩)), (3, .bool ok_12), (4, .int .i64 0)]) (H' := [⟨40, b_4, [.int .i64 x_1.Kind, .int .i64 x_1.From, .int .i64 x_1.To, .int .u64 x_1.Term, .int .u64 x_1.Index, .int .u64 x_1.Prev, .int .u64 x_1.Commit, .bool x_1.Ok, .slice A_2 x_1.Entries.length c_3, .string (bs x_1.Data)]⟩]) (ps := []) (by kernel_rfl) trivial ?_
    refine GoO.regionEnd ?_
    refine GoO.block' c41_15e ?_
    refine GoO.loop' c41_16e ?_
    exact GoO.sub (ks := [1, 3, 4]) (hk := [0]) (bk := [0]) (by kernel_rfl) (by kernel_rfl) (by kernel_rfl) (tontineref11_May_l0_ok n x_1 A_2 c_3 b_4 w0 S0 n ok_12 0)
theorem tontineref11_May_j0_ok (n : Nat) (x_1 : T_api_Letter) (A_2 : Option Addr) (c_3 : Nat) (b_4 : Nat) (w0 : World) (S0 : Fam) (ok_12 : Bool) :
    GoO (tontineref11_May.cx A_2 c_3 w0 S0) [(1, .pointer (some ⟨b_4, 0, none⟩)), (3, .bool ok_12)] [⟨40, b_4, [.int .i64 x_1.Kind, .int .i64 x_1.From, .int .i64 x_1.To, .int .u64 x_1.Term, .int .u64 x_1.Index, .int .u64 x_1.Prev, .int .u64 x_1.Commit, .bool x_1.Ok, .slice A_2 x_1.Entries.length c_3, .string (bs x_1.Data)]⟩] [Rd 0 kT_api_Entry A_2 c_3 x_1.Entries] [.code c41_4] (tontineref11_May.j0 n x_1 ok_12) := by
  unfold tontineref11_May.j0
  refine GoO.seq' c41_4e ?_
  refine GoO.seq' c41_5e ?_
  refine GoO.region' (is := [0, 1, 2, 3, 4, 5, 6, 7, 8]) c41_6e (by kernel_rfl) ?_
  refine GoO.exec (is := [0, 1, 2, 3]) (hs := [.p, .b 0, .p, .p]) (rest := [4, 5, 6, 7, 8]) (ks := [1, 3, 49]) (env' := [(1, .pointer (some ⟨b_4, 0, none⟩)), (3, .bool ok_12), (49, .bool (x_1.Kind != 3))]) (H' := [⟨40, b_4, [.int .i64 x_1.Kind, .int .i64 x_1.From, .int .i64 x_1.To, .int .u64 x_1.Term, .int .u64 x_1.Index, .int .u64 x_1.Prev, .int .u64 x_1.Commit, .bool x_1.Ok, .slice A_2 x_1.Entries.length c_3, .string (bs x_1.Data)]⟩]) (ps := [b_4 = b_4]) (by kernel_rfl) (And.intro rfl trivial) ?_
  refine GoO.bsplit (t := 49) (by kernel_rfl) (fun h13 => ?_) (fun h13 => ?_)
  · refine GoO.exec (is := [4, 5, 6, 7, 8]) (hs := [.p, .b 0, .p, .p, .p]) (rest := []) (ks := [1, 3, 54]) (env' := [(1, .pointer (some ⟨b_4, 0, none⟩)), (3, .bool ok_12), (54, .bool (decide ((x_1.Entries.length : Int) > 0)))]) (H' := [⟨40, b_4, [.int .i64 x_1.Kind, .int .i64 x_1.From, .int .i64 x_1.To, .int .u64 x_1.Term, .int .u64 x_1.Index, .int .u64 x_1.Prev, .int .u64 x_1.Commit, .bool x_1.Ok, .slice A_2 x_1.Entries.length c_3, .string (bs x_1.Data)]⟩]) (ps := [b_4 = b_4]) (by kernel_rfl) (And.intro rfl trivial) ?_
    refine GoO.regionEnd ?_
    exact GoO.sub (ks := [1, 3, 54]) (hk := [0]) (bk := [0]) (by kernel_rfl) (by kernel_rfl) (by kernel_rfl) (tontineref11_May_j1_ok n x_1 ok_12 A_2 c_3 b_4 w0 S0 (decide ((x_1.Entries.length : Int) > 0)))
  · refine GoO.exec (is := [4, 5, 6, 7, 8]) (hs := [.p, .p, .p, .p, .p]) (rest := []) (ks := [1, 3, 54]) (env' := [(1, .pointer (some ⟨b_4, 0, none⟩)), (3, .bool ok_12), (54, .bool false)]) (H' := [⟨40, b_4, [.int .i64 x_1.Kind, .int .i64 x_1.From, .int .i64 x_1.To, .int .u64 x_1.Term, .int .u64 x_1.Index, .int .u64 x_1.Prev, .int .u64 x_1.Commit, .bool x_1.Ok, .slice A_2 x_1.Entries.length c_3, .string (bs x_1.Data)]⟩]) (ps := []) (by kernel_rfl) trivial ?_
    refine GoO.regionEnd ?_
    exact GoO.sub (ks := [1, 3, 54]) (hk := [0]) (bk := [0]) (by kernel_rfl) (by kernel_rfl) (by kernel_rfl) (tontineref11_May_j1_ok n x_1 ok_12 A_2 c_3 b_4 w0 S0 false)
theorem tontineref11_May_ok (n : Nat) (x_1 : T_api_Letter) (A_2 : Option Addr) (c_3 : Nat) :
    Meets Try.prog 41 [.agg ⟨[.int .i64 x_1.Kind, .int .i64 x_1.From, .int .i64 x_1.To, .int .u64 x_1.Term, .int .u64 x_1.Index, .int .u64 x_1.Prev, .int .u64 x_1.Commit, .bool x_1.Ok, .slice A_2 x_1.Entries.length c_3, .string (bs x_1.Data)]⟩] 0 [] [] [Rd 0 kT_api_Entry A_2 c_3 x_1.Entries] (tontineref11_May.f n x_1) (tontineref11_May.R A_2 c_3) := by
  refine Meets.of (c := c41_0) (n := 85) Try.func41 (by kernel_rfl) (by kernel_rfl) (by kernel_rfl) fun w0 S0 => ?_
  unfold tontineref11_May.f
  show GoO (tontineref11_May.cx A_2 c_3 w0 S0) [(0, .agg ⟨[.int .i64 x_1.Kind, .int .i64 x_1.From, .int .i64 x_1.To, .int .u64 x_1.Term, .int .u64 x_1.Index, .int .u64 x_1.Prev, .int .u64 x_1.Commit, .bool x_1.Ok, .slice A_2 x_1.Entries.length c_3, .string (bs x_1.Data)]⟩)] [] [Rd 0 kT_api_Entry A_2 c_3 x_1.Entries] [.code c41_0] _
  refine GoO.seq' c41_0e ?_
  refine GoO.region' (is := [0, 1]) c41_1e (by kernel_rfl) ?_
  refine OpTo.go (GoO.new rfl 40 (cs := [.int .i64 x_1.Kind, .int .i64 x_1.From, .int .i64 x_1.To, .int .u64 x_1.Term, .int .u64 x_1.Index, .int .u64 x_1.Prev, .int .u64 x_1.Commit, .bool x_1.Ok, .slice A_2 x_1.Entries.length c_3, .string (bs x_1.Data)]) (by kernel_rfl) _ (fun _ => rfl) (fun b_4 => ?_))
  refine GoO.exec (is := [1]) (hs := [.p]) (rest := []) (ks := [1]) (env' := [(1, .pointer (some ⟨b_4, 0, none⟩))]) (H' := [⟨40, b_4, [.int .i64 x_1.Kind, .int .i64 x_1.From, .int .i64 x_1.To, .int .u64 x_1.Term, .int .u64 x_1.Index, .int .u64 x_1.Prev, .int .u64 x_1.Commit, .bool x_1.Ok, .slice A_2 x_1.Entries.length c_3, .string (bs x_1.Data)]⟩]) (ps := []) (by kernel_rfl) trivial ?_
  refine GoO.regionEnd ?_
  refine GoO.seq' c41_2e ?_
  refine GoO.region' (is := [0, 1, 2, 3, 4, 5, 6, 7, 8, 9, 10, 11, 12, 13, 14, 15, 16, 17, 18, 19, 20, 21, 22, 23, 24, 25, 26, 27, 28, 29, 30, 31, 32, 33, 34, 35, 36, 37, 38, 39, 40]) c41_3e (by kernel_rfl) ?_
  refine GoO.exec (is := [0, 1, 2, 3]) (hs := [.p, .b 0, .p, .p]) (rest := [4, 5, 6, 7, 8, 9, 10, 11, 12, 13, 14, 15, 16, 17, 18, 19, 20, 21, 22, 23, 24, 25, 26, 27, 28, 29, 30, 31, 32, 33, 34, 35, 36, 37, 38, 39, 40]) (ks := [1, 9]) (env' := [(1, .pointer (some ⟨b_4, 0, none⟩)), (9, .bool (decide (x_1.Kind ≥ 1)))]) (H' := [⟨40, b_4, [.int .i64 x_1.Kind, .int .i64 x_1.From, .int .i64 x_1.To, .int .u64 x_1.Term, .int .u64 x_1.Index, .int .u64 x_1.Prev, .int .u64 x_1.Commit, .bool x_1.Ok, .slice A_2 x_1.Entries.length c_3, .string (bs x_1.Data)]⟩]) (ps := [b_4 = b_4]) (by kernel_rfl) (And.intro rfl trivial) ?_
  refine GoO.bsplit (t := 9) (by kernel_rfl) (fun h5 => ?_) (fun h5 => ?_)
  · refine GoO.exec (is := [4, 5, 6, 7, 8]) (hs := [.p, .b 0, .p, .p, .p]) (rest := [9, 10, 11, 12, 13, 14, 15, 16, 17, 18, 19, 20, 21, 22, 23, 24, 25, 26, 27, 28, 29, 30, 31, 32, 33, 34, 35, 36, 37, 38, 39, 40]) (ks := [1, 14]) (env' := [(1, .pointer (some ⟨b_4, 0, none⟩)), (14, .bool (decide (x_1.Kind ≤ 9)))]) (H' := [⟨40, b_4, [.int .i64 x_1.Kind, .int .i64 x_1.From, .int .i64 x_1.To, .int .u64 x_1.Term, .int .u64 x_1.Index, .int .u64 x_1.Prev, .int .u64 x_1.Commit, .bool x_1.Ok, .slice A_2 x_1.Entries.length c_3, .string (bs x_1.Data)]⟩]) (ps := [b_4 = b_4]) (by kernel_rfl) (And.intro rfl trivial) ?_
    refine GoO.bsplit (t := 14) (by kernel_rfl) (fun h6 => ?_) (fun h6 => ?_)
    · refine GoO.exec (is := [9, 10, 11, 12, 13]) (hs := [.p, .b 0, .p, .p, .p]) (rest := [14, 15, 16, 17, 18, 19, 20, 21, 22, 23, 24, 25, 26, 27, 28, 29, 30, 31, 32, 33, 34, 35, 36, 37, 38, 39, 40]) (ks := [1, 19]) (env' := [(1, .pointer (some ⟨b_4, 0, none⟩)), (19, .bool (decide (x_1.From ≥ 0)))]) (H' := [⟨40, b_4, [.int .i64 x_1.Kind, .int .i64 x_1.From, .int .i64 x_1.To, .int .u64 x_1.Term, .int .u64 x_1.Index, .int .u64 x_1.Prev, .int .u64 x_1.Commit, .bool x_1.Ok, .slice A_2 x_1.Entries.length c_3, .string (bs x_1.Data)]⟩]) (ps := [b_4 = b_4]) (by kernel_rfl) (And.intro rfl trivial) ?_
      refine GoO.bsplit (t := 19) (by kernel_rfl) (fun h7 => ?_) (fun h7 => ?_)
      · refine GoO.exec (is := [14, 15, 16, 17, 18]) (hs := [.p, .b 0, .p, .p, .p]) (rest := [19, 20, 21, 22, 23, 24, 25, 26, 27, 28, 29, 30, 31, 32, 33, 34, 35, 36, 37, 38, 39, 40]) (ks := [1, 24]) (env' := [(1, .pointer (some ⟨b_4, 0, none⟩)), (24, .bool (decide (x_1.From ≤ 255)))]) (H' := [⟨40, b_4, [.int .i64 x_1.Kind, .int .i64 x_1.From, .int .i64 x_1.To, .int .u64 x_1.Term, .int .u64 x_1.Index, .int .u64 x_1.Prev, .int .u64 x_1.Commit, .bool x_1.Ok, .slice A_2 x_1.Entries.length c_3, .string (bs x_1.Data)]⟩]) (ps := [b_4 = b_4]) (by kernel_rfl) (And.intro rfl trivial) ?_
        refine GoO.bsplit (t := 24) (by kernel_rfl) (fun h8 => ?_) (fun h8 => ?_)
        · refine GoO.exec (is := [19, 20, 21, 22, 23]) (hs := [.p, .b 0, .p, .p, .p]) (rest := [24, 25, 26, 27, 28, 29, 30, 31, 32, 33, 34, 35, 36, 37, 38, 39, 40]) (ks := [1, 29]) (env' := [(1, .pointer (some ⟨b_4, 0, none⟩)), (29, .bool (decide (x_1.To ≥ 0)))]) (H' := [⟨40, b_4, [.int .i64 x_1.Kind, .int .i64 x_1.From, .int .i64 x_1.To, .int .u64 x_1.Term, .int .u64 x_1.Index, .int .u64 x_1.Prev, .int .u64 x_1.Commit, .bool x_1.Ok, .slice A_2 x_1.Entries.length c_3, .string (bs x_1.Data)]⟩]) (ps := [b_4 = b_4]) (by kernel_rfl) (And.intro rfl trivial) ?_
          refine GoO.bsplit (t := 29) (by kernel_rfl) (fun h9 => ?_) (fun h9 => ?_)
          · refine GoO.exec (is := [24, 25, 26, 27, 28]) (hs := [.p, .b 0, .p, .p, .p]) (rest := [29, 30, 31, 32, 33, 34, 35, 36, 37, 38, 39, 40]) (ks := [1, 34]) (env' := [(1, .pointer (some ⟨b_4, 0, none⟩)), (34, .bool (decide (x_1.To ≤ 255)))]) (H' := [⟨40, b_4, [.int .i64 x_1.Kind, .int .i64 x_1.From, .int .i64 x_1.To, .int .u64 x_1.Term, .int .u64 x_1.Index, .int .u64 x_1.Prev, .int .u64 x_1.Commit, .bool x_1.Ok, .slice A_2 x_1.Entries.length c_3, .string (bs x_1.Data)]⟩]) (ps := [b_4 = b_4]) (by kernel_rfl) (And.intro rfl trivial) ?_
            refine GoO.bsplit (t := 34) (by kernel_rfl) (fun h10 => ?_) (fun h10 => ?_)
            · refine GoO.exec (is := [29, 30, 31, 32, 33, 34]) (hs := [.p, .b 0, .p, .p, .p, .p]) (rest := [35, 36, 37, 38, 39, 40]) (ks := [1, 40]) (env' := [(1, .pointer (some ⟨b_4, 0, none⟩)), (40, .bool (decide ((x_1.Entries.length : Int) ≤ 8)))]) (H' := [⟨40, b_4, [.int .i64 x_1.Kind, .int .i64 x_1.From, .int .i64 x_1.To, .int .u64 x_1.Term, .int .u64 x_1.Index, .int .u64 x_1.Prev, .int .u64 x_1.Commit, .bool x_1.Ok, .slice A_2 x_1.Entries.length c_3, .string (bs x_1.Data)]⟩]) (ps := [b_4 = b_4]) (by kernel_rfl) (And.intro rfl trivial) ?_
              refine GoO.bsplit (t := 40) (by kernel_rfl) (fun h11 => ?_) (fun h11 => ?_)
              · refine GoO.exec (is := [35, 36, 37, 38, 39, 40]) (hs := [.p, .b 0, .p, .p, .p, .p]) (rest := []) (ks := [1, 3]) (env' := [(1, .pointer (some ⟨b_4, 0, none⟩)), (3, .bool (decide ((x_1.Data.length : Int) ≤ 65536)))]) (H' := [⟨40, b_4, [.int .i64 x_1.Kind, .int .i64 x_1.From, .int .i64 x_1.To, .int .u64 x_1.Term, .int .u64 x_1.Index, .int .u64 x_1.Prev, .int .u64 x_1.Commit, .bool x_1.Ok, .slice A_2 x_1.Entries.length c_3, .string (bs x_1.Data)]⟩]) (ps := [b_4 = b_4]) (by kernel_rfl) (And.intro rfl trivial) ?_
                refine GoO.regionEnd ?_
                exact GoO.sub (ks := [1, 3]) (hk := [0]) (bk := [0]) (by kernel_rfl) (by kernel_rfl) (by kernel_rfl) (tontineref11_May_j0_ok n x_1 A_2 c_3 b_4 w0 S0 (decide ((x_1.Data.length : Int) ≤ 65536)))
              · refine GoO.exec (is := [35, 36, 37, 38, 39, 40]) (hs := [.p, .p, .p, .p, .p, .p]) (rest := []) (ks := [1, 3]) (env' := [(1, .pointer (some ⟨b_4, 0, none⟩)), (3, .bool false)]) (H' := [⟨40, b_4, [.int .i64 x_1.Kind, .int .i64 x_1.From, .int .i64 x_1.To, .int .u64 x_1.Term, .int .u64 x_1.Index, .int .u64 x_1.Prev, .int .u64 x_1.Commit, .bool x_1.Ok, .slice A_2 x_1.Entries.length c_3, .string (bs x_1.Data)]⟩]) (ps := []) (by kernel_rfl) trivial ?_
                refine GoO.regionEnd ?_
                exact GoO.sub (ks := [1, 3]) (hk := [0]) (bk := [0]) (by kernel_rfl) (by kernel_rfl) (by kernel_rfl) (tontineref11_May_j0_ok n x_1 A_2 c_3 b_4 w0 S0 false)
            · refine GoO.exec (is := [29, 30, 31, 32, 33, 34, 35, 36, 37, 38, 39, 40]) (hs := [.p, .p, .p, .p, .p, .p, .p, .p, .p, .p, .p, .p]) (rest := []) (ks := [1, 3]) (env' := [(1, .pointer (some ⟨b_4, 0, none⟩)), (3, .bool false)]) (H' := [⟨40, b_4, [.int .i64 x_1.Kind, .int .i64 x_1.From, .int .i64 x_1.To, .int .u64 x_1.Term, .int .u64 x_1.Index, .int .u64 x_1.Prev, .int .u64 x_1.Commit, .bool x_1.Ok, .slice A_2 x_1.Entries.length c_3, .string (bs x_1.Data)]⟩]) (ps := []) (by kernel_rfl) trivial ?_
              refine GoO.regionEnd ?_
              exact GoO.sub (ks := [1, 3]) (hk := [0]) (bk := [0]) (by kernel_rfl) (by kernel_rfl) (by kernel_rfl) (tontineref11_May_j0_ok n x_1 A_2 c_3 b_4 w0 S0 false)
          · refine GoO.exec (is := [24, 25, 26, 27, 28, 29, 30, 31, 32, 33, 34, 35, 36, 37, 38, 39, 40]) (hs := [.p, .p, .p, .p, .p, .p, .p, .p, .p, .p, .p, .p, .p, .p, .p, .p, .p]) (rest := []) (ks := [1, 3]) (env' := [(1, .pointer (some ⟨b_4, 0, none⟩)), (3, .bool false)]) (H' := [⟨40, b_4, [.int .i64 x_1.Kind, .int .i64 x_1.From, .int .i64 x_1.To, .int .u64 x_1.Term, .int .u64 x_1.Index, .int .u64 x_1.Prev, .int .u64 x_1.Commit, .bool x_1.Ok, .slice A_2 x_1.Entries.length c_3, .string (bs x_1.Data)]⟩]) (ps := []) (by kernel_rfl) trivial ?_
            refine GoO.regionEnd ?_
            exact GoO.sub (ks := [1, 3]) (hk := [0]) (bk := [0]) (by kernel_rfl) (by kernel_rfl) (by kernel_rfl) (tontineref11_May_j0_ok n x_1 A_2 c_3 b_4 w0 S0 false)
        · refine GoO.exec (is := [19, 20, 21, 22, 23, 24, 25, 26, 27, 28, 29, 30, 31, 32, 33, 34, 35, 36, 37, 38, 39, 40]) (hs := [.p, .p, .p, .p, .p, .p, .p, .p, .p, .p, .p, .p, .p, .p, .p, .p, .p, .p, .p, .p, .p, .p]) (rest := []) (ks := [1, 3]) (env' := [(1, .pointer (some ⟨b_4, 0, none⟩)), (3, .bool false)]) (H' := [⟨40, b_4, [.int .i64 x_1.Kind, .int .i64 x_1.From, .int .i64 x_1.To, .int .u64 x_1.Term, .int .u64 x_1.Index, .int .u64 x_1.Prev, .int .u64 x_1.Commit, .bool x_1.Ok, .slice A_2 x_1.Entries.length c_3, .string (bs x_1.Data)]⟩]) (ps := []) (by kernel_rfl) trivial ?_
          refine GoO.regionEnd ?_
          exact GoO.sub (ks := [1, 3]) (hk := [0]) (bk := [0]) (by kernel_rfl) (by kernel_rfl) (by kernel_rfl) (tontineref11_May_j0_ok n x_1 A_2 c_3 b_4 w0 S0 false)
      · refine GoO.exec (is := [14, 15, 16, 17, 18, 19, 20, 21, 22, 23, 24, 25, 26, 27, 28, 29, 30, 31, 32, 33, 34, 35, 36, 37, 38, 39, 40]) (hs := [.p, .p, .p, .p, .p, .p, .p, .p, .p, .p, .p, .p, .p, .p, .p, .p, .p, .p, .p, .p, .p, .p, .p, .p, .p, .p, .p]) (rest := []) (ks := [1, 3]) (env' := [(1, .pointer (some ⟨b_4, 0, none⟩)), (3, .bool false)]) (H' := [⟨40, b_4, [.int .i64 x_1.Kind, .int .i64 x_1.From, .int .i64 x_1.To, .int .u64 x_1.Term, .int .u64 x_1.Index, .int .u64 x_1.Prev, .int .u64 x_1.Commit, .bool x_1.Ok, .slice A_2 x_1.Entries.length c_3, .string (bs x_1.Data)]⟩]) (ps := []) (by kernel_rfl) trivial ?_
        refine GoO.regionEnd ?_
        exact GoO.sub (ks := [1, 3]) (hk := [0]) (bk := [0]) (by kernel_rfl) (by kernel_rfl) (by kernel_rfl) (tontineref11_May_j0_ok n x_1 A_2 c_3 b_4 w0 S0 false)
    · refine GoO.exec (is := [9, 10, 11, 12, 13, 14, 15, 16, 17, 18, 19, 20, 21, 22, 23, 24, 25, 26, 27, 28, 29, 30, 31, 32, 33, 34, 35, 36, 37, 38, 39, 40]) (hs := [.p, .p, .p, .p, .p, .p, .p, .p, .p, .p, .p, .p, .p, .p, .p, .p, .p, .p, .p, .p, .p, .p, .p, .p, .p, .p, .p, .p, .p, .p, .p, .p]) (rest := []) (ks := [1, 3]) (env' := [(1, .pointer (some ⟨b_4, 0, none⟩)), (3, .bool false)]) (H' := [⟨40, b_4, [.int .i64 x_1.Kind, .int .i64 x_1.From, .int .i64 x_1.To, .int .u64 x_1.Term, .int .u64 x_1.Index, .int .u64 x_1.Prev, .int .u64 x_1.Commit, .bool x_1.Ok, .slice A_2 x_1.Entries.length c_3, .string (bs x_1.Data)]⟩]) (ps := []) (by kernel_rfl) trivial ?_
      refine GoO.regionEnd ?_
      exact GoO.sub (ks := [1, 3]) (hk := [0]) (bk := [0]) (by kernel_rfl) (by kernel_rfl) (by kernel_rfl) (tontineref11_May_j0_ok n x_1 A_2 c_3 b_4 w0 S0 false)
  · refine GoO.exec (is := [4, 5, 6, 7, 8, 9, 10, 11, 12, 13, 14, 15, 16, 17, 18, 19, 20, 21, 22, 23, 24, 25, 26, 27, 28, 29, 30, 31, 32, 33, 34, 35, 36, 37, 38, 39, 40]) (hs := [.p, .p, .p, .p, .p, .p, .p, .p, .p, .p, .p, .p, .p, .p, .p, .p, .p, .p, .p, .p, .p, .p, .p, .p, .p, .p, .p, .p, .p, .p, .p, .p, .p, .p, .p, .p, .p]) (rest := []) (ks := [1, 3]) (env' := [(1, .pointer (some ⟨b_4, 0, none⟩)), (3, .bool false)]) (H' := [⟨40, b_4, [.int .i64 x_1.Kind, .int .i64 x_1.From, .int .i64 x_1.To, .int .u64 x_1.Term, .int .u64 x_1.Index, .int .u64 x_1.Prev, .int .u64 x_1.Commit, .bool x_1.Ok, .slice A_2 x_1.Entries.length c_3, .string (bs x_1.Data)]⟩]) (ps := []) (by kernel_rfl) trivial ?_
    refine GoO.regionEnd ?_
    exact GoO.sub (ks := [1, 3]) (hk := [0]) (bk := [0]) (by kernel_rfl) (by kernel_rfl) (by kernel_rfl) (tontineref11_May_j0_ok n x_1 A_2 c_3 b_4 w0 S0 false)

/-! tontine/tontineref03.Num -/
noncomputable def c42_0 : Code := bodyOf Try.f42
noncomputable def c42_1 : Code := cdL c42_0
noncomputable def c42_2 : Code := cdR c42_0
noncomputable def c42_3 : Code := cdL c42_2
noncomputable def c42_4 : Code := cdR c42_2
noncomputable def c42_5 : Code := cdL c42_4
noncomputable def c42_6 : Code := cdR c42_4
noncomputable def c42_7 : Code := cdL c42_6
noncomputable def c42_8 : Code := cdL c42_7
noncomputable def c42_9 : Code := cdL c42_8
noncomputable def c42_10 : Code := cdL c42_9
noncomputable def c42_11 : Code := cdL c42_10
noncomputable def c42_12 : Code := cdR c42_10
noncomputable def c42_13 : Code := cdL c42_12
noncomputable def c42_14 : Code := cdR c42_12
noncomputable def c42_15 : Code := cdR c42_9
noncomputable def c42_16 : Code := cdL c42_15
noncomputable def c42_17 : Code := cdL c42_16
noncomputable def c42_18 : Code := cdR c42_16
noncomputable def c42_19 : Code := cdL c42_18
noncomputable def c42_20 : Code := cdR c42_18
noncomputable def c42_21 : Code := cdR c42_6
noncomputable def c42_22 : Code := cdL c42_21
noncomputable def c42_23 : Code := cdR c42_21
noncomputable def r42_1 : Array Oper := cdO c42_1
noncomputable def r42_3 : Array Oper := cdO c42_3
noncomputable def r42_5 : Array Oper := cdO c42_5
noncomputable def r42_11 : Array Oper := cdO c42_11
noncomputable def r42_17 : Array Oper := cdO c42_17
noncomputable def r42_19 : Array Oper := cdO c42_19
noncomputable def r42_20 : Array Oper := cdO c42_20
noncomputable def r42_22 : Array Oper := cdO c42_22
theorem c42_0e : c42_0 = .seq c42_1 c42_2 := by kernel_rfl
theorem c42_1e : c42_1 = .region 0 r42_1 false := by kernel_rfl
theorem c42_2e : c42_2 = .seq c42_3 c42_4 := by kernel_rfl
theorem c42_3e : c42_3 = .region 1 r42_3 false := by kernel_rfl
theorem c42_4e : c42_4 = .seq c42_5 c42_6 := by kernel_rfl
theorem c42_5e : c42_5 = .region 2 r42_5 false := by kernel_rfl
theorem c42_6e : c42_6 = .seq c42_7 c42_21 := by kernel_rfl
theorem c42_7e : c42_7 = .block 0 c42_8 := by kernel_rfl
theorem c42_8e : c42_8 = .loop c42_9 := by kernel_rfl
theorem c42_9e : c42_9 = .seq c42_10 c42_15 := by kernel_rfl
theorem c42_10e : c42_10 = .seq c42_11 c42_12 := by kernel_rfl
theorem c42_11e : c42_11 = .region 3 r42_11 false := by kernel_rfl
theorem c42_12e : c42_12 = .cond (cdC c42_12) c42_13 c42_14 := by kernel_rfl
theorem c42_13e : c42_13 = .skip := by kernel_rfl
theorem c42_14e : c42_14 = .exit 0 := by kernel_rfl
theorem c42_15e : c42_15 = .block 1 c42_16 := by kernel_rfl
theorem c42_16e : c42_16 = .seq c42_17 c42_18 := by kernel_rfl
theorem c42_17e : c42_17 = .region 4 r42_17 false := by kernel_rfl
theorem c42_18e : c42_18 = .seq c42_19 c42_20 := by kernel_rfl
theorem c42_19e : c42_19 = .region 5 r42_19 false := by kernel_rfl
theorem c42_20e : c42_20 = .region 6 r42_20 false := by kernel_rfl
theorem c42_21e : c42_21 = .seq c42_22 c42_23 := by kernel_rfl
theorem c42_22e : c42_22 = .region 7 r42_22 false := by kernel_rfl
theorem c42_23e : c42_23 = .ret := by kernel_rfl
noncomputable def tontineref03_Num.R : Pst (List UInt8) where
  ε := Unit
  v := fun r x => .string (bs r)
  H := fun r x => []
  B := fun r x => []
noncomputable def tontineref03_Num.cx (w0 : World) (S0 : Fam) : Cx (List UInt8) := ⟨Try.prog, 42, Try.f42, 24, w0, S0, [], 0, tontineref03_Num.R⟩
theorem tontineref03_Num_l0_ok (n : Nat) (w0 : World) (S0 : Fam) :
    ∀ (k : Nat) (x_2 : Int) (s_3 : (List UInt8)) (n_4 : Int), GoO (tontineref03_Num.cx w0 S0) [(0, .int .u64 x_2), (3, .string (bs s_3)), (4, .int .i64 n_4)] [] [] [.code c42_9, .inLoop c42_9, .inBlock 0, .code c42_21] (tontineref03_Num.l0 n k x_2 s_3 n_4) := by
  intro k
  induction k with
  | zero => intros; rw [tontineref03_Num.l0.eq_1]; exact GoO.stop
  | succ k ih0 =>
    intro x_2 s_3 n_4
    rw [tontineref03_Num.l0.eq_2]
    refine GoO.seq' c42_9e ?_
    refine GoO.seq' c42_10e ?_
    refine GoO.region' (is := [0, 1]) c42_11e (by kernel_rfl) ?_
    refine GoO.exec (is := [0, 1]) (hs := [.p, .p]) (rest := []) (ks := [0, 3, 4, 6]) (env' := [(0, .int .u64 x_2), (3, .string (bs s_3)), (4, .int .i64 n_4), (6, .bool (decide (x_2 > 0)))]) (H' := []) (ps := []) (by kernel_rfl) trivial ?_
    refine GoO.regionEnd ?_
    refine GoO.ite' c42_12e (by kernel_rfl) (fun h5 => ?_) (fun h5 => ?_)
    · refine GoO.skip' c42_13e ?_
      refine GoO.block' c42_15e ?_
      refine GoO.seq' c42_16e ?_
      refine GoO.region' (is := [0, 1, 2, 3, 4, 5, 6, 7]) c42_17e (by kernel_rfl) ?_
      refine GoO.exec (is := [0, 1, 2]) (hs := [.p, .p, .p]) (rest := [3, 4, 5, 6, 7]) (ks := [0, 3, 4, 9]) (env' := [(0, .int .u64 x_2), (3, .string (bs s_3)), (4, .int .i64 n_4), (9, .int .u8 (wu8 (x_2.tmod 256)))]) (H' := []) (ps := [(256 : Int) ≠ 0]) (by kernel_rfl) (And.intro (by decide) trivial) ?_
      refine OpTo.go (GoO.lit (e := 5) (K := Kd.u8) rfl (by kernel_rfl) (by kernel_rfl) (cs := [.int .u8 (wu8 (x_2.tmod 256))]) (by kernel_rfl) [u8of (x_2.tmod 256)] (by kernel_rfl) (by kernel_rfl) (fun w S hB => ⟨[.int .u8 (wu8 (x_2.tmod 256))], _, rfl, congrArg (fun v => [v]) (u8cell _), rfl⟩) 40 _ (fun _ _ => rfl) (fun A_6 c_7 => ?_))
      refine OpTo.go (GoO.toStr (e := 5) (A := A_6) (c := c_7) (xs := [u8of (x_2.tmod 256)]) (j := 0) rfl (by kernel_rfl) (by kernel_rfl) (by kernel_rfl) (by kernel_rfl) rfl Reads.own rfl rfl ?_)
      refine GoO.guard (fun h8 => ?_)
      refine GoO.exec (is := [5, 6, 7]) (hs := [.p, .p, .p]) (rest := []) (ks := [0, 3, 4]) (env' := [(0, .int .u64 x_2), (3, .string (bs ([u8of (x_2.tmod 256)] ++ s_3))), (4, .int .i64 n_4)]) (H' := []) (ps := [([u8of (x_2.tmod 256)] : List UInt8).length + s_3.length ≤ i64max]) (by kernel_rfl) (And.intro h8 trivial) ?_
      refine GoO.regionEnd ?_
      refine GoO.seq' c42_18e ?_
      refine GoO.region' (is := [0, 1, 2]) c42_19e (by kernel_rfl) ?_
      refine GoO.exec (is := [0, 1, 2]) (hs := [.p, .p, .p]) (rest := []) (ks := [0, 3, 4]) (env' := [(0, .int .u64 (wu64 (x_2.tdiv 256))), (3, .string (bs ([u8of (x_2.tmod 256)] ++ s_3))), (4, .int .i64 n_4)]) (H' := []) (ps := [(256 : Int) ≠ 0]) (by kernel_rfl) (And.intro (by decide) trivial) ?_
      refine GoO.regionEnd ?_
      refine GoO.region' (is := [0, 1, 2]) c42_20e (by kernel_rfl) ?_
      refine GoO.exec (is := [0, 1, 2]) (hs := [.p, .p, .p]) (rest := []) (ks := [0, 3, 4]) (env' := [(0, .int .u64 (wu64 (x_2.tdiv 256))), (3, .string (bs ([u8of (x_2.tmod 256)] ++ s_3))), (4, .int .i64 (wi64 (n_4 + 1)))]) (H' := []) (ps := []) (by kernel_rfl) trivial ?_
      refine GoO.regionEnd ?_
      refine GoO.inBlock ?_
      refine GoO.inLoop ?_
      exact GoO.sub (ks := [0, 3, 4]) (hk := []) (bk := []) (by kernel_rfl) (by kernel_rfl) (by kernel_rfl) (ih0 (wu64 (x_2.tdiv 256)) ([u8of (x_2.tmod 256)] ++ s_3) (wi64 (n_4 + 1)))
    · refine GoO.exit' c42_14e rfl ?_
      refine GoO.seq' c42_21e ?_
      refine GoO.region' (is := [0, 1, 2, 3, 4, 5, 6]) c42_22e (by kernel_rfl) ?_
      refine GoO.exec (is := [0, 1]) (hs := [.p, .p]) (rest := [2, 3, 4, 5, 6]) (ks := [3, 19]) (env' := [(3, .string (bs s_3)), (19, .int .u8 (wu8 n_4))]) (H' := []) (ps := []) (by kernel_rfl) trivial ?_
      refine OpTo.go (GoO.lit (e := 5) (K := Kd.u8) rfl (by kernel_rfl) (by kernel_rfl) (cs := [.int .u8 (wu8 n_4)]) (by kernel_rfl) [u8of n_4] (by kernel_rfl) (by kernel_rfl) (fun w S hB => ⟨[.int .u8 (wu8 n_4)], _, rfl, congrArg (fun v => [v]) (u8cell _), rfl⟩) 41 _ (fun _ _ => rfl) (fun A_9 c_10 => ?_))
      refine OpTo.go (GoO.toStr (e := 5) (A := A_9) (c := c_10) (xs := [u8of n_4]) (j := 0) rfl (by kernel_rfl) (by kernel_rfl) (by kernel_rfl) (by kernel_rfl) rfl Reads.own rfl rfl ?_)
      refine GoO.guard (fun h11 => ?_)
      refine GoO.exec (is := [4, 5, 6]) (hs := [.p, .p, .p]) (rest := []) (ks := [2]) (env' := [(2, .string (bs ([u8of n_4] ++ s_3)))]) (H' := []) (ps := [([u8of n_4] : List UInt8).length + s_3.length ≤ i64max]) (by kernel_rfl) (And.intro h11 trivial) ?_
      refine GoO.regionEnd ?_
      exact GoO.ret' (h := c42_23e) (hs := []) (ps := []) (hk := []) (bk := []) Try.func42 () (by kernel_rfl) trivial (by kernel_rfl) (by kernel_rfl)
theorem tontineref03_Num_ok (n : Nat) (x_1 : Int) :
    Meets Try.prog 42 [.int .u64 x_1] 0 [] [] [] (tontineref03_Num.f n x_1) (tontineref03_Num.R) := by
  refine Meets.of (c := c42_0) (n := 24) Try.func42 (by kernel_rfl) (by kernel_rfl) (by kernel_rfl) fun w0 S0 => ?_
  unfold tontineref03_Num.f
  show GoO (tontineref03_Num.cx w0 S0) [(0, .int .u64 x_1)] [] [] [.code c42_0] _
  refine GoO.seq' c42_0e ?_
  refine GoO.region' (is := [0]) c42_1e (by kernel_rfl) ?_
  refine GoO.exec (is := [0]) (hs := [.p]) (rest := []) (ks := [0]) (env' := [(0, .int .u64 x_1)]) (H' := []) (ps := []) (by kernel_rfl) trivial ?_
  refine GoO.regionEnd ?_
  refine GoO.seq' c42_2e ?_
  refine GoO.region' (is := [0]) c42_3e (by kernel_rfl) ?_
  refine GoO.exec (is := [0]) (hs := [.p]) (rest := []) (ks := [0, 3]) (env' := [(0, .int .u64 x_1), (3, .string (bs []))]) (H' := []) (ps := []) (by kernel_rfl) trivial ?_
  refine GoO.regionEnd ?_
  refine GoO.seq' c42_4e ?_
  refine GoO.region' (is := [0]) c42_5e (by kernel_rfl) ?_
  refine GoO.exec (is := [0]) (hs := [.p]) (rest := []) (ks := [0, 3, 4]) (env' := [(0, .int .u64 x_1), (3, .string (bs [])), (4, .int .i64 0)]) (H' := []) (ps := []) (by kernel_rfl) trivial ?_
  refine GoO.regionEnd ?_
  refine GoO.seq' c42_6e ?_
  refine GoO.block' c42_7e ?_
  refine GoO.loop' c42_8e ?_
  exact GoO.sub (ks := [0, 3, 4]) (hk := []) (bk := []) (by kernel_rfl) (by kernel_rfl) (by kernel_rfl) (tontineref03_Num_l0_ok n w0 S0 n x_1 [] 0)

/-! tontine/tontineref03.Text -/
noncomputable def c43_0 : Code := bodyOf Try.f43
noncomputable def c43_1 : Code := cdL c43_0
noncomputable def c43_2 : Code := cdR c43_0
noncomputable def c43_3 : Code := cdL c43_2
noncomputable def c43_4 : Code := cdR c43_2
noncomputable def r43_1 : Array Oper := cdO c43_1
noncomputable def r43_3 : Array Oper := cdO c43_3
theorem c43_0e : c43_0 = .seq c43_1 c43_2 := by kernel_rfl
theorem c43_1e : c43_1 = .region 0 r43_1 false := by kernel_rfl
theorem c43_2e : c43_2 = .seq c43_3 c43_4 := by kernel_rfl
theorem c43_3e : c43_3 = .region 1 r43_3 false := by kernel_rfl
theorem c43_4e : c43_4 = .ret := by kernel_rfl
noncomputable def tontineref03_Text.R : Pst (List UInt8) where
  ε := Unit
  v := fun r x => .string (bs r)
  H := fun r x => []
  B := fun r x => []
noncomputable def tontineref03_Text.cx (w0 : World) (S0 : Fam) : Cx (List UInt8) := ⟨Try.prog, 43, Try.f43, 9, w0, S0, [], 0, tontineref03_Text.R⟩
theorem tontineref03_Text_ok (n : Nat) (s_1 : (List UInt8)) :
    Meets Try.prog 43 [.string (bs s_1)] 0 [] [] [] (tontineref03_Text.f n s_1) (tontineref03_Text.R) := by
  refine Meets.of (c := c43_0) (n := 9) Try.func43 (by kernel_rfl) (by kernel_rfl) (by kernel_rfl) fun w0 S0 => ?_
  unfold tontineref03_Text.f
  show GoO (tontineref03_Text.cx w0 S0) [(0, .string (bs s_1))] [] [] [.code c43_0] _
  refine GoO.seq' c43_0e ?_
  refine GoO.region' (is := [0]) c43_1e (by kernel_rfl) ?_
  refine GoO.exec (is := [0]) (hs := [.p]) (rest := []) (ks := [0]) (env' := [(0, .string (bs s_1))]) (H' := []) (ps := []) (by kernel_rfl) trivial ?_
  refine GoO.regionEnd ?_
  refine GoO.seq' c43_2e ?_
  refine GoO.region' (is := [0, 1, 2, 3, 4, 5, 6]) c43_3e (by kernel_rfl) ?_
  refine GoO.exec (is := [0, 1, 2]) (hs := [.p, .p, .p]) (rest := [3, 4, 5, 6]) (ks := [0, 5]) (env' := [(0, .string (bs s_1)), (5, .int .u64 (wu64 (s_1.length : Int)))]) (H' := []) (ps := []) (by kernel_rfl) trivial ?_
  refine OpTo.go (GoO.call rfl (by kernel_rfl) (by kernel_rfl) (tontineref03_Num_ok n (wu64 (s_1.length : Int))) [[0]] [] [] [] (hks := []) (bks := []) (by kernel_rfl) (by kernel_rfl) (by kernel_rfl) (.inl rfl) rfl rfl (by kernel_rfl) (by kernel_rfl) _ (fun _ _ => rfl) _ _ (fun _ _ => rfl) (fun _ _ => rfl) (fun _ _ => by kernel_rfl) (fun _ _ => by kernel_rfl) (fun r_2 x_4 => ?_))
  refine GoO.shape (env' := [(0, .string (bs s_1)), (5, .int .u64 (wu64 (s_1.length : Int))), (6, .string (bs r_2))]) (H' := []) (B' := []) (ks := [0, 5, 6]) (by kernel_rfl) (by kernel_rfl) (by kernel_rfl) ?_
  refine GoO.guard (fun h3 => ?_)
  refine GoO.exec (is := [4, 5, 6]) (hs := [.p, .p, .p]) (rest := []) (ks := [2]) (env' := [(2, .string (bs (r_2 ++ s_1)))]) (H' := []) (ps := [r_2.length + s_1.length ≤ i64max]) (by kernel_rfl) (And.intro h3 trivial) ?_
  refine GoO.regionEnd ?_
  exact GoO.ret' (h := c43_4e) (hs := []) (ps := []) (hk := []) (bk := []) Try.func43 () (by kernel_rfl) trivial (by kernel_rfl) (by kernel_rfl)

/-! tontine/tontineref11.Encode -/
noncomputable def c22_0 : Code := bodyOf Try.f22
noncomputable def c22_1 : Code := cdL c22_0
noncomputable def c22_2 : Code := cdR c22_0
noncomputable def c22_3 : Code := cdL c22_2
noncomputable def c22_4 : Code := cdL c22_3
noncomputable def c22_5 : Code := cdR c22_3
noncomputable def c22_6 : Code := cdL c22_5
noncomputable def c22_7 : Code := cdL c22_6
noncomputable def c22_8 : Code := cdR c22_6
noncomputable def c22_9 : Code := cdR c22_5
noncomputable def c22_10 : Code := cdR c22_2
noncomputable def c22_11 : Code := cdL c22_10
noncomputable def c22_12 : Code := cdR c22_10
noncomputable def c22_13 : Code := cdL c22_12
noncomputable def c22_14 : Code := cdR c22_12
noncomputable def c22_15 : Code := cdL c22_14
noncomputable def c22_16 : Code := cdL c22_15
noncomputable def c22_17 : Code := cdR c22_15
noncomputable def c22_18 : Code := cdL c22_17
noncomputable def c22_19 : Code := cdR c22_17
noncomputable def c22_20 : Code := cdR c22_14
noncomputable def c22_21 : Code := cdL c22_20
noncomputable def c22_22 : Code := cdR c22_20
noncomputable def c22_23 : Code := cdL c22_22
noncomputable def c22_24 : Code := cdL c22_23
noncomputable def c22_25 : Code := cdR c22_23
noncomputable def c22_26 : Code := cdL c22_25
noncomputable def c22_27 : Code := cdL c22_26
noncomputable def c22_28 : Code := cdL c22_27
noncomputable def c22_29 : Code := cdL c22_28
noncomputable def c22_30 : Code := cdR c22_28
noncomputable def c22_31 : Code := cdL c22_30
noncomputable def c22_32 : Code := cdR c22_30
noncomputable def c22_33 : Code := cdR c22_27
noncomputable def c22_34 : Code := cdL c22_33
noncomputable def c22_35 : Code := cdL c22_34
noncomputable def c22_36 : Code := cdR c22_33
noncomputable def c22_37 : Code := cdR c22_22
noncomputable def c22_38 : Code := cdL c22_37
noncomputable def c22_39 : Code := cdL c22_38
noncomputable def c22_40 : Code := cdR c22_38
noncomputable def c22_41 : Code := cdL c22_40
noncomputable def c22_42 : Code := cdL c22_41
noncomputable def c22_43 : Code := cdL c22_42
noncomputable def c22_44 : Code := cdL c22_43
noncomputable def c22_45 : Code := cdR c22_43
noncomputable def c22_46 : Code := cdL c22_45
noncomputable def c22_47 : Code := cdR c22_45
noncomputable def c22_48 : Code := cdR c22_42
noncomputable def c22_49 : Code := cdL c22_48
noncomputable def c22_50 : Code := cdL c22_49
noncomputable def c22_51 : Code := cdL c22_50
noncomputable def c22_52 : Code := cdR c22_50
noncomputable def c22_53 : Code := cdR c22_48
noncomputable def c22_54 : Code := cdR c22_37
noncomputable def c22_55 : Code := cdL c22_54
noncomputable def c22_56 : Code := cdR c22_54
noncomputable def r22_1 : Array Oper := cdO c22_1
noncomputable def r22_4 : Array Oper := cdO c22_4
noncomputable def r22_7 : Array Oper := cdO c22_7
noncomputable def r22_11 : Array Oper := cdO c22_11
noncomputable def r22_13 : Array Oper := cdO c22_13
noncomputable def r22_16 : Array Oper := cdO c22_16
noncomputable def r22_18 : Array Oper := cdO c22_18
noncomputable def r22_21 : Array Oper := cdO c22_21
noncomputable def r22_24 : Array Oper := cdO c22_24
noncomputable def r22_29 : Array Oper := cdO c22_29
noncomputable def r22_35 : Array Oper := cdO c22_35
noncomputable def r22_36 : Array Oper := cdO c22_36
noncomputable def r22_39 : Array Oper := cdO c22_39
noncomputable def r22_44 : Array Oper := cdO c22_44
noncomputable def r22_51 : Array Oper := cdO c22_51
noncomputable def r22_52 : Array Oper := cdO c22_52
noncomputable def r22_53 : Array Oper := cdO c22_53
noncomputable def r22_55 : Array Oper := cdO c22_55
theorem c22_0e : c22_0 = .seq c22_1 c22_2 := by kernel_rfl
theorem c22_1e : c22_1 = .region 0 r22_1 false := by kernel_rfl
theorem c22_2e : c22_2 = .seq c22_3 c22_10 := by kernel_rfl
theorem c22_3e : c22_3 = .seq c22_4 c22_5 := by kernel_rfl
theorem c22_4e : c22_4 = .region 1 r22_4 false := by kernel_rfl
theorem c22_5e : c22_5 = .cond (cdC c22_5) c22_6 c22_9 := by kernel_rfl
theorem c22_6e : c22_6 = .seq c22_7 c22_8 := by kernel_rfl
theorem c22_7e : c22_7 = .region 2 r22_7 false := by kernel_rfl
theorem c22_8e : c22_8 = .ret := by kernel_rfl
theorem c22_9e : c22_9 = .skip := by kernel_rfl
theorem c22_10e : c22_10 = .seq c22_11 c22_12 := by kernel_rfl
theorem c22_11e : c22_11 = .region 3 r22_11 false := by kernel_rfl
theorem c22_12e : c22_12 = .seq c22_13 c22_14 := by kernel_rfl
theorem c22_13e : c22_13 = .region 4 r22_13 false := by kernel_rfl
theorem c22_14e : c22_14 = .seq c22_15 c22_20 := by kernel_rfl
theorem c22_15e : c22_15 = .seq c22_16 c22_17 := by kernel_rfl
theorem c22_16e : c22_16 = .region 5 r22_16 false := by kernel_rfl
theorem c22_17e : c22_17 = .cond (cdC c22_17) c22_18 c22_19 := by kernel_rfl
theorem c22_18e : c22_18 = .region 6 r22_18 false := by kernel_rfl
theorem c22_19e : c22_19 = .skip := by kernel_rfl
theorem c22_20e : c22_20 = .seq c22_21 c22_22 := by kernel_rfl
theorem c22_21e : c22_21 = .region 7 r22_21 false := by kernel_rfl
theorem c22_22e : c22_22 = .seq c22_23 c22_37 := by kernel_rfl
theorem c22_23e : c22_23 = .seq c22_24 c22_25 := by kernel_rfl
theorem c22_24e : c22_24 = .region 8 r22_24 false := by kernel_rfl
theorem c22_25e : c22_25 = .block 0 c22_26 := by kernel_rfl
theorem c22_26e : c22_26 = .loop c22_27 := by kernel_rfl
theorem c22_27e : c22_27 = .seq c22_28 c22_33 := by kernel_rfl
theorem c22_28e : c22_28 = .seq c22_29 c22_30 := by kernel_rfl
theorem c22_29e : c22_29 = .region 9 r22_29 false := by kernel_rfl
theorem c22_30e : c22_30 = .cond (cdC c22_30) c22_31 c22_32 := by kernel_rfl
theorem c22_31e : c22_31 = .skip := by kernel_rfl
theorem c22_32e : c22_32 = .exit 0 := by kernel_rfl
theorem c22_33e : c22_33 = .seq c22_34 c22_36 := by kernel_rfl
theorem c22_34e : c22_34 = .block 1 c22_35 := by kernel_rfl
theorem c22_35e : c22_35 = .region 11 r22_35 false := by kernel_rfl
theorem c22_36e : c22_36 = .region 10 r22_36 false := by kernel_rfl
theorem c22_37e : c22_37 = .seq c22_38 c22_54 := by kernel_rfl
theorem c22_38e : c22_38 = .seq c22_39 c22_40 := by kernel_rfl
theorem c22_39e : c22_39 = .region 12 r22_39 false := by kernel_rfl
theorem c22_40e : c22_40 = .block 2 c22_41 := by kernel_rfl
theorem c22_41e : c22_41 = .loop c22_42 := by kernel_rfl
theorem c22_42e : c22_42 = .seq c22_43 c22_48 := by kernel_rfl
theorem c22_43e : c22_43 = .seq c22_44 c22_45 := by kernel_rfl
theorem c22_44e : c22_44 = .region 13 r22_44 false := by kernel_rfl
theorem c22_45e : c22_45 = .cond (cdC c22_45) c22_46 c22_47 := by kernel_rfl
theorem c22_46e : c22_46 = .skip := by kernel_rfl
theorem c22_47e : c22_47 = .exit 2 := by kernel_rfl
theorem c22_48e : c22_48 = .seq c22_49 c22_53 := by kernel_rfl
theorem c22_49e : c22_49 = .block 3 c22_50 := by kernel_rfl
theorem c22_50e : c22_50 = .seq c22_51 c22_52 := by kernel_rfl
theorem c22_51e : c22_51 = .region 15 r22_51 false := by kernel_rfl
theorem c22_52e : c22_52 = .region 16 r22_52 true := by kernel_rfl
theorem c22_53e : c22_53 = .region 14 r22_53 false := by kernel_rfl
theorem c22_54e : c22_54 = .seq c22_55 c22_56 := by kernel_rfl
theorem c22_55e : c22_55 = .region 17 r22_55 false := by kernel_rfl
theorem c22_56e : c22_56 = .ret := by kernel_rfl
noncomputable def tontineref11_Encode.R (A_2 : Option Addr) (c_3 : Nat) : Pst ((List UInt8) × Int) where
  ε := Unit
  v := fun r x => .tuple ⟨[.string (bs r.1), .int .i64 r.2]⟩
  H := fun r x => []
  B := fun r x => []
noncomputable def tontineref11_Encode.cx (A_2 : Option Addr) (c_3 : Nat) (w0 : World) (S0 : Fam) : Cx ((List UInt8) × Int) := ⟨Try.prog, 22, Try.f22, 86, w0, S0, [], 0, tontineref11_Encode.R A_2 c_3⟩
theorem tontineref11_Encode_l1_ok (n : Nat) (x_1 : T_api_Letter) (A_2 : Option Addr) (c_3 : Nat) (b_4 : Nat) (w0 : World) (S0 : Fam) :
    ∀ (k : Nat) (s_18 : (List UInt8)) (i_19 : Int), GoO (tontineref11_Encode.cx A_2 c_3 w0 S0) [(1, .pointer (some ⟨b_4, 0, none⟩)), (4, .string (bs s_18)), (8, .int .i64 i_19)] [⟨40, b_4, [.int .i64 x_1.Kind, .int .i64 x_1.From, .int .i64 x_1.To, .int .u64 x_1.Term, .int .u64 x_1.Index, .int .u64 x_1.Prev, .int .u64 x_1.Commit, .bool x_1.Ok, .slice A_2 x_1.Entries.length c_3, .string (bs x_1.Data)]⟩] [Rd 0 kT_api_Entry A_2 c_3 x_1.Entries] [.code c22_42, .inLoop c22_42, .inBlock 2, .code c22_54] (tontineref11_Encode.l1 n x_1 k s_18 i_19) := by
  intro k
  induction k with
  | zero => intros; rw [tontineref11_Encode.l1.eq_1]; exact GoO.stop
  | succ k ih1 =>
    intro s_18 i_19
    rw [tontineref11_Encode.l1.eq_2]
    refine GoO.seq' c22_42e ?_
    refine GoO.seq' c22_43e ?_
    refine GoO.region' (is := [0, 1, 2, 3, 4]) c22_44e (by kernel_rfl) ?_
    refine GoO.exec (is := [0, 1, 2, 3, 4]) (hs := [.p, .p, .b 0, .p, .p]) (rest := []) (ks := [1, 4, 8, 55]) (env' := [(1, .pointer (some ⟨b_4, 0, none⟩)), (4, .string (bs s_18)), (8, .int .i64 i_19), (55, .bool (decide (i_19 < (x_1.Entries.length : Int))))]) (H' := [⟨40, b_4, [.int .i64 x_1.Kind, .int .i64 x_1.From, .int .i64 x_1.To, .int .u64 x_1.Term, .int .u64 x_1.Index, .int .u64 x_1.Prev, .int .u64 x_1.Commit, .bool x_1.Ok, .slice A_2 x_1.Entries.length c_3, .string (bs x_1.Data)]⟩]) (ps := [b_4 = b_4]) (by kernel_rfl) (And.intro rfl trivial) ?_
    refine GoO.regionEnd ?_
    refine GoO.ite' c22_45e (by kernel_rfl) (fun h20 => ?_) (fun h20 => ?_)
    · refine GoO.skip' c22_46e ?_
      refine GoO.seq' c22_48e ?_
      refine GoO.block' c22_49e ?_
      refine GoO.seq' c22_50e ?_
      refine GoO.region' (is := [0, 1, 2, 3, 4, 5, 6]) c22_51e (by kernel_rfl) ?_
      refine GoO.exec (is := [0, 1, 2]) (hs := [.p, .b 0, .p]) (rest := [3, 4, 5, 6]) (ks := [1, 4, 8, 59, 60]) (env' := [(1, .pointer (some ⟨b_4, 0, none⟩)), (4, .string (bs s_18)), (8, .int .i64 i_19), (59, .slice A_2 x_1.Entries.length c_3), (60, .int .i64 i_19)]) (H' := [⟨40, b_4, [.int .i64 x_1.Kind, .int .i64 x_1.From, .int .i64 x_1.To, .int .u64 x_1.Term, .int .u64 x_1.Index, .int .u64 x_1.Prev, .int .u64 x_1.Commit, .bool x_1.Ok, .slice A_2 x_1.Entries.length c_3, .string (bs x_1.Data)]⟩]) (ps := [b_4 = b_4]) (by kernel_rfl) (And.intro rfl trivial) ?_
      refine GoO.guard (fun h21 => ?_)
      refine OpTo.go (GoO.idx (kk := .i64) (e := 93) (K := kT_api_Entry) (A := A_2) (c := c_3) (xs := x_1.Entries) (iv := i_19) (j := 0) rfl (by kernel_rfl) (by kernel_rfl) (by kernel_rfl) (by kernel_rfl) rfl Reads.rd rfl h21.1 h21.2 (by decide) rfl ?_)
      refine OpTo.go (GoO.ldE' (K := kT_api_Entry) (A := A_2) (c := c_3) (xs := x_1.Entries) (iN := i_19.toNat) (off := 0) (j := 0) rfl (by kernel_rfl) rfl Reads.rd (idx_lt h21.1 h21.2) (by decide) (Opn.flat _ _ _ _ _) (v := fun _ => .agg ⟨[.int .u64 ((rdL x_1.Entries i_19).Term), .int .u64 ((rdL x_1.Entries i_19).Index), .int .i64 ((rdL x_1.Entries i_19).Kind), .string (bs ((rdL x_1.Entries i_19).Data))]⟩) (fun _ => by kernel_rfl) _ (fun _ => rfl) (fun _ => ?_))
      refine OpTo.go (GoO.new rfl 42 (cs := [.int .u64 0, .int .u64 0, .int .i64 0, .string (bs [])]) (by kernel_rfl) _ (fun _ => rfl) (fun b_22 => ?_))
      refine GoO.exec (is := [6]) (hs := [.b 0]) (rest := []) (ks := [1, 4, 8, 9]) (env' := [(1, .pointer (some ⟨b_4, 0, none⟩)), (4, .string (bs s_18)), (8, .int .i64 i_19), (9, .pointer (some ⟨b_22, 0, none⟩))]) (H' := [⟨42, b_22, [.int .u64 ((rdL x_1.Entries i_19).Term), .int .u64 ((rdL x_1.Entries i_19).Index), .int .i64 ((rdL x_1.Entries i_19).Kind), .string (bs ((rdL x_1.Entries i_19).Data))]⟩, ⟨40, b_4, [.int .i64 x_1.Kind, .int .i64 x_1.From, .int .i64 x_1.To, .int .u64 x_1.Term, .int .u64 x_1.Index, .int .u64 x_1.Prev, .int .u64 x_1.Commit, .bool x_1.Ok, .slice A_2 x_1.Entries.length c_3, .string (bs x_1.Data)]⟩]) (ps := [b_22 = b_22]) (by kernel_rfl) (And.intro rfl trivial) ?_
      refine GoO.regionEnd ?_
      refine GoO.draw c22_52e (by kernel_rfl) [18] [⟨42, b_22, [.int .u64 ((rdL x_1.Entries i_19).Term), .int .u64 ((rdL x_1.Entries i_19).Index), .int .i64 ((rdL x_1.Entries i_19).Kind), .string (bs ((rdL x_1.Entries i_19).Data))]⟩] [] (n := 19) (by kernel_rfl) ?_
      simp only [List.replicate]
      refine GoF.take [0, 1, 2, 4, 5, 8, 9, 10, 13, 14] [.p, .p, .b 0, .p, .b 0, .p, .b 0, .p, .p, .b 0] (ks := [1, 8, 63, 65, 68, 73, 77]) (fu := 9) (li := [true, true, true, false, true, true, false, false, true, true, true, false, false, true, true, false, false, false, false]) (env' := [(1, .pointer (some ⟨b_4, 0, none⟩)), (8, .int .i64 i_19), (63, .string (bs s_18)), (65, .int .u64 ((rdL x_1.Entries i_19).Term)), (68, .int .u64 ((rdL x_1.Entries i_19).Index)), (73, .int .u64 (wu64 ((rdL x_1.Entries i_19).Kind))), (77, .string (bs ((rdL x_1.Entries i_19).Data)))]) (ps := [b_22 = b_22, b_22 = b_22, b_22 = b_22, b_22 = b_22]) (hk := [0]) (bk := []) (by kernel_rfl) (And.intro rfl (And.intro rfl (And.intro rfl (And.intro rfl trivial)))) rfl rfl ?_
      refine OpTo.goF (i := 3) (by kernel_rfl) (hk := [0]) (bk := []) (GoO.call rfl (by kernel_rfl) (by kernel_rfl) (tontineref03_Num_ok n ((rdL x_1.Entries i_19).Term)) [[0]] [] [] [] (hks := [0, 1]) (bks := [0]) (by kernel_rfl) (by kernel_rfl) (by kernel_rfl) (.inl rfl) rfl rfl (by kernel_rfl) (by kernel_rfl) _ (fun _ _ => rfl) _ _ (fun _ _ => rfl) (fun _ _ => rfl) (fun _ _ => by kernel_rfl) (fun _ _ => by kernel_rfl) (fun r_23 x_34 => ⟨rfl, rfl, ?_⟩))
      refine GoF.shape (env' := [(1, .pointer (some ⟨b_4, 0, none⟩)), (8, .int .i64 i_19), (63, .string (bs s_18)), (65, .int .u64 ((rdL x_1.Entries i_19).Term)), (66, .string (bs r_23)), (68, .int .u64 ((rdL x_1.Entries i_19).Index)), (73, .int .u64 (wu64 ((rdL x_1.Entries i_19).Kind))), (77, .string (bs ((rdL x_1.Entries i_19).Data)))]) (H' := [⟨42, b_22, [.int .u64 ((rdL x_1.Entries i_19).Term), .int .u64 ((rdL x_1.Entries i_19).Index), .int .i64 ((rdL x_1.Entries i_19).Kind), .string (bs ((rdL x_1.Entries i_19).Data))]⟩, ⟨40, b_4, [.int .i64 x_1.Kind, .int .i64 x_1.From, .int .i64 x_1.To, .int .u64 x_1.Term, .int .u64 x_1.Index, .int .u64 x_1.Prev, .int .u64 x_1.Commit, .bool x_1.Ok, .slice A_2 x_1.Entries.length c_3, .string (bs x_1.Data)]⟩]) (B' := [Rd 0 kT_api_Entry A_2 c_3 x_1.Entries]) (ks := [1, 8, 63, 65, 66, 68, 73, 77]) (by kernel_rfl) (by kernel_rfl) (by kernel_rfl) ?_
      refine OpTo.goF (i := 6) (by kernel_rfl) (hk := [0]) (bk := []) (GoO.call rfl (by kernel_rfl) (by kernel_rfl) (tontineref03_Num_ok n ((rdL x_1.Entries i_19).Index)) [[0]] [] [] [] (hks := [0, 1]) (bks := [0]) (by kernel_rfl) (by kernel_rfl) (by kernel_rfl) (.inl rfl) rfl rfl (by kernel_rfl) (by kernel_rfl) _ (fun _ _ => rfl) _ _ (fun _ _ => rfl) (fun _ _ => rfl) (fun _ _ => by kernel_rfl) (fun _ _ => by kernel_rfl) (fun r_24 x_33 => ⟨rfl, rfl, ?_⟩))
      refine GoF.shape (env' := [(1, .pointer (some ⟨b_4, 0, none⟩)), (8, .int .i64 i_19), (63, .string (bs s_18)), (65, .int .u64 ((rdL x_1.Entries i_19).Term)), (66, .string (bs r_23)), (68, .int .u64 ((rdL x_1.Entries i_19).Index)), (69, .string (bs r_24)), (73, .int .u64 (wu64 ((rdL x_1.Entries i_19).Kind))), (77, .string (bs ((rdL x_1.Entries i_19).Data)))]) (H' := [⟨42, b_22, [.int .u64 ((rdL x_1.Entries i_19).Term), .int .u64 ((rdL x_1.Entries i_19).Index), .int .i64 ((rdL x_1.Entries i_19).Kind), .string (bs ((rdL x_1.Entries i_19).Data))]⟩, ⟨40, b_4, [.int .i64 x_1.Kind, .int .i64 x_1.From, .int .i64 x_1.To, .int .u64 x_1.Term, .int .u64 x_1.Index, .int .u64 x_1.Prev, .int .u64 x_1.Commit, .bool x_1.Ok, .slice A_2 x_1.Entries.length c_3, .string (bs x_1.Data)]⟩]) (B' := [Rd 0 kT_api_Entry A_2 c_3 x_1.Entries]) (ks := [1, 8, 63, 65, 66, 68, 69, 73, 77]) (by kernel_rfl) (by kernel_rfl) (by kernel_rfl) ?_
      refine GoF.guard (fun h25 => ?_)
      refine GoF.take [7] [.p] (ks := [1, 8, 63, 70, 73, 77]) (fu := 6) (li := [true, true, true, true, true, true, true, true, true, true, true, false, false, true, true, false, false, false, false]) (env' := [(1, .pointer (some ⟨b_4, 0, none⟩)), (8, .int .i64 i_19), (63, .string (bs s_18)), (70, .string (bs (r_23 ++ r_24))), (73, .int .u64 (wu64 ((rdL x_1.Entries i_19).Kind))), (77, .string (bs ((rdL x_1.Entries i_19).Data)))]) (ps := [r_23.length + r_24.length ≤ i64max]) (hk := [0]) (bk := []) (by kernel_rfl) (And.intro h25 trivial) rfl rfl ?_
      refine OpTo.goF (i := 11) (by kernel_rfl) (hk := [0]) (bk := []) (GoO.call rfl (by kernel_rfl) (by kernel_rfl) (tontineref03_Num_ok n (wu64 ((rdL x_1.Entries i_19).Kind))) [[0]] [] [] [] (hks := [0, 1]) (bks := [0]) (by kernel_rfl) (by kernel_rfl) (by kernel_rfl) (.inl rfl) rfl rfl (by kernel_rfl) (by kernel_rfl) _ (fun _ _ => rfl) _ _ (fun _ _ => rfl) (fun _ _ => rfl) (fun _ _ => by kernel_rfl) (fun _ _ => by kernel_rfl) (fun r_26 x_32 => ⟨rfl, rfl, ?_⟩))
      refine GoF.shape (env' := [(1, .pointer (some ⟨b_4, 0, none⟩)), (8, .int .i64 i_19), (63, .string (bs s_18)), (70, .string (bs (r_23 ++ r_24))), (73, .int .u64 (wu64 ((rdL x_1.Entries i_19).Kind))), (74, .string (bs r_26)), (77, .string (bs ((rdL x_1.Entries i_19).Data)))]) (H' := [⟨42, b_22, [.int .u64 ((rdL x_1.Entries i_19).Term), .int .u64 ((rdL x_1.Entries i_19).Index), .int .i64 ((rdL x_1.Entries i_19).Kind), .string (bs ((rdL x_1.Entries i_19).Data))]⟩, ⟨40, b_4, [.int .i64 x_1.Kind, .int .i64 x_1.From, .int .i64 x_1.To, .int .u64 x_1.Term, .int .u64 x_1.Index, .int .u64 x_1.Prev, .int .u64 x_1.Commit, .bool x_1.Ok, .slice A_2 x_1.Entries.length c_3, .string (bs x_1.Data)]⟩]) (B' := [Rd 0 kT_api_Entry A_2 c_3 x_1.Entries]) (ks := [1, 8, 63, 70, 73, 74, 77]) (by kernel_rfl) (by kernel_rfl) (by kernel_rfl) ?_
      refine GoF.guard (fun h27 => ?_)
      refine GoF.take [12] [.p] (ks := [1, 8, 63, 75, 77]) (fu := 4) (li := [true, true, true, true, true, true, true, true, true, true, true, true, true, true, true, false, false, false, false]) (env' := [(1, .pointer (some ⟨b_4, 0, none⟩)), (8, .int .i64 i_19), (63, .string (bs s_18)), (75, .string (bs ((r_23 ++ r_24) ++ r_26))), (77, .string (bs ((rdL x_1.Entries i_19).Data)))]) (ps := [(r_23 ++ r_24).length + r_26.length ≤ i64max]) (hk := [0]) (bk := []) (by kernel_rfl) (And.intro h27 trivial) rfl rfl ?_
      refine OpTo.goF (i := 15) (by kernel_rfl) (hk := [0]) (bk := []) (GoO.call rfl (by kernel_rfl) (by kernel_rfl) (tontineref03_Text_ok n ((rdL x_1.Entries i_19).Data)) [[0]] [] [] [] (hks := [0, 1]) (bks := [0]) (by kernel_rfl) (by kernel_rfl) (by kernel_rfl) (.inl rfl) rfl rfl (by kernel_rfl) (by kernel_rfl) _ (fun _ _ => rfl) _ _ (fun _ _ => rfl) (fun _ _ => rfl) (fun _ _ => by kernel_rfl) (fun _ _ => by kernel_rfl) (fun r_28 x_31 => ⟨rfl, rfl, ?_⟩))
      refine GoF.shape (env' := [(1, .pointer (some ⟨b_4, 0, none⟩)), (8, .int .i64 i_19), (63, .string (bs s_18)), (75, .string (bs ((r_23 ++ r_24) ++ r_26))), (77, .string (bs ((rdL x_1.Entries i_19).Data))), (78, .string (bs r_28))]) (H' := [⟨42, b_22, [.int .u64 ((rdL x_1.Entries i_19).Term), .int .u64 ((rdL x_1.Entries i_19).Index), .int .i64 ((rdL x_1.Entries i_19).Kind), .string (bs ((rdL x_1.Entries i_19).Data))]⟩, ⟨40, b_4, [.int .i64 x_1.Kind, .int .i64 x_1.From, .int .i64 x_1.To, .int .u64 x_1.Term, .int .u64 x_1.Index, .int .u64 x_1.Prev, .int .u64 x_1.Commit, .bool x_1.Ok, .slice A_2 x_1.Entries.length c_3, .string (bs x_1.Data)]⟩]) (B' := [Rd 0 kT_api_Entry A_2 c_3 x_1.Entries]) (ks := [1, 8, 63, 75, 77, 78]) (by kernel_rfl) (by kernel_rfl) (by kernel_rfl) ?_
      refine GoF.guard (fun h29 => ?_)
      refine GoF.guard (fun h30 => ?_)
      refine GoF.take [16, 17] [.p, .p] (ks := [1, 8, 80]) (fu := 1) (li := [true, true, true, true, true, true, true, true, true, true, true, true, true, true, true, true, true, true, false]) (env' := [(1, .pointer (some ⟨b_4, 0, none⟩)), (8, .int .i64 i_19), (80, .string (bs (s_18 ++ (((r_23 ++ r_24) ++ r_26) ++ r_28))))]) (ps := [((r_23 ++ r_24) ++ r_26).length + r_28.length ≤ i64max, s_18.length + (((r_23 ++ r_24) ++ r_26) ++ r_28).length ≤ i64max]) (hk := [0]) (bk := []) (by kernel_rfl) (And.intro h29 (And.intro h30 trivial)) rfl rfl ?_
      refine GoF.fin1 (i := 18) (hint := .p) (ps := []) (hk := []) (bk := []) (by kernel_rfl) rfl trivial (.inl rfl) ?_
      refine GoF.done (by kernel_rfl) ?_
      refine GoO.inBlock ?_
      refine GoO.region' (is := [0, 1, 2]) c22_53e (by kernel_rfl) ?_
      refine GoO.exec (is := [0, 1, 2]) (hs := [.p, .p, .p]) (rest := []) (ks := [1, 4, 8]) (env' := [(1, .pointer (some ⟨b_4, 0, none⟩)), (4, .string (bs (s_18 ++ (((r_23 ++ r_24) ++ r_26) ++ r_28)))), (8, .int .i64 (wi64 (i_19 + 1)))]) (H' := [⟨42, b_22, [.int .u64 ((rdL x_1.Entries i_19).Term), .int .u64 ((rdL x_1.Entries i_19).Index), .int .i64 ((rdL x_1.Entries i_19).Kind), .string (bs ((rdL x_1.Entries i_19).Data))]⟩, ⟨40, b_4, [.int .i64 x_1.Kind, .int .i64 x_1.From, .int .i64 x_1.To, .int .u64 x_1.Term, .int .u64 x_1.Index, .int .u64 x_1.Prev, .int .u64 x_1.Commit, .bool x_1.Ok, .slice A_2 x_1.Entries.length c_3, .string (bs x_1.Data)]⟩]) (ps := []) (by kernel_rfl) trivial ?_
      refine GoO.regionEnd ?_
      refine GoO.inLoop ?_
      exact GoO.sub (ks := [1, 4, 8]) (hk := [1]) (bk := [0]) (by kernel_rfl) (by kernel_rfl) (by kernel_rfl) (ih1 (s_18 ++ (((r_23 ++ r_24) ++ r_26) ++ r_28)) (wi64 (i_19 + 1)))
    · refine GoO.exit' c22_47e rfl ?_
      refine GoO.seq' c22_54e ?_
      refine GoO.region' (is := [0, 1, 2, 3, 4, 5, 6]) c22_55e (by kernel_rfl) ?_
      refine GoO.exec (is := [0, 1, 2]) (hs := [.p, .p, .b 0]) (rest := [3, 4, 5, 6]) (ks := [81, 83]) (env' := [(81, .string (bs s_18)), (83, .string (bs x_1.Data))]) (H' := [⟨40, b_4, [.int .i64 x_1.Kind, .int .i64 x_1.From, .int .i64 x_1.To, .int .u64 x_1.Term, .int .u64 x_1.Index, .int .u64 x_1.Prev, .int .u64 x_1.Commit, .bool x_1.Ok, .slice A_2 x_1.Entries.length c_3, .string (bs x_1.Data)]⟩]) (ps := [b_4 = b_4]) (by kernel_rfl) (And.intro rfl trivial) ?_
      refine OpTo.go (GoO.call rfl (by kernel_rfl) (by kernel_rfl) (tontineref03_Text_ok n x_1.Data) [[0]] [] [] [] (hks := [0]) (bks := [0]) (by kernel_rfl) (by kernel_rfl) (by kernel_rfl) (.inl rfl) rfl rfl (by kernel_rfl) (by kernel_rfl) _ (fun _ _ => rfl) _ _ (fun _ _ => rfl) (fun _ _ => rfl) (fun _ _ => by kernel_rfl) (fun _ _ => by kernel_rfl) (fun r_35 x_37 => ?_))
      refine GoO.shape (env' := [(81, .string (bs s_18)), (83, .string (bs x_1.Data)), (84, .string (bs r_35))]) (H' := [⟨40, b_4, [.int .i64 x_1.Kind, .int .i64 x_1.From, .int .i64 x_1.To, .int .u64 x_1.Term, .int .u64 x_1.Index, .int .u64 x_1.Prev, .int .u64 x_1.Commit, .bool x_1.Ok, .slice A_2 x_1.Entries.length c_3, .string (bs x_1.Data)]⟩]) (B' := [Rd 0 kT_api_Entry A_2 c_3 x_1.Entries]) (ks := [81, 83, 84]) (by kernel_rfl) (by kernel_rfl) (by kernel_rfl) ?_
      refine GoO.guard (fun h36 => ?_)
      refine GoO.exec (is := [4, 5, 6]) (hs := [.p, .p, .p]) (rest := []) (ks := [2, 3]) (env' := [(2, .string (bs (s_18 ++ r_35))), (3, .int .i64 0)]) (H' := [⟨40, b_4, [.int .i64 x_1.Kind, .int .i64 x_1.From, .int .i64 x_1.To, .int .u64 x_1.Term, .int .u64 x_1.Index, .int .u64 x_1.Prev, .int .u64 x_1.Commit, .bool x_1.Ok, .slice A_2 x_1.Entries.length c_3, .string (bs x_1.Data)]⟩]) (ps := [s_18.length + r_35.length ≤ i64max]) (by kernel_rfl) (And.intro h36 trivial) ?_
      refine GoO.regionEnd ?_
      exact GoO.ret' (h := c22_56e) (hs := []) (ps := []) (hk := []) (bk := []) Try.func22 () (by kernel_rfl) trivial (by kernel_rfl) (by kernel_rfl)
theorem tontineref11_Encode_l0_ok (n : Nat) (x_1 : T_api_Letter) (truth_8 : Int) (A_2 : Option Addr) (c_3 : Nat) (b_4 : Nat) (A_9 : Option Addr) (c_10 : Nat) (w0 : World) (S0 : Fam) :
    ∀ (k : Nat) (s_11 : (List UInt8)) (i_12 : Int), GoO (tontineref11_Encode.cx A_2 c_3 w0 S0) [(1, .pointer (some ⟨b_4, 0, none⟩)), (4, .string (bs s_11)), (6, .slice A_9 [wu64 x_1.Kind, wu64 x_1.From, wu64 x_1.To, x_1.Term, x_1.Index, x_1.Prev, x_1.Commit, truth_8, wu64 (x_1.Entries.length : Int)].length c_10), (7, .int .i64 i_12)] [⟨40, b_4, [.int .i64 x_1.Kind, .int .i64 x_1.From, .int .i64 x_1.To, .int .u64 x_1.Term, .int .u64 x_1.Index, .int .u64 x_1.Prev, .int .u64 x_1.Commit, .bool x_1.Ok, .slice A_2 x_1.Entries.length c_3, .string (bs x_1.Data)]⟩] [Rd 0 kT_api_Entry A_2 c_3 x_1.Entries, Ow 41 (Kd.int .u64) A_9 c_10 [wu64 x_1.Kind, wu64 x_1.From, wu64 x_1.To, x_1.Term, x_1.Index, x_1.Prev, x_1.Commit, truth_8, wu64 (x_1.Entries.length : Int)]] [.code c22_27, .inLoop c22_27, .inBlock 0, .code c22_37] (tontineref11_Encode.l0 n x_1 truth_8 k s_11 i_12) := by
  intro k
  induction k with
  | zero => intros; rw [tontineref11_Encode.l0.eq_1]; exact GoO.stop
  | succ k ih0 =>
    intro s_11 i_12
    rw [tontineref11_Encode.l0.eq_2]
    refine GoO.seq' c22_27e ?_
    refine GoO.seq' c22_28e ?_
    refine GoO.region' (is := [0, 1, 2, 3]) c22_29e (by kernel_rfl) ?_
    refine GoO.exec (is := [0, 1, 2, 3]) (hs := [.p, .p, .p, .p]) (rest := []) (ks := [1, 4, 6, 7, 41]) (env' := [(1, .pointer (some ⟨b_4, 0, none⟩)), (4, .string (bs s_11)), (6, .slice A_9 [wu64 x_1.Kind, wu64 x_1.From, wu64 x_1.To, x_1.Term, x_1.Index, x_1.Prev, x_1.Commit, truth_8, wu64 (x_1.Entries.length : Int)].length c_10), (7, .int .i64 i_12), (41, .bool (decide (i_12 < ([wu64 x_1.Kind, wu64 x_1.From, wu64 x_1.To, x_1.Term, x_1.Index, x_1.Prev, x_1.Commit, truth_8, wu64 (x_1.Entries.length : Int)].length : Int))))]) (H' := [⟨40, b_4, [.int .i64 x_1.Kind, .int .i64 x_1.From, .int .i64 x_1.To, .int .u64 x_1.Term, .int .u64 x_1.Index, .int .u64 x_1.Prev, .int .u64 x_1.Commit, .bool x_1.Ok, .slice A_2 x_1.Entries.length c_3, .string (bs x_1.Data)]⟩]) (ps := []) (by kernel_rfl) trivial ?_
    refine GoO.regionEnd ?_
    refine GoO.ite' c22_30e (by kernel_rfl) (fun h13 => ?_) (fun h13 => ?_)
    · refine GoO.skip' c22_31e ?_
      refine GoO.seq' c22_33e ?_
      refine GoO.block' c22_34e ?_
      refine GoO.region' (is := [0, 1, 2, 3, 4, 5, 6, 7]) c22_35e (by kernel_rfl) ?_
      refine GoO.exec (is := [0, 1, 2]) (hs := [.p, .p, .p]) (rest := [3, 4, 5, 6, 7]) (ks := [1, 6, 7, 44, 45, 46]) (env' := [(1, .pointer (some ⟨b_4, 0, none⟩)), (6, .slice A_9 [wu64 x_1.Kind, wu64 x_1.From, wu64 x_1.To, x_1.Term, x_1.Index, x_1.Prev, x_1.Commit, truth_8, wu64 (x_1.Entries.length : Int)].length c_10), (7, .int .i64 i_12), (44, .string (bs s_11)), (45, .slice A_9 [wu64 x_1.Kind, wu64 x_1.From, wu64 x_1.To, x_1.Term, x_1.Index, x_1.Prev, x_1.Commit, truth_8, wu64 (x_1.Entries.length : Int)].length c_10), (46, .int .i64 i_12)]) (H' := [⟨40, b_4, [.int .i64 x_1.Kind, .int .i64 x_1.From, .int .i64 x_1.To, .int .u64 x_1.Term, .int .u64 x_1.Index, .int .u64 x_1.Prev, .int .u64 x_1.Commit, .bool x_1.Ok, .slice A_2 x_1.Entries.length c_3, .string (bs x_1.Data)]⟩]) (ps := []) (by kernel_rfl) trivial ?_
      refine GoO.guard (fun h14 => ?_)
      refine OpTo.go (GoO.idx (kk := .i64) (e := 28) (K := (Kd.int .u64)) (A := A_9) (c := c_10) (xs := [wu64 x_1.Kind, wu64 x_1.From, wu64 x_1.To, x_1.Term, x_1.Index, x_1.Prev, x_1.Commit, truth_8, wu64 (x_1.Entries.length : Int)]) (iv := i_12) (j := 1) rfl (by kernel_rfl) (by kernel_rfl) (by kernel_rfl) (by kernel_rfl) rfl Reads.own rfl h14.1 h14.2 (by decide) rfl ?_)
      refine OpTo.go (GoO.ldE' (K := (Kd.int .u64)) (A := A_9) (c := c_10) (xs := [wu64 x_1.Kind, wu64 x_1.From, wu64 x_1.To, x_1.Term, x_1.Index, x_1.Prev, x_1.Commit, truth_8, wu64 (x_1.Entries.length : Int)]) (iN := i_12.toNat) (off := 0) (j := 1) rfl (by kernel_rfl) rfl Reads.own (idx_lt h14.1 h14.2) (by decide) (Opn.flat _ _ _ _ _) (v := fun _ => .int .u64 (rdL [wu64 x_1.Kind, wu64 x_1.From, wu64 x_1.To, x_1.Term, x_1.Index, x_1.Prev, x_1.Commit, truth_8, wu64 (x_1.Entries.length : Int)] i_12)) (fun _ => by kernel_rfl) _ (fun _ => rfl) (fun _ => ?_))
      refine OpTo.go (GoO.call rfl (by kernel_rfl) (by kernel_rfl) (tontineref03_Num_ok n (rdL [wu64 x_1.Kind, wu64 x_1.From, wu64 x_1.To, x_1.Term, x_1.Index, x_1.Prev, x_1.Commit, truth_8, wu64 (x_1.Entries.length : Int)] i_12)) [[0]] [] [] [] (hks := [0]) (bks := [0, 1]) (by kernel_rfl) (by kernel_rfl) (by kernel_rfl) (.inl rfl) rfl rfl (by kernel_rfl) (by kernel_rfl) _ (fun _ _ => rfl) _ _ (fun _ _ => rfl) (fun _ _ => rfl) (fun _ _ => by kernel_rfl) (fun _ _ => by kernel_rfl) (fun r_15 x_17 => ?_))
      refine GoO.shape (env' := [(1, .pointer (some ⟨b_4, 0, none⟩)), (6, .slice A_9 [wu64 x_1.Kind, wu64 x_1.From, wu64 x_1.To, x_1.Term, x_1.Index, x_1.Prev, x_1.Commit, truth_8, wu64 (x_1.Entries.length : Int)].length c_10), (7, .int .i64 i_12), (44, .string (bs s_11)), (45, .slice A_9 [wu64 x_1.Kind, wu64 x_1.From, wu64 x_1.To, x_1.Term, x_1.Index, x_1.Prev, x_1.Commit, truth_8, wu64 (x_1.Entries.length : Int)].length c_10), (46, .int .i64 i_12), (47, elemP A_9 i_12.toNat 1 0), (48, .int .u64 (rdL [wu64 x_1.Kind, wu64 x_1.From, wu64 x_1.To, x_1.Term, x_1.Index, x_1.Prev, x_1.Commit, truth_8, wu64 (x_1.Entries.length : Int)] i_12)), (49, .string (bs r_15))]) (H' := [⟨40, b_4, [.int .i64 x_1.Kind, .int .i64 x_1.From, .int .i64 x_1.To, .int .u64 x_1.Term, .int .u64 x_1.Index, .int .u64 x_1.Prev, .int .u64 x_1.Commit, .bool x_1.Ok, .slice A_2 x_1.Entries.length c_3, .string (bs x_1.Data)]⟩]) (B' := [Rd 0 kT_api_Entry A_2 c_3 x_1.Entries, Ow 41 (Kd.int .u64) A_9 c_10 [wu64 x_1.Kind, wu64 x_1.From, wu64 x_1.To, x_1.Term, x_1.Index, x_1.Prev, x_1.Commit, truth_8, wu64 (x_1.Entries.length : Int)]]) (ks := [1, 6, 7, 44, 45, 46, 47, 48, 49]) (by kernel_rfl) (by kernel_rfl) (by kernel_rfl) ?_
      refine GoO.guard (fun h16 => ?_)
      refine GoO.exec (is := [6, 7]) (hs := [.p, .p]) (rest := []) (ks := [1, 4, 6, 7]) (env' := [(1, .pointer (some ⟨b_4, 0, none⟩)), (4, .string (bs (s_11 ++ r_15))), (6, .slice A_9 [wu64 x_1.Kind, wu64 x_1.From, wu64 x_1.To, x_1.Term, x_1.Index, x_1.Prev, x_1.Commit, truth_8, wu64 (x_1.Entries.length : Int)].length c_10), (7, .int .i64 i_12)]) (H' := [⟨40, b_4, [.int .i64 x_1.Kind, .int .i64 x_1.From, .int .i64 x_1.To, .int .u64 x_1.Term, .int .u64 x_1.Index, .int .u64 x_1.Prev, .int .u64 x_1.Commit, .bool x_1.Ok, .slice A_2 x_1.Entries.length c_3, .string (bs x_1.Data)]⟩]) (ps := [s_11.length + r_15.length ≤ i64max]) (by kernel_rfl) (And.intro h16 trivial) ?_
      refine GoO.regionEnd ?_
      refine GoO.inBlock ?_
      refine GoO.region' (is := [0, 1, 2]) c22_36e (by kernel_rfl) ?_
      refine GoO.exec (is := [0, 1, 2]) (hs := [.p, .p, .p]) (rest := []) (ks := [1, 4, 6, 7]) (env' := [(1, .pointer (some ⟨b_4, 0, none⟩)), (4, .string (bs (s_11 ++ r_15))), (6, .slice A_9 [wu64 x_1.Kind, wu64 x_1.From, wu64 x_1.To, x_1.Term, x_1.Index, x_1.Prev, x_1.Commit, truth_8, wu64 (x_1.Entries.length : Int)].length c_10), (7, .int .i64 (wi64 (i_12 + 1)))]) (H' := [⟨40, b_4, [.int .i64 x_1.Kind, .int .i64 x_1.From, .int .i64 x_1.To, .int .u64 x_1.Term, .int .u64 x_1.Index, .int .u64 x_1.Prev, .int .u64 x_1.Commit, .bool x_1.Ok, .slice A_2 x_1.Entries.length c_3, .string (bs x_1.Data)]⟩]) (ps := []) (by kernel_rfl) trivial ?_
      refine GoO.regionEnd ?_
      refine GoO.inLoop ?_
      exact GoO.sub (ks := [1, 4, 6, 7]) (hk := [0]) (bk := [0, 1]) (by kernel_rfl) (by kernel_rfl) (by kernel_rfl) (ih0 (s_11 ++ r_15) (wi64 (i_12 + 1)))
    · refine GoO.exit' c22_32e rfl ?_
      refine GoO.seq' c22_37e ?_
      refine GoO.seq' c22_38e ?_
      refine GoO.region' (is := [0]) c22_39e (by kernel_rfl) ?_
      refine GoO.exec (is := [0]) (hs := [.p]) (rest := []) (ks := [1, 4, 8]) (env' := [(1, .pointer (some ⟨b_4, 0, none⟩)), (4, .string (bs s_11)), (8, .int .i64 0)]) (H' := [⟨40, b_4, [.int .i64 x_1.Kind, .int .i64 x_1.From, .int .i64 x_1.To, .int .u64 x_1.Term, .int .u64 x_1.Index, .int .u64 x_1.Prev, .int .u64 x_1.Commit, .bool x_1.Ok, .slice A_2 x_1.Entries.length c_3, .string (bs x_1.Data)]⟩]) (ps := []) (by kernel_rfl) trivial ?_
      refine GoO.regionEnd ?_
      refine GoO.block' c22_40e ?_
      refine GoO.loop' c22_41e ?_
      exact GoO.sub (ks := [1, 4, 8]) (hk := [0]) (bk := [0]) (by kernel_rfl) (by kernel_rfl) (by kernel_rfl) (tontineref11_Encode_l1_ok n x_1 A_2 c_3 b_4 w0 S0 n s_11 0)
theorem tontineref11_Encode_j0_ok (n : Nat) (x_1 : T_api_Letter) (A_2 : Option Addr) (c_3 : Nat) (b_4 : Nat) (w0 : World) (S0 : Fam) (truth_8 : Int) :
    GoO (tontineref11_Encode.cx A_2 c_3 w0 S0) [(1, .pointer (some ⟨b_4, 0, none⟩)), (4, .string (bs [])), (5, .int .u64 truth_8)] [⟨40, b_4, [.int .i64 x_1.Kind, .int .i64 x_1.From, .int .i64 x_1.To, .int .u64 x_1.Term, .int .u64 x_1.Index, .int .u64 x_1.Prev, .int .u64 x_1.Commit, .bool x_1.Ok, .slice A_2 x_1.Entries.length c_3, .string (bs x_1.Data)]⟩] [Rd 0 kT_api_Entry A_2 c_3 x_1.Entries] [.code c22_20] (tontineref11_Encode.j0 n x_1 truth_8) := by
  unfold tontineref11_Encode.j0
  refine GoO.seq' c22_20e ?_
  refine GoO.region' (is := [0, 1, 2, 3, 4, 5, 6, 7, 8, 9, 10, 11, 12, 13, 14, 15, 16, 17, 18, 19, 20, 21, 22, 23]) c22_21e (by kernel_rfl) ?_
  refine GoO.exec (is := [0, 1, 2, 3, 4, 5, 6, 7, 8, 9, 10, 11, 12, 13, 14, 15, 16, 17, 18, 19, 20, 21]) (hs := [.p, .b 0, .p, .p, .b 0, .p, .p, .b 0, .p, .p, .b 0, .p, .b 0, .p, .b 0, .p, .b 0, .p, .p, .b 0, .p, .p]) (rest := [22, 23]) (ks := [1, 4, 17, 20, 23, 25, 27, 29, 31, 32, 36]) (env' := [(1, .pointer (some ⟨b_4, 0, none⟩)), (4, .string (bs [])), (17, .int .u64 (wu64 x_1.Kind)), (20, .int .u64 (wu64 x_1.From)), (23, .int .u64 (wu64 x_1.To)), (25, .int .u64 x_1.Term), (27, .int .u64 x_1.Index), (29, .int .u64 x_1.Prev), (31, .int .u64 x_1.Commit), (32, .int .u64 truth_8), (36, .int .u64 (wu64 (x_1.Entries.length : Int)))]) (H' := [⟨40, b_4, [.int .i64 x_1.Kind, .int .i64 x_1.From, .int .i64 x_1.To, .int .u64 x_1.Term, .int .u64 x_1.Index, .int .u64 x_1.Prev, .int .u64 x_1.Commit, .bool x_1.Ok, .slice A_2 x_1.Entries.length c_3, .string (bs x_1.Data)]⟩]) (ps := [b_4 = b_4, b_4 = b_4, b_4 = b_4, b_4 = b_4, b_4 = b_4, b_4 = b_4, b_4 = b_4, b_4 = b_4]) (by kernel_rfl) (And.intro rfl (And.intro rfl (And.intro rfl (And.intro rfl (And.intro rfl (And.intro rfl (And.intro rfl (And.intro rfl trivial)))))))) ?_
  refine OpTo.go (GoO.lit (e := 28) (K := (Kd.int .u64)) rfl (by kernel_rfl) (by kernel_rfl) (cs := [.int .u64 (wu64 x_1.Kind), .int .u64 (wu64 x_1.From), .int .u64 (wu64 x_1.To), .int .u64 x_1.Term, .int .u64 x_1.Index, .int .u64 x_1.Prev, .int .u64 x_1.Commit, .int .u64 truth_8, .int .u64 (wu64 (x_1.Entries.length : Int))]) (by kernel_rfl) [wu64 x_1.Kind, wu64 x_1.From, wu64 x_1.To, x_1.Term, x_1.Index, x_1.Prev, x_1.Commit, truth_8, wu64 (x_1.Entries.length : Int)] (by kernel_rfl) (by kernel_rfl) (fun w S hB => ⟨[.int .u64 (wu64 x_1.Kind)], _, rfl, rfl, ⟨[.int .u64 (wu64 x_1.From)], _, rfl, rfl, ⟨[.int .u64 (wu64 x_1.To)], _, rfl, rfl, ⟨[.int .u64 x_1.Term], _, rfl, rfl, ⟨[.int .u64 x_1.Index], _, rfl, rfl, ⟨[.int .u64 x_1.Prev], _, rfl, rfl, ⟨[.int .u64 x_1.Commit], _, rfl, rfl, ⟨[.int .u64 truth_8], _, rfl, rfl, ⟨[.int .u64 (wu64 (x_1.Entries.length : Int))], _, rfl, rfl, rfl⟩⟩⟩⟩⟩⟩⟩⟩⟩) 41 _ (fun _ _ => rfl) (fun A_9 c_10 => ?_))
  refine GoO.exec (is := [23]) (hs := [.p]) (rest := []) (ks := [1, 4, 6]) (env' := [(1, .pointer (some ⟨b_4, 0, none⟩)), (4, .string (bs [])), (6, .slice A_9 [wu64 x_1.Kind, wu64 x_1.From, wu64 x_1.To, x_1.Term, x_1.Index, x_1.Prev, x_1.Commit, truth_8, wu64 (x_1.Entries.length : Int)].length c_10)]) (H' := [⟨40, b_4, [.int .i64 x_1.Kind, .int .i64 x_1.From, .int .i64 x_1.To, .int .u64 x_1.Term, .int .u64 x_1.Index, .int .u64 x_1.Prev, .int .u64 x_1.Commit, .bool x_1.Ok, .slice A_2 x_1.Entries.length c_3, .string (bs x_1.Data)]⟩]) (ps := []) (by kernel_rfl) trivial ?_
  refine GoO.regionEnd ?_
  refine GoO.seq' c22_22e ?_
  refine GoO.seq' c22_23e ?_
  refine GoO.region' (is := [0]) c22_24e (by kernel_rfl) ?_
  refine GoO.exec (is := [0]) (hs := [.p]) (rest := []) (ks := [1, 4, 6, 7]) (env' := [(1, .pointer (some ⟨b_4, 0, none⟩)), (4, .string (bs [])), (6, .slice A_9 [wu64 x_1.Kind, wu64 x_1.From, wu64 x_1.To, x_1.Term, x_1.Index, x_1.Prev, x_1.Commit, truth_8, wu64 (x_1.Entries.length : Int)].length c_10), (7, .int .i64 0)]) (H' := [⟨40, b_4, [.int .i64 x_1.Kind, .int .i64 x_1.From, .int .i64 x_1.To, .int .u64 x_1.Term, .int .u64 x_1.Index, .int .u64 x_1.Prev, .int .u64 x_1.Commit, .bool x_1.Ok, .slice A_2 x_1.Entries.length c_3, .string (bs x_1.Data)]⟩]) (ps := []) (by kernel_rfl) trivial ?_
  refine GoO.regionEnd ?_
  refine GoO.block' c22_25e ?_
  refine GoO.loop' c22_26e ?_
  exact GoO.sub (ks := [1, 4, 6, 7]) (hk := [0]) (bk := [1, 0]) (by kernel_rfl) (by kernel_rfl) (by kernel_rfl) (tontineref11_Encode_l0_ok n x_1 truth_8 A_2 c_3 b_4 A_9 c_10 w0 S0 n [] 0)
theorem tontineref11_Encode_ok (n : Nat) (x_1 : T_api_Letter) (A_2 : Option Addr) (c_3 : Nat) :
    Meets Try.prog 22 [.agg ⟨[.int .i64 x_1.Kind, .int .i64 x_1.From, .int .i64 x_1.To, .int .u64 x_1.Term, .int .u64 x_1.Index, .int .u64 x_1.Prev, .int .u64 x_1.Commit, .bool x_1.Ok, .slice A_2 x_1.Entries.length c_3, .string (bs x_1.Data)]⟩] 0 [] [] [Rd 0 kT_api_Entry A_2 c_3 x_1.Entries] (tontineref11_Encode.f n x_1) (tontineref11_Encode.R A_2 c_3) := by
  refine Meets.of (c := c22_0) (n := 86) Try.func22 (by kernel_rfl) (by kernel_rfl) (by kernel_rfl) fun w0 S0 => ?_
  unfold tontineref11_Encode.f
  show GoO (tontineref11_Encode.cx A_2 c_3 w0 S0) [(0, .agg ⟨[.int .i64 x_1.Kind, .int .i64 x_1.From, .int .i64 x_1.To, .int .u64 x_1.Term, .int .u64 x_1.Index, .int .u64 x_1.Prev, .int .u64 x_1.Commit, .bool x_1.Ok, .slice A_2 x_1.Entries.length c_3, .string (bs x_1.Data)]⟩)] [] [Rd 0 kT_api_Entry A_2 c_3 x_1.Entries] [.code c22_0] _
  refine GoO.seq' c22_0e ?_
  refine GoO.region' (is := [0, 1, 2]) c22_1e (by kernel_rfl) ?_
  refine OpTo.go (GoO.new rfl 40 (cs := [.int .i64 x_1.Kind, .int .i64 x_1.From, .int .i64 x_1.To, .int .u64 x_1.Term, .int .u64 x_1.Index, .int .u64 x_1.Prev, .int .u64 x_1.Commit, .bool x_1.Ok, .slice A_2 x_1.Entries.length c_3, .string (bs x_1.Data)]) (by kernel_rfl) _ (fun _ => rfl) (fun b_4 => ?_))
  refine GoO.exec (is := [1, 2]) (hs := [.p, .p]) (rest := []) (ks := [1]) (env' := [(1, .pointer (some ⟨b_4, 0, none⟩))]) (H' := [⟨40, b_4, [.int .i64 x_1.Kind, .int .i64 x_1.From, .int .i64 x_1.To, .int .u64 x_1.Term, .int .u64 x_1.Index, .int .u64 x_1.Prev, .int .u64 x_1.Commit, .bool x_1.Ok, .slice A_2 x_1.Entries.length c_3, .string (bs x_1.Data)]⟩]) (ps := []) (by kernel_rfl) trivial ?_
  refine GoO.regionEnd ?_
  refine GoO.seq' c22_2e ?_
  refine GoO.seq' c22_3e ?_
  refine GoO.region' (is := [0, 1, 2]) c22_4e (by kernel_rfl) ?_
  refine GoO.exec (is := [0]) (hs := [.b 0]) (rest := [1, 2]) (ks := [1, 10]) (env' := [(1, .pointer (some ⟨b_4, 0, none⟩)), (10, .agg ⟨[.int .i64 x_1.Kind, .int .i64 x_1.From, .int .i64 x_1.To, .int .u64 x_1.Term, .int .u64 x_1.Index, .int .u64 x_1.Prev, .int .u64 x_1.Commit, .bool x_1.Ok, .slice A_2 x_1.Entries.length c_3, .string (bs x_1.Data)]⟩)]) (H' := [⟨40, b_4, [.int .i64 x_1.Kind, .int .i64 x_1.From, .int .i64 x_1.To, .int .u64 x_1.Term, .int .u64 x_1.Index, .int .u64 x_1.Prev, .int .u64 x_1.Commit, .bool x_1.Ok, .slice A_2 x_1.Entries.length c_3, .string (bs x_1.Data)]⟩]) (ps := [b_4 = b_4]) (by kernel_rfl) (And.intro rfl trivial) ?_
  refine OpTo.go (GoO.call rfl (by kernel_rfl) (by kernel_rfl) (tontineref11_May_ok n x_1 A_2 c_3) [[0]] [] [] [(0, 0)] (hks := [0]) (bks := [0]) (by kernel_rfl) (by kernel_rfl) (by kernel_rfl) (.inl rfl) rfl rfl (by kernel_rfl) (by kernel_rfl) _ (fun _ _ => rfl) _ _ (fun _ _ => rfl) (fun _ _ => rfl) (fun _ _ => by kernel_rfl) (fun _ _ => by kernel_rfl) (fun r_5 x_38 => ?_))
  refine GoO.shape (env' := [(1, .pointer (some ⟨b_4, 0, none⟩)), (10, .agg ⟨[.int .i64 x_1.Kind, .int .i64 x_1.From, .int .i64 x_1.To, .int .u64 x_1.Term, .int .u64 x_1.Index, .int .u64 x_1.Prev, .int .u64 x_1.Commit, .bool x_1.Ok, .slice A_2 x_1.Entries.length c_3, .string (bs x_1.Data)]⟩), (11, .bool r_5)]) (H' := [⟨40, b_4, [.int .i64 x_1.Kind, .int .i64 x_1.From, .int .i64 x_1.To, .int .u64 x_1.Term, .int .u64 x_1.Index, .int .u64 x_1.Prev, .int .u64 x_1.Commit, .bool x_1.Ok, .slice A_2 x_1.Entries.length c_3, .string (bs x_1.Data)]⟩]) (B' := [Rd 0 kT_api_Entry A_2 c_3 x_1.Entries]) (ks := [1, 10, 11]) (by kernel_rfl) (by kernel_rfl) (by kernel_rfl) ?_
  refine GoO.exec (is := [2]) (hs := [.p]) (rest := []) (ks := [1, 12]) (env' := [(1, .pointer (some ⟨b_4, 0, none⟩)), (12, .bool (!r_5))]) (H' := [⟨40, b_4, [.int .i64 x_1.Kind, .int .i64 x_1.From, .int .i64 x_1.To, .int .u64 x_1.Term, .int .u64 x_1.Index, .int .u64 x_1.Prev, .int .u64 x_1.Commit, .bool x_1.Ok, .slice A_2 x_1.Entries.length c_3, .string (bs x_1.Data)]⟩]) (ps := []) (by kernel_rfl) trivial ?_
  refine GoO.regionEnd ?_
  refine GoO.ite' c22_5e (by kernel_rfl) (fun h6 => ?_) (fun h6 => ?_)
  · refine GoO.seq' c22_6e ?_
    refine GoO.region' (is := [0, 1]) c22_7e (by kernel_rfl) ?_
    refine GoO.exec (is := [0, 1]) (hs := [.p, .p]) (rest := []) (ks := [2, 3]) (env' := [(2, .string (bs [])), (3, .int .i64 1)]) (H' := [⟨40, b_4, [.int .i64 x_1.Kind, .int .i64 x_1.From, .int .i64 x_1.To, .int .u64 x_1.Term, .int .u64 x_1.Index, .int .u64 x_1.Prev, .int .u64 x_1.Commit, .bool x_1.Ok, .slice A_2 x_1.Entries.length c_3, .string (bs x_1.Data)]⟩]) (ps := []) (by kernel_rfl) trivial ?_
    refine GoO.regionEnd ?_
    exact GoO.ret' (h := c22_8e) (hs := []) (ps := []) (hk := []) (bk := []) Try.func22 () (by kernel_rfl) trivial (by kernel_rfl) (by kernel_rfl)
  · refine GoO.skip' c22_9e ?_
    refine GoO.seq' c22_10e ?_
    refine GoO.region' (is := [0]) c22_11e (by kernel_rfl) ?_
    refine GoO.exec (is := [0]) (hs := [.p]) (rest := []) (ks := [1, 4]) (env' := [(1, .pointer (some ⟨b_4, 0, none⟩)), (4, .string (bs []))]) (H' := [⟨40, b_4, [.int .i64 x_1.Kind, .int .i64 x_1.From, .int .i64 x_1.To, .int .u64 x_1.Term, .int .u64 x_1.Index, .int .u64 x_1.Prev, .int .u64 x_1.Commit, .bool x_1.Ok, .slice A_2 x_1.Entries.length c_3, .string (bs x_1.Data)]⟩]) (ps := []) (by kernel_rfl) trivial ?_
    refine GoO.regionEnd ?_
    refine GoO.seq' c22_12e ?_
    refine GoO.region' (is := [0]) c22_13e (by kernel_rfl) ?_
    refine GoO.exec (is := [0]) (hs := [.p]) (rest := []) (ks := [1, 4, 5]) (env' := [(1, .pointer (some ⟨b_4, 0, none⟩)), (4, .string (bs [])), (5, .int .u64 0)]) (H' := [⟨40, b_4, [.int .i64 x_1.Kind, .int .i64 x_1.From, .int .i64 x_1.To, .int .u64 x_1.Term, .int .u64 x_1.Index, .int .u64 x_1.Prev, .int .u64 x_1.Commit, .bool x_1.Ok, .slice A_2 x_1.Entries.length c_3, .string (bs x_1.Data)]⟩]) (ps := []) (by kernel_rfl) trivial ?_
    refine GoO.regionEnd ?_
    refine GoO.seq' c22_14e ?_
    refine GoO.seq' c22_15e ?_
    refine GoO.region' (is := [0, 1]) c22_16e (by kernel_rfl) ?_
    refine GoO.exec (is := [0, 1]) (hs := [.p, .b 0]) (rest := []) (ks := [1, 4, 5, 14]) (env' := [(1, .pointer (some ⟨b_4, 0, none⟩)), (4, .string (bs [])), (5, .int .u64 0), (14, .bool x_1.Ok)]) (H' := [⟨40, b_4, [.int .i64 x_1.Kind, .int .i64 x_1.From, .int .i64 x_1.To, .int .u64 x_1.Term, .int .u64 x_1.Index, .int .u64 x_1.Prev, .int .u64 x_1.Commit, .bool x_1.Ok, .slice A_2 x_1.Entries.length c_3, .string (bs x_1.Data)]⟩]) (ps := [b_4 = b_4]) (by kernel_rfl) (And.intro rfl trivial) ?_
    refine GoO.regionEnd ?_
    refine GoO.ite' c22_17e (by kernel_rfl) (fun h7 => ?_) (fun h7 => ?_)
    · refine GoO.region' (is := [0]) c22_18e (by kernel_rfl) ?_
      refine GoO.exec (is := [0]) (hs := [.p]) (rest := []) (ks := [1, 4, 5]) (env' := [(1, .pointer (some ⟨b_4, 0, none⟩)), (4, .string (bs [])), (5, .int .u64 1)]) (H' := [⟨40, b_4, [.int .i64 x_1.Kind, .int .i64 x_1.From, .int .i64 x_1.To, .int .u64 x_1.Term, .int .u64 x_1.Index, .int .u64 x_1.Prev, .int .u64 x_1.Commit, .bool x_1.Ok, .slice A_2 x_1.Entries.length c_3, .string (bs x_1.Data)]⟩]) (ps := []) (by kernel_rfl) trivial ?_
      refine GoO.regionEnd ?_
      exact GoO.sub (ks := [1, 4, 5]) (hk := [0]) (bk := [0]) (by kernel_rfl) (by kernel_rfl) (by kernel_rfl) (tontineref11_Encode_j0_ok n x_1 A_2 c_3 b_4 w0 S0 1)
    · refine GoO.skip' c22_19e ?_
      exact GoO.sub (ks := [1, 4, 5]) (hk := [0]) (bk := [0]) (by kernel_rfl) (by kernel_rfl) (by kernel_rfl) (tontineref11_Encode_j0_ok n x_1 A_2 c_3 b_4 w0 S0 0)

/-! tontine/tontinelaw11.LetterEncodes -/
noncomputable def c4_0 : Code := bodyOf Try.f4
noncomputable def c4_1 : Code := cdL c4_0
noncomputable def c4_2 : Code := cdR c4_0
noncomputable def c4_3 : Code := cdL c4_2
noncomputable def c4_4 : Code := cdL c4_3
noncomputable def c4_5 : Code := cdR c4_3
noncomputable def c4_6 : Code := cdL c4_5
noncomputable def c4_7 : Code := cdL c4_6
noncomputable def c4_8 : Code := cdR c4_6
noncomputable def c4_9 : Code := cdR c4_5
noncomputable def c4_10 : Code := cdR c4_2
noncomputable def c4_11 : Code := cdL c4_10
noncomputable def c4_12 : Code := cdR c4_10
noncomputable def c4_13 : Code := cdL c4_12
noncomputable def c4_14 : Code := cdR c4_12
noncomputable def c4_15 : Code := cdL c4_14
noncomputable def c4_16 : Code := cdR c4_14
noncomputable def r4_1 : Array Oper := cdO c4_1
noncomputable def r4_4 : Array Oper := cdO c4_4
noncomputable def r4_7 : Array Oper := cdO c4_7
noncomputable def r4_11 : Array Oper := cdO c4_11
noncomputable def r4_13 : Array Oper := cdO c4_13
noncomputable def r4_15 : Array Oper := cdO c4_15
theorem c4_0e : c4_0 = .seq c4_1 c4_2 := by kernel_rfl
theorem c4_1e : c4_1 = .region 0 r4_1 false := by kernel_rfl
theorem c4_2e : c4_2 = .seq c4_3 c4_10 := by kernel_rfl
theorem c4_3e : c4_3 = .seq c4_4 c4_5 := by kernel_rfl
theorem c4_4e : c4_4 = .region 1 r4_4 false := by kernel_rfl
theorem c4_5e : c4_5 = .cond (cdC c4_5) c4_6 c4_9 := by kernel_rfl
theorem c4_6e : c4_6 = .seq c4_7 c4_8 := by kernel_rfl
theorem c4_7e : c4_7 = .region 2 r4_7 false := by kernel_rfl
theorem c4_8e : c4_8 = .ret := by kernel_rfl
theorem c4_9e : c4_9 = .skip := by kernel_rfl
theorem c4_10e : c4_10 = .seq c4_11 c4_12 := by kernel_rfl
theorem c4_11e : c4_11 = .region 3 r4_11 false := by kernel_rfl
theorem c4_12e : c4_12 = .seq c4_13 c4_14 := by kernel_rfl
theorem c4_13e : c4_13 = .region 4 r4_13 false := by kernel_rfl
theorem c4_14e : c4_14 = .seq c4_15 c4_16 := by kernel_rfl
theorem c4_15e : c4_15 = .region 5 r4_15 false := by kernel_rfl
theorem c4_16e : c4_16 = .ret := by kernel_rfl
noncomputable def tontinelaw11_LetterEncodes.R (A_2 : Option Addr) (c_3 : Nat) : Pst Bool where
  ε := Unit
  v := fun r x => .bool r
  H := fun r x => []
  B := fun r x => []
noncomputable def tontinelaw11_LetterEncodes.cx (A_2 : Option Addr) (c_3 : Nat) (w0 : World) (S0 : Fam) : Cx Bool := ⟨Try.prog, 4, Try.f4, 34, w0, S0, [], 0, tontinelaw11_LetterEncodes.R A_2 c_3⟩
theorem tontinelaw11_LetterEncodes_ok (n : Nat) (x_1 : T_api_Letter) (A_2 : Option Addr) (c_3 : Nat) :
    Meets Try.prog 4 [.agg ⟨[.int .i64 x_1.Kind, .int .i64 x_1.From, .int .i64 x_1.To, .int .u64 x_1.Term, .int .u64 x_1.Index, .int .u64 x_1.Prev, .int .u64 x_1.Commit, .bool x_1.Ok, .slice A_2 x_1.Entries.length c_3, .string (bs x_1.Data)]⟩] 0 [] [] [Rd 0 kT_api_Entry A_2 c_3 x_1.Entries] (tontinelaw11_LetterEncodes.f n x_1) (tontinelaw11_LetterEncodes.R A_2 c_3) := by
  refine Meets.of (c := c4_0) (n := 34) Try.func4 (by kernel_rfl) (by kernel_rfl) (by kernel_rfl) fun w0 S0 => ?_
  unfold tontinelaw11_LetterEncodes.f
  show GoO (tontinelaw11_LetterEncodes.cx A_2 c_3 w0 S0) [(0, .agg ⟨[.int .i64 x_1.Kind, .int .i64 x_1.From, .int .i64 x_1.To, .int .u64 x_1.Term, .int .u64 x_1.Index, .int .u64 x_1.Prev, .int .u64 x_1.Commit, .bool x_1.Ok, .slice A_2 x_1.Entries.length c_3, .string (bs x_1.Data)]⟩)] [] [Rd 0 kT_api_Entry A_2 c_3 x_1.Entries] [.code c4_0] _
  refine GoO.seq' c4_0e ?_
  refine GoO.region' (is := [0, 1]) c4_1e (by kernel_rfl) ?_
  refine OpTo.go (GoO.new rfl 40 (cs := [.int .i64 x_1.Kind, .int .i64 x_1.From, .int .i64 x_1.To, .int .u64 x_1.Term, .int .u64 x_1.Index, .int .u64 x_1.Prev, .int .u64 x_1.Commit, .bool x_1.Ok, .slice A_2 x_1.Entries.length c_3, .string (bs x_1.Data)]) (by kernel_rfl) _ (fun _ => rfl) (fun b_4 => ?_))
  refine GoO.exec (is := [1]) (hs := [.p]) (rest := []) (ks := [1]) (env' := [(1, .pointer (some ⟨b_4, 0, none⟩))]) (H' := [⟨40, b_4, [.int .i64 x_1.Kind, .int .i64 x_1.From, .int .i64 x_1.To, .int .u64 x_1.Term, .int .u64 x_1.Index, .int .u64 x_1.Prev, .int .u64 x_1.Commit, .bool x_1.Ok, .slice A_2 x_1.Entries.length c_3, .string (bs x_1.Data)]⟩]) (ps := []) (by kernel_rfl) trivial ?_
  refine GoO.regionEnd ?_
  refine GoO.seq' c4_2e ?_
  refine GoO.seq' c4_3e ?_
  refine GoO.region' (is := [0, 1]) c4_4e (by kernel_rfl) ?_
  refine OpTo.go (GoO.call rfl (by kernel_rfl) (by kernel_rfl) (tontinelaw11_begun_ok n) [[0]] [] [] [] (hks := [0]) (bks := [0]) (by kernel_rfl) (by kernel_rfl) (by kernel_rfl) (.inl rfl) rfl rfl (by kernel_rfl) (by kernel_rfl) _ (fun _ _ => rfl) _ _ (fun _ _ => rfl) (fun _ _ => rfl) (fun _ _ => by kernel_rfl) (fun _ _ => by kernel_rfl) (fun r_5 x_15 => ?_))
  refine GoO.shape (env' := [(1, .pointer (some ⟨b_4, 0, none⟩)), (7, .bool r_5)]) (H' := [⟨40, b_4, [.int .i64 x_1.Kind, .int .i64 x_1.From, .int .i64 x_1.To, .int .u64 x_1.Term, .int .u64 x_1.Index, .int .u64 x_1.Prev, .int .u64 x_1.Commit, .bool x_1.Ok, .slice A_2 x_1.Entries.length c_3, .string (bs x_1.Data)]⟩]) (B' := [Rd 0 kT_api_Entry A_2 c_3 x_1.Entries]) (ks := [1, 7]) (by kernel_rfl) (by kernel_rfl) (by kernel_rfl) ?_
  refine GoO.exec (is := [1]) (hs := [.p]) (rest := []) (ks := [1, 8]) (env' := [(1, .pointer (some ⟨b_4, 0, none⟩)), (8, .bool (!r_5))]) (H' := [⟨40, b_4, [.int .i64 x_1.Kind, .int .i64 x_1.From, .int .i64 x_1.To, .int .u64 x_1.Term, .int .u64 x_1.Index, .int .u64 x_1.Prev, .int .u64 x_1.Commit, .bool x_1.Ok, .slice A_2 x_1.Entries.length c_3, .string (bs x_1.Data)]⟩]) (ps := []) (by kernel_rfl) trivial ?_
  refine GoO.regionEnd ?_
  refine GoO.ite' c4_5e (by kernel_rfl) (fun h6 => ?_) (fun h6 => ?_)
  · refine GoO.seq' c4_6e ?_
    refine GoO.region' (is := [0]) c4_7e (by kernel_rfl) ?_
    refine GoO.exec (is := [0]) (hs := [.p]) (rest := []) (ks := [2]) (env' := [(2, .bool false)]) (H' := [⟨40, b_4, [.int .i64 x_1.Kind, .int .i64 x_1.From, .int .i64 x_1.To, .int .u64 x_1.Term, .int .u64 x_1.Index, .int .u64 x_1.Prev, .int .u64 x_1.Commit, .bool x_1.Ok, .slice A_2 x_1.Entries.length c_3, .string (bs x_1.Data)]⟩]) (ps := []) (by kernel_rfl) trivial ?_
    refine GoO.regionEnd ?_
    exact GoO.ret' (h := c4_8e) (hs := []) (ps := []) (hk := []) (bk := []) Try.func4 () (by kernel_rfl) trivial (by kernel_rfl) (by kernel_rfl)
  · refine GoO.skip' c4_9e ?_
    refine GoO.seq' c4_10e ?_
    refine GoO.region' (is := [0, 1, 2, 3, 4, 5, 6]) c4_11e (by kernel_rfl) ?_
    refine GoO.exec (is := [0]) (hs := [.b 0]) (rest := [1, 2, 3, 4, 5, 6]) (ks := [1, 10]) (env' := [(1, .pointer (some ⟨b_4, 0, none⟩)), (10, .agg ⟨[.int .i64 x_1.Kind, .int .i64 x_1.From, .int .i64 x_1.To, .int .u64 x_1.Term, .int .u64 x_1.Index, .int .u64 x_1.Prev, .int .u64 x_1.Commit, .bool x_1.Ok, .slice A_2 x_1.Entries.length c_3, .string (bs x_1.Data)]⟩)]) (H' := [⟨40, b_4, [.int .i64 x_1.Kind, .int .i64 x_1.From, .int .i64 x_1.To, .int .u64 x_1.Term, .int .u64 x_1.Index, .int .u64 x_1.Prev, .int .u64 x_1.Commit, .bool x_1.Ok, .slice A_2 x_1.Entries.length c_3, .string (bs x_1.Data)]⟩]) (ps := [b_4 = b_4]) (by kernel_rfl) (And.intro rfl trivial) ?_
    refine OpTo.go (GoO.call rfl (by kernel_rfl) (by kernel_rfl) (letter_Encode_ok n x_1 A_2 c_3) [[0]] [] [] [(0, 0)] (hks := [0]) (bks := [0]) (by kernel_rfl) (by kernel_rfl) (by kernel_rfl) (.inl rfl) rfl rfl (by kernel_rfl) (by kernel_rfl) _ (fun _ _ => rfl) _ _ (fun _ _ => rfl) (fun _ _ => rfl) (fun _ _ => by kernel_rfl) (fun _ _ => by kernel_rfl) (fun r_7 x_14 => ?_))
    refine GoO.shape (env' := [(1, .pointer (some ⟨b_4, 0, none⟩)), (10, .agg ⟨[.int .i64 x_1.Kind, .int .i64 x_1.From, .int .i64 x_1.To, .int .u64 x_1.Term, .int .u64 x_1.Index, .int .u64 x_1.Prev, .int .u64 x_1.Commit, .bool x_1.Ok, .slice A_2 x_1.Entries.length c_3, .string (bs x_1.Data)]⟩), (11, .tuple ⟨[.string (bs r_7.1), .int .i64 r_7.2]⟩)]) (H' := [⟨40, b_4, [.int .i64 x_1.Kind, .int .i64 x_1.From, .int .i64 x_1.To, .int .u64 x_1.Term, .int .u64 x_1.Index, .int .u64 x_1.Prev, .int .u64 x_1.Commit, .bool x_1.Ok, .slice A_2 x_1.Entries.length c_3, .string (bs x_1.Data)]⟩]) (B' := [Rd 0 kT_api_Entry A_2 c_3 x_1.Entries]) (ks := [1, 10, 11]) (by kernel_rfl) (by kernel_rfl) (by kernel_rfl) ?_
    refine GoO.exec (is := [2, 3, 4, 5, 6]) (hs := [.p, .p, .p, .p, .p]) (rest := []) (ks := [1, 3, 4]) (env' := [(1, .pointer (some ⟨b_4, 0, none⟩)), (3, .string (bs r_7.1)), (4, .int .i64 r_7.2)]) (H' := [⟨40, b_4, [.int .i64 x_1.Kind, .int .i64 x_1.From, .int .i64 x_1.To, .int .u64 x_1.Term, .int .u64 x_1.Index, .int .u64 x_1.Prev, .int .u64 x_1.Commit, .bool x_1.Ok, .slice A_2 x_1.Entries.length c_3, .string (bs x_1.Data)]⟩]) (ps := []) (by kernel_rfl) trivial ?_
    refine GoO.regionEnd ?_
    refine GoO.seq' c4_12e ?_
    refine GoO.region' (is := [0, 1, 2, 3, 4, 5, 6]) c4_13e (by kernel_rfl) ?_
    refine GoO.exec (is := [0]) (hs := [.b 0]) (rest := [1, 2, 3, 4, 5, 6]) (ks := [1, 3, 4, 15]) (env' := [(1, .pointer (some ⟨b_4, 0, none⟩)), (3, .string (bs r_7.1)), (4, .int .i64 r_7.2), (15, .agg ⟨[.int .i64 x_1.Kind, .int .i64 x_1.From, .int .i64 x_1.To, .int .u64 x_1.Term, .int .u64 x_1.Index, .int .u64 x_1.Prev, .int .u64 x_1.Commit, .bool x_1.Ok, .slice A_2 x_1.Entries.length c_3, .string (bs x_1.Data)]⟩)]) (H' := [⟨40, b_4, [.int .i64 x_1.Kind, .int .i64 x_1.From, .int .i64 x_1.To, .int .u64 x_1.Term, .int .u64 x_1.Index, .int .u64 x_1.Prev, .int .u64 x_1.Commit, .bool x_1.Ok, .slice A_2 x_1.Entries.length c_3, .string (bs x_1.Data)]⟩]) (ps := [b_4 = b_4]) (by kernel_rfl) (And.intro rfl trivial) ?_
    refine OpTo.go (GoO.call rfl (by kernel_rfl) (by kernel_rfl) (tontineref11_Encode_ok n x_1 A_2 c_3) [[0]] [] [] [(0, 0)] (hks := [0]) (bks := [0]) (by kernel_rfl) (by kernel_rfl) (by kernel_rfl) (.inl rfl) rfl rfl (by kernel_rfl) (by kernel_rfl) _ (fun _ _ => rfl) _ _ (fun _ _ => rfl) (fun _ _ => rfl) (fun _ _ => by kernel_rfl) (fun _ _ => by kernel_rfl) (fun r_8 x_13 => ?_))
    refine GoO.shape (env' := [(1, .pointer (some ⟨b_4, 0, none⟩)), (3, .string (bs r_7.1)), (4, .int .i64 r_7.2), (15, .agg ⟨[.int .i64 x_1.Kind, .int .i64 x_1.From, .int .i64 x_1.To, .int .u64 x_1.Term, .int .u64 x_1.Index, .int .u64 x_1.Prev, .int .u64 x_1.Commit, .bool x_1.Ok, .slice A_2 x_1.Entries.length c_3, .string (bs x_1.Data)]⟩), (16, .tuple ⟨[.string (bs r_8.1), .int .i64 r_8.2]⟩)]) (H' := [⟨40, b_4, [.int .i64 x_1.Kind, .int .i64 x_1.From, .int .i64 x_1.To, .int .u64 x_1.Term, .int .u64 x_1.Index, .int .u64 x_1.Prev, .int .u64 x_1.Commit, .bool x_1.Ok, .slice A_2 x_1.Entries.length c_3, .string (bs x_1.Data)]⟩]) (B' := [Rd 0 kT_api_Entry A_2 c_3 x_1.Entries]) (ks := [1, 3, 4, 15, 16]) (by kernel_rfl) (by kernel_rfl) (by kernel_rfl) ?_
    refine GoO.exec (is := [2, 3, 4, 5, 6]) (hs := [.p, .p, .p, .p, .p]) (rest := []) (ks := [1, 3, 4, 5, 6]) (env' := [(1, .pointer (some ⟨b_4, 0, none⟩)), (3, .string (bs r_7.1)), (4, .int .i64 r_7.2), (5, .string (bs r_8.1)), (6, .int .i64 r_8.2)]) (H' := [⟨40, b_4, [.int .i64 x_1.Kind, .int .i64 x_1.From, .int .i64 x_1.To, .int .u64 x_1.Term, .int .u64 x_1.Index, .int .u64 x_1.Prev, .int .u64 x_1.Commit, .bool x_1.Ok, .slice A_2 x_1.Entries.length c_3, .string (bs x_1.Data)]⟩]) (ps := []) (by kernel_rfl) trivial ?_
    refine GoO.regionEnd ?_
    refine GoO.seq' c4_14e ?_
    refine GoO.region' (is := [0, 1, 2, 3, 4, 5, 6, 7, 8, 9, 10, 11, 12, 13, 14, 15]) c4_15e (by kernel_rfl) ?_
    refine GoO.exec (is := [0, 1, 2, 3]) (hs := [.p, .p, .p, .p]) (rest := [4, 5, 6, 7, 8, 9, 10, 11, 12, 13, 14, 15]) (ks := [1, 4, 6, 22]) (env' := [(1, .pointer (some ⟨b_4, 0, none⟩)), (4, .int .i64 r_7.2), (6, .int .i64 r_8.2), (22, .bool (r_7.1 == r_8.1))]) (H' := [⟨40, b_4, [.int .i64 x_1.Kind, .int .i64 x_1.From, .int .i64 x_1.To, .int .u64 x_1.Term, .int .u64 x_1.Index, .int .u64 x_1.Prev, .int .u64 x_1.Commit, .bool x_1.Ok, .slice A_2 x_1.Entries.length c_3, .string (bs x_1.Data)]⟩]) (ps := []) (by kernel_rfl) trivial ?_
    refine GoO.bsplit (t := 22) (by kernel_rfl) (fun h9 => ?_) (fun h9 => ?_)
    · refine GoO.exec (is := [4, 5, 6, 7, 8]) (hs := [.p, .p, .p, .p, .p]) (rest := [9, 10, 11, 12, 13, 14, 15]) (ks := [1, 6, 27]) (env' := [(1, .pointer (some ⟨b_4, 0, none⟩)), (6, .int .i64 r_8.2), (27, .bool (r_7.2 == r_8.2))]) (H' := [⟨40, b_4, [.int .i64 x_1.Kind, .int .i64 x_1.From, .int .i64 x_1.To, .int .u64 x_1.Term, .int .u64 x_1.Index, .int .u64 x_1.Prev, .int .u64 x_1.Commit, .bool x_1.Ok, .slice A_2 x_1.Entries.length c_3, .string (bs x_1.Data)]⟩]) (ps := []) (by kernel_rfl) trivial ?_
      refine GoO.bsplit (t := 27) (by kernel_rfl) (fun h10 => ?_) (fun h10 => ?_)
      · refine GoO.exec (is := [9]) (hs := [.b 0]) (rest := [10, 11, 12, 13, 14, 15]) (ks := [6, 27, 28]) (env' := [(6, .int .i64 r_8.2), (27, .bool true), (28, .agg ⟨[.int .i64 x_1.Kind, .int .i64 x_1.From, .int .i64 x_1.To, .int .u64 x_1.Term, .int .u64 x_1.Index, .int .u64 x_1.Prev, .int .u64 x_1.Commit, .bool x_1.Ok, .slice A_2 x_1.Entries.length c_3, .string (bs x_1.Data)]⟩)]) (H' := [⟨40, b_4, [.int .i64 x_1.Kind, .int .i64 x_1.From, .int .i64 x_1.To, .int .u64 x_1.Term, .int .u64 x_1.Index, .int .u64 x_1.Prev, .int .u64 x_1.Commit, .bool x_1.Ok, .slice A_2 x_1.Entries.length c_3, .string (bs x_1.Data)]⟩]) (ps := [b_4 = b_4]) (by kernel_rfl) (And.intro rfl trivial) ?_
        refine OpTo.go (GoO.call rfl (by kernel_rfl) (by kernel_rfl) (letter_May_ok n x_1 A_2 c_3) [[0]] [] [] [(0, 0)] (hks := [0]) (bks := [0]) (by kernel_rfl) (by kernel_rfl) (by kernel_rfl) (.inl rfl) rfl rfl (by kernel_rfl) (by kernel_rfl) _ (fun _ _ => rfl) _ _ (fun _ _ => rfl) (fun _ _ => rfl) (fun _ _ => by kernel_rfl) (fun _ _ => by kernel_rfl) (fun r_11 x_12 => ?_))
        refine GoO.shape (env' := [(6, .int .i64 r_8.2), (27, .bool true), (28, .agg ⟨[.int .i64 x_1.Kind, .int .i64 x_1.From, .int .i64 x_1.To, .int .u64 x_1.Term, .int .u64 x_1.Index, .int .u64 x_1.Prev, .int .u64 x_1.Commit, .bool x_1.Ok, .slice A_2 x_1.Entries.length c_3, .string (bs x_1.Data)]⟩), (29, .bool r_11)]) (H' := [⟨40, b_4, [.int .i64 x_1.Kind, .int .i64 x_1.From, .int .i64 x_1.To, .int .u64 x_1.Term, .int .u64 x_1.Index, .int .u64 x_1.Prev, .int .u64 x_1.Commit, .bool x_1.Ok, .slice A_2 x_1.Entries.length c_3, .string (bs x_1.Data)]⟩]) (B' := [Rd 0 kT_api_Entry A_2 c_3 x_1.Entries]) (ks := [6, 27, 28, 29]) (by kernel_rfl) (by kernel_rfl) (by kernel_rfl) ?_
        refine GoO.exec (is := [11, 12, 13, 14, 15]) (hs := [.p, .p, .p, .p, .p]) (rest := []) (ks := [2]) (env' := [(2, .bool (r_11 == (r_8.2 == 0)))]) (H' := [⟨40, b_4, [.int .i64 x_1.Kind, .int .i64 x_1.From, .int .i64 x_1.To, .int .u64 x_1.Term, .int .u64 x_1.Index, .int .u64 x_1.Prev, .int .u64 x_1.Commit, .bool x_1.Ok, .slice A_2 x_1.Entries.length c_3, .string (bs x_1.Data)]⟩]) (ps := []) (by kernel_rfl) trivial ?_
        refine GoO.regionEnd ?_
        exact GoO.ret' (h := c4_16e) (hs := []) (ps := []) (hk := []) (bk := []) Try.func4 () (by kernel_rfl) trivial (by kernel_rfl) (by kernel_rfl)
      · refine GoO.exec (is := [9, 10, 11, 12, 13, 14, 15]) (hs := [.p, .p, .p, .p, .p, .p, .p]) (rest := []) (ks := [2]) (env' := [(2, .bool false)]) (H' := [⟨40, b_4, [.int .i64 x_1.Kind, .int .i64 x_1.From, .int .i64 x_1.To, .int .u64 x_1.Term, .int .u64 x_1.Index, .int .u64 x_1.Prev, .int .u64 x_1.Commit, .bool x_1.Ok, .slice A_2 x_1.Entries.length c_3, .string (bs x_1.Data)]⟩]) (ps := []) (by kernel_rfl) trivial ?_
        refine GoO.regionEnd ?_
        exact GoO.ret' (h := c4_16e) (hs := []) (ps := []) (hk := []) (bk := []) Try.func4 () (by kernel_rfl) trivial (by kernel_rfl) (by kernel_rfl)
    · refine GoO.exec (is := [4, 5, 6, 7, 8, 9, 10, 11, 12, 13, 14, 15]) (hs := [.p, .p, .p, .p, .p, .p, .p, .p, .p, .p, .p, .p]) (rest := []) (ks := [2]) (env' := [(2, .bool false)]) (H' := [⟨40, b_4, [.int .i64 x_1.Kind, .int .i64 x_1.From, .int .i64 x_1.To, .int .u64 x_1.Term, .int .u64 x_1.Index, .int .u64 x_1.Prev, .int .u64 x_1.Commit, .bool x_1.Ok, .slice A_2 x_1.Entries.length c_3, .string (bs x_1.Data)]⟩]) (ps := []) (by kernel_rfl) trivial ?_
      refine GoO.regionEnd ?_
      exact GoO.ret' (h := c4_16e) (hs := []) (ps := []) (hk := []) (bk := []) Try.func4 () (by kernel_rfl) trivial (by kernel_rfl) (by kernel_rfl)
end Go.GL
