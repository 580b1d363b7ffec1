import Derived.Test.YtciohdgjlcaokaaKindsT1
import Derived.Test.YtciohdgjlcaokaaProg
set_option linter.unusedVariables false
set_option linter.unusedSimpArgs false
set_option maxRecDepth 100000
namespace Go.GL
open Go Go.Proofs


/-! tontine/letter.May -/
noncomputable def c23_0 : Code := bodyOf Try.f23
noncomputable def c23_1 : Code := cdL c23_0
noncomputable def c23_2 : Code := cdR c23_0
noncomputable def c23_3 : Code := cdL c23_2
noncomputable def c23_4 : Code := cdL c23_3
noncomputable def c23_5 : Code := cdR c23_3
noncomputable def c23_6 : Code := cdL c23_5
noncomputable def c23_7 : Code := cdL c23_6
noncomputable def c23_8 : Code := cdR c23_6
noncomputable def c23_9 : Code := cdR c23_5
noncomputable def c23_10 : Code := cdR c23_2
noncomputable def c23_11 : Code := cdL c23_10
noncomputable def c23_12 : Code := cdL c23_11
noncomputable def c23_13 : Code := cdR c23_11
noncomputable def c23_14 : Code := cdL c23_13
noncomputable def c23_15 : Code := cdL c23_14
noncomputable def c23_16 : Code := cdR c23_14
noncomputable def c23_17 : Code := cdR c23_13
noncomputable def c23_18 : Code := cdR c23_10
noncomputable def c23_19 : Code := cdL c23_18
noncomputable def c23_20 : Code := cdL c23_19
noncomputable def c23_21 : Code := cdR c23_19
noncomputable def c23_22 : Code := cdL c23_21
noncomputable def c23_23 : Code := cdL c23_22
noncomputable def c23_24 : Code := cdL c23_23
noncomputable def c23_25 : Code := cdR c23_23
noncomputable def c23_26 : Code := cdL c23_25
noncomputable def c23_27 : Code := cdL c23_26
noncomputable def c23_28 : Code := cdR c23_26
noncomputable def c23_29 : Code := cdR c23_25
noncomputable def c23_30 : Code := cdL c23_29
noncomputable def c23_31 : Code := cdL c23_30
noncomputable def c23_32 : Code := cdL c23_31
noncomputable def c23_33 : Code := cdR c23_31
noncomputable def c23_34 : Code := cdL c23_33
noncomputable def c23_35 : Code := cdR c23_33
noncomputable def c23_36 : Code := cdL c23_35
noncomputable def c23_37 : Code := cdL c23_36
noncomputable def c23_38 : Code := cdR c23_36
noncomputable def c23_39 : Code := cdR c23_35
noncomputable def c23_40 : Code := cdR c23_29
noncomputable def c23_41 : Code := cdR c23_18
noncomputable def c23_42 : Code := cdL c23_41
noncomputable def c23_43 : Code := cdR c23_41
noncomputable def r23_1 : Array Oper := cdO c23_1
noncomputable def r23_4 : Array Oper := cdO c23_4
noncomputable def r23_7 : Array Oper := cdO c23_7
noncomputable def r23_12 : Array Oper := cdO c23_12
noncomputable def r23_15 : Array Oper := cdO c23_15
noncomputable def r23_20 : Array Oper := cdO c23_20
noncomputable def r23_24 : Array Oper := cdO c23_24
noncomputable def r23_32 : Array Oper := cdO c23_32
noncomputable def r23_34 : Array Oper := cdO c23_34
noncomputable def r23_37 : Array Oper := cdO c23_37
noncomputable def r23_40 : Array Oper := cdO c23_40
noncomputable def r23_42 : Array Oper := cdO c23_42
theorem c23_0e : c23_0 = .seq c23_1 c23_2 := by kernel_rfl
theorem c23_1e : c23_1 = .region 0 r23_1 false := by kernel_rfl
theorem c23_2e : c23_2 = .seq c23_3 c23_10 := by kernel_rfl
theorem c23_3e : c23_3 = .seq c23_4 c23_5 := by kernel_rfl
theorem c23_4e : c23_4 = .region 1 r23_4 false := by kernel_rfl
theorem c23_5e : c23_5 = .cond (cdC c23_5) c23_6 c23_9 := by kernel_rfl
theorem c23_6e : c23_6 = .seq c23_7 c23_8 := by kernel_rfl
theorem c23_7e : c23_7 = .region 2 r23_7 false := by kernel_rfl
theorem c23_8e : c23_8 = .ret := by kernel_rfl
theorem c23_9e : c23_9 = .skip := by kernel_rfl
theorem c23_10e : c23_10 = .seq c23_11 c23_18 := by kernel_rfl
theorem c23_11e : c23_11 = .seq c23_12 c23_13 := by kernel_rfl
theorem c23_12e : c23_12 = .region 3 r23_12 false := by kernel_rfl
theorem c23_13e : c23_13 = .cond (cdC c23_13) c23_14 c23_17 := by kernel_rfl
theorem c23_14e : c23_14 = .seq c23_15 c23_16 := by kernel_rfl
theorem c23_15e : c23_15 = .region 4 r23_15 false := by kernel_rfl
theorem c23_16e : c23_16 = .ret := by kernel_rfl
theorem c23_17e : c23_17 = .skip := by kernel_rfl
theorem c23_18e : c23_18 = .seq c23_19 c23_41 := by kernel_rfl
theorem c23_19e : c23_19 = .seq c23_20 c23_21 := by kernel_rfl
theorem c23_20e : c23_20 = .region 5 r23_20 false := by kernel_rfl
theorem c23_21e : c23_21 = .block 0 c23_22 := by kernel_rfl
theorem c23_22e : c23_22 = .loop c23_23 := by kernel_rfl
theorem c23_23e : c23_23 = .seq c23_24 c23_25 := by kernel_rfl
theorem c23_24e : c23_24 = .region 6 r23_24 false := by kernel_rfl
theorem c23_25e : c23_25 = .seq c23_26 c23_29 := by kernel_rfl
theorem c23_26e : c23_26 = .cond (cdC c23_26) c23_27 c23_28 := by kernel_rfl
theorem c23_27e : c23_27 = .skip := by kernel_rfl
theorem c23_28e : c23_28 = .exit 0 := by kernel_rfl
theorem c23_29e : c23_29 = .seq c23_30 c23_40 := by kernel_rfl
theorem c23_30e : c23_30 = .block 1 c23_31 := by kernel_rfl
theorem c23_31e : c23_31 = .seq c23_32 c23_33 := by kernel_rfl
theorem c23_32e : c23_32 = .region 7 r23_32 false := by kernel_rfl
theorem c23_33e : c23_33 = .seq c23_34 c23_35 := by kernel_rfl
theorem c23_34e : c23_34 = .region 8 r23_34 false := by kernel_rfl
theorem c23_35e : c23_35 = .cond (cdC c23_35) c23_36 c23_39 := by kernel_rfl
theorem c23_36e : c23_36 = .seq c23_37 c23_38 := by kernel_rfl
theorem c23_37e : c23_37 = .region 9 r23_37 false := by kernel_rfl
theorem c23_38e : c23_38 = .ret := by kernel_rfl
theorem c23_39e : c23_39 = .skip := by kernel_rfl
theorem c23_40e : c23_40 = .region 10 r23_40 false := by kernel_rfl
theorem c23_41e : c23_41 = .seq c23_42 c23_43 := by kernel_rfl
theorem c23_42e : c23_42 = .region 11 r23_42 false := by kernel_rfl
theorem c23_43e : c23_43 = .ret := by kernel_rfl
noncomputable def letter_May.R (A_2 : Option Addr) (c_3 : Nat) : Pst Bool where
  ε := Unit
  v := fun r x => .bool r
  H := fun r x => []
  B := fun r x => []
noncomputable def letter_May.cx (A_2 : Option Addr) (c_3 : Nat) (w0 : World) (S0 : Fam) : Cx Bool := ⟨Try.prog, 23, Try.f23, 76, w0, S0, [], 0, letter_May.R A_2 c_3⟩
theorem letter_May_j2_ok (n : Nat) (L0 : Int → Option Bool) (x_1 : T_api_Letter) (x_17 : Int) (A_2 : Option Addr) (c_3 : Nat) (w0 : World) (S0 : Fam) (ih0 : ∀ (x_17 : Int), GoO (letter_May.cx A_2 c_3 w0 S0) [(55, .slice A_2 x_1.Entries.length c_3), (56, .int .i64 (x_1.Entries.length : Int)), (57, .int .i64 x_17)] [] [Rd 0 kT_api_Entry A_2 c_3 x_1.Entries] [.code c23_23, .inLoop c23_23, .inBlock 0, .code c23_41] (L0 x_17)) (b_23 : Bool) :
    GoO (letter_May.cx A_2 c_3 w0 S0) [(55, .slice A_2 x_1.Entries.length c_3), (56, .int .i64 (x_1.Entries.length : Int)), (57, .int .i64 x_17), (74, .bool b_23)] [] [Rd 0 kT_api_Entry A_2 c_3 x_1.Entries] [.code c23_35, .inBlock 1, .code c23_40, .inLoop c23_23, .inBlock 0, .code c23_41] (letter_May.j2 n L0 x_17 b_23) := by
  unfold letter_May.j2
  refine GoO.ite' c23_35e (by kernel_rfl) (fun h24 => ?_) (fun h24 => ?_)
  · refine GoO.seq' c23_36e ?_
    refine GoO.region' (is := [0]) c23_37e (by kernel_rfl) ?_
    refine GoO.exec (is := [0]) (hs := [.p]) (rest := []) (ks := [2]) (env' := [(2, .bool false)]) (H' := []) (ps := []) (by kernel_rfl) trivial ?_
    refine GoO.regionEnd ?_
    exact GoO.ret' (h := c23_38e) (hs := []) (ps := []) (hk := []) (bk := []) Try.func23 () (by kernel_rfl) trivial (by kernel_rfl) (by kernel_rfl)
  · refine GoO.skip' c23_39e ?_
    refine GoO.inBlock ?_
    refine GoO.region' (is := [0, 1]) c23_40e (by kernel_rfl) ?_
    refine GoO.exec (is := [0, 1]) (hs := [.p, .p]) (rest := []) (ks := [55, 56, 57]) (env' := [(55, .slice A_2 x_1.Entries.length c_3), (56, .int .i64 (x_1.Entries.length : Int)), (57, .int .i64 (wi64 (x_17 + 1)))]) (H' := []) (ps := []) (by kernel_rfl) trivial ?_
    refine GoO.regionEnd ?_
    refine GoO.inLoop ?_
    exact GoO.sub (ks := [55, 56, 57]) (hk := []) (bk := [0]) (by kernel_rfl) (by kernel_rfl) (by kernel_rfl) (ih0 (wi64 (x_17 + 1)))
theorem letter_May_l0_ok (n : Nat) (x_1 : T_api_Letter) (A_2 : Option Addr) (c_3 : Nat) (w0 : World) (S0 : Fam) :
    ∀ (k : Nat) (x_17 : Int), GoO (letter_May.cx A_2 c_3 w0 S0) [(55, .slice A_2 x_1.Entries.length c_3), (56, .int .i64 (x_1.Entries.length : Int)), (57, .int .i64 x_17)] [] [Rd 0 kT_api_Entry A_2 c_3 x_1.Entries] [.code c23_23, .inLoop c23_23, .inBlock 0, .code c23_41] (letter_May.l0 n x_1 k x_17) := by
  intro k
  induction k with
  | zero => intros; rw [letter_May.l0.eq_1]; exact GoO.stop
  | succ k ih0 =>
    intro x_17
    rw [letter_May.l0.eq_2]
    refine GoO.seq' c23_23e ?_
    refine GoO.region' (is := [0]) c23_24e (by kernel_rfl) ?_
    refine GoO.exec (is := [0]) (hs := [.p]) (rest := []) (ks := [55, 56, 57, 58]) (env' := [(55, .slice A_2 x_1.Entries.length c_3), (56, .int .i64 (x_1.Entries.length : Int)), (57, .int .i64 x_17), (58, .bool (decide (x_17 < (x_1.Entries.length : Int))))]) (H' := []) (ps := []) (by kernel_rfl) trivial ?_
    refine GoO.regionEnd ?_
    refine GoO.seq' c23_25e ?_
    refine GoO.ite' c23_26e (by kernel_rfl) (fun h18 => ?_) (fun h18 => ?_)
    · refine GoO.skip' c23_27e ?_
      refine GoO.seq' c23_29e ?_
      refine GoO.block' c23_30e ?_
      refine GoO.seq' c23_31e ?_
      refine GoO.region' (is := [0, 1, 2, 3]) c23_32e (by kernel_rfl) ?_
      refine GoO.guard (fun h19 => ?_)
      refine OpTo.go (GoO.idx (kk := .i64) (e := 93) (K := kT_api_Entry) (A := A_2) (c := c_3) (xs := x_1.Entries) (iv := x_17) (j := 0) rfl (by kernel_rfl) (by kernel_rfl) (by kernel_rfl) (by kernel_rfl) rfl Reads.rd rfl h19.1 h19.2 (by decide) rfl ?_)
      refine OpTo.go (GoO.ldE' (K := kT_api_Entry) (A := A_2) (c := c_3) (xs := x_1.Entries) (iN := x_17.toNat) (off := 0) (j := 0) rfl (by kernel_rfl) rfl Reads.rd (by first | exact idx_lt h19.1 h19.2 | (simp only [List.length_set]; exact idx_lt h19.1 h19.2)) (by decide) (Opn.flat _ _ _ _ _) (v := fun _ => .agg ⟨[.int .u64 ((rdL x_1.Entries x_17).Term), .int .u64 ((rdL x_1.Entries x_17).Index), .int .i64 ((rdL x_1.Entries x_17).Kind), .string (bs ((rdL x_1.Entries x_17).Data))]⟩) (fun _ => by kernel_rfl) _ (fun _ => rfl) (fun _ => ?_))
      refine OpTo.go (GoO.new rfl 41 (cs := [.int .u64 0, .int .u64 0, .int .i64 0, .string (bs [])]) (by kernel_rfl) _ (fun _ => rfl) (fun b_20 => ?_))
      refine GoO.exec (is := [3]) (hs := [.b 0]) (rest := []) (ks := [4, 55, 56, 57]) (env' := [(4, .pointer (some ⟨b_20, 0, none⟩)), (55, .slice A_2 x_1.Entries.length c_3), (56, .int .i64 (x_1.Entries.length : Int)), (57, .int .i64 x_17)]) (H' := [⟨41, b_20, [.int .u64 ((rdL x_1.Entries x_17).Term), .int .u64 ((rdL x_1.Entries x_17).Index), .int .i64 ((rdL x_1.Entries x_17).Kind), .string (bs ((rdL x_1.Entries x_17).Data))]⟩]) (ps := [b_20 = b_20]) (by kernel_rfl) (And.intro rfl trivial) ?_
      refine GoO.regionEnd ?_
      refine GoO.seq' c23_33e ?_
      refine GoO.region' (is := [0, 1, 2, 3, 4, 5, 6, 7, 8, 9, 10, 11, 12, 13]) c23_34e (by kernel_rfl) ?_
      refine GoO.exec (is := [0, 1, 2, 3]) (hs := [.p, .b 0, .p, .p]) (rest := [4, 5, 6, 7, 8, 9, 10, 11, 12, 13]) (ks := [4, 55, 56, 57, 64]) (env' := [(4, .pointer (some ⟨b_20, 0, none⟩)), (55, .slice A_2 x_1.Entries.length c_3), (56, .int .i64 (x_1.Entries.length : Int)), (57, .int .i64 x_17), (64, .bool (decide (((rdL x_1.Entries x_17).Kind) < 0)))]) (H' := [⟨41, b_20, [.int .u64 ((rdL x_1.Entries x_17).Term), .int .u64 ((rdL x_1.Entries x_17).Index), .int .i64 ((rdL x_1.Entries x_17).Kind), .string (bs ((rdL x_1.Entries x_17).Data))]⟩]) (ps := [b_20 = b_20]) (by kernel_rfl) (And.intro rfl trivial) ?_
      refine GoO.bsplit (t := 64) (by kernel_rfl) (fun h21 => ?_) (fun h21 => ?_)
      · refine GoO.exec (is := [4, 5, 6, 7, 8, 9, 10, 11, 12, 13]) (hs := [.p, .p, .p, .p, .p, .p, .p, .p, .p, .p]) (rest := []) (ks := [55, 56, 57, 74]) (env' := [(55, .slice A_2 x_1.Entries.length c_3), (56, .int .i64 (x_1.Entries.length : Int)), (57, .int .i64 x_17), (74, .bool true)]) (H' := [⟨41, b_20, [.int .u64 ((rdL x_1.Entries x_17).Term), .int .u64 ((rdL x_1.Entries x_17).Index), .int .i64 ((rdL x_1.Entries x_17).Kind), .string (bs ((rdL x_1.Entries x_17).Data))]⟩]) (ps := []) (by kernel_rfl) trivial ?_
        refine GoO.regionEnd ?_
        exact GoO.sub (ks := [55, 56, 57, 74]) (hk := []) (bk := [0]) (by kernel_rfl) (by kernel_rfl) (by kernel_rfl) (letter_May_j2_ok n (letter_May.l0 n x_1 k) x_1 x_17 A_2 c_3 w0 S0 ih0 true)
      · refine GoO.exec (is := [4, 5, 6, 7, 8]) (hs := [.p, .b 0, .p, .p, .p]) (rest := [9, 10, 11, 12, 13]) (ks := [4, 55, 56, 57, 69]) (env' := [(4, .pointer (some ⟨b_20, 0, none⟩)), (55, .slice A_2 x_1.Entries.length c_3), (56, .int .i64 (x_1.Entries.length : Int)), (57, .int .i64 x_17), (69, .bool (decide (((rdL x_1.Entries x_17).Kind) > 2)))]) (H' := [⟨41, b_20, [.int .u64 ((rdL x_1.Entries x_17).Term), .int .u64 ((rdL x_1.Entries x_17).Index), .int .i64 ((rdL x_1.Entries x_17).Kind), .string (bs ((rdL x_1.Entries x_17).Data))]⟩]) (ps := [b_20 = b_20]) (by kernel_rfl) (And.intro rfl trivial) ?_
        refine GoO.bsplit (t := 69) (by kernel_rfl) (fun h22 => ?_) (fun h22 => ?_)
        · refine GoO.exec (is := [9, 10, 11, 12, 13]) (hs := [.p, .p, .p, .p, .p]) (rest := []) (ks := [55, 56, 57, 74]) (env' := [(55, .slice A_2 x_1.Entries.length c_3), (56, .int .i64 (x_1.Entries.length : Int)), (57, .int .i64 x_17), (74, .bool true)]) (H' := [⟨41, b_20, [.int .u64 ((rdL x_1.Entries x_17).Term), .int .u64 ((rdL x_1.Entries x_17).Index), .int .i64 ((rdL x_1.Entries x_17).Kind), .string (bs ((rdL x_1.Entries x_17).Data))]⟩]) (ps := []) (by kernel_rfl) trivial ?_
          refine GoO.regionEnd ?_
          exact GoO.sub (ks := [55, 56, 57, 74]) (hk := []) (bk := [0]) (by kernel_rfl) (by kernel_rfl) (by kernel_rfl) (letter_May_j2_ok n (letter_May.l0 n x_1 k) x_1 x_17 A_2 c_3 w0 S0 ih0 true)
        · refine GoO.exec (is := [9, 10, 11, 12, 13]) (hs := [.p, .b 0, .p, .p, .p]) (rest := []) (ks := [55, 56, 57, 74]) (env' := [(55, .slice A_2 x_1.Entries.length c_3), (56, .int .i64 (x_1.Entries.length : Int)), (57, .int .i64 x_17), (74, .bool (decide ((((rdL x_1.Entries x_17).Data).length : Int) > 65536)))]) (H' := [⟨41, b_20, [.int .u64 ((rdL x_1.Entries x_17).Term), .int .u64 ((rdL x_1.Entries x_17).Index), .int .i64 ((rdL x_1.Entries x_17).Kind), .string (bs ((rdL x_1.Entries x_17).Data))]⟩]) (ps := [b_20 = b_20]) (by kernel_rfl) (And.intro rfl trivial) ?_
          refine GoO.regionEnd ?_
          exact GoO.sub (ks := [55, 56, 57, 74]) (hk := []) (bk := [0]) (by kernel_rfl) (by kernel_rfl) (by kernel_rfl) (letter_May_j2_ok n (letter_May.l0 n x_1 k) x_1 x_17 A_2 c_3 w0 S0 ih0 (decide ((((rdL x_1.Entries x_17).Data).length : Int) > 65536)))
    · refine GoO.exit' c23_28e rfl ?_
      refine GoO.seq' c23_41e ?_
      refine GoO.region' (is := [0]) c23_42e (by kernel_rfl) ?_
      refine GoO.exec (is := [0]) (hs := [.p]) (rest := []) (ks := [2]) (env' := [(2, .bool true)]) (H' := []) (ps := []) (by kernel_rfl) trivial ?_
      refine GoO.regionEnd ?_
      exact GoO.ret' (h := c23_43e) (hs := []) (ps := []) (hk := []) (bk := []) Try.func23 () (by kernel_rfl) trivial (by kernel_rfl) (by kernel_rfl)
theorem letter_May_j1_ok (n : Nat) (x_1 : T_api_Letter) (A_2 : Option Addr) (c_3 : Nat) (b_4 : Nat) (w0 : World) (S0 : Fam) (b_15 : Bool) :
    GoO (letter_May.cx A_2 c_3 w0 S0) [(1, .pointer (some ⟨b_4, 0, none⟩)), (53, .bool b_15)] [⟨40, b_4, [.int .i64 x_1.Kind, .int .i64 x_1.From, .int .i64 x_1.To, .int .u64 x_1.Term, .int .u64 x_1.Index, .int .u64 x_1.Prev, .int .u64 x_1.Commit, .bool x_1.Ok, .slice A_2 x_1.Entries.length c_3, .string (bs x_1.Data)]⟩] [Rd 0 kT_api_Entry A_2 c_3 x_1.Entries] [.code c23_13, .code c23_18] (letter_May.j1 n x_1 b_15) := by
  unfold letter_May.j1
  refine GoO.ite' c23_13e (by kernel_rfl) (fun h16 => ?_) (fun h16 => ?_)
  · refine GoO.seq' c23_14e ?_
    refine GoO.region' (is := [0]) c23_15e (by kernel_rfl) ?_
    refine GoO.exec (is := [0]) (hs := [.p]) (rest := []) (ks := [2]) (env' := [(2, .bool false)]) (H' := [⟨40, b_4, [.int .i64 x_1.Kind, .int .i64 x_1.From, .int .i64 x_1.To, .int .u64 x_1.Term, .int .u64 x_1.Index, .int .u64 x_1.Prev, .int .u64 x_1.Commit, .bool x_1.Ok, .slice A_2 x_1.Entries.length c_3, .string (bs x_1.Data)]⟩]) (ps := []) (by kernel_rfl) trivial ?_
    refine GoO.regionEnd ?_
    exact GoO.ret' (h := c23_16e) (hs := []) (ps := []) (hk := []) (bk := []) Try.func23 () (by kernel_rfl) trivial (by kernel_rfl) (by kernel_rfl)
  · refine GoO.skip' c23_17e ?_
    refine GoO.seq' c23_18e ?_
    refine GoO.seq' c23_19e ?_
    refine GoO.region' (is := [0, 1, 2, 3]) c23_20e (by kernel_rfl) ?_
    refine GoO.exec (is := [0, 1, 2, 3]) (hs := [.p, .b 0, .p, .p]) (rest := []) (ks := [55, 56, 57]) (env' := [(55, .slice A_2 x_1.Entries.length c_3), (56, .int .i64 (x_1.Entries.length : Int)), (57, .int .i64 0)]) (H' := [⟨40, b_4, [.int .i64 x_1.Kind, .int .i64 x_1.From, .int .i64 x_1.To, .int .u64 x_1.Term, .int .u64 x_1.Index, .int .u64 x_1.Prev, .int .u64 x_1.Commit, .bool x_1.Ok, .slice A_2 x_1.Entries.length c_3, .string (bs x_1.Data)]⟩]) (ps := [b_4 = b_4]) (by kernel_rfl) (And.intro rfl trivial) ?_
    refine GoO.regionEnd ?_
    refine GoO.block' c23_21e ?_
    refine GoO.loop' c23_22e ?_
    exact GoO.sub (ks := [55, 56, 57]) (hk := []) (bk := [0]) (by kernel_rfl) (by kernel_rfl) (by kernel_rfl) (letter_May_l0_ok n x_1 A_2 c_3 w0 S0 n 0)
theorem letter_May_j0_ok (n : Nat) (x_1 : T_api_Letter) (A_2 : Option Addr) (c_3 : Nat) (b_4 : Nat) (w0 : World) (S0 : Fam) (b_12 : Bool) :
    GoO (letter_May.cx A_2 c_3 w0 S0) [(1, .pointer (some ⟨b_4, 0, none⟩)), (44, .bool b_12)] [⟨40, b_4, [.int .i64 x_1.Kind, .int .i64 x_1.From, .int .i64 x_1.To, .int .u64 x_1.Term, .int .u64 x_1.Index, .int .u64 x_1.Prev, .int .u64 x_1.Commit, .bool x_1.Ok, .slice A_2 x_1.Entries.length c_3, .string (bs x_1.Data)]⟩] [Rd 0 kT_api_Entry A_2 c_3 x_1.Entries] [.code c23_5, .code c23_10] (letter_May.j0 n x_1 b_12) := by
  unfold letter_May.j0
  refine GoO.ite' c23_5e (by kernel_rfl) (fun h13 => ?_) (fun h13 => ?_)
  · refine GoO.seq' c23_6e ?_
    refine GoO.region' (is := [0]) c23_7e (by kernel_rfl) ?_
    refine GoO.exec (is := [0]) (hs := [.p]) (rest := []) (ks := [2]) (env' := [(2, .bool false)]) (H' := [⟨40, b_4, [.int .i64 x_1.Kind, .int .i64 x_1.From, .int .i64 x_1.To, .int .u64 x_1.Term, .int .u64 x_1.Index, .int .u64 x_1.Prev, .int .u64 x_1.Commit, .bool x_1.Ok, .slice A_2 x_1.Entries.length c_3, .string (bs x_1.Data)]⟩]) (ps := []) (by kernel_rfl) trivial ?_
    refine GoO.regionEnd ?_
    exact GoO.ret' (h := c23_8e) (hs := []) (ps := []) (hk := []) (bk := []) Try.func23 () (by kernel_rfl) trivial (by kernel_rfl) (by kernel_rfl)
  · refine GoO.skip' c23_9e ?_
    refine GoO.seq' c23_10e ?_
    refine GoO.seq' c23_11e ?_
    refine GoO.region' (is := [0, 1, 2, 3, 4, 5, 6, 7, 8]) c23_12e (by kernel_rfl) ?_
    refine GoO.exec (is := [0, 1, 2, 3, 4]) (hs := [.p, .b 0, .p, .p, .p]) (rest := [5, 6, 7, 8]) (ks := [1, 49]) (env' := [(1, .pointer (some ⟨b_4, 0, none⟩)), (49, .bool (decide ((x_1.Entries.length : Int) > 0)))]) (H' := [⟨40, b_4, [.int .i64 x_1.Kind, .int .i64 x_1.From, .int .i64 x_1.To, .int .u64 x_1.Term, .int .u64 x_1.Index, .int .u64 x_1.Prev, .int .u64 x_1.Commit, .bool x_1.Ok, .slice A_2 x_1.Entries.length c_3, .string (bs x_1.Data)]⟩]) (ps := [b_4 = b_4]) (by kernel_rfl) (And.intro rfl trivial) ?_
    refine GoO.bsplit (t := 49) (by kernel_rfl) (fun h14 => ?_) (fun h14 => ?_)
    · refine GoO.exec (is := [5, 6, 7, 8]) (hs := [.p, .b 0, .p, .p]) (rest := []) (ks := [1, 53]) (env' := [(1, .pointer (some ⟨b_4, 0, none⟩)), (53, .bool (x_1.Kind != 3))]) (H' := [⟨40, b_4, [.int .i64 x_1.Kind, .int .i64 x_1.From, .int .i64 x_1.To, .int .u64 x_1.Term, .int .u64 x_1.Index, .int .u64 x_1.Prev, .int .u64 x_1.Commit, .bool x_1.Ok, .slice A_2 x_1.Entries.length c_3, .string (bs x_1.Data)]⟩]) (ps := [b_4 = b_4]) (by kernel_rfl) (And.intro rfl trivial) ?_
      refine GoO.regionEnd ?_
      exact GoO.sub (ks := [1, 53]) (hk := [0]) (bk := [0]) (by kernel_rfl) (by kernel_rfl) (by kernel_rfl) (letter_May_j1_ok n x_1 A_2 c_3 b_4 w0 S0 (x_1.Kind != 3))
    · refine GoO.exec (is := [5, 6, 7, 8]) (hs := [.p, .p, .p, .p]) (rest := []) (ks := [1, 53]) (env' := [(1, .pointer (some ⟨b_4, 0, none⟩)), (53, .bool false)]) (H' := [⟨40, b_4, [.int .i64 x_1.Kind, .int .i64 x_1.From, .int .i64 x_1.To, .int .u64 x_1.Term, .int .u64 x_1.Index, .int .u64 x_1.Prev, .int .u64 x_1.Commit, .bool x_1.Ok, .slice A_2 x_1.Entries.length c_3, .string (bs x_1.Data)]⟩]) (ps := []) (by kernel_rfl) trivial ?_
      refine GoO.regionEnd ?_
      exact GoO.sub (ks := [1, 53]) (hk := [0]) (bk := [0]) (by kernel_rfl) (by kernel_rfl) (by kernel_rfl) (letter_May_j1_ok n x_1 A_2 c_3 b_4 w0 S0 false)
theorem letter_May_ok (n : Nat) (x_1 : T_api_Letter) (A_2 : Option Addr) (c_3 : Nat) :
    Meets Try.prog 23 [.agg ⟨[.int .i64 x_1.Kind, .int .i64 x_1.From, .int .i64 x_1.To, .int .u64 x_1.Term, .int .u64 x_1.Index, .int .u64 x_1.Prev, .int .u64 x_1.Commit, .bool x_1.Ok, .slice A_2 x_1.Entries.length c_3, .string (bs x_1.Data)]⟩] 0 [] [] [Rd 0 kT_api_Entry A_2 c_3 x_1.Entries] (letter_May.f n x_1) (letter_May.R A_2 c_3) := by
  refine Meets.of (c := c23_0) (n := 76) Try.func23 (by kernel_rfl) (by kernel_rfl) (by kernel_rfl) fun w0 S0 => ?_
  unfold letter_May.f
  show GoO (letter_May.cx A_2 c_3 w0 S0) [(0, .agg ⟨[.int .i64 x_1.Kind, .int .i64 x_1.From, .int .i64 x_1.To, .int .u64 x_1.Term, .int .u64 x_1.Index, .int .u64 x_1.Prev, .int .u64 x_1.Commit, .bool x_1.Ok, .slice A_2 x_1.Entries.length c_3, .string (bs x_1.Data)]⟩)] [] [Rd 0 kT_api_Entry A_2 c_3 x_1.Entries] [.code c23_0] _
  refine GoO.seq' c23_0e ?_
  refine GoO.region' (is := [0, 1]) c23_1e (by kernel_rfl) ?_
  refine OpTo.go (GoO.new rfl 40 (cs := [.int .i64 x_1.Kind, .int .i64 x_1.From, .int .i64 x_1.To, .int .u64 x_1.Term, .int .u64 x_1.Index, .int .u64 x_1.Prev, .int .u64 x_1.Commit, .bool x_1.Ok, .slice A_2 x_1.Entries.length c_3, .string (bs x_1.Data)]) (by kernel_rfl) _ (fun _ => rfl) (fun b_4 => ?_))
  refine GoO.exec (is := [1]) (hs := [.p]) (rest := []) (ks := [1]) (env' := [(1, .pointer (some ⟨b_4, 0, none⟩))]) (H' := [⟨40, b_4, [.int .i64 x_1.Kind, .int .i64 x_1.From, .int .i64 x_1.To, .int .u64 x_1.Term, .int .u64 x_1.Index, .int .u64 x_1.Prev, .int .u64 x_1.Commit, .bool x_1.Ok, .slice A_2 x_1.Entries.length c_3, .string (bs x_1.Data)]⟩]) (ps := []) (by kernel_rfl) trivial ?_
  refine GoO.regionEnd ?_
  refine GoO.seq' c23_2e ?_
  refine GoO.seq' c23_3e ?_
  refine GoO.region' (is := [0, 1, 2, 3, 4, 5, 6, 7, 8, 9, 10, 11, 12, 13, 14, 15, 16, 17, 18, 19, 20, 21, 22, 23, 24, 25, 26, 27, 28, 29, 30, 31, 32, 33, 34, 35, 36, 37, 38, 39]) c23_4e (by kernel_rfl) ?_
  refine GoO.exec (is := [0, 1, 2, 3]) (hs := [.p, .b 0, .p, .p]) (rest := [4, 5, 6, 7, 8, 9, 10, 11, 12, 13, 14, 15, 16, 17, 18, 19, 20, 21, 22, 23, 24, 25, 26, 27, 28, 29, 30, 31, 32, 33, 34, 35, 36, 37, 38, 39]) (ks := [1, 8]) (env' := [(1, .pointer (some ⟨b_4, 0, none⟩)), (8, .bool (decide (x_1.Kind < 1)))]) (H' := [⟨40, b_4, [.int .i64 x_1.Kind, .int .i64 x_1.From, .int .i64 x_1.To, .int .u64 x_1.Term, .int .u64 x_1.Index, .int .u64 x_1.Prev, .int .u64 x_1.Commit, .bool x_1.Ok, .slice A_2 x_1.Entries.length c_3, .string (bs x_1.Data)]⟩]) (ps := [b_4 = b_4]) (by kernel_rfl) (And.intro rfl trivial) ?_
  refine GoO.bsplit (t := 8) (by kernel_rfl) (fun h5 => ?_) (fun h5 => ?_)
  · refine GoO.exec (is := [4, 5, 6, 7, 8, 9, 10, 11, 12, 13, 14, 15, 16, 17, 18, 19, 20, 21, 22, 23, 24, 25, 26, 27, 28, 29, 30, 31, 32, 33, 34, 35, 36, 37, 38, 39]) (hs := [.p, .p, .p, .p, .p, .p, .p, .p, .p, .p, .p, .p, .p, .p, .p, .p, .p, .p, .p, .p, .p, .p, .p, .p, .p, .p, .p, .p, .p, .p, .p, .p, .p, .p, .p, .p]) (rest := []) (ks := [1, 44]) (env' := [(1, .pointer (some ⟨b_4, 0, none⟩)), (44, .bool true)]) (H' := [⟨40, b_4, [.int .i64 x_1.Kind, .int .i64 x_1.From, .int .i64 x_1.To, .int .u64 x_1.Term, .int .u64 x_1.Index, .int .u64 x_1.Prev, .int .u64 x_1.Commit, .bool x_1.Ok, .slice A_2 x_1.Entries.length c_3, .string (bs x_1.Data)]⟩]) (ps := []) (by kernel_rfl) trivial ?_
    refine GoO.regionEnd ?_
    exact GoO.sub (ks := [1, 44]) (hk := [0]) (bk := [0]) (by kernel_rfl) (by kernel_rfl) (by kernel_rfl) (letter_May_j0_ok n x_1 A_2 c_3 b_4 w0 S0 true)
  · refine GoO.exec (is := [4, 5, 6, 7, 8]) (hs := [.p, .b 0, .p, .p, .p]) (rest := [9, 10, 11, 12, 13, 14, 15, 16, 17, 18, 19, 20, 21, 22, 23, 24, 25, 26, 27, 28, 29, 30, 31, 32, 33, 34, 35, 36, 37, 38, 39]) (ks := [1, 13]) (env' := [(1, .pointer (some ⟨b_4, 0, none⟩)), (13, .bool (decide (x_1.Kind > 9)))]) (H' := [⟨40, b_4, [.int .i64 x_1.Kind, .int .i64 x_1.From, .int .i64 x_1.To, .int .u64 x_1.Term, .int .u64 x_1.Index, .int .u64 x_1.Prev, .int .u64 x_1.Commit, .bool x_1.Ok, .slice A_2 x_1.Entries.length c_3, .string (bs x_1.Data)]⟩]) (ps := [b_4 = b_4]) (by kernel_rfl) (And.intro rfl trivial) ?_
    refine GoO.bsplit (t := 13) (by kernel_rfl) (fun h6 => ?_) (fun h6 => ?_)
    · refine GoO.exec (is := [9, 10, 11, 12, 13, 14, 15, 16, 17, 18, 19, 20, 21, 22, 23, 24, 25, 26, 27, 28, 29, 30, 31, 32, 33, 34, 35, 36, 37, 38, 39]) (hs := [.p, .p, .p, .p, .p, .p, .p, .p, .p, .p, .p, .p, .p, .p, .p, .p, .p, .p, .p, .p, .p, .p, .p, .p, .p, .p, .p, .p, .p, .p, .p]) (rest := []) (ks := [1, 44]) (env' := [(1, .pointer (some ⟨b_4, 0, none⟩)), (44, .bool true)]) (H' := [⟨40, b_4, [.int .i64 x_1.Kind, .int .i64 x_1.From, .int .i64 x_1.To, .int .u64 x_1.Term, .int .u64 x_1.Index, .int .u64 x_1.Prev, .int .u64 x_1.Commit, .bool x_1.Ok, .slice A_2 x_1.Entries.length c_3, .string (bs x_1.Data)]⟩]) (ps := []) (by kernel_rfl) trivial ?_
      refine GoO.regionEnd ?_
      exact GoO.sub (ks := [1, 44]) (hk := [0]) (bk := [0]) (by kernel_rfl) (by kernel_rfl) (by kernel_rfl) (letter_May_j0_ok n x_1 A_2 c_3 b_4 w0 S0 true)
    · refine GoO.exec (is := [9, 10, 11, 12, 13]) (hs := [.p, .b 0, .p, .p, .p]) (rest := [14, 15, 16, 17, 18, 19, 20, 21, 22, 23, 24, 25, 26, 27, 28, 29, 30, 31, 32, 33, 34, 35, 36, 37, 38, 39]) (ks := [1, 18]) (env' := [(1, .pointer (some ⟨b_4, 0, none⟩)), (18, .bool (decide (x_1.From < 0)))]) (H' := [⟨40, b_4, [.int .i64 x_1.Kind, .int .i64 x_1.From, .int .i64 x_1.To, .int .u64 x_1.Term, .int .u64 x_1.Index, .int .u64 x_1.Prev, .int .u64 x_1.Commit, .bool x_1.Ok, .slice A_2 x_1.Entries.length c_3, .string (bs x_1.Data)]⟩]) (ps := [b_4 = b_4]) (by kernel_rfl) (And.intro rfl trivial) ?_
      refine GoO.bsplit (t := 18) (by kernel_rfl) (fun h7 => ?_) (fun h7 => ?_)
      · refine GoO.exec (is := [14, 15, 16, 17, 18, 19, 20, 21, 22, 23, 24, 25, 26, 27, 28, 29, 30, 31, 32, 33, 34, 35, 36, 37, 38, 39]) (hs := [.p, .p, .p, .p, .p, .p, .p, .p, .p, .p, .p, .p, .p, .p, .p, .p, .p, .p, .p, .p, .p, .p, .p, .p, .p, .p]) (rest := []) (ks := [1, 44]) (env' := [(1, .pointer (some ⟨b_4, 0, none⟩)), (44, .bool true)]) (H' := [⟨40, b_4, [.int .i64 x_1.Kind, .int .i64 x_1.From, .int .i64 x_1.To, .int .u64 x_1.Term, .int .u64 x_1.Index, .int .u64 x_1.Prev, .int .u64 x_1.Commit, .bool x_1.Ok, .slice A_2 x_1.Entries.length c_3, .string (bs x_1.Data)]⟩]) (ps := []) (by kernel_rfl) trivial ?_
        refine GoO.regionEnd ?_
        exact GoO.sub (ks := [1, 44]) (hk := [0]) (bk := [0]) (by kernel_rfl) (by kernel_rfl) (by kernel_rfl) (letter_May_j0_ok n x_1 A_2 c_3 b_4 w0 S0 true)
      · refine GoO.exec (is := [14, 15, 16, 17, 18]) (hs := [.p, .b 0, .p, .p, .p]) (rest := [19, 20, 21, 22, 23, 24, 25, 26, 27, 28, 29, 30, 31, 32, 33, 34, 35, 36, 37, 38, 39]) (ks := [1, 23]) (env' := [(1, .pointer (some ⟨b_4, 0, none⟩)), (23, .bool (decide (x_1.From > 255)))]) (H' := [⟨40, b_4, [.int .i64 x_1.Kind, .int .i64 x_1.From, .int .i64 x_1.To, .int .u64 x_1.Term, .int .u64 x_1.Index, .int .u64 x_1.Prev, .int .u64 x_1.Commit, .bool x_1.Ok, .slice A_2 x_1.Entries.length c_3, .string (bs x_1.Data)]⟩]) (ps := [b_4 = b_4]) (by kernel_rfl) (And.intro rfl trivial) ?_
        refine GoO.bsplit (t := 23) (by kernel_rfl) (fun h8 => ?_) (fun h8 => ?_)
        · refine GoO.exec (is := [19, 20, 21, 22, 23, 24, 25, 26, 27, 28, 29, 30, 31, 32, 33, 34, 35, 36, 37, 38, 39]) (hs := [.p, .p, .p, .p, .p, .p, .p, .p, .p, .p, .p, .p, .p, .p, .p, .p, .p, .p, .p, .p, .p]) (rest := []) (ks := [1, 44]) (env' := [(1, .pointer (some ⟨b_4, 0, none⟩)), (44, .bool true)]) (H' := [⟨40, b_4, [.int .i64 x_1.Kind, .int .i64 x_1.From, .int .i64 x_1.To, .int .u64 x_1.Term, .int .u64 x_1.Index, .int .u64 x_1.Prev, .int .u64 x_1.Commit, .bool x_1.Ok, .slice A_2 x_1.Entries.length c_3, .string (bs x_1.Data)]⟩]) (ps := []) (by kernel_rfl) trivial ?_
          refine GoO.regionEnd ?_
          exact GoO.sub (ks := [1, 44]) (hk := [0]) (bk := [0]) (by kernel_rfl) (by kernel_rfl) (by kernel_rfl) (letter_May_j0_ok n x_1 A_2 c_3 b_4 w0 S0 true)
        · refine GoO.exec (is := [19, 20, 21, 22, 23]) (hs := [.p, .b 0, .p, .p, .p]) (rest := [24, 25, 26, 27, 28, 29, 30, 31, 32, 33, 34, 35, 36, 37, 38, 39]) (ks := [1, 28]) (env' := [(1, .pointer (some ⟨b_4, 0, none⟩)), (28, .bool (decide (x_1.To < 0)))]) (H' := [⟨40, b_4, [.int .i64 x_1.Kind, .int .i64 x_1.From, .int .i64 x_1.To, .int .u64 x_1.Term, .int .u64 x_1.Index, .int .u64 x_1.Prev, .int .u64 x_1.Commit, .bool x_1.Ok, .slice A_2 x_1.Entries.length c_3, .string (bs x_1.Data)]⟩]) (ps := [b_4 = b_4]) (by kernel_rfl) (And.intro rfl trivial) ?_
          refine GoO.bsplit (t := 28) (by kernel_rfl) (fun h9 => ?_) (fun h9 => ?_)
          · refine GoO.exec (is := [24, 25, 26, 27, 28, 29, 30, 31, 32, 33, 34, 35, 36, 37, 38, 39]) (hs := [.p, .p, .p, .p, .p, .p, .p, .p, .p, .p, .p, .p, .p, .p, .p, .p]) (rest := []) (ks := [1, 44]) (env' := [(1, .pointer (some ⟨b_4, 0, none⟩)), (44, .bool true)]) (H' := [⟨40, b_4, [.int .i64 x_1.Kind, .int .i64 x_1.From, .int .i64 x_1.To, .int .u64 x_1.Term, .int .u64 x_1.Index, .int .u64 x_1.Prev, .int .u64 x_1.Commit, .bool x_1.Ok, .slice A_2 x_1.Entries.length c_3, .string (bs x_1.Data)]⟩]) (ps := []) (by kernel_rfl) trivial ?_
            refine GoO.regionEnd ?_
            exact GoO.sub (ks := [1, 44]) (hk := [0]) (bk := [0]) (by kernel_rfl) (by kernel_rfl) (by kernel_rfl) (letter_May_j0_ok n x_1 A_2 c_3 b_4 w0 S0 true)
          · refine GoO.exec (is := [24, 25, 26, 27, 28]) (hs := [.p, .b 0, .p, .p, .p]) (rest := [29, 30, 31, 32, 33, 34, 35, 36, 37, 38, 39]) (ks := [1, 33]) (env' := [(1, .pointer (some ⟨b_4, 0, none⟩)), (33, .bool (decide (x_1.To > 255)))]) (H' := [⟨40, b_4, [.int .i64 x_1.Kind, .int .i64 x_1.From, .int .i64 x_1.To, .int .u64 x_1.Term, .int .u64 x_1.Index, .int .u64 x_1.Prev, .int .u64 x_1.Commit, .bool x_1.Ok, .slice A_2 x_1.Entries.length c_3, .string (bs x_1.Data)]⟩]) (ps := [b_4 = b_4]) (by kernel_rfl) (And.intro rfl trivial) ?_
            refine GoO.bsplit (t := 33) (by kernel_rfl) (fun h10 => ?_) (fun h10 => ?_)
            · refine GoO.exec (is := [29, 30, 31, 32, 33, 34, 35, 36, 37, 38, 39]) (hs := [.p, .p, .p, .p, .p, .p, .p, .p, .p, .p, .p]) (rest := []) (ks := [1, 44]) (env' := [(1, .pointer (some ⟨b_4, 0, none⟩)), (44, .bool true)]) (H' := [⟨40, b_4, [.int .i64 x_1.Kind, .int .i64 x_1.From, .int .i64 x_1.To, .int .u64 x_1.Term, .int .u64 x_1.Index, .int .u64 x_1.Prev, .int .u64 x_1.Commit, .bool x_1.Ok, .slice A_2 x_1.Entries.length c_3, .string (bs x_1.Data)]⟩]) (ps := []) (by kernel_rfl) trivial ?_
              refine GoO.regionEnd ?_
              exact GoO.sub (ks := [1, 44]) (hk := [0]) (bk := [0]) (by kernel_rfl) (by kernel_rfl) (by kernel_rfl) (letter_May_j0_ok n x_1 A_2 c_3 b_4 w0 S0 true)
            · refine GoO.exec (is := [29, 30, 31, 32, 33, 34]) (hs := [.p, .b 0, .p, .p, .p, .p]) (rest := [35, 36, 37, 38, 39]) (ks := [1, 39]) (env' := [(1, .pointer (some ⟨b_4, 0, none⟩)), (39, .bool (decide ((x_1.Entries.length : Int) > 8)))]) (H' := [⟨40, b_4, [.int .i64 x_1.Kind, .int .i64 x_1.From, .int .i64 x_1.To, .int .u64 x_1.Term, .int .u64 x_1.Index, .int .u64 x_1.Prev, .int .u64 x_1.Commit, .bool x_1.Ok, .slice A_2 x_1.Entries.length c_3, .string (bs x_1.Data)]⟩]) (ps := [b_4 = b_4]) (by kernel_rfl) (And.intro rfl trivial) ?_
              refine GoO.bsplit (t := 39) (by kernel_rfl) (fun h11 => ?_) (fun h11 => ?_)
              · refine GoO.exec (is := [35, 36, 37, 38, 39]) (hs := [.p, .p, .p, .p, .p]) (rest := []) (ks := [1, 44]) (env' := [(1, .pointer (some ⟨b_4, 0, none⟩)), (44, .bool true)]) (H' := [⟨40, b_4, [.int .i64 x_1.Kind, .int .i64 x_1.From, .int .i64 x_1.To, .int .u64 x_1.Term, .int .u64 x_1.Index, .int .u64 x_1.Prev, .int .u64 x_1.Commit, .bool x_1.Ok, .slice A_2 x_1.Entries.length c_3, .string (bs x_1.Data)]⟩]) (ps := []) (by kernel_rfl) trivial ?_
                refine GoO.regionEnd ?_
                exact GoO.sub (ks := [1, 44]) (hk := [0]) (bk := [0]) (by kernel_rfl) (by kernel_rfl) (by kernel_rfl) (letter_May_j0_ok n x_1 A_2 c_3 b_4 w0 S0 true)
              · refine GoO.exec (is := [35, 36, 37, 38, 39]) (hs := [.p, .b 0, .p, .p, .p]) (rest := []) (ks := [1, 44]) (env' := [(1, .pointer (some ⟨b_4, 0, none⟩)), (44, .bool (decide ((x_1.Data.length : Int) > 65536)))]) (H' := [⟨40, b_4, [.int .i64 x_1.Kind, .int .i64 x_1.From, .int .i64 x_1.To, .int .u64 x_1.Term, .int .u64 x_1.Index, .int .u64 x_1.Prev, .int .u64 x_1.Commit, .bool x_1.Ok, .slice A_2 x_1.Entries.length c_3, .string (bs x_1.Data)]⟩]) (ps := [b_4 = b_4]) (by kernel_rfl) (And.intro rfl trivial) ?_
                refine GoO.regionEnd ?_
                exact GoO.sub (ks := [1, 44]) (hk := [0]) (bk := [0]) (by kernel_rfl) (by kernel_rfl) (by kernel_rfl) (letter_May_j0_ok n x_1 A_2 c_3 b_4 w0 S0 (decide ((x_1.Data.length : Int) > 65536)))

/-! (*tontine/pack.Writer).Num -/
noncomputable def c38_0 : Code := bodyOf Try.f38
noncomputable def c38_1 : Code := cdL c38_0
noncomputable def c38_2 : Code := cdR c38_0
noncomputable def c38_3 : Code := cdL c38_2
noncomputable def c38_4 : Code := cdL c38_3
noncomputable def c38_5 : Code := cdR c38_3
noncomputable def c38_9 : Code := cdR c38_5
noncomputable def c38_10 : Code := cdR c38_2
noncomputable def c38_11 : Code := cdL c38_10
noncomputable def c38_12 : Code := cdR c38_10
noncomputable def c38_13 : Code := cdL c38_12
noncomputable def c38_14 : Code := cdL c38_13
noncomputable def c38_15 : Code := cdR c38_13
noncomputable def c38_16 : Code := cdL c38_15
noncomputable def c38_17 : Code := cdL c38_16
noncomputable def c38_18 : Code := cdL c38_17
noncomputable def c38_19 : Code := cdL c38_18
noncomputable def c38_20 : Code := cdR c38_18
noncomputable def c38_21 : Code := cdL c38_20
noncomputable def c38_22 : Code := cdR c38_20
noncomputable def c38_23 : Code := cdR c38_17
noncomputable def c38_24 : Code := cdL c38_23
noncomputable def c38_25 : Code := cdL c38_24
noncomputable def c38_26 : Code := cdR c38_23
noncomputable def c38_27 : Code := cdR c38_12
noncomputable def c38_28 : Code := cdL c38_27
noncomputable def c38_29 : Code := cdR c38_27
noncomputable def c38_30 : Code := cdL c38_29
noncomputable def c38_31 : Code := cdL c38_30
noncomputable def c38_32 : Code := cdR c38_30
noncomputable def c38_33 : Code := cdL c38_32
noncomputable def c38_34 : Code := cdL c38_33
noncomputable def c38_35 : Code := cdL c38_34
noncomputable def c38_36 : Code := cdL c38_35
noncomputable def c38_37 : Code := cdR c38_35
noncomputable def c38_38 : Code := cdL c38_37
noncomputable def c38_39 : Code := cdR c38_37
noncomputable def c38_40 : Code := cdR c38_34
noncomputable def c38_41 : Code := cdL c38_40
noncomputable def c38_42 : Code := cdL c38_41
noncomputable def c38_43 : Code := cdR c38_40
noncomputable def c38_44 : Code := cdR c38_29
noncomputable def c38_45 : Code := cdL c38_44
noncomputable def c38_46 : Code := cdR c38_44
noncomputable def c38_6 : Code := cdL c38_5
noncomputable def r38_1 : Array Oper := cdO c38_1
noncomputable def r38_4 : Array Oper := cdO c38_4
noncomputable def r38_11 : Array Oper := cdO c38_11
noncomputable def r38_14 : Array Oper := cdO c38_14
noncomputable def r38_19 : Array Oper := cdO c38_19
noncomputable def r38_25 : Array Oper := cdO c38_25
noncomputable def r38_26 : Array Oper := cdO c38_26
noncomputable def r38_28 : Array Oper := cdO c38_28
noncomputable def r38_31 : Array Oper := cdO c38_31
noncomputable def r38_36 : Array Oper := cdO c38_36
noncomputable def r38_42 : Array Oper := cdO c38_42
noncomputable def r38_43 : Array Oper := cdO c38_43
noncomputable def r38_45 : Array Oper := cdO c38_45
theorem c38_0e : c38_0 = .seq c38_1 c38_2 := by kernel_rfl
theorem c38_1e : c38_1 = .region 0 r38_1 false := by kernel_rfl
theorem c38_2e : c38_2 = .seq c38_3 c38_10 := by kernel_rfl
theorem c38_3e : c38_3 = .seq c38_4 c38_5 := by kernel_rfl
theorem c38_4e : c38_4 = .region 1 r38_4 false := by kernel_rfl
theorem c38_5e : c38_5 = .cond (cdC c38_5) c38_6 c38_9 := by kernel_rfl
theorem c38_9e : c38_9 = .skip := by kernel_rfl
theorem c38_10e : c38_10 = .seq c38_11 c38_12 := by kernel_rfl
theorem c38_11e : c38_11 = .region 3 r38_11 false := by kernel_rfl
theorem c38_12e : c38_12 = .seq c38_13 c38_27 := by kernel_rfl
theorem c38_13e : c38_13 = .seq c38_14 c38_15 := by kernel_rfl
theorem c38_14e : c38_14 = .region 4 r38_14 false := by kernel_rfl
theorem c38_15e : c38_15 = .block 0 c38_16 := by kernel_rfl
theorem c38_16e : c38_16 = .loop c38_17 := by kernel_rfl
theorem c38_17e : c38_17 = .seq c38_18 c38_23 := by kernel_rfl
theorem c38_18e : c38_18 = .seq c38_19 c38_20 := by kernel_rfl
theorem c38_19e : c38_19 = .region 5 r38_19 false := by kernel_rfl
theorem c38_20e : c38_20 = .cond (cdC c38_20) c38_21 c38_22 := by kernel_rfl
theorem c38_21e : c38_21 = .skip := by kernel_rfl
theorem c38_22e : c38_22 = .exit 0 := by kernel_rfl
theorem c38_23e : c38_23 = .seq c38_24 c38_26 := by kernel_rfl
theorem c38_24e : c38_24 = .block 1 c38_25 := by kernel_rfl
theorem c38_25e : c38_25 = .region 7 r38_25 false := by kernel_rfl
theorem c38_26e : c38_26 = .region 6 r38_26 false := by kernel_rfl
theorem c38_27e : c38_27 = .seq c38_28 c38_29 := by kernel_rfl
theorem c38_28e : c38_28 = .region 8 r38_28 false := by kernel_rfl
theorem c38_29e : c38_29 = .seq c38_30 c38_44 := by kernel_rfl
theorem c38_30e : c38_30 = .seq c38_31 c38_32 := by kernel_rfl
theorem c38_31e : c38_31 = .region 9 r38_31 false := by kernel_rfl
theorem c38_32e : c38_32 = .block 2 c38_33 := by kernel_rfl
theorem c38_33e : c38_33 = .loop c38_34 := by kernel_rfl
theorem c38_34e : c38_34 = .seq c38_35 c38_40 := by kernel_rfl
theorem c38_35e : c38_35 = .seq c38_36 c38_37 := by kernel_rfl
theorem c38_36e : c38_36 = .region 10 r38_36 false := by kernel_rfl
theorem c38_37e : c38_37 = .cond (cdC c38_37) c38_38 c38_39 := by kernel_rfl
theorem c38_38e : c38_38 = .skip := by kernel_rfl
theorem c38_39e : c38_39 = .exit 2 := by kernel_rfl
theorem c38_40e : c38_40 = .seq c38_41 c38_43 := by kernel_rfl
theorem c38_41e : c38_41 = .block 3 c38_42 := by kernel_rfl
theorem c38_42e : c38_42 = .region 12 r38_42 true := by kernel_rfl
theorem c38_43e : c38_43 = .region 11 r38_43 false := by kernel_rfl
theorem c38_44e : c38_44 = .seq c38_45 c38_46 := by kernel_rfl
theorem c38_45e : c38_45 = .region 13 r38_45 false := by kernel_rfl
theorem c38_46e : c38_46 = .ret := by kernel_rfl
noncomputable def pack_Writer_Num.R (b_2 : Nat) (A_3 : Option Addr) (c_4 : Nat) : Pst T_pack_Writer where
  ε := Option Addr × Nat
  v := fun r x => .pointer (some ⟨b_2, 0, none⟩)
  H := fun r x => [⟨1, b_2, [.slice x.1 r.b.length x.2]⟩]
  B := fun r x => [Ow 2 Kd.u8 x.1 x.2 r.b]
noncomputable def pack_Writer_Num.cx (b_2 : Nat) (A_3 : Option Addr) (c_4 : Nat) (w0 : World) (S0 : Fam) : Cx T_pack_Writer := ⟨Try.prog, 38, Try.f38, 49, w0, S0, [1, 2], 2, pack_Writer_Num.R b_2 A_3 c_4⟩
theorem pack_Writer_Num_l1_ok (n : Nat) (x_5 : Int) (b_2 : Nat) (A_3 : Option Addr) (c_4 : Nat) (w0 : World) (S0 : Fam) :
    ∀ (k : Nat) (f_14 : (List UInt8)) (i_17 : Int) (A_15 : Option Addr) (c_16 : Nat), GoO (pack_Writer_Num.cx b_2 A_3 c_4 w0 S0) [(0, .pointer (some ⟨b_2, 0, none⟩)), (1, .int .u64 x_5), (7, .int .i64 i_17)] [⟨1, b_2, [.slice A_15 f_14.length c_16]⟩] [Ow 2 Kd.u8 A_15 c_16 f_14] [.code c38_34, .inLoop c38_34, .inBlock 2, .code c38_44] (pack_Writer_Num.l1 n x_5 k f_14 i_17) := by
  intro k
  induction k with
  | zero => intros; rw [pack_Writer_Num.l1.eq_1]; exact GoO.stop
  | succ k ih1 =>
    intro f_14 i_17 A_15 c_16
    rw [pack_Writer_Num.l1.eq_2]
    refine GoO.seq' c38_34e ?_
    refine GoO.seq' c38_35e ?_
    refine GoO.region' (is := [0, 1]) c38_36e (by kernel_rfl) ?_
    refine GoO.exec (is := [0, 1]) (hs := [.p, .p]) (rest := []) (ks := [0, 1, 7, 31]) (env' := [(0, .pointer (some ⟨b_2, 0, none⟩)), (1, .int .u64 x_5), (7, .int .i64 i_17), (31, .bool (decide (i_17 ≥ 0)))]) (H' := [⟨1, b_2, [.slice A_15 f_14.length c_16]⟩]) (ps := []) (by kernel_rfl) trivial ?_
    refine GoO.regionEnd ?_
    refine GoO.ite' c38_37e (by kernel_rfl) (fun h18 => ?_) (fun h18 => ?_)
    · refine GoO.skip' c38_38e ?_
      refine GoO.seq' c38_40e ?_
      refine GoO.block' c38_41e ?_
      refine GoO.draw c38_42e (by kernel_rfl) [12, 13, 14] [⟨1, b_2, [.slice A_15 f_14.length c_16]⟩] [] (n := 15) (by kernel_rfl) ?_
      simp only [List.replicate]
      refine GoF.guard (fun h19 => ?_)
      refine GoF.take [0, 1, 2, 3, 4, 5, 6, 7, 8, 9] [.p, .p, .p, .p, .b 0, .p, .p, .p, .p, .p] (ks := [0, 1, 7, 34, 38, 43]) (fu := 5) (li := [true, true, true, true, true, true, true, true, true, true, false, false, false, false, false]) (env' := [(0, .pointer (some ⟨b_2, 0, none⟩)), (1, .int .u64 x_5), (7, .int .i64 i_17), (34, .pointer (some ⟨b_2, 0, none⟩)), (38, .slice A_15 f_14.length c_16), (43, .int .u8 (wu8 (shR .u64 x_5 (wi64 (8 * i_17)))))]) (ps := [b_2 = b_2, (0 : Int) ≤ (wi64 (8 * i_17))]) (hk := [0]) (bk := []) (by kernel_rfl) (And.intro rfl (And.intro h19 trivial)) rfl rfl ?_
      refine OpTo.goF (i := 10) (by kernel_rfl) (hk := [0]) (bk := []) (GoO.lit (e := 5) (K := Kd.u8) rfl (by kernel_rfl) (by kernel_rfl) (cs := [.int .u8 (wu8 (shR .u64 x_5 (wi64 (8 * i_17))))]) (by kernel_rfl) [u8of (shR .u64 x_5 (wi64 (8 * i_17)))] (by kernel_rfl) (by kernel_rfl) (fun w S hB => ⟨[.int .u8 (wu8 (shR .u64 x_5 (wi64 (8 * i_17))))], _, rfl, (congrArg (fun v => [v]) (u8cell _)), rfl⟩) 41 _ (fun _ _ => rfl) (fun A_20 c_21 => ⟨rfl, rfl, ?_⟩))
      refine GoF.guard (fun h22 => ?_)
      refine OpTo.goF (i := 11) (by kernel_rfl) (hk := [0]) (bk := []) (GoO.appW (e := 5) (K := Kd.u8) (A := A_15) (c := c_16) (tg := 2) (bytes := 1) (zs := [.int .u8 0]) (xs := f_14) (ys := [u8of (shR .u64 x_5 (wi64 (8 * i_17)))]) (xv := .slice A_20 [u8of (shR .u64 x_5 (wi64 (8 * i_17)))].length c_21) (j := 1) (bk := [0]) rfl (by kernel_rfl) (by kernel_rfl) (by kernel_rfl) (by kernel_rfl) rfl (by kernel_rfl) rfl (fun w S hB => SrcIs.row (Reads.own w S (hB _ (List.mem_of_getElem? (i := 0) rfl)))) h22 rfl rfl rfl rfl _ (fun _ _ => rfl) (fun A_23 c_24 => ⟨rfl, rfl, ?_⟩))
      refine GoF.fin1 (i := 12) (hint := .p) (ps := []) (hk := []) (bk := []) (by kernel_rfl) rfl trivial (.inl rfl) ?_
      refine GoF.fin1 (i := 13) (hint := .p) (ps := []) (hk := []) (bk := []) (by kernel_rfl) rfl trivial (.inl rfl) ?_
      refine GoF.fin1 (i := 14) (hint := .b 0) (ps := [b_2 = b_2]) (hk := []) (bk := []) (by kernel_rfl) rfl (And.intro rfl trivial) (.inl rfl) ?_
      refine GoF.done (by kernel_rfl) ?_
      refine GoO.inBlock ?_
      refine GoO.region' (is := [0, 1, 2]) c38_43e (by kernel_rfl) ?_
      refine GoO.exec (is := [0, 1, 2]) (hs := [.p, .p, .p]) (rest := []) (ks := [0, 1, 7]) (env' := [(0, .pointer (some ⟨b_2, 0, none⟩)), (1, .int .u64 x_5), (7, .int .i64 (wi64 (i_17 - 1)))]) (H' := [⟨1, b_2, [.slice A_23 (f_14 ++ [u8of (shR .u64 x_5 (wi64 (8 * i_17)))]).length c_24]⟩]) (ps := []) (by kernel_rfl) trivial ?_
      refine GoO.regionEnd ?_
      refine GoO.inLoop ?_
      exact GoO.sub (ks := [0, 1, 7]) (hk := [0]) (bk := [0]) (by kernel_rfl) (by kernel_rfl) (by kernel_rfl) (ih1 (f_14 ++ [u8of (shR .u64 x_5 (wi64 (8 * i_17)))]) (wi64 (i_17 - 1)) A_23 c_24)
    · refine GoO.exit' c38_39e rfl ?_
      refine GoO.seq' c38_44e ?_
      refine GoO.region' (is := [0, 1]) c38_45e (by kernel_rfl) ?_
      refine GoO.exec (is := [0, 1]) (hs := [.p, .p]) (rest := []) (ks := [4]) (env' := [(4, .pointer (some ⟨b_2, 0, none⟩))]) (H' := [⟨1, b_2, [.slice A_15 f_14.length c_16]⟩]) (ps := []) (by kernel_rfl) trivial ?_
      refine GoO.regionEnd ?_
      exact GoO.ret' (h := c38_46e) (hs := []) (ps := []) (hk := [0]) (bk := [0]) Try.func38 (⟨A_15, c_16⟩ : Option Addr × Nat) (by kernel_rfl) trivial (by kernel_rfl) (by kernel_rfl)
theorem pack_Writer_Num_l0_ok (n : Nat) (w_1 : T_pack_Writer) (x_5 : Int) (b_2 : Nat) (A_3 : Option Addr) (c_4 : Nat) (w0 : World) (S0 : Fam) :
    ∀ (k : Nat) (n_6 : Int) (y_7 : Int), GoO (pack_Writer_Num.cx b_2 A_3 c_4 w0 S0) [(0, .pointer (some ⟨b_2, 0, none⟩)), (1, .int .u64 x_5), (5, .int .i64 n_6), (6, .int .u64 y_7)] [⟨1, b_2, [.slice A_3 w_1.b.length c_4]⟩] [Ow 2 Kd.u8 A_3 c_4 w_1.b] [.code c38_17, .inLoop c38_17, .inBlock 0, .code c38_27] (pack_Writer_Num.l0 n w_1 x_5 k n_6 y_7) := by
  intro k
  induction k with
  | zero => intros; rw [pack_Writer_Num.l0.eq_1]; exact GoO.stop
  | succ k ih0 =>
    intro n_6 y_7
    rw [pack_Writer_Num.l0.eq_2]
    refine GoO.seq' c38_17e ?_
    refine GoO.seq' c38_18e ?_
    refine GoO.region' (is := [0, 1]) c38_19e (by kernel_rfl) ?_
    refine GoO.exec (is := [0, 1]) (hs := [.p, .p]) (rest := []) (ks := [0, 1, 5, 6, 12]) (env' := [(0, .pointer (some ⟨b_2, 0, none⟩)), (1, .int .u64 x_5), (5, .int .i64 n_6), (6, .int .u64 y_7), (12, .bool (decide (y_7 > 0)))]) (H' := [⟨1, b_2, [.slice A_3 w_1.b.length c_4]⟩]) (ps := []) (by kernel_rfl) trivial ?_
    refine GoO.regionEnd ?_
    refine GoO.ite' c38_20e (by kernel_rfl) (fun h8 => ?_) (fun h8 => ?_)
    · refine GoO.skip' c38_21e ?_
      refine GoO.seq' c38_23e ?_
      refine GoO.block' c38_24e ?_
      refine GoO.region' (is := [0, 1, 2]) c38_25e (by kernel_rfl) ?_
      refine GoO.exec (is := [0, 1, 2]) (hs := [.p, .p, .p]) (rest := []) (ks := [0, 1, 5, 6]) (env' := [(0, .pointer (some ⟨b_2, 0, none⟩)), (1, .int .u64 x_5), (5, .int .i64 (wi64 (n_6 + 1))), (6, .int .u64 y_7)]) (H' := [⟨1, b_2, [.slice A_3 w_1.b.length c_4]⟩]) (ps := []) (by kernel_rfl) trivial ?_
      refine GoO.regionEnd ?_
      refine GoO.inBlock ?_
      refine GoO.region' (is := [0, 1, 2]) c38_26e (by kernel_rfl) ?_
      refine GoO.exec (is := [0, 1, 2]) (hs := [.p, .p, .p]) (rest := []) (ks := [0, 1, 5, 6]) (env' := [(0, .pointer (some ⟨b_2, 0, none⟩)), (1, .int .u64 x_5), (5, .int .i64 (wi64 (n_6 + 1))), (6, .int .u64 (shR .u64 y_7 8))]) (H' := [⟨1, b_2, [.slice A_3 w_1.b.length c_4]⟩]) (ps := [(0 : Int) ≤ 8]) (by kernel_rfl) (And.intro (by decide) trivial) ?_
      refine GoO.regionEnd ?_
      refine GoO.inLoop ?_
      exact GoO.sub (ks := [0, 1, 5, 6]) (hk := [0]) (bk := [0]) (by kernel_rfl) (by kernel_rfl) (by kernel_rfl) (ih0 (wi64 (n_6 + 1)) (shR .u64 y_7 8))
    · refine GoO.exit' c38_22e rfl ?_
      refine GoO.seq' c38_27e ?_
      refine GoO.region' (is := [0, 1, 2, 3, 4, 5, 6, 7, 8, 9, 10, 11]) c38_28e (by kernel_rfl) ?_
      refine GoO.exec (is := [0, 1, 2, 3, 4, 5, 6]) (hs := [.p, .p, .p, .p, .b 0, .p, .p]) (rest := [7, 8, 9, 10, 11]) (ks := [0, 1, 5, 17, 21, 23]) (env' := [(0, .pointer (some ⟨b_2, 0, none⟩)), (1, .int .u64 x_5), (5, .int .i64 n_6), (17, .pointer (some ⟨b_2, 0, none⟩)), (21, .slice A_3 w_1.b.length c_4), (23, .int .u8 (wu8 n_6))]) (H' := [⟨1, b_2, [.slice A_3 w_1.b.length c_4]⟩]) (ps := [b_2 = b_2]) (by kernel_rfl) (And.intro rfl trivial) ?_
      refine OpTo.go (GoO.lit (e := 5) (K := Kd.u8) rfl (by kernel_rfl) (by kernel_rfl) (cs := [.int .u8 (wu8 n_6)]) (by kernel_rfl) [u8of n_6] (by kernel_rfl) (by kernel_rfl) (fun w S hB => ⟨[.int .u8 (wu8 n_6)], _, rfl, (congrArg (fun v => [v]) (u8cell _)), rfl⟩) 40 _ (fun _ _ => rfl) (fun A_9 c_10 => ?_))
      refine GoO.guard (fun h11 => ?_)
      refine OpTo.go (GoO.appW (e := 5) (K := Kd.u8) (A := A_3) (c := c_4) (tg := 2) (bytes := 1) (zs := [.int .u8 0]) (xs := w_1.b) (ys := [u8of n_6]) (xv := .slice A_9 [u8of n_6].length c_10) (j := 1) (bk := [0]) rfl (by kernel_rfl) (by kernel_rfl) (by kernel_rfl) (by kernel_rfl) rfl (by kernel_rfl) rfl (fun w S hB => SrcIs.row (Reads.own w S (hB _ (List.mem_of_getElem? (i := 0) rfl)))) h11 rfl rfl rfl rfl _ (fun _ _ => rfl) (fun A_12 c_13 => ?_))
      refine GoO.exec (is := [9, 10, 11]) (hs := [.p, .p, .b 0]) (rest := []) (ks := [0, 1, 5]) (env' := [(0, .pointer (some ⟨b_2, 0, none⟩)), (1, .int .u64 x_5), (5, .int .i64 n_6)]) (H' := [⟨1, b_2, [.slice A_12 (w_1.b ++ [u8of n_6]).length c_13]⟩]) (ps := [b_2 = b_2]) (by kernel_rfl) (And.intro rfl trivial) ?_
      refine GoO.regionEnd ?_
      refine GoO.seq' c38_29e ?_
      refine GoO.seq' c38_30e ?_
      refine GoO.region' (is := [0, 1, 2]) c38_31e (by kernel_rfl) ?_
      refine GoO.exec (is := [0, 1, 2]) (hs := [.p, .p, .p]) (rest := []) (ks := [0, 1, 7]) (env' := [(0, .pointer (some ⟨b_2, 0, none⟩)), (1, .int .u64 x_5), (7, .int .i64 (wi64 (n_6 - 1)))]) (H' := [⟨1, b_2, [.slice A_12 (w_1.b ++ [u8of n_6]).length c_13]⟩]) (ps := []) (by kernel_rfl) trivial ?_
      refine GoO.regionEnd ?_
      refine GoO.block' c38_32e ?_
      refine GoO.loop' c38_33e ?_
      exact GoO.sub (ks := [0, 1, 7]) (hk := [0]) (bk := [0]) (by kernel_rfl) (by kernel_rfl) (by kernel_rfl) (pack_Writer_Num_l1_ok n x_5 b_2 A_3 c_4 w0 S0 n (w_1.b ++ [u8of n_6]) (wi64 (n_6 - 1)) A_12 c_13)
theorem pack_Writer_Num_ok (n : Nat) (w_1 : T_pack_Writer) (x_5 : Int) (b_2 : Nat) (A_3 : Option Addr) (c_4 : Nat) :
    Meets Try.prog 38 [.pointer (some ⟨b_2, 0, none⟩), .int .u64 x_5] 2 [1, 2] [⟨1, b_2, [.slice A_3 w_1.b.length c_4]⟩] [Ow 2 Kd.u8 A_3 c_4 w_1.b] (pack_Writer_Num.f n w_1 x_5) (pack_Writer_Num.R b_2 A_3 c_4) := by
  refine Meets.of (c := c38_0) (n := 49) Try.func38 (by kernel_rfl) (by kernel_rfl) (by kernel_rfl) fun w0 S0 => ?_
  unfold pack_Writer_Num.f
  show GoO (pack_Writer_Num.cx b_2 A_3 c_4 w0 S0) [(0, .pointer (some ⟨b_2, 0, none⟩)), (1, .int .u64 x_5)] [⟨1, b_2, [.slice A_3 w_1.b.length c_4]⟩] [Ow 2 Kd.u8 A_3 c_4 w_1.b] [.code c38_0] _
  refine GoO.seq' c38_0e ?_
  refine GoO.region' (is := [0]) c38_1e (by kernel_rfl) ?_
  refine GoO.exec (is := [0]) (hs := [.p]) (rest := []) (ks := [0, 1]) (env' := [(0, .pointer (some ⟨b_2, 0, none⟩)), (1, .int .u64 x_5)]) (H' := [⟨1, b_2, [.slice A_3 w_1.b.length c_4]⟩]) (ps := []) (by kernel_rfl) trivial ?_
  refine GoO.regionEnd ?_
  refine GoO.seq' c38_2e ?_
  refine GoO.seq' c38_3e ?_
  refine GoO.region' (is := [0, 1]) c38_4e (by kernel_rfl) ?_
  refine GoO.exec (is := [0, 1]) (hs := [.p, .p]) (rest := []) (ks := [0, 1, 9]) (env' := [(0, .pointer (some ⟨b_2, 0, none⟩)), (1, .int .u64 x_5), (9, .bool false)]) (H' := [⟨1, b_2, [.slice A_3 w_1.b.length c_4]⟩]) (ps := []) (by kernel_rfl) trivial ?_
  refine GoO.regionEnd ?_
  refine GoO.condF c38_5e (by kernel_rfl) ?_
  refine GoO.skip' c38_9e ?_
  refine GoO.seq' c38_10e ?_
  refine GoO.region' (is := [0]) c38_11e (by kernel_rfl) ?_
  refine GoO.exec (is := [0]) (hs := [.p]) (rest := []) (ks := [0, 1, 5]) (env' := [(0, .pointer (some ⟨b_2, 0, none⟩)), (1, .int .u64 x_5), (5, .int .i64 0)]) (H' := [⟨1, b_2, [.slice A_3 w_1.b.length c_4]⟩]) (ps := []) (by kernel_rfl) trivial ?_
  refine GoO.regionEnd ?_
  refine GoO.seq' c38_12e ?_
  refine GoO.seq' c38_13e ?_
  refine GoO.region' (is := [0, 1]) c38_14e (by kernel_rfl) ?_
  refine GoO.exec (is := [0, 1]) (hs := [.p, .p]) (rest := []) (ks := [0, 1, 5, 6]) (env' := [(0, .pointer (some ⟨b_2, 0, none⟩)), (1, .int .u64 x_5), (5, .int .i64 0), (6, .int .u64 x_5)]) (H' := [⟨1, b_2, [.slice A_3 w_1.b.length c_4]⟩]) (ps := []) (by kernel_rfl) trivial ?_
  refine GoO.regionEnd ?_
  refine GoO.block' c38_15e ?_
  refine GoO.loop' c38_16e ?_
  exact GoO.sub (ks := [0, 1, 5, 6]) (hk := [0]) (bk := [0]) (by kernel_rfl) (by kernel_rfl) (by kernel_rfl) (pack_Writer_Num_l0_ok n w_1 x_5 b_2 A_3 c_4 w0 S0 n 0 x_5)

/-! (*tontine/pack.Writer).Bool -/
noncomputable def c39_0 : Code := bodyOf Try.f39
noncomputable def c39_1 : Code := cdL c39_0
noncomputable def c39_2 : Code := cdR c39_0
noncomputable def c39_3 : Code := cdL c39_2
noncomputable def c39_4 : Code := cdL c39_3
noncomputable def c39_5 : Code := cdR c39_3
noncomputable def c39_6 : Code := cdL c39_5
noncomputable def c39_7 : Code := cdL c39_6
noncomputable def c39_8 : Code := cdR c39_6
noncomputable def c39_9 : Code := cdR c39_5
noncomputable def c39_10 : Code := cdR c39_2
noncomputable def c39_11 : Code := cdL c39_10
noncomputable def c39_12 : Code := cdR c39_10
noncomputable def r39_1 : Array Oper := cdO c39_1
noncomputable def r39_4 : Array Oper := cdO c39_4
noncomputable def r39_7 : Array Oper := cdO c39_7
noncomputable def r39_11 : Array Oper := cdO c39_11
theorem c39_0e : c39_0 = .seq c39_1 c39_2 := by kernel_rfl
theorem c39_1e : c39_1 = .region 0 r39_1 false := by kernel_rfl
theorem c39_2e : c39_2 = .seq c39_3 c39_10 := by kernel_rfl
theorem c39_3e : c39_3 = .seq c39_4 c39_5 := by kernel_rfl
theorem c39_4e : c39_4 = .region 1 r39_4 false := by kernel_rfl
theorem c39_5e : c39_5 = .cond (cdC c39_5) c39_6 c39_9 := by kernel_rfl
theorem c39_6e : c39_6 = .seq c39_7 c39_8 := by kernel_rfl
theorem c39_7e : c39_7 = .region 2 r39_7 false := by kernel_rfl
theorem c39_8e : c39_8 = .ret := by kernel_rfl
theorem c39_9e : c39_9 = .skip := by kernel_rfl
theorem c39_10e : c39_10 = .seq c39_11 c39_12 := by kernel_rfl
theorem c39_11e : c39_11 = .region 3 r39_11 false := by kernel_rfl
theorem c39_12e : c39_12 = .ret := by kernel_rfl
noncomputable def pack_Writer_Bool.R (b_2 : Nat) (A_3 : Option Addr) (c_4 : Nat) : Pst T_pack_Writer where
  ε := Option Addr × Nat
  v := fun r x => .pointer (some ⟨b_2, 0, none⟩)
  H := fun r x => [⟨1, b_2, [.slice x.1 r.b.length x.2]⟩]
  B := fun r x => [Ow 2 Kd.u8 x.1 x.2 r.b]
noncomputable def pack_Writer_Bool.cx (b_2 : Nat) (A_3 : Option Addr) (c_4 : Nat) (w0 : World) (S0 : Fam) : Cx T_pack_Writer := ⟨Try.prog, 39, Try.f39, 10, w0, S0, [1, 2], 2, pack_Writer_Bool.R b_2 A_3 c_4⟩
theorem pack_Writer_Bool_ok (n : Nat) (w_1 : T_pack_Writer) (x_5 : Bool) (b_2 : Nat) (A_3 : Option Addr) (c_4 : Nat) :
    Meets Try.prog 39 [.pointer (some ⟨b_2, 0, none⟩), .bool x_5] 2 [1, 2] [⟨1, b_2, [.slice A_3 w_1.b.length c_4]⟩] [Ow 2 Kd.u8 A_3 c_4 w_1.b] (pack_Writer_Bool.f n w_1 x_5) (pack_Writer_Bool.R b_2 A_3 c_4) := by
  refine Meets.of (c := c39_0) (n := 10) Try.func39 (by kernel_rfl) (by kernel_rfl) (by kernel_rfl) fun w0 S0 => ?_
  unfold pack_Writer_Bool.f
  show GoO (pack_Writer_Bool.cx b_2 A_3 c_4 w0 S0) [(0, .pointer (some ⟨b_2, 0, none⟩)), (1, .bool x_5)] [⟨1, b_2, [.slice A_3 w_1.b.length c_4]⟩] [Ow 2 Kd.u8 A_3 c_4 w_1.b] [.code c39_0] _
  refine GoO.seq' c39_0e ?_
  refine GoO.region' (is := [0]) c39_1e (by kernel_rfl) ?_
  refine GoO.exec (is := [0]) (hs := [.p]) (rest := []) (ks := [0, 1]) (env' := [(0, .pointer (some ⟨b_2, 0, none⟩)), (1, .bool x_5)]) (H' := [⟨1, b_2, [.slice A_3 w_1.b.length c_4]⟩]) (ps := []) (by kernel_rfl) trivial ?_
  refine GoO.regionEnd ?_
  refine GoO.seq' c39_2e ?_
  refine GoO.seq' c39_3e ?_
  refine GoO.region' (is := [0]) c39_4e (by kernel_rfl) ?_
  refine GoO.exec (is := [0]) (hs := [.p]) (rest := []) (ks := [0, 5]) (env' := [(0, .pointer (some ⟨b_2, 0, none⟩)), (5, .bool x_5)]) (H' := [⟨1, b_2, [.slice A_3 w_1.b.length c_4]⟩]) (ps := []) (by kernel_rfl) trivial ?_
  refine GoO.regionEnd ?_
  refine GoO.ite' c39_5e (by kernel_rfl) (fun h6 => ?_) (fun h6 => ?_)
  · refine GoO.seq' c39_6e ?_
    refine GoO.region' (is := [0, 1, 2]) c39_7e (by kernel_rfl) ?_
    refine GoO.exec (is := [0]) (hs := [.p]) (rest := [1, 2]) (ks := [6]) (env' := [(6, .pointer (some ⟨b_2, 0, none⟩))]) (H' := [⟨1, b_2, [.slice A_3 w_1.b.length c_4]⟩]) (ps := []) (by kernel_rfl) trivial ?_
    refine OpTo.go (GoO.call rfl (by kernel_rfl) (by kernel_rfl) (pack_Writer_Num_ok n w_1 1 b_2 A_3 c_4) [[0], [1], [2]] [(1, 1), (2, 2)] [(1, 0)] [(2, 0)] (hks := []) (bks := []) (by kernel_rfl) (by kernel_rfl) (by kernel_rfl) (.inl rfl) rfl rfl (by kernel_rfl) (by kernel_rfl) _ (fun _ _ => rfl) _ _ (fun _ _ => rfl) (fun _ _ => rfl) (fun _ _ => by kernel_rfl) (fun _ _ => by kernel_rfl) (fun r_7 x_10 => ?_))
    obtain ⟨A_8, c_9⟩ := x_10
    refine GoO.shape (env' := [(6, .pointer (some ⟨b_2, 0, none⟩)), (7, .pointer (some ⟨b_2, 0, none⟩))]) (H' := [⟨1, b_2, [.slice A_8 r_7.b.length c_9]⟩]) (B' := [Ow 2 Kd.u8 A_8 c_9 r_7.b]) (ks := [6, 7]) (by kernel_rfl) (by kernel_rfl) (by kernel_rfl) ?_
    refine GoO.exec (is := [2]) (hs := [.p]) (rest := []) (ks := [4]) (env' := [(4, .pointer (some ⟨b_2, 0, none⟩))]) (H' := [⟨1, b_2, [.slice A_8 r_7.b.length c_9]⟩]) (ps := []) (by kernel_rfl) trivial ?_
    refine GoO.regionEnd ?_
    exact GoO.ret' (h := c39_8e) (hs := []) (ps := []) (hk := [0]) (bk := [0]) Try.func39 (⟨A_8, c_9⟩ : Option Addr × Nat) (by kernel_rfl) trivial (by kernel_rfl) (by kernel_rfl)
  · refine GoO.skip' c39_9e ?_
    refine GoO.seq' c39_10e ?_
    refine GoO.region' (is := [0, 1, 2]) c39_11e (by kernel_rfl) ?_
    refine GoO.exec (is := [0]) (hs := [.p]) (rest := [1, 2]) (ks := [8]) (env' := [(8, .pointer (some ⟨b_2, 0, none⟩))]) (H' := [⟨1, b_2, [.slice A_3 w_1.b.length c_4]⟩]) (ps := []) (by kernel_rfl) trivial ?_
    refine OpTo.go (GoO.call rfl (by kernel_rfl) (by kernel_rfl) (pack_Writer_Num_ok n w_1 0 b_2 A_3 c_4) [[0], [1], [2]] [(1, 1), (2, 2)] [(1, 0)] [(2, 0)] (hks := []) (bks := []) (by kernel_rfl) (by kernel_rfl) (by kernel_rfl) (.inl rfl) rfl rfl (by kernel_rfl) (by kernel_rfl) _ (fun _ _ => rfl) _ _ (fun _ _ => rfl) (fun _ _ => rfl) (fun _ _ => by kernel_rfl) (fun _ _ => by kernel_rfl) (fun r_11 x_14 => ?_))
    obtain ⟨A_12, c_13⟩ := x_14
    refine GoO.shape (env' := [(8, .pointer (some ⟨b_2, 0, none⟩)), (9, .pointer (some ⟨b_2, 0, none⟩))]) (H' := [⟨1, b_2, [.slice A_12 r_11.b.length c_13]⟩]) (B' := [Ow 2 Kd.u8 A_12 c_13 r_11.b]) (ks := [8, 9]) (by kernel_rfl) (by kernel_rfl) (by kernel_rfl) ?_
    refine GoO.exec (is := [2]) (hs := [.p]) (rest := []) (ks := [4]) (env' := [(4, .pointer (some ⟨b_2, 0, none⟩))]) (H' := [⟨1, b_2, [.slice A_12 r_11.b.length c_13]⟩]) (ps := []) (by kernel_rfl) trivial ?_
    refine GoO.regionEnd ?_
    exact GoO.ret' (h := c39_12e) (hs := []) (ps := []) (hk := [0]) (bk := [0]) Try.func39 (⟨A_12, c_13⟩ : Option Addr × Nat) (by kernel_rfl) trivial (by kernel_rfl) (by kernel_rfl)

/-! (*tontine/pack.Writer).Text -/
noncomputable def c40_0 : Code := bodyOf Try.f40
noncomputable def c40_1 : Code := cdL c40_0
noncomputable def c40_2 : Code := cdR c40_0
noncomputable def c40_3 : Code := cdL c40_2
noncomputable def c40_4 : Code := cdL c40_3
noncomputable def c40_5 : Code := cdR c40_3
noncomputable def c40_9 : Code := cdR c40_5
noncomputable def c40_10 : Code := cdR c40_2
noncomputable def c40_11 : Code := cdL c40_10
noncomputable def c40_12 : Code := cdR c40_10
noncomputable def c40_13 : Code := cdL c40_12
noncomputable def c40_14 : Code := cdR c40_12
noncomputable def c40_15 : Code := cdL c40_14
noncomputable def c40_16 : Code := cdR c40_14
noncomputable def c40_6 : Code := cdL c40_5
noncomputable def r40_1 : Array Oper := cdO c40_1
noncomputable def r40_4 : Array Oper := cdO c40_4
noncomputable def r40_11 : Array Oper := cdO c40_11
noncomputable def r40_13 : Array Oper := cdO c40_13
noncomputable def r40_15 : Array Oper := cdO c40_15
theorem c40_0e : c40_0 = .seq c40_1 c40_2 := by kernel_rfl
theorem c40_1e : c40_1 = .region 0 r40_1 false := by kernel_rfl
theorem c40_2e : c40_2 = .seq c40_3 c40_10 := by kernel_rfl
theorem c40_3e : c40_3 = .seq c40_4 c40_5 := by kernel_rfl
theorem c40_4e : c40_4 = .region 1 r40_4 false := by kernel_rfl
theorem c40_5e : c40_5 = .cond (cdC c40_5) c40_6 c40_9 := by kernel_rfl
theorem c40_9e : c40_9 = .skip := by kernel_rfl
theorem c40_10e : c40_10 = .seq c40_11 c40_12 := by kernel_rfl
theorem c40_11e : c40_11 = .region 3 r40_11 false := by kernel_rfl
theorem c40_12e : c40_12 = .seq c40_13 c40_14 := by kernel_rfl
theorem c40_13e : c40_13 = .region 4 r40_13 false := by kernel_rfl
theorem c40_14e : c40_14 = .seq c40_15 c40_16 := by kernel_rfl
theorem c40_15e : c40_15 = .region 5 r40_15 false := by kernel_rfl
theorem c40_16e : c40_16 = .ret := by kernel_rfl
noncomputable def pack_Writer_Text.R (b_2 : Nat) (A_3 : Option Addr) (c_4 : Nat) : Pst T_pack_Writer where
  ε := Option Addr × Nat
  v := fun r x => .pointer (some ⟨b_2, 0, none⟩)
  H := fun r x => [⟨1, b_2, [.slice x.1 r.b.length x.2]⟩]
  B := fun r x => [Ow 2 Kd.u8 x.1 x.2 r.b]
noncomputable def pack_Writer_Text.cx (b_2 : Nat) (A_3 : Option Addr) (c_4 : Nat) (w0 : World) (S0 : Fam) : Cx T_pack_Writer := ⟨Try.prog, 40, Try.f40, 22, w0, S0, [1, 2], 2, pack_Writer_Text.R b_2 A_3 c_4⟩
theorem pack_Writer_Text_ok (n : Nat) (w_1 : T_pack_Writer) (s_5 : (List UInt8)) (b_2 : Nat) (A_3 : Option Addr) (c_4 : Nat) :
    Meets Try.prog 40 [.pointer (some ⟨b_2, 0, none⟩), .string (bs s_5)] 2 [1, 2] [⟨1, b_2, [.slice A_3 w_1.b.length c_4]⟩] [Ow 2 Kd.u8 A_3 c_4 w_1.b] (pack_Writer_Text.f n w_1 s_5) (pack_Writer_Text.R b_2 A_3 c_4) := by
  refine Meets.of (c := c40_0) (n := 22) Try.func40 (by kernel_rfl) (by kernel_rfl) (by kernel_rfl) fun w0 S0 => ?_
  unfold pack_Writer_Text.f
  show GoO (pack_Writer_Text.cx b_2 A_3 c_4 w0 S0) [(0, .pointer (some ⟨b_2, 0, none⟩)), (1, .string (bs s_5))] [⟨1, b_2, [.slice A_3 w_1.b.length c_4]⟩] [Ow 2 Kd.u8 A_3 c_4 w_1.b] [.code c40_0] _
  refine GoO.seq' c40_0e ?_
  refine GoO.region' (is := [0]) c40_1e (by kernel_rfl) ?_
  refine GoO.exec (is := [0]) (hs := [.p]) (rest := []) (ks := [0, 1]) (env' := [(0, .pointer (some ⟨b_2, 0, none⟩)), (1, .string (bs s_5))]) (H' := [⟨1, b_2, [.slice A_3 w_1.b.length c_4]⟩]) (ps := []) (by kernel_rfl) trivial ?_
  refine GoO.regionEnd ?_
  refine GoO.seq' c40_2e ?_
  refine GoO.seq' c40_3e ?_
  refine GoO.region' (is := [0, 1]) c40_4e (by kernel_rfl) ?_
  refine GoO.exec (is := [0, 1]) (hs := [.p, .p]) (rest := []) (ks := [0, 1, 6]) (env' := [(0, .pointer (some ⟨b_2, 0, none⟩)), (1, .string (bs s_5)), (6, .bool false)]) (H' := [⟨1, b_2, [.slice A_3 w_1.b.length c_4]⟩]) (ps := []) (by kernel_rfl) trivial ?_
  refine GoO.regionEnd ?_
  refine GoO.condF c40_5e (by kernel_rfl) ?_
  refine GoO.skip' c40_9e ?_
  refine GoO.seq' c40_10e ?_
  refine GoO.region' (is := [0, 1, 2, 3, 4]) c40_11e (by kernel_rfl) ?_
  refine GoO.exec (is := [0, 1, 2, 3]) (hs := [.p, .p, .p, .p]) (rest := [4]) (ks := [0, 1, 7, 10]) (env' := [(0, .pointer (some ⟨b_2, 0, none⟩)), (1, .string (bs s_5)), (7, .pointer (some ⟨b_2, 0, none⟩)), (10, .int .u64 (wu64 (s_5.length : Int)))]) (H' := [⟨1, b_2, [.slice A_3 w_1.b.length c_4]⟩]) (ps := []) (by kernel_rfl) trivial ?_
  refine OpTo.go (GoO.call rfl (by kernel_rfl) (by kernel_rfl) (pack_Writer_Num_ok n w_1 (wu64 (s_5.length : Int)) b_2 A_3 c_4) [[0], [1], [2]] [(1, 1), (2, 2)] [(1, 0)] [(2, 0)] (hks := []) (bks := []) (by kernel_rfl) (by kernel_rfl) (by kernel_rfl) (.inl rfl) rfl rfl (by kernel_rfl) (by kernel_rfl) _ (fun _ _ => rfl) _ _ (fun _ _ => rfl) (fun _ _ => rfl) (fun _ _ => by kernel_rfl) (fun _ _ => by kernel_rfl) (fun r_6 x_12 => ?_))
  obtain ⟨A_7, c_8⟩ := x_12
  refine GoO.shape (env' := [(0, .pointer (some ⟨b_2, 0, none⟩)), (1, .string (bs s_5)), (7, .pointer (some ⟨b_2, 0, none⟩)), (10, .int .u64 (wu64 (s_5.length : Int))), (11, .pointer (some ⟨b_2, 0, none⟩))]) (H' := [⟨1, b_2, [.slice A_7 r_6.b.length c_8]⟩]) (B' := [Ow 2 Kd.u8 A_7 c_8 r_6.b]) (ks := [0, 1, 7, 10, 11]) (by kernel_rfl) (by kernel_rfl) (by kernel_rfl) ?_
  refine GoO.regionEnd ?_
  refine GoO.seq' c40_12e ?_
  refine GoO.region' (is := [0, 1, 2, 3, 4, 5, 6, 7, 8, 9]) c40_13e (by kernel_rfl) ?_
  refine GoO.exec (is := [0, 1, 2, 3, 4, 5]) (hs := [.p, .p, .p, .p, .b 0, .p]) (rest := [6, 7, 8, 9]) (ks := [0, 12, 16, 17]) (env' := [(0, .pointer (some ⟨b_2, 0, none⟩)), (12, .pointer (some ⟨b_2, 0, none⟩)), (16, .slice A_7 r_6.b.length c_8), (17, .string (bs s_5))]) (H' := [⟨1, b_2, [.slice A_7 r_6.b.length c_8]⟩]) (ps := [b_2 = b_2]) (by kernel_rfl) (And.intro rfl trivial) ?_
  refine GoO.guard (fun h9 => ?_)
  refine OpTo.go (GoO.appW (e := 5) (K := Kd.u8) (A := A_7) (c := c_8) (tg := 2) (bytes := 1) (zs := [.int .u8 0]) (xs := r_6.b) (ys := s_5) (xv := .string (bs s_5)) (j := 0) (bk := []) rfl (by kernel_rfl) (by kernel_rfl) (by kernel_rfl) (by kernel_rfl) rfl (by kernel_rfl) rfl (fun _ _ _ => SrcIs.str _) h9 rfl rfl rfl rfl _ (fun _ _ => rfl) (fun A_10 c_11 => ?_))
  refine GoO.exec (is := [7, 8, 9]) (hs := [.p, .p, .b 0]) (rest := []) (ks := [0]) (env' := [(0, .pointer (some ⟨b_2, 0, none⟩))]) (H' := [⟨1, b_2, [.slice A_10 (r_6.b ++ s_5).length c_11]⟩]) (ps := [b_2 = b_2]) (by kernel_rfl) (And.intro rfl trivial) ?_
  refine GoO.regionEnd ?_
  refine GoO.seq' c40_14e ?_
  refine GoO.region' (is := [0, 1]) c40_15e (by kernel_rfl) ?_
  refine GoO.exec (is := [0, 1]) (hs := [.p, .p]) (rest := []) (ks := [4]) (env' := [(4, .pointer (some ⟨b_2, 0, none⟩))]) (H' := [⟨1, b_2, [.slice A_10 (r_6.b ++ s_5).length c_11]⟩]) (ps := []) (by kernel_rfl) trivial ?_
  refine GoO.regionEnd ?_
  exact GoO.ret' (h := c40_16e) (hs := []) (ps := []) (hk := [0]) (bk := [0]) Try.func40 (⟨A_10, c_11⟩ : Option Addr × Nat) (by kernel_rfl) trivial (by kernel_rfl) (by kernel_rfl)

/-! (*tontine/pack.Writer).Bytes -/
noncomputable def c29_0 : Code := bodyOf Try.f29
noncomputable def c29_1 : Code := cdL c29_0
noncomputable def c29_2 : Code := cdR c29_0
noncomputable def c29_3 : Code := cdL c29_2
noncomputable def c29_4 : Code := cdL c29_3
noncomputable def c29_5 : Code := cdR c29_3
noncomputable def c29_9 : Code := cdR c29_5
noncomputable def c29_10 : Code := cdR c29_2
noncomputable def c29_11 : Code := cdL c29_10
noncomputable def c29_12 : Code := cdR c29_10
noncomputable def c29_6 : Code := cdL c29_5
noncomputable def r29_1 : Array Oper := cdO c29_1
noncomputable def r29_4 : Array Oper := cdO c29_4
noncomputable def r29_11 : Array Oper := cdO c29_11
theorem c29_0e : c29_0 = .seq c29_1 c29_2 := by kernel_rfl
theorem c29_1e : c29_1 = .region 0 r29_1 false := by kernel_rfl
theorem c29_2e : c29_2 = .seq c29_3 c29_10 := by kernel_rfl
theorem c29_3e : c29_3 = .seq c29_4 c29_5 := by kernel_rfl
theorem c29_4e : c29_4 = .region 1 r29_4 false := by kernel_rfl
theorem c29_5e : c29_5 = .cond (cdC c29_5) c29_6 c29_9 := by kernel_rfl
theorem c29_9e : c29_9 = .skip := by kernel_rfl
theorem c29_10e : c29_10 = .seq c29_11 c29_12 := by kernel_rfl
theorem c29_11e : c29_11 = .region 3 r29_11 false := by kernel_rfl
theorem c29_12e : c29_12 = .ret := by kernel_rfl
noncomputable def pack_Writer_Bytes.R (b_2 : Nat) (A_3 : Option Addr) (c_4 : Nat) : Pst (List UInt8) where
  ε := Unit
  v := fun r x => .string (bs r)
  H := fun r x => []
  B := fun r x => []
noncomputable def pack_Writer_Bytes.cx (b_2 : Nat) (A_3 : Option Addr) (c_4 : Nat) (w0 : World) (S0 : Fam) : Cx (List UInt8) := ⟨Try.prog, 29, Try.f29, 10, w0, S0, [], 2, pack_Writer_Bytes.R b_2 A_3 c_4⟩
theorem pack_Writer_Bytes_ok (n : Nat) (w_1 : T_pack_Writer) (b_2 : Nat) (A_3 : Option Addr) (c_4 : Nat) :
    Meets Try.prog 29 [.pointer (some ⟨b_2, 0, none⟩)] 2 [] [⟨1, b_2, [.slice A_3 w_1.b.length c_4]⟩] [Ow 2 Kd.u8 A_3 c_4 w_1.b] (pack_Writer_Bytes.f n w_1) (pack_Writer_Bytes.R b_2 A_3 c_4) := by
  refine Meets.of (c := c29_0) (n := 10) Try.func29 (by kernel_rfl) (by kernel_rfl) (by kernel_rfl) fun w0 S0 => ?_
  unfold pack_Writer_Bytes.f
  show GoO (pack_Writer_Bytes.cx b_2 A_3 c_4 w0 S0) [(0, .pointer (some ⟨b_2, 0, none⟩))] [⟨1, b_2, [.slice A_3 w_1.b.length c_4]⟩] [Ow 2 Kd.u8 A_3 c_4 w_1.b] [.code c29_0] _
  refine GoO.seq' c29_0e ?_
  refine GoO.region' (is := [0]) c29_1e (by kernel_rfl) ?_
  refine GoO.exec (is := [0]) (hs := [.p]) (rest := []) (ks := [0]) (env' := [(0, .pointer (some ⟨b_2, 0, none⟩))]) (H' := [⟨1, b_2, [.slice A_3 w_1.b.length c_4]⟩]) (ps := []) (by kernel_rfl) trivial ?_
  refine GoO.regionEnd ?_
  refine GoO.seq' c29_2e ?_
  refine GoO.seq' c29_3e ?_
  refine GoO.region' (is := [0, 1]) c29_4e (by kernel_rfl) ?_
  refine GoO.exec (is := [0, 1]) (hs := [.p, .p]) (rest := []) (ks := [0, 4]) (env' := [(0, .pointer (some ⟨b_2, 0, none⟩)), (4, .bool false)]) (H' := [⟨1, b_2, [.slice A_3 w_1.b.length c_4]⟩]) (ps := []) (by kernel_rfl) trivial ?_
  refine GoO.regionEnd ?_
  refine GoO.condF c29_5e (by kernel_rfl) ?_
  refine GoO.skip' c29_9e ?_
  refine GoO.seq' c29_10e ?_
  refine GoO.region' (is := [0, 1, 2, 3, 4, 5]) c29_11e (by kernel_rfl) ?_
  refine GoO.exec (is := [0, 1, 2, 3]) (hs := [.p, .p, .p, .b 0]) (rest := [4, 5]) (ks := [8]) (env' := [(8, .slice A_3 w_1.b.length c_4)]) (H' := [⟨1, b_2, [.slice A_3 w_1.b.length c_4]⟩]) (ps := [b_2 = b_2]) (by kernel_rfl) (And.intro rfl trivial) ?_
  refine OpTo.go (GoO.toStr (e := 5) (A := A_3) (c := c_4) (xs := w_1.b) (j := 0) rfl (by kernel_rfl) (by kernel_rfl) (by kernel_rfl) (by kernel_rfl) rfl Reads.own rfl rfl ?_)
  refine GoO.exec (is := [5]) (hs := [.p]) (rest := []) (ks := [2]) (env' := [(2, .string (bs w_1.b))]) (H' := [⟨1, b_2, [.slice A_3 w_1.b.length c_4]⟩]) (ps := []) (by kernel_rfl) trivial ?_
  refine GoO.regionEnd ?_
  exact GoO.ret' (h := c29_12e) (hs := []) (ps := []) (hk := []) (bk := []) Try.func29 () (by kernel_rfl) trivial (by kernel_rfl) (by kernel_rfl)

/-! tontine/letter.Encode -/
noncomputable def c21_0 : Code := bodyOf Try.f21
noncomputable def c21_1 : Code := cdL c21_0
noncomputable def c21_2 : Code := cdR c21_0
noncomputable def c21_3 : Code := cdL c21_2
noncomputable def c21_4 : Code := cdL c21_3
noncomputable def c21_5 : Code := cdR c21_3
noncomputable def c21_6 : Code := cdL c21_5
noncomputable def c21_7 : Code := cdL c21_6
noncomputable def c21_8 : Code := cdR c21_6
noncomputable def c21_9 : Code := cdR c21_5
noncomputable def c21_10 : Code := cdR c21_2
noncomputable def c21_11 : Code := cdL c21_10
noncomputable def c21_12 : Code := cdR c21_10
noncomputable def c21_13 : Code := cdL c21_12
noncomputable def c21_14 : Code := cdL c21_13
noncomputable def c21_15 : Code := cdR c21_13
noncomputable def c21_16 : Code := cdL c21_15
noncomputable def c21_17 : Code := cdL c21_16
noncomputable def c21_18 : Code := cdL c21_17
noncomputable def c21_19 : Code := cdR c21_17
noncomputable def c21_20 : Code := cdL c21_19
noncomputable def c21_21 : Code := cdL c21_20
noncomputable def c21_22 : Code := cdR c21_20
noncomputable def c21_23 : Code := cdR c21_19
noncomputable def c21_24 : Code := cdL c21_23
noncomputable def c21_25 : Code := cdL c21_24
noncomputable def c21_26 : Code := cdL c21_25
noncomputable def c21_27 : Code := cdR c21_25
noncomputable def c21_28 : Code := cdR c21_23
noncomputable def c21_29 : Code := cdR c21_12
noncomputable def c21_30 : Code := cdL c21_29
noncomputable def c21_31 : Code := cdR c21_29
noncomputable def r21_1 : Array Oper := cdO c21_1
noncomputable def r21_4 : Array Oper := cdO c21_4
noncomputable def r21_7 : Array Oper := cdO c21_7
noncomputable def r21_11 : Array Oper := cdO c21_11
noncomputable def r21_14 : Array Oper := cdO c21_14
noncomputable def r21_18 : Array Oper := cdO c21_18
noncomputable def r21_26 : Array Oper := cdO c21_26
noncomputable def r21_27 : Array Oper := cdO c21_27
noncomputable def r21_28 : Array Oper := cdO c21_28
noncomputable def r21_30 : Array Oper := cdO c21_30
theorem c21_0e : c21_0 = .seq c21_1 c21_2 := by kernel_rfl
theorem c21_1e : c21_1 = .region 0 r21_1 false := by kernel_rfl
theorem c21_2e : c21_2 = .seq c21_3 c21_10 := by kernel_rfl
theorem c21_3e : c21_3 = .seq c21_4 c21_5 := by kernel_rfl
theorem c21_4e : c21_4 = .region 1 r21_4 false := by kernel_rfl
theorem c21_5e : c21_5 = .cond (cdC c21_5) c21_6 c21_9 := by kernel_rfl
theorem c21_6e : c21_6 = .seq c21_7 c21_8 := by kernel_rfl
theorem c21_7e : c21_7 = .region 2 r21_7 false := by kernel_rfl
theorem c21_8e : c21_8 = .ret := by kernel_rfl
theorem c21_9e : c21_9 = .skip := by kernel_rfl
theorem c21_10e : c21_10 = .seq c21_11 c21_12 := by kernel_rfl
theorem c21_11e : c21_11 = .region 3 r21_11 true := by kernel_rfl
theorem c21_12e : c21_12 = .seq c21_13 c21_29 := by kernel_rfl
theorem c21_13e : c21_13 = .seq c21_14 c21_15 := by kernel_rfl
theorem c21_14e : c21_14 = .region 4 r21_14 false := by kernel_rfl
theorem c21_15e : c21_15 = .block 0 c21_16 := by kernel_rfl
theorem c21_16e : c21_16 = .loop c21_17 := by kernel_rfl
theorem c21_17e : c21_17 = .seq c21_18 c21_19 := by kernel_rfl
theorem c21_18e : c21_18 = .region 5 r21_18 false := by kernel_rfl
theorem c21_19e : c21_19 = .seq c21_20 c21_23 := by kernel_rfl
theorem c21_20e : c21_20 = .cond (cdC c21_20) c21_21 c21_22 := by kernel_rfl
theorem c21_21e : c21_21 = .skip := by kernel_rfl
theorem c21_22e : c21_22 = .exit 0 := by kernel_rfl
theorem c21_23e : c21_23 = .seq c21_24 c21_28 := by kernel_rfl
theorem c21_24e : c21_24 = .block 1 c21_25 := by kernel_rfl
theorem c21_25e : c21_25 = .seq c21_26 c21_27 := by kernel_rfl
theorem c21_26e : c21_26 = .region 6 r21_26 false := by kernel_rfl
theorem c21_27e : c21_27 = .region 7 r21_27 true := by kernel_rfl
theorem c21_28e : c21_28 = .region 8 r21_28 false := by kernel_rfl
theorem c21_29e : c21_29 = .seq c21_30 c21_31 := by kernel_rfl
theorem c21_30e : c21_30 = .region 9 r21_30 false := by kernel_rfl
theorem c21_31e : c21_31 = .ret := by kernel_rfl
noncomputable def letter_Encode.R (A_2 : Option Addr) (c_3 : Nat) : Pst ((List UInt8) × Int) where
  ε := Unit
  v := fun r x => .tuple ⟨[.string (bs r.1), .int .i64 r.2]⟩
  H := fun r x => []
  B := fun r x => []
noncomputable def letter_Encode.cx (A_2 : Option Addr) (c_3 : Nat) (w0 : World) (S0 : Fam) : Cx ((List UInt8) × Int) := ⟨Try.prog, 21, Try.f21, 70, w0, S0, [], 0, letter_Encode.R A_2 c_3⟩
theorem letter_Encode_l0_ok (n : Nat) (x_1 : T_api_Letter) (A_2 : Option Addr) (c_3 : Nat) (b_4 : Nat) (b_7 : Nat) (w0 : World) (S0 : Fam) :
    ∀ (k : Nat) (f_35 : (List UInt8)) (x_38 : Int) (A_36 : Option Addr) (c_37 : Nat), GoO (letter_Encode.cx A_2 c_3 w0 S0) [(1, .pointer (some ⟨b_4, 0, none⟩)), (4, .pointer (some ⟨b_7, 0, none⟩)), (44, .slice A_2 x_1.Entries.length c_3), (45, .int .i64 (x_1.Entries.length : Int)), (46, .int .i64 x_38)] [⟨40, b_4, [.int .i64 x_1.Kind, .int .i64 x_1.From, .int .i64 x_1.To, .int .u64 x_1.Term, .int .u64 x_1.Index, .int .u64 x_1.Prev, .int .u64 x_1.Commit, .bool x_1.Ok, .slice A_2 x_1.Entries.length c_3, .string (bs x_1.Data)]⟩, ⟨41, b_7, [.slice A_36 f_35.length c_37]⟩] [Rd 0 kT_api_Entry A_2 c_3 x_1.Entries, Ow 42 Kd.u8 A_36 c_37 f_35] [.code c21_17, .inLoop c21_17, .inBlock 0, .code c21_29] (letter_Encode.l0 n x_1 k f_35 x_38) := by
  intro k
  induction k with
  | zero => intros; rw [letter_Encode.l0.eq_1]; exact GoO.stop
  | succ k ih0 =>
    intro f_35 x_38 A_36 c_37
    rw [letter_Encode.l0.eq_2]
    refine GoO.seq' c21_17e ?_
    refine GoO.region' (is := [0]) c21_18e (by kernel_rfl) ?_
    refine GoO.exec (is := [0]) (hs := [.p]) (rest := []) (ks := [1, 4, 44, 45, 46, 47]) (env' := [(1, .pointer (some ⟨b_4, 0, none⟩)), (4, .pointer (some ⟨b_7, 0, none⟩)), (44, .slice A_2 x_1.Entries.length c_3), (45, .int .i64 (x_1.Entries.length : Int)), (46, .int .i64 x_38), (47, .bool (decide (x_38 < (x_1.Entries.length : Int))))]) (H' := [⟨40, b_4, [.int .i64 x_1.Kind, .int .i64 x_1.From, .int .i64 x_1.To, .int .u64 x_1.Term, .int .u64 x_1.Index, .int .u64 x_1.Prev, .int .u64 x_1.Commit, .bool x_1.Ok, .slice A_2 x_1.Entries.length c_3, .string (bs x_1.Data)]⟩, ⟨41, b_7, [.slice A_36 f_35.length c_37]⟩]) (ps := []) (by kernel_rfl) trivial ?_
    refine GoO.regionEnd ?_
    refine GoO.seq' c21_19e ?_
    refine GoO.ite' c21_20e (by kernel_rfl) (fun h39 => ?_) (fun h39 => ?_)
    · refine GoO.skip' c21_21e ?_
      refine GoO.seq' c21_23e ?_
      refine GoO.block' c21_24e ?_
      refine GoO.seq' c21_25e ?_
      refine GoO.region' (is := [0, 1, 2, 3]) c21_26e (by kernel_rfl) ?_
      refine GoO.guard (fun h40 => ?_)
      refine OpTo.go (GoO.idx (kk := .i64) (e := 93) (K := kT_api_Entry) (A := A_2) (c := c_3) (xs := x_1.Entries) (iv := x_38) (j := 0) rfl (by kernel_rfl) (by kernel_rfl) (by kernel_rfl) (by kernel_rfl) rfl Reads.rd rfl h40.1 h40.2 (by decide) rfl ?_)
      refine OpTo.go (GoO.ldE' (K := kT_api_Entry) (A := A_2) (c := c_3) (xs := x_1.Entries) (iN := x_38.toNat) (off := 0) (j := 0) rfl (by kernel_rfl) rfl Reads.rd (by first | exact idx_lt h40.1 h40.2 | (simp only [List.length_set]; exact idx_lt h40.1 h40.2)) (by decide) (Opn.flat _ _ _ _ _) (v := fun _ => .agg ⟨[.int .u64 ((rdL x_1.Entries x_38).Term), .int .u64 ((rdL x_1.Entries x_38).Index), .int .i64 ((rdL x_1.Entries x_38).Kind), .string (bs ((rdL x_1.Entries x_38).Data))]⟩) (fun _ => by kernel_rfl) _ (fun _ => rfl) (fun _ => ?_))
      refine OpTo.go (GoO.new rfl 43 (cs := [.int .u64 0, .int .u64 0, .int .i64 0, .string (bs [])]) (by kernel_rfl) _ (fun _ => rfl) (fun b_41 => ?_))
      refine GoO.exec (is := [3]) (hs := [.b 0]) (rest := []) (ks := [1, 4, 6, 44, 45, 46]) (env' := [(1, .pointer (some ⟨b_4, 0, none⟩)), (4, .pointer (some ⟨b_7, 0, none⟩)), (6, .pointer (some ⟨b_41, 0, none⟩)), (44, .slice A_2 x_1.Entries.length c_3), (45, .int .i64 (x_1.Entries.length : Int)), (46, .int .i64 x_38)]) (H' := [⟨43, b_41, [.int .u64 ((rdL x_1.Entries x_38).Term), .int .u64 ((rdL x_1.Entries x_38).Index), .int .i64 ((rdL x_1.Entries x_38).Kind), .string (bs ((rdL x_1.Entries x_38).Data))]⟩, ⟨40, b_4, [.int .i64 x_1.Kind, .int .i64 x_1.From, .int .i64 x_1.To, .int .u64 x_1.Term, .int .u64 x_1.Index, .int .u64 x_1.Prev, .int .u64 x_1.Commit, .bool x_1.Ok, .slice A_2 x_1.Entries.length c_3, .string (bs x_1.Data)]⟩, ⟨41, b_7, [.slice A_36 f_35.length c_37]⟩]) (ps := [b_41 = b_41]) (by kernel_rfl) (And.intro rfl trivial) ?_
      refine GoO.regionEnd ?_
      refine GoO.draw c21_27e (by kernel_rfl) [] [⟨43, b_41, [.int .u64 ((rdL x_1.Entries x_38).Term), .int .u64 ((rdL x_1.Entries x_38).Index), .int .i64 ((rdL x_1.Entries x_38).Kind), .string (bs ((rdL x_1.Entries x_38).Data))]⟩] [] (n := 14) (by kernel_rfl) ?_
      simp only [List.replicate]
      refine GoF.take [0, 1, 2, 4, 5, 7, 8, 9, 11, 12] [.p, .p, .b 0, .p, .b 0, .p, .b 0, .p, .p, .b 0] (ks := [1, 4, 44, 45, 46, 50, 52, 55, 59, 62]) (fu := 4) (li := [true, true, true, false, true, true, false, true, true, true, false, true, true, false]) (env' := [(1, .pointer (some ⟨b_4, 0, none⟩)), (4, .pointer (some ⟨b_7, 0, none⟩)), (44, .slice A_2 x_1.Entries.length c_3), (45, .int .i64 (x_1.Entries.length : Int)), (46, .int .i64 x_38), (50, .pointer (some ⟨b_7, 0, none⟩)), (52, .int .u64 ((rdL x_1.Entries x_38).Term)), (55, .int .u64 ((rdL x_1.Entries x_38).Index)), (59, .int .u64 (wu64 ((rdL x_1.Entries x_38).Kind))), (62, .string (bs ((rdL x_1.Entries x_38).Data)))]) (ps := [b_41 = b_41, b_41 = b_41, b_41 = b_41, b_41 = b_41]) (hk := [0]) (bk := []) (by kernel_rfl) (And.intro rfl (And.intro rfl (And.intro rfl (And.intro rfl trivial)))) rfl rfl ?_
      refine OpTo.goF (i := 3) (by kernel_rfl) (hk := [1]) (bk := []) (GoO.call rfl (by kernel_rfl) (by kernel_rfl) (pack_Writer_Num_ok n (⟨f_35⟩ : T_pack_Writer) ((rdL x_1.Entries x_38).Term) b_7 A_36 c_37) [[0], [41], [42]] [(41, 1), (42, 2)] [(1, 2)] [(2, 1)] (hks := [0, 1]) (bks := [0]) (by kernel_rfl) (by kernel_rfl) (by kernel_rfl) (.inl rfl) rfl rfl (by kernel_rfl) (by kernel_rfl) _ (fun _ _ => rfl) _ _ (fun _ _ => rfl) (fun _ _ => rfl) (fun _ _ => by kernel_rfl) (fun _ _ => by kernel_rfl) (fun r_42 x_57 => ⟨rfl, rfl, ?_⟩))
      obtain ⟨A_43, c_44⟩ := x_57
      refine GoF.shape (env' := [(1, .pointer (some ⟨b_4, 0, none⟩)), (4, .pointer (some ⟨b_7, 0, none⟩)), (44, .slice A_2 x_1.Entries.length c_3), (45, .int .i64 (x_1.Entries.length : Int)), (46, .int .i64 x_38), (50, .pointer (some ⟨b_7, 0, none⟩)), (52, .int .u64 ((rdL x_1.Entries x_38).Term)), (53, .pointer (some ⟨b_7, 0, none⟩)), (55, .int .u64 ((rdL x_1.Entries x_38).Index)), (59, .int .u64 (wu64 ((rdL x_1.Entries x_38).Kind))), (62, .string (bs ((rdL x_1.Entries x_38).Data)))]) (H' := [⟨41, b_7, [.slice A_43 r_42.b.length c_44]⟩, ⟨43, b_41, [.int .u64 ((rdL x_1.Entries x_38).Term), .int .u64 ((rdL x_1.Entries x_38).Index), .int .i64 ((rdL x_1.Entries x_38).Kind), .string (bs ((rdL x_1.Entries x_38).Data))]⟩, ⟨40, b_4, [.int .i64 x_1.Kind, .int .i64 x_1.From, .int .i64 x_1.To, .int .u64 x_1.Term, .int .u64 x_1.Index, .int .u64 x_1.Prev, .int .u64 x_1.Commit, .bool x_1.Ok, .slice A_2 x_1.Entries.length c_3, .string (bs x_1.Data)]⟩]) (B' := [Ow 42 Kd.u8 A_43 c_44 r_42.b, Rd 0 kT_api_Entry A_2 c_3 x_1.Entries]) (ks := [1, 4, 44, 45, 46, 50, 52, 53, 55, 59, 62]) (by kernel_rfl) (by kernel_rfl) (by kernel_rfl) ?_
      refine OpTo.goF (i := 6) (by kernel_rfl) (hk := [1]) (bk := []) (GoO.call rfl (by kernel_rfl) (by kernel_rfl) (pack_Writer_Num_ok n r_42 ((rdL x_1.Entries x_38).Index) b_7 A_43 c_44) [[0], [41], [42]] [(41, 1), (42, 2)] [(1, 0)] [(2, 0)] (hks := [1, 2]) (bks := [1]) (by kernel_rfl) (by kernel_rfl) (by kernel_rfl) (.inl rfl) rfl rfl (by kernel_rfl) (by kernel_rfl) _ (fun _ _ => rfl) _ _ (fun _ _ => rfl) (fun _ _ => rfl) (fun _ _ => by kernel_rfl) (fun _ _ => by kernel_rfl) (fun r_45 x_56 => ⟨rfl, rfl, ?_⟩))
      obtain ⟨A_46, c_47⟩ := x_56
      refine GoF.shape (env' := [(1, .pointer (some ⟨b_4, 0, none⟩)), (4, .pointer (some ⟨b_7, 0, none⟩)), (44, .slice A_2 x_1.Entries.length c_3), (45, .int .i64 (x_1.Entries.length : Int)), (46, .int .i64 x_38), (50, .pointer (some ⟨b_7, 0, none⟩)), (52, .int .u64 ((rdL x_1.Entries x_38).Term)), (53, .pointer (some ⟨b_7, 0, none⟩)), (55, .int .u64 ((rdL x_1.Entries x_38).Index)), (56, .pointer (some ⟨b_7, 0, none⟩)), (59, .int .u64 (wu64 ((rdL x_1.Entries x_38).Kind))), (62, .string (bs ((rdL x_1.Entries x_38).Data)))]) (H' := [⟨41, b_7, [.slice A_46 r_45.b.length c_47]⟩, ⟨43, b_41, [.int .u64 ((rdL x_1.Entries x_38).Term), .int .u64 ((rdL x_1.Entries x_38).Index), .int .i64 ((rdL x_1.Entries x_38).Kind), .string (bs ((rdL x_1.Entries x_38).Data))]⟩, ⟨40, b_4, [.int .i64 x_1.Kind, .int .i64 x_1.From, .int .i64 x_1.To, .int .u64 x_1.Term, .int .u64 x_1.Index, .int .u64 x_1.Prev, .int .u64 x_1.Commit, .bool x_1.Ok, .slice A_2 x_1.Entries.length c_3, .string (bs x_1.Data)]⟩]) (B' := [Ow 42 Kd.u8 A_46 c_47 r_45.b, Rd 0 kT_api_Entry A_2 c_3 x_1.Entries]) (ks := [1, 4, 44, 45, 46, 50, 52, 53, 55, 56, 59, 62]) (by kernel_rfl) (by kernel_rfl) (by kernel_rfl) ?_
      refine OpTo.goF (i := 10) (by kernel_rfl) (hk := [1]) (bk := []) (GoO.call rfl (by kernel_rfl) (by kernel_rfl) (pack_Writer_Num_ok n r_45 (wu64 ((rdL x_1.Entries x_38).Kind)) b_7 A_46 c_47) [[0], [41], [42]] [(41, 1), (42, 2)] [(1, 0)] [(2, 0)] (hks := [1, 2]) (bks := [1]) (by kernel_rfl) (by kernel_rfl) (by kernel_rfl) (.inl rfl) rfl rfl (by kernel_rfl) (by kernel_rfl) _ (fun _ _ => rfl) _ _ (fun _ _ => rfl) (fun _ _ => rfl) (fun _ _ => by kernel_rfl) (fun _ _ => by kernel_rfl) (fun r_48 x_55 => ⟨rfl, rfl, ?_⟩))
      obtain ⟨A_49, c_50⟩ := x_55
      refine GoF.shape (env' := [(1, .pointer (some ⟨b_4, 0, none⟩)), (4, .pointer (some ⟨b_7, 0, none⟩)), (44, .slice A_2 x_1.Entries.length c_3), (45, .int .i64 (x_1.Entries.length : Int)), (46, .int .i64 x_38), (50, .pointer (some ⟨b_7, 0, none⟩)), (52, .int .u64 ((rdL x_1.Entries x_38).Term)), (53, .pointer (some ⟨b_7, 0, none⟩)), (55, .int .u64 ((rdL x_1.Entries x_38).Index)), (56, .pointer (some ⟨b_7, 0, none⟩)), (59, .int .u64 (wu64 ((rdL x_1.Entries x_38).Kind))), (60, .pointer (some ⟨b_7, 0, none⟩)), (62, .string (bs ((rdL x_1.Entries x_38).Data)))]) (H' := [⟨41, b_7, [.slice A_49 r_48.b.length c_50]⟩, ⟨43, b_41, [.int .u64 ((rdL x_1.Entries x_38).Term), .int .u64 ((rdL x_1.Entries x_38).Index), .int .i64 ((rdL x_1.Entries x_38).Kind), .string (bs ((rdL x_1.Entries x_38).Data))]⟩, ⟨40, b_4, [.int .i64 x_1.Kind, .int .i64 x_1.From, .int .i64 x_1.To, .int .u64 x_1.Term, .int .u64 x_1.Index, .int .u64 x_1.Prev, .int .u64 x_1.Commit, .bool x_1.Ok, .slice A_2 x_1.Entries.length c_3, .string (bs x_1.Data)]⟩]) (B' := [Ow 42 Kd.u8 A_49 c_50 r_48.b, Rd 0 kT_api_Entry A_2 c_3 x_1.Entries]) (ks := [1, 4, 44, 45, 46, 50, 52, 53, 55, 56, 59, 60, 62]) (by kernel_rfl) (by kernel_rfl) (by kernel_rfl) ?_
      refine OpTo.goF (i := 13) (by kernel_rfl) (hk := [1]) (bk := []) (GoO.call rfl (by kernel_rfl) (by kernel_rfl) (pack_Writer_Text_ok n r_48 ((rdL x_1.Entries x_38).Data) b_7 A_49 c_50) [[0], [41], [42]] [(41, 1), (42, 2)] [(1, 0)] [(2, 0)] (hks := [1, 2]) (bks := [1]) (by kernel_rfl) (by kernel_rfl) (by kernel_rfl) (.inl rfl) rfl rfl (by kernel_rfl) (by kernel_rfl) _ (fun _ _ => rfl) _ _ (fun _ _ => rfl) (fun _ _ => rfl) (fun _ _ => by kernel_rfl) (fun _ _ => by kernel_rfl) (fun r_51 x_54 => ⟨rfl, rfl, ?_⟩))
      obtain ⟨A_52, c_53⟩ := x_54
      refine GoF.shape (env' := [(1, .pointer (some ⟨b_4, 0, none⟩)), (4, .pointer (some ⟨b_7, 0, none⟩)), (44, .slice A_2 x_1.Entries.length c_3), (45, .int .i64 (x_1.Entries.length : Int)), (46, .int .i64 x_38), (50, .pointer (some ⟨b_7, 0, none⟩)), (52, .int .u64 ((rdL x_1.Entries x_38).Term)), (53, .pointer (some ⟨b_7, 0, none⟩)), (55, .int .u64 ((rdL x_1.Entries x_38).Index)), (56, .pointer (some ⟨b_7, 0, none⟩)), (59, .int .u64 (wu64 ((rdL x_1.Entries x_38).Kind))), (60, .pointer (some ⟨b_7, 0, none⟩)), (62, .string (bs ((rdL x_1.Entries x_38).Data))), (63, .pointer (some ⟨b_7, 0, none⟩))]) (H' := [⟨41, b_7, [.slice A_52 r_51.b.length c_53]⟩, ⟨43, b_41, [.int .u64 ((rdL x_1.Entries x_38).Term), .int .u64 ((rdL x_1.Entries x_38).Index), .int .i64 ((rdL x_1.Entries x_38).Kind), .string (bs ((rdL x_1.Entries x_38).Data))]⟩, ⟨40, b_4, [.int .i64 x_1.Kind, .int .i64 x_1.From, .int .i64 x_1.To, .int .u64 x_1.Term, .int .u64 x_1.Index, .int .u64 x_1.Prev, .int .u64 x_1.Commit, .bool x_1.Ok, .slice A_2 x_1.Entries.length c_3, .string (bs x_1.Data)]⟩]) (B' := [Ow 42 Kd.u8 A_52 c_53 r_51.b, Rd 0 kT_api_Entry A_2 c_3 x_1.Entries]) (ks := [1, 4, 44, 45, 46, 50, 52, 53, 55, 56, 59, 60, 62, 63]) (by kernel_rfl) (by kernel_rfl) (by kernel_rfl) ?_
      refine GoF.done (by kernel_rfl) ?_
      refine GoO.inBlock ?_
      refine GoO.region' (is := [0, 1]) c21_28e (by kernel_rfl) ?_
      refine GoO.exec (is := [0, 1]) (hs := [.p, .p]) (rest := []) (ks := [1, 4, 44, 45, 46]) (env' := [(1, .pointer (some ⟨b_4, 0, none⟩)), (4, .pointer (some ⟨b_7, 0, none⟩)), (44, .slice A_2 x_1.Entries.length c_3), (45, .int .i64 (x_1.Entries.length : Int)), (46, .int .i64 (wi64 (x_38 + 1)))]) (H' := [⟨41, b_7, [.slice A_52 r_51.b.length c_53]⟩, ⟨43, b_41, [.int .u64 ((rdL x_1.Entries x_38).Term), .int .u64 ((rdL x_1.Entries x_38).Index), .int .i64 ((rdL x_1.Entries x_38).Kind), .string (bs ((rdL x_1.Entries x_38).Data))]⟩, ⟨40, b_4, [.int .i64 x_1.Kind, .int .i64 x_1.From, .int .i64 x_1.To, .int .u64 x_1.Term, .int .u64 x_1.Index, .int .u64 x_1.Prev, .int .u64 x_1.Commit, .bool x_1.Ok, .slice A_2 x_1.Entries.length c_3, .string (bs x_1.Data)]⟩]) (ps := []) (by kernel_rfl) trivial ?_
      refine GoO.regionEnd ?_
      refine GoO.inLoop ?_
      exact GoO.sub (ks := [1, 4, 44, 45, 46]) (hk := [2, 0]) (bk := [1, 0]) (by kernel_rfl) (by kernel_rfl) (by kernel_rfl) (ih0 r_51.b (wi64 (x_38 + 1)) A_52 c_53)
    · refine GoO.exit' c21_22e rfl ?_
      refine GoO.seq' c21_29e ?_
      refine GoO.region' (is := [0, 1, 2, 3, 4, 5, 6]) c21_30e (by kernel_rfl) ?_
      refine GoO.exec (is := [0, 1, 2]) (hs := [.p, .p, .b 0]) (rest := [3, 4, 5, 6]) (ks := [65, 67]) (env' := [(65, .pointer (some ⟨b_7, 0, none⟩)), (67, .string (bs x_1.Data))]) (H' := [⟨40, b_4, [.int .i64 x_1.Kind, .int .i64 x_1.From, .int .i64 x_1.To, .int .u64 x_1.Term, .int .u64 x_1.Index, .int .u64 x_1.Prev, .int .u64 x_1.Commit, .bool x_1.Ok, .slice A_2 x_1.Entries.length c_3, .string (bs x_1.Data)]⟩, ⟨41, b_7, [.slice A_36 f_35.length c_37]⟩]) (ps := [b_4 = b_4]) (by kernel_rfl) (And.intro rfl trivial) ?_
      refine OpTo.go (GoO.call rfl (by kernel_rfl) (by kernel_rfl) (pack_Writer_Text_ok n (⟨f_35⟩ : T_pack_Writer) x_1.Data b_7 A_36 c_37) [[0], [41], [42]] [(41, 1), (42, 2)] [(1, 1)] [(2, 1)] (hks := [0]) (bks := [0]) (by kernel_rfl) (by kernel_rfl) (by kernel_rfl) (.inl rfl) rfl rfl (by kernel_rfl) (by kernel_rfl) _ (fun _ _ => rfl) _ _ (fun _ _ => rfl) (fun _ _ => rfl) (fun _ _ => by kernel_rfl) (fun _ _ => by kernel_rfl) (fun r_58 x_63 => ?_))
      obtain ⟨A_59, c_60⟩ := x_63
      refine GoO.shape (env' := [(65, .pointer (some ⟨b_7, 0, none⟩)), (67, .string (bs x_1.Data)), (68, .pointer (some ⟨b_7, 0, none⟩))]) (H' := [⟨41, b_7, [.slice A_59 r_58.b.length c_60]⟩, ⟨40, b_4, [.int .i64 x_1.Kind, .int .i64 x_1.From, .int .i64 x_1.To, .int .u64 x_1.Term, .int .u64 x_1.Index, .int .u64 x_1.Prev, .int .u64 x_1.Commit, .bool x_1.Ok, .slice A_2 x_1.Entries.length c_3, .string (bs x_1.Data)]⟩]) (B' := [Ow 42 Kd.u8 A_59 c_60 r_58.b, Rd 0 kT_api_Entry A_2 c_3 x_1.Entries]) (ks := [65, 67, 68]) (by kernel_rfl) (by kernel_rfl) (by kernel_rfl) ?_
      refine OpTo.go (GoO.call rfl (by kernel_rfl) (by kernel_rfl) (pack_Writer_Bytes_ok n r_58 b_7 A_59 c_60) [[0], [41], [42]] [] [(1, 0)] [(2, 0)] (hks := [0, 1]) (bks := [0, 1]) (by kernel_rfl) (by kernel_rfl) (by kernel_rfl) (.inl rfl) rfl rfl (by kernel_rfl) (by kernel_rfl) _ (fun _ _ => rfl) _ _ (fun _ _ => rfl) (fun _ _ => rfl) (fun _ _ => by kernel_rfl) (fun _ _ => by kernel_rfl) (fun r_61 x_62 => ?_))
      refine GoO.shape (env' := [(65, .pointer (some ⟨b_7, 0, none⟩)), (67, .string (bs x_1.Data)), (68, .pointer (some ⟨b_7, 0, none⟩)), (69, .string (bs r_61))]) (H' := [⟨41, b_7, [.slice A_59 r_58.b.length c_60]⟩, ⟨40, b_4, [.int .i64 x_1.Kind, .int .i64 x_1.From, .int .i64 x_1.To, .int .u64 x_1.Term, .int .u64 x_1.Index, .int .u64 x_1.Prev, .int .u64 x_1.Commit, .bool x_1.Ok, .slice A_2 x_1.Entries.length c_3, .string (bs x_1.Data)]⟩]) (B' := [Ow 42 Kd.u8 A_59 c_60 r_58.b, Rd 0 kT_api_Entry A_2 c_3 x_1.Entries]) (ks := [65, 67, 68, 69]) (by kernel_rfl) (by kernel_rfl) (by kernel_rfl) ?_
      refine GoO.exec (is := [5, 6]) (hs := [.p, .p]) (rest := []) (ks := [2, 3]) (env' := [(2, .string (bs r_61)), (3, .int .i64 0)]) (H' := [⟨41, b_7, [.slice A_59 r_58.b.length c_60]⟩, ⟨40, b_4, [.int .i64 x_1.Kind, .int .i64 x_1.From, .int .i64 x_1.To, .int .u64 x_1.Term, .int .u64 x_1.Index, .int .u64 x_1.Prev, .int .u64 x_1.Commit, .bool x_1.Ok, .slice A_2 x_1.Entries.length c_3, .string (bs x_1.Data)]⟩]) (ps := []) (by kernel_rfl) trivial ?_
      refine GoO.regionEnd ?_
      exact GoO.ret' (h := c21_31e) (hs := []) (ps := []) (hk := []) (bk := []) Try.func21 () (by kernel_rfl) trivial (by kernel_rfl) (by kernel_rfl)
theorem letter_Encode_ok (n : Nat) (x_1 : T_api_Letter) (A_2 : Option Addr) (c_3 : Nat) :
    Meets Try.prog 21 [.agg ⟨[.int .i64 x_1.Kind, .int .i64 x_1.From, .int .i64 x_1.To, .int .u64 x_1.Term, .int .u64 x_1.Index, .int .u64 x_1.Prev, .int .u64 x_1.Commit, .bool x_1.Ok, .slice A_2 x_1.Entries.length c_3, .string (bs x_1.Data)]⟩] 0 [] [] [Rd 0 kT_api_Entry A_2 c_3 x_1.Entries] (letter_Encode.f n x_1) (letter_Encode.R A_2 c_3) := by
  refine Meets.of (c := c21_0) (n := 70) Try.func21 (by kernel_rfl) (by kernel_rfl) (by kernel_rfl) fun w0 S0 => ?_
  unfold letter_Encode.f
  show GoO (letter_Encode.cx A_2 c_3 w0 S0) [(0, .agg ⟨[.int .i64 x_1.Kind, .int .i64 x_1.From, .int .i64 x_1.To, .int .u64 x_1.Term, .int .u64 x_1.Index, .int .u64 x_1.Prev, .int .u64 x_1.Commit, .bool x_1.Ok, .slice A_2 x_1.Entries.length c_3, .string (bs x_1.Data)]⟩)] [] [Rd 0 kT_api_Entry A_2 c_3 x_1.Entries] [.code c21_0] _
  refine GoO.seq' c21_0e ?_
  refine GoO.region' (is := [0, 1, 2]) c21_1e (by kernel_rfl) ?_
  refine OpTo.go (GoO.new rfl 40 (cs := [.int .i64 x_1.Kind, .int .i64 x_1.From, .int .i64 x_1.To, .int .u64 x_1.Term, .int .u64 x_1.Index, .int .u64 x_1.Prev, .int .u64 x_1.Commit, .bool x_1.Ok, .slice A_2 x_1.Entries.length c_3, .string (bs x_1.Data)]) (by kernel_rfl) _ (fun _ => rfl) (fun b_4 => ?_))
  refine GoO.exec (is := [1, 2]) (hs := [.p, .p]) (rest := []) (ks := [1]) (env' := [(1, .pointer (some ⟨b_4, 0, none⟩))]) (H' := [⟨40, b_4, [.int .i64 x_1.Kind, .int .i64 x_1.From, .int .i64 x_1.To, .int .u64 x_1.Term, .int .u64 x_1.Index, .int .u64 x_1.Prev, .int .u64 x_1.Commit, .bool x_1.Ok, .slice A_2 x_1.Entries.length c_3, .string (bs x_1.Data)]⟩]) (ps := []) (by kernel_rfl) trivial ?_
  refine GoO.regionEnd ?_
  refine GoO.seq' c21_2e ?_
  refine GoO.seq' c21_3e ?_
  refine GoO.region' (is := [0, 1, 2]) c21_4e (by kernel_rfl) ?_
  refine GoO.exec (is := [0]) (hs := [.b 0]) (rest := [1, 2]) (ks := [1, 7]) (env' := [(1, .pointer (some ⟨b_4, 0, none⟩)), (7, .agg ⟨[.int .i64 x_1.Kind, .int .i64 x_1.From, .int .i64 x_1.To, .int .u64 x_1.Term, .int .u64 x_1.Index, .int .u64 x_1.Prev, .int .u64 x_1.Commit, .bool x_1.Ok, .slice A_2 x_1.Entries.length c_3, .string (bs x_1.Data)]⟩)]) (H' := [⟨40, b_4, [.int .i64 x_1.Kind, .int .i64 x_1.From, .int .i64 x_1.To, .int .u64 x_1.Term, .int .u64 x_1.Index, .int .u64 x_1.Prev, .int .u64 x_1.Commit, .bool x_1.Ok, .slice A_2 x_1.Entries.length c_3, .string (bs x_1.Data)]⟩]) (ps := [b_4 = b_4]) (by kernel_rfl) (And.intro rfl trivial) ?_
  refine OpTo.go (GoO.call rfl (by kernel_rfl) (by kernel_rfl) (letter_May_ok n x_1 A_2 c_3) [[0]] [] [] [(0, 0)] (hks := [0]) (bks := [0]) (by kernel_rfl) (by kernel_rfl) (by kernel_rfl) (.inl rfl) rfl rfl (by kernel_rfl) (by kernel_rfl) _ (fun _ _ => rfl) _ _ (fun _ _ => rfl) (fun _ _ => rfl) (fun _ _ => by kernel_rfl) (fun _ _ => by kernel_rfl) (fun r_5 x_73 => ?_))
  refine GoO.shape (env' := [(1, .pointer (some ⟨b_4, 0, none⟩)), (7, .agg ⟨[.int .i64 x_1.Kind, .int .i64 x_1.From, .int .i64 x_1.To, .int .u64 x_1.Term, .int .u64 x_1.Index, .int .u64 x_1.Prev, .int .u64 x_1.Commit, .bool x_1.Ok, .slice A_2 x_1.Entries.length c_3, .string (bs x_1.Data)]⟩), (8, .bool r_5)]) (H' := [⟨40, b_4, [.int .i64 x_1.Kind, .int .i64 x_1.From, .int .i64 x_1.To, .int .u64 x_1.Term, .int .u64 x_1.Index, .int .u64 x_1.Prev, .int .u64 x_1.Commit, .bool x_1.Ok, .slice A_2 x_1.Entries.length c_3, .string (bs x_1.Data)]⟩]) (B' := [Rd 0 kT_api_Entry A_2 c_3 x_1.Entries]) (ks := [1, 7, 8]) (by kernel_rfl) (by kernel_rfl) (by kernel_rfl) ?_
  refine GoO.exec (is := [2]) (hs := [.p]) (rest := []) (ks := [1, 9]) (env' := [(1, .pointer (some ⟨b_4, 0, none⟩)), (9, .bool (!r_5))]) (H' := [⟨40, b_4, [.int .i64 x_1.Kind, .int .i64 x_1.From, .int .i64 x_1.To, .int .u64 x_1.Term, .int .u64 x_1.Index, .int .u64 x_1.Prev, .int .u64 x_1.Commit, .bool x_1.Ok, .slice A_2 x_1.Entries.length c_3, .string (bs x_1.Data)]⟩]) (ps := []) (by kernel_rfl) trivial ?_
  refine GoO.regionEnd ?_
  refine GoO.ite' c21_5e (by kernel_rfl) (fun h6 => ?_) (fun h6 => ?_)
  · refine GoO.seq' c21_6e ?_
    refine GoO.region' (is := [0, 1]) c21_7e (by kernel_rfl) ?_
    refine GoO.exec (is := [0, 1]) (hs := [.p, .p]) (rest := []) (ks := [2, 3]) (env' := [(2, .string (bs [])), (3, .int .i64 1)]) (H' := [⟨40, b_4, [.int .i64 x_1.Kind, .int .i64 x_1.From, .int .i64 x_1.To, .int .u64 x_1.Term, .int .u64 x_1.Index, .int .u64 x_1.Prev, .int .u64 x_1.Commit, .bool x_1.Ok, .slice A_2 x_1.Entries.length c_3, .string (bs x_1.Data)]⟩]) (ps := []) (by kernel_rfl) trivial ?_
    refine GoO.regionEnd ?_
    exact GoO.ret' (h := c21_8e) (hs := []) (ps := []) (hk := []) (bk := []) Try.func21 () (by kernel_rfl) trivial (by kernel_rfl) (by kernel_rfl)
  · refine GoO.skip' c21_9e ?_
    refine GoO.seq' c21_10e ?_
    refine GoO.draw c21_11e (by kernel_rfl) [33] [⟨40, b_4, [.int .i64 x_1.Kind, .int .i64 x_1.From, .int .i64 x_1.To, .int .u64 x_1.Term, .int .u64 x_1.Index, .int .u64 x_1.Prev, .int .u64 x_1.Commit, .bool x_1.Ok, .slice A_2 x_1.Entries.length c_3, .string (bs x_1.Data)]⟩] [] (n := 34) (by kernel_rfl) ?_
    simp only [List.replicate]
    refine GoF.take [1, 2, 3, 5, 6, 7, 9, 10, 11, 13, 14, 16, 17, 19, 20, 22, 23, 25, 26, 28, 29, 30, 31] [.p, .b 0, .p, .p, .b 0, .p, .p, .b 0, .p, .p, .b 0, .p, .b 0, .p, .b 0, .p, .b 0, .p, .b 0, .p, .b 0, .p, .p] (ks := [1, 13, 17, 21, 24, 27, 30, 33, 36, 41]) (fu := 11) (li := [false, true, true, true, false, true, true, true, false, true, true, true, false, true, true, false, true, true, false, true, true, false, true, true, false, true, true, false, true, true, true, true, false, false]) (env' := [(1, .pointer (some ⟨b_4, 0, none⟩)), (13, .int .u64 (wu64 x_1.Kind)), (17, .int .u64 (wu64 x_1.From)), (21, .int .u64 (wu64 x_1.To)), (24, .int .u64 x_1.Term), (27, .int .u64 x_1.Index), (30, .int .u64 x_1.Prev), (33, .int .u64 x_1.Commit), (36, .bool x_1.Ok), (41, .int .u64 (wu64 (x_1.Entries.length : Int)))]) (ps := [b_4 = b_4, b_4 = b_4, b_4 = b_4, b_4 = b_4, b_4 = b_4, b_4 = b_4, b_4 = b_4, b_4 = b_4, b_4 = b_4]) (hk := [0]) (bk := []) (by kernel_rfl) (And.intro rfl (And.intro rfl (And.intro rfl (And.intro rfl (And.intro rfl (And.intro rfl (And.intro rfl (And.intro rfl (And.intro rfl trivial))))))))) rfl rfl ?_
    refine OpTo.goF (i := 0) (by kernel_rfl) (hk := [1]) (bk := []) (GoO.new rfl 41 (cs := [.slice none ([] : List UInt8).length 0]) (by kernel_rfl) _ (fun _ => rfl) (fun b_7 => ⟨rfl, rfl, ?_⟩))
    refine GoF.nilOwn Kd.u8 42 ?_
    refine OpTo.goF (i := 4) (by kernel_rfl) (hk := [1]) (bk := []) (GoO.call rfl (by kernel_rfl) (by kernel_rfl) (pack_Writer_Num_ok n (⟨[]⟩ : T_pack_Writer) (wu64 x_1.Kind) b_7 none 0) [[0], [41], [42]] [(41, 1), (42, 2)] [(1, 0)] [(2, 0)] (hks := [1]) (bks := [1]) (by kernel_rfl) (by kernel_rfl) (by kernel_rfl) (.inl rfl) rfl rfl (by kernel_rfl) (by kernel_rfl) _ (fun _ _ => rfl) _ _ (fun _ _ => rfl) (fun _ _ => rfl) (fun _ _ => by kernel_rfl) (fun _ _ => by kernel_rfl) (fun r_8 x_72 => ⟨rfl, rfl, ?_⟩))
    obtain ⟨A_9, c_10⟩ := x_72
    refine GoF.shape (env' := [(1, .pointer (some ⟨b_4, 0, none⟩)), (10, .pointer (some ⟨b_7, 0, none⟩)), (13, .int .u64 (wu64 x_1.Kind)), (14, .pointer (some ⟨b_7, 0, none⟩)), (17, .int .u64 (wu64 x_1.From)), (21, .int .u64 (wu64 x_1.To)), (24, .int .u64 x_1.Term), (27, .int .u64 x_1.Index), (30, .int .u64 x_1.Prev), (33, .int .u64 x_1.Commit), (36, .bool x_1.Ok), (41, .int .u64 (wu64 (x_1.Entries.length : Int)))]) (H' := [⟨41, b_7, [.slice A_9 r_8.b.length c_10]⟩, ⟨40, b_4, [.int .i64 x_1.Kind, .int .i64 x_1.From, .int .i64 x_1.To, .int .u64 x_1.Term, .int .u64 x_1.Index, .int .u64 x_1.Prev, .int .u64 x_1.Commit, .bool x_1.Ok, .slice A_2 x_1.Entries.length c_3, .string (bs x_1.Data)]⟩]) (B' := [Ow 42 Kd.u8 A_9 c_10 r_8.b, Rd 0 kT_api_Entry A_2 c_3 x_1.Entries]) (ks := [1, 10, 13, 14, 17, 21, 24, 27, 30, 33, 36, 41]) (by kernel_rfl) (by kernel_rfl) (by kernel_rfl) ?_
    refine OpTo.goF (i := 8) (by kernel_rfl) (hk := [1]) (bk := []) (GoO.call rfl (by kernel_rfl) (by kernel_rfl) (pack_Writer_Num_ok n r_8 (wu64 x_1.From) b_7 A_9 c_10) [[0], [41], [42]] [(41, 1), (42, 2)] [(1, 0)] [(2, 0)] (hks := [1]) (bks := [1]) (by kernel_rfl) (by kernel_rfl) (by kernel_rfl) (.inl rfl) rfl rfl (by kernel_rfl) (by kernel_rfl) _ (fun _ _ => rfl) _ _ (fun _ _ => rfl) (fun _ _ => rfl) (fun _ _ => by kernel_rfl) (fun _ _ => by kernel_rfl) (fun r_11 x_71 => ⟨rfl, rfl, ?_⟩))
    obtain ⟨A_12, c_13⟩ := x_71
    refine GoF.shape (env' := [(1, .pointer (some ⟨b_4, 0, none⟩)), (10, .pointer (some ⟨b_7, 0, none⟩)), (13, .int .u64 (wu64 x_1.Kind)), (14, .pointer (some ⟨b_7, 0, none⟩)), (17, .int .u64 (wu64 x_1.From)), (18, .pointer (some ⟨b_7, 0, none⟩)), (21, .int .u64 (wu64 x_1.To)), (24, .int .u64 x_1.Term), (27, .int .u64 x_1.Index), (30, .int .u64 x_1.Prev), (33, .int .u64 x_1.Commit), (36, .bool x_1.Ok), (41, .int .u64 (wu64 (x_1.Entries.length : Int)))]) (H' := [⟨41, b_7, [.slice A_12 r_11.b.length c_13]⟩, ⟨40, b_4, [.int .i64 x_1.Kind, .int .i64 x_1.From, .int .i64 x_1.To, .int .u64 x_1.Term, .int .u64 x_1.Index, .int .u64 x_1.Prev, .int .u64 x_1.Commit, .bool x_1.Ok, .slice A_2 x_1.Entries.length c_3, .string (bs x_1.Data)]⟩]) (B' := [Ow 42 Kd.u8 A_12 c_13 r_11.b, Rd 0 kT_api_Entry A_2 c_3 x_1.Entries]) (ks := [1, 10, 13, 14, 17, 18, 21, 24, 27, 30, 33, 36, 41]) (by kernel_rfl) (by kernel_rfl) (by kernel_rfl) ?_
    refine OpTo.goF (i := 12) (by kernel_rfl) (hk := [1]) (bk := []) (GoO.call rfl (by kernel_rfl) (by kernel_rfl) (pack_Writer_Num_ok n r_11 (wu64 x_1.To) b_7 A_12 c_13) [[0], [41], [42]] [(41, 1), (42, 2)] [(1, 0)] [(2, 0)] (hks := [1]) (bks := [1]) (by kernel_rfl) (by kernel_rfl) (by kernel_rfl) (.inl rfl) rfl rfl (by kernel_rfl) (by kernel_rfl) _ (fun _ _ => rfl) _ _ (fun _ _ => rfl) (fun _ _ => rfl) (fun _ _ => by kernel_rfl) (fun _ _ => by kernel_rfl) (fun r_14 x_70 => ⟨rfl, rfl, ?_⟩))
    obtain ⟨A_15, c_16⟩ := x_70
    refine GoF.shape (env' := [(1, .pointer (some ⟨b_4, 0, none⟩)), (10, .pointer (some ⟨b_7, 0, none⟩)), (13, .int .u64 (wu64 x_1.Kind)), (14, .pointer (some ⟨b_7, 0, none⟩)), (17, .int .u64 (wu64 x_1.From)), (18, .pointer (some ⟨b_7, 0, none⟩)), (21, .int .u64 (wu64 x_1.To)), (22, .pointer (some ⟨b_7, 0, none⟩)), (24, .int .u64 x_1.Term), (27, .int .u64 x_1.Index), (30, .int .u64 x_1.Prev), (33, .int .u64 x_1.Commit), (36, .bool x_1.Ok), (41, .int .u64 (wu64 (x_1.Entries.length : Int)))]) (H' := [⟨41, b_7, [.slice A_15 r_14.b.length c_16]⟩, ⟨40, b_4, [.int .i64 x_1.Kind, .int .i64 x_1.From, .int .i64 x_1.To, .int .u64 x_1.Term, .int .u64 x_1.Index, .int .u64 x_1.Prev, .int .u64 x_1.Commit, .bool x_1.Ok, .slice A_2 x_1.Entries.length c_3, .string (bs x_1.Data)]⟩]) (B' := [Ow 42 Kd.u8 A_15 c_16 r_14.b, Rd 0 kT_api_Entry A_2 c_3 x_1.Entries]) (ks := [1, 10, 13, 14, 17, 18, 21, 22, 24, 27, 30, 33, 36, 41]) (by kernel_rfl) (by kernel_rfl) (by kernel_rfl) ?_
    refine OpTo.goF (i := 15) (by kernel_rfl) (hk := [1]) (bk := []) (GoO.call rfl (by kernel_rfl) (by kernel_rfl) (pack_Writer_Num_ok n r_14 x_1.Term b_7 A_15 c_16) [[0], [41], [42]] [(41, 1), (42, 2)] [(1, 0)] [(2, 0)] (hks := [1]) (bks := [1]) (by kernel_rfl) (by kernel_rfl) (by kernel_rfl) (.inl rfl) rfl rfl (by kernel_rfl) (by kernel_rfl) _ (fun _ _ => rfl) _ _ (fun _ _ => rfl) (fun _ _ => rfl) (fun _ _ => by kernel_rfl) (fun _ _ => by kernel_rfl) (fun r_17 x_69 => ⟨rfl, rfl, ?_⟩))
    obtain ⟨A_18, c_19⟩ := x_69
    refine GoF.shape (env' := [(1, .pointer (some ⟨b_4, 0, none⟩)), (10, .pointer (some ⟨b_7, 0, none⟩)), (13, .int .u64 (wu64 x_1.Kind)), (14, .pointer (some ⟨b_7, 0, none⟩)), (17, .int .u64 (wu64 x_1.From)), (18, .pointer (some ⟨b_7, 0, none⟩)), (21, .int .u64 (wu64 x_1.To)), (22, .pointer (some ⟨b_7, 0, none⟩)), (24, .int .u64 x_1.Term), (25, .pointer (some ⟨b_7, 0, none⟩)), (27, .int .u64 x_1.Index), (30, .int .u64 x_1.Prev), (33, .int .u64 x_1.Commit), (36, .bool x_1.Ok), (41, .int .u64 (wu64 (x_1.Entries.length : Int)))]) (H' := [⟨41, b_7, [.slice A_18 r_17.b.length c_19]⟩, ⟨40, b_4, [.int .i64 x_1.Kind, .int .i64 x_1.From, .int .i64 x_1.To, .int .u64 x_1.Term, .int .u64 x_1.Index, .int .u64 x_1.Prev, .int .u64 x_1.Commit, .bool x_1.Ok, .slice A_2 x_1.Entries.length c_3, .string (bs x_1.Data)]⟩]) (B' := [Ow 42 Kd.u8 A_18 c_19 r_17.b, Rd 0 kT_api_Entry A_2 c_3 x_1.Entries]) (ks := [1, 10, 13, 14, 17, 18, 21, 22, 24, 25, 27, 30, 33, 36, 41]) (by kernel_rfl) (by kernel_rfl) (by kernel_rfl) ?_
    refine OpTo.goF (i := 18) (by kernel_rfl) (hk := [1]) (bk := []) (GoO.call rfl (by kernel_rfl) (by kernel_rfl) (pack_Writer_Num_ok n r_17 x_1.Index b_7 A_18 c_19) [[0], [41], [42]] [(41, 1), (42, 2)] [(1, 0)] [(2, 0)] (hks := [1]) (bks := [1]) (by kernel_rfl) (by kernel_rfl) (by kernel_rfl) (.inl rfl) rfl rfl (by kernel_rfl) (by kernel_rfl) _ (fun _ _ => rfl) _ _ (fun _ _ => rfl) (fun _ _ => rfl) (fun _ _ => by kernel_rfl) (fun _ _ => by kernel_rfl) (fun r_20 x_68 => ⟨rfl, rfl, ?_⟩))
    obtain ⟨A_21, c_22⟩ := x_68
    refine GoF.shape (env' := [(1, .pointer (some ⟨b_4, 0, none⟩)), (10, .pointer (some ⟨b_7, 0, none⟩)), (13, .int .u64 (wu64 x_1.Kind)), (14, .pointer (some ⟨b_7, 0, none⟩)), (17, .int .u64 (wu64 x_1.From)), (18, .pointer (some ⟨b_7, 0, none⟩)), (21, .int .u64 (wu64 x_1.To)), (22, .pointer (some ⟨b_7, 0, none⟩)), (24, .int .u64 x_1.Term), (25, .pointer (some ⟨b_7, 0, none⟩)), (27, .int .u64 x_1.Index), (28, .pointer (some ⟨b_7, 0, none⟩)), (30, .int .u64 x_1.Prev), (33, .int .u64 x_1.Commit), (36, .bool x_1.Ok), (41, .int .u64 (wu64 (x_1.Entries.length : Int)))]) (H' := [⟨41, b_7, [.slice A_21 r_20.b.length c_22]⟩, ⟨40, b_4, [.int .i64 x_1.Kind, .int .i64 x_1.From, .int .i64 x_1.To, .int .u64 x_1.Term, .int .u64 x_1.Index, .int .u64 x_1.Prev, .int .u64 x_1.Commit, .bool x_1.Ok, .slice A_2 x_1.Entries.length c_3, .string (bs x_1.Data)]⟩]) (B' := [Ow 42 Kd.u8 A_21 c_22 r_20.b, Rd 0 kT_api_Entry A_2 c_3 x_1.Entries]) (ks := [1, 10, 13, 14, 17, 18, 21, 22, 24, 25, 27, 28, 30, 33, 36, 41]) (by kernel_rfl) (by kernel_rfl) (by kernel_rfl) ?_
    refine OpTo.goF (i := 21) (by kernel_rfl) (hk := [1]) (bk := []) (GoO.call rfl (by kernel_rfl) (by kernel_rfl) (pack_Writer_Num_ok n r_20 x_1.Prev b_7 A_21 c_22) [[0], [41], [42]] [(41, 1), (42, 2)] [(1, 0)] [(2, 0)] (hks := [1]) (bks := [1]) (by kernel_rfl) (by kernel_rfl) (by kernel_rfl) (.inl rfl) rfl rfl (by kernel_rfl) (by kernel_rfl) _ (fun _ _ => rfl) _ _ (fun _ _ => rfl) (fun _ _ => rfl) (fun _ _ => by kernel_rfl) (fun _ _ => by kernel_rfl) (fun r_23 x_67 => ⟨rfl, rfl, ?_⟩))
    obtain ⟨A_24, c_25⟩ := x_67
    refine GoF.shape (env' := [(1, .pointer (some ⟨b_4, 0, none⟩)), (10, .pointer (some ⟨b_7, 0, none⟩)), (13, .int .u64 (wu64 x_1.Kind)), (14, .pointer (some ⟨b_7, 0, none⟩)), (17, .int .u64 (wu64 x_1.From)), (18, .pointer (some ⟨b_7, 0, none⟩)), (21, .int .u64 (wu64 x_1.To)), (22, .pointer (some ⟨b_7, 0, none⟩)), (24, .int .u64 x_1.Term), (25, .pointer (some ⟨b_7, 0, none⟩)), (27, .int .u64 x_1.Index), (28, .pointer (some ⟨b_7, 0, none⟩)), (30, .int .u64 x_1.Prev), (31, .pointer (some ⟨b_7, 0, none⟩)), (33, .int .u64 x_1.Commit), (36, .bool x_1.Ok), (41, .int .u64 (wu64 (x_1.Entries.length : Int)))]) (H' := [⟨41, b_7, [.slice A_24 r_23.b.length c_25]⟩, ⟨40, b_4, [.int .i64 x_1.Kind, .int .i64 x_1.From, .int .i64 x_1.To, .int .u64 x_1.Term, .int .u64 x_1.Index, .int .u64 x_1.Prev, .int .u64 x_1.Commit, .bool x_1.Ok, .slice A_2 x_1.Entries.length c_3, .string (bs x_1.Data)]⟩]) (B' := [Ow 42 Kd.u8 A_24 c_25 r_23.b, Rd 0 kT_api_Entry A_2 c_3 x_1.Entries]) (ks := [1, 10, 13, 14, 17, 18, 21, 22, 24, 25, 27, 28, 30, 31, 33, 36, 41]) (by kernel_rfl) (by kernel_rfl) (by kernel_rfl) ?_
    refine OpTo.goF (i := 24) (by kernel_rfl) (hk := [1]) (bk := []) (GoO.call rfl (by kernel_rfl) (by kernel_rfl) (pack_Writer_Num_ok n r_23 x_1.Commit b_7 A_24 c_25) [[0], [41], [42]] [(41, 1), (42, 2)] [(1, 0)] [(2, 0)] (hks := [1]) (bks := [1]) (by kernel_rfl) (by kernel_rfl) (by kernel_rfl) (.inl rfl) rfl rfl (by kernel_rfl) (by kernel_rfl) _ (fun _ _ => rfl) _ _ (fun _ _ => rfl) (fun _ _ => rfl) (fun _ _ => by kernel_rfl) (fun _ _ => by kernel_rfl) (fun r_26 x_66 => ⟨rfl, rfl, ?_⟩))
    obtain ⟨A_27, c_28⟩ := x_66
    refine GoF.shape (env' := [(1, .pointer (some ⟨b_4, 0, none⟩)), (10, .pointer (some ⟨b_7, 0, none⟩)), (13, .int .u64 (wu64 x_1.Kind)), (14, .pointer (some ⟨b_7, 0, none⟩)), (17, .int .u64 (wu64 x_1.From)), (18, .pointer (some ⟨b_7, 0, none⟩)), (21, .int .u64 (wu64 x_1.To)), (22, .pointer (some ⟨b_7, 0, none⟩)), (24, .int .u64 x_1.Term), (25, .pointer (some ⟨b_7, 0, none⟩)), (27, .int .u64 x_1.Index), (28, .pointer (some ⟨b_7, 0, none⟩)), (30, .int .u64 x_1.Prev), (31, .pointer (some ⟨b_7, 0, none⟩)), (33, .int .u64 x_1.Commit), (34, .pointer (some ⟨b_7, 0, none⟩)), (36, .bool x_1.Ok), (41, .int .u64 (wu64 (x_1.Entries.length : Int)))]) (H' := [⟨41, b_7, [.slice A_27 r_26.b.length c_28]⟩, ⟨40, b_4, [.int .i64 x_1.Kind, .int .i64 x_1.From, .int .i64 x_1.To, .int .u64 x_1.Term, .int .u64 x_1.Index, .int .u64 x_1.Prev, .int .u64 x_1.Commit, .bool x_1.Ok, .slice A_2 x_1.Entries.length c_3, .string (bs x_1.Data)]⟩]) (B' := [Ow 42 Kd.u8 A_27 c_28 r_26.b, Rd 0 kT_api_Entry A_2 c_3 x_1.Entries]) (ks := [1, 10, 13, 14, 17, 18, 21, 22, 24, 25, 27, 28, 30, 31, 33, 34, 36, 41]) (by kernel_rfl) (by kernel_rfl) (by kernel_rfl) ?_
    refine OpTo.goF (i := 27) (by kernel_rfl) (hk := [1]) (bk := []) (GoO.call rfl (by kernel_rfl) (by kernel_rfl) (pack_Writer_Bool_ok n r_26 x_1.Ok b_7 A_27 c_28) [[0], [41], [42]] [(41, 1), (42, 2)] [(1, 0)] [(2, 0)] (hks := [1]) (bks := [1]) (by kernel_rfl) (by kernel_rfl) (by kernel_rfl) (.inl rfl) rfl rfl (by kernel_rfl) (by kernel_rfl) _ (fun _ _ => rfl) _ _ (fun _ _ => rfl) (fun _ _ => rfl) (fun _ _ => by kernel_rfl) (fun _ _ => by kernel_rfl) (fun r_29 x_65 => ⟨rfl, rfl, ?_⟩))
    obtain ⟨A_30, c_31⟩ := x_65
    refine GoF.shape (env' := [(1, .pointer (some ⟨b_4, 0, none⟩)), (10, .pointer (some ⟨b_7, 0, none⟩)), (13, .int .u64 (wu64 x_1.Kind)), (14, .pointer (some ⟨b_7, 0, none⟩)), (17, .int .u64 (wu64 x_1.From)), (18, .pointer (some ⟨b_7, 0, none⟩)), (21, .int .u64 (wu64 x_1.To)), (22, .pointer (some ⟨b_7, 0, none⟩)), (24, .int .u64 x_1.Term), (25, .pointer (some ⟨b_7, 0, none⟩)), (27, .int .u64 x_1.Index), (28, .pointer (some ⟨b_7, 0, none⟩)), (30, .int .u64 x_1.Prev), (31, .pointer (some ⟨b_7, 0, none⟩)), (33, .int .u64 x_1.Commit), (34, .pointer (some ⟨b_7, 0, none⟩)), (36, .bool x_1.Ok), (37, .pointer (some ⟨b_7, 0, none⟩)), (41, .int .u64 (wu64 (x_1.Entries.length : Int)))]) (H' := [⟨41, b_7, [.slice A_30 r_29.b.length c_31]⟩, ⟨40, b_4, [.int .i64 x_1.Kind, .int .i64 x_1.From, .int .i64 x_1.To, .int .u64 x_1.Term, .int .u64 x_1.Index, .int .u64 x_1.Prev, .int .u64 x_1.Commit, .bool x_1.Ok, .slice A_2 x_1.Entries.length c_3, .string (bs x_1.Data)]⟩]) (B' := [Ow 42 Kd.u8 A_30 c_31 r_29.b, Rd 0 kT_api_Entry A_2 c_3 x_1.Entries]) (ks := [1, 10, 13, 14, 17, 18, 21, 22, 24, 25, 27, 28, 30, 31, 33, 34, 36, 37, 41]) (by kernel_rfl) (by kernel_rfl) (by kernel_rfl) ?_
    refine OpTo.goF (i := 32) (by kernel_rfl) (hk := [1]) (bk := []) (GoO.call rfl (by kernel_rfl) (by kernel_rfl) (pack_Writer_Num_ok n r_29 (wu64 (x_1.Entries.length : Int)) b_7 A_30 c_31) [[0], [41], [42]] [(41, 1), (42, 2)] [(1, 0)] [(2, 0)] (hks := [1]) (bks := [1]) (by kernel_rfl) (by kernel_rfl) (by kernel_rfl) (.inl rfl) rfl rfl (by kernel_rfl) (by kernel_rfl) _ (fun _ _ => rfl) _ _ (fun _ _ => rfl) (fun _ _ => rfl) (fun _ _ => by kernel_rfl) (fun _ _ => by kernel_rfl) (fun r_32 x_64 => ⟨rfl, rfl, ?_⟩))
    obtain ⟨A_33, c_34⟩ := x_64
    refine GoF.shape (env' := [(1, .pointer (some ⟨b_4, 0, none⟩)), (10, .pointer (some ⟨b_7, 0, none⟩)), (13, .int .u64 (wu64 x_1.Kind)), (14, .pointer (some ⟨b_7, 0, none⟩)), (17, .int .u64 (wu64 x_1.From)), (18, .pointer (some ⟨b_7, 0, none⟩)), (21, .int .u64 (wu64 x_1.To)), (22, .pointer (some ⟨b_7, 0, none⟩)), (24, .int .u64 x_1.Term), (25, .pointer (some ⟨b_7, 0, none⟩)), (27, .int .u64 x_1.Index), (28, .pointer (some ⟨b_7, 0, none⟩)), (30, .int .u64 x_1.Prev), (31, .pointer (some ⟨b_7, 0, none⟩)), (33, .int .u64 x_1.Commit), (34, .pointer (some ⟨b_7, 0, none⟩)), (36, .bool x_1.Ok), (37, .pointer (some ⟨b_7, 0, none⟩)), (41, .int .u64 (wu64 (x_1.Entries.length : Int))), (42, .pointer (some ⟨b_7, 0, none⟩))]) (H' := [⟨41, b_7, [.slice A_33 r_32.b.length c_34]⟩, ⟨40, b_4, [.int .i64 x_1.Kind, .int .i64 x_1.From, .int .i64 x_1.To, .int .u64 x_1.Term, .int .u64 x_1.Index, .int .u64 x_1.Prev, .int .u64 x_1.Commit, .bool x_1.Ok, .slice A_2 x_1.Entries.length c_3, .string (bs x_1.Data)]⟩]) (B' := [Ow 42 Kd.u8 A_33 c_34 r_32.b, Rd 0 kT_api_Entry A_2 c_3 x_1.Entries]) (ks := [1, 10, 13, 14, 17, 18, 21, 22, 24, 25, 27, 28, 30, 31, 33, 34, 36, 37, 41, 42]) (by kernel_rfl) (by kernel_rfl) (by kernel_rfl) ?_
    refine GoF.fin1 (i := 33) (hint := .p) (ps := []) (hk := []) (bk := []) (by kernel_rfl) rfl trivial (.inl rfl) ?_
    refine GoF.done (by kernel_rfl) ?_
    refine GoO.seq' c21_12e ?_
    refine GoO.seq' c21_13e ?_
    refine GoO.region' (is := [0, 1, 2, 3]) c21_14e (by kernel_rfl) ?_
    refine GoO.exec (is := [0, 1, 2, 3]) (hs := [.p, .b 1, .p, .p]) (rest := []) (ks := [1, 4, 44, 45, 46]) (env' := [(1, .pointer (some ⟨b_4, 0, none⟩)), (4, .pointer (some ⟨b_7, 0, none⟩)), (44, .slice A_2 x_1.Entries.length c_3), (45, .int .i64 (x_1.Entries.length : Int)), (46, .int .i64 0)]) (H' := [⟨41, b_7, [.slice A_33 r_32.b.length c_34]⟩, ⟨40, b_4, [.int .i64 x_1.Kind, .int .i64 x_1.From, .int .i64 x_1.To, .int .u64 x_1.Term, .int .u64 x_1.Index, .int .u64 x_1.Prev, .int .u64 x_1.Commit, .bool x_1.Ok, .slice A_2 x_1.Entries.length c_3, .string (bs x_1.Data)]⟩]) (ps := [b_4 = b_4]) (by kernel_rfl) (And.intro rfl trivial) ?_
    refine GoO.regionEnd ?_
    refine GoO.block' c21_15e ?_
    refine GoO.loop' c21_16e ?_
    exact GoO.sub (ks := [1, 4, 44, 45, 46]) (hk := [1, 0]) (bk := [1, 0]) (by kernel_rfl) (by kernel_rfl) (by kernel_rfl) (letter_Encode_l0_ok n x_1 A_2 c_3 b_4 b_7 w0 S0 n r_32.b 0 A_33 c_34)

/-! tontine/tontinelaw11.begun -/
noncomputable def c20_0 : Code := bodyOf Try.f20
noncomputable def c20_1 : Code := cdL c20_0
noncomputable def c20_2 : Code := cdR c20_0
noncomputable def c20_3 : Code := cdL c20_2
noncomputable def c20_4 : Code := cdR c20_2
noncomputable def c20_5 : Code := cdL c20_4
noncomputable def c20_6 : Code := cdR c20_4
noncomputable def r20_1 : Array Oper := cdO c20_1
noncomputable def r20_3 : Array Oper := cdO c20_3
noncomputable def r20_5 : Array Oper := cdO c20_5
theorem c20_0e : c20_0 = .seq c20_1 c20_2 := by kernel_rfl
theorem c20_1e : c20_1 = .region 0 r20_1 false := by kernel_rfl
theorem c20_2e : c20_2 = .seq c20_3 c20_4 := by kernel_rfl
theorem c20_3e : c20_3 = .region 1 r20_3 false := by kernel_rfl
theorem c20_4e : c20_4 = .seq c20_5 c20_6 := by kernel_rfl
theorem c20_5e : c20_5 = .region 2 r20_5 false := by kernel_rfl
theorem c20_6e : c20_6 = .ret := by kernel_rfl
noncomputable def tontinelaw11_begun.R : Pst Bool where
  ε := Unit
  v := fun r x => .bool r
  H := fun r x => []
  B := fun r x => []
noncomputable def tontinelaw11_begun.cx (w0 : World) (S0 : Fam) : Cx Bool := ⟨Try.prog, 20, Try.f20, 14, w0, S0, [], 0, tontinelaw11_begun.R⟩
theorem tontinelaw11_begun_ok (n : Nat) :
    Meets Try.prog 20 [] 0 [] [] [] (tontinelaw11_begun.f n) (tontinelaw11_begun.R) := by
  refine Meets.of (c := c20_0) (n := 14) Try.func20 (by kernel_rfl) (by kernel_rfl) (by kernel_rfl) fun w0 S0 => ?_
  unfold tontinelaw11_begun.f
  show GoO (tontinelaw11_begun.cx w0 S0) [] [] [] [.code c20_0] _
  refine GoO.seq' c20_0e ?_
  refine GoO.region' (is := [0]) c20_1e (by kernel_rfl) ?_
  refine GoO.exec (is := [0]) (hs := [.p]) (rest := []) (ks := []) (env' := []) (H' := []) (ps := []) (by kernel_rfl) trivial ?_
  refine GoO.regionEnd ?_
  refine GoO.seq' c20_2e ?_
  refine GoO.region' (is := [0, 1, 2, 3, 4, 5, 6]) c20_3e (by kernel_rfl) ?_
  refine GoO.exec (is := [0]) (hs := [.p]) (rest := [1, 2, 3, 4, 5, 6]) (ks := [4]) (env' := [(4, .agg ⟨[.int .i64 2, .int .i64 0, .int .i64 1, .int .u64 3, .int .u64 0, .int .u64 0, .int .u64 0, .bool true, .slice none ([] : List T_api_Entry).length 0, .string (bs [])]⟩)]) (H' := []) (ps := []) (by kernel_rfl) trivial ?_
  refine GoO.nilRd kT_api_Entry ?_
  refine OpTo.go (GoO.call rfl (by kernel_rfl) (by kernel_rfl) (letter_Encode_ok n (⟨2, 0, 1, 3, 0, 0, 0, true, [], []⟩ : T_api_Letter) none 0) [[0]] [] [] [(0, 0)] (hks := []) (bks := [0]) (by kernel_rfl) (by kernel_rfl) (by kernel_rfl) (.inl rfl) rfl rfl (by kernel_rfl) (by kernel_rfl) _ (fun _ _ => rfl) _ _ (fun _ _ => rfl) (fun _ _ => rfl) (fun _ _ => by kernel_rfl) (fun _ _ => by kernel_rfl) (fun r_1 x_3 => ?_))
  refine GoO.shape (env' := [(4, .agg ⟨[.int .i64 2, .int .i64 0, .int .i64 1, .int .u64 3, .int .u64 0, .int .u64 0, .int .u64 0, .bool true, .slice none ([] : List T_api_Entry).length 0, .string (bs [])]⟩), (5, .tuple ⟨[.string (bs r_1.1), .int .i64 r_1.2]⟩)]) (H' := []) (B' := [Rd 0 kT_api_Entry none 0 ([] : List T_api_Entry)]) (ks := [4, 5]) (by kernel_rfl) (by kernel_rfl) (by kernel_rfl) ?_
  refine GoO.exec (is := [2, 3, 4, 5, 6]) (hs := [.p, .p, .p, .p, .p]) (rest := []) (ks := [1, 2]) (env' := [(1, .string (bs r_1.1)), (2, .int .i64 r_1.2)]) (H' := []) (ps := []) (by kernel_rfl) trivial ?_
  refine GoO.regionEnd ?_
  refine GoO.seq' c20_4e ?_
  refine GoO.region' (is := [0, 1, 2, 3, 4, 5, 6]) c20_5e (by kernel_rfl) ?_
  refine GoO.exec (is := [0, 1, 2]) (hs := [.p, .p, .p]) (rest := [3, 4, 5, 6]) (ks := [1, 10]) (env' := [(1, .string (bs r_1.1)), (10, .bool (r_1.2 == 0))]) (H' := []) (ps := []) (by kernel_rfl) trivial ?_
  refine GoO.bsplit (t := 10) (by kernel_rfl) (fun h2 => ?_) (fun h2 => ?_)
  · refine GoO.exec (is := [3, 4, 5, 6]) (hs := [.p, .p, .p, .p]) (rest := []) (ks := [0]) (env' := [(0, .bool (r_1.1 == ([1, 2, 0, 1, 1, 1, 3, 0, 0, 0, 1, 1, 0, 0] : List UInt8)))]) (H' := []) (ps := []) (by kernel_rfl) trivial ?_
    refine GoO.regionEnd ?_
    exact GoO.ret' (h := c20_6e) (hs := []) (ps := []) (hk := []) (bk := []) Try.func20 () (by kernel_rfl) trivial (by kernel_rfl) (by kernel_rfl)
  · refine GoO.exec (is := [3, 4, 5, 6]) (hs := [.p, .p, .p, .p]) (rest := []) (ks := [0]) (env' := [(0, .bool false)]) (H' := []) (ps := []) (by kernel_rfl) trivial ?_
    refine GoO.regionEnd ?_
    exact GoO.ret' (h := c20_6e) (hs := []) (ps := []) (hk := []) (bk := []) Try.func20 () (by kernel_rfl) trivial (by kernel_rfl) (by kernel_rfl)

/-! tontine/pack.From -/
noncomputable def c34_0 : Code := bodyOf Try.f34
noncomputable def c34_1 : Code := cdL c34_0
noncomputable def c34_2 : Code := cdR c34_0
noncomputable def c34_3 : Code := cdL c34_2
noncomputable def c34_4 : Code := cdR c34_2
noncomputable def r34_1 : Array Oper := cdO c34_1
noncomputable def r34_3 : Array Oper := cdO c34_3
theorem c34_0e : c34_0 = .seq c34_1 c34_2 := by kernel_rfl
theorem c34_1e : c34_1 = .region 0 r34_1 false := by kernel_rfl
theorem c34_2e : c34_2 = .seq c34_3 c34_4 := by kernel_rfl
theorem c34_3e : c34_3 = .region 1 r34_3 false := by kernel_rfl
theorem c34_4e : c34_4 = .ret := by kernel_rfl
noncomputable def pack_From.R : Pst T_pack_Reader where
  ε := Nat
  v := fun r x => .pointer (some ⟨x, 0, none⟩)
  H := fun r x => [⟨1, x, [.string (bs r.s), .bool r.bad]⟩]
  B := fun r x => []
noncomputable def pack_From.cx (w0 : World) (S0 : Fam) : Cx T_pack_Reader := ⟨Try.prog, 34, Try.f34, 6, w0, S0, [], 0, pack_From.R⟩
theorem pack_From_ok (n : Nat) (s_1 : (List UInt8)) :
    Meets Try.prog 34 [.string (bs s_1)] 0 [] [] [] (pack_From.f n s_1) (pack_From.R) := by
  refine Meets.of (c := c34_0) (n := 6) Try.func34 (by kernel_rfl) (by kernel_rfl) (by kernel_rfl) fun w0 S0 => ?_
  unfold pack_From.f
  show GoO (pack_From.cx w0 S0) [(0, .string (bs s_1))] [] [] [.code c34_0] _
  refine GoO.seq' c34_0e ?_
  refine GoO.region' (is := [0]) c34_1e (by kernel_rfl) ?_
  refine GoO.exec (is := [0]) (hs := [.p]) (rest := []) (ks := [0]) (env' := [(0, .string (bs s_1))]) (H' := []) (ps := []) (by kernel_rfl) trivial ?_
  refine GoO.regionEnd ?_
  refine GoO.seq' c34_2e ?_
  refine GoO.region' (is := [0, 1, 2, 3]) c34_3e (by kernel_rfl) ?_
  refine GoO.exec (is := [0, 1]) (hs := [.p, .p]) (rest := [2, 3]) (ks := [4]) (env' := [(4, .agg ⟨[.string (bs s_1), .bool false]⟩)]) (H' := []) (ps := []) (by kernel_rfl) trivial ?_
  refine OpTo.go (GoO.new rfl 40 (cs := [.string (bs s_1), .bool false]) (by kernel_rfl) _ (fun _ => rfl) (fun b_2 => ?_))
  refine GoO.exec (is := [3]) (hs := [.p]) (rest := []) (ks := [2]) (env' := [(2, .pointer (some ⟨b_2, 0, none⟩))]) (H' := [⟨40, b_2, [.string (bs s_1), .bool false]⟩]) (ps := []) (by kernel_rfl) trivial ?_
  refine GoO.regionEnd ?_
  refine GoO.retagB (t := 40) (u := 1) (j := 0) (hk := []) (bk := []) rfl rfl rfl rfl rfl rfl (by kernel_rfl) (by kernel_rfl) ?_
  exact GoO.ret' (h := c34_4e) (hs := []) (ps := []) (hk := [0]) (bk := []) Try.func34 b_2 (by kernel_rfl) trivial (by kernel_rfl) (by kernel_rfl)

/-! (*tontine/pack.Reader).fail -/
noncomputable def c59_0 : Code := bodyOf Try.f59
noncomputable def c59_1 : Code := cdL c59_0
noncomputable def c59_2 : Code := cdR c59_0
noncomputable def c59_3 : Code := cdL c59_2
noncomputable def c59_4 : Code := cdL c59_3
noncomputable def c59_5 : Code := cdR c59_3
noncomputable def c59_6 : Code := cdL c59_5
noncomputable def c59_8 : Code := cdR c59_2
noncomputable def c59_9 : Code := cdL c59_8
noncomputable def c59_10 : Code := cdR c59_8
noncomputable def c59_7 : Code := cdR c59_5
noncomputable def r59_1 : Array Oper := cdO c59_1
noncomputable def r59_4 : Array Oper := cdO c59_4
noncomputable def r59_6 : Array Oper := cdO c59_6
noncomputable def r59_9 : Array Oper := cdO c59_9
theorem c59_0e : c59_0 = .seq c59_1 c59_2 := by kernel_rfl
theorem c59_1e : c59_1 = .region 0 r59_1 false := by kernel_rfl
theorem c59_2e : c59_2 = .seq c59_3 c59_8 := by kernel_rfl
theorem c59_3e : c59_3 = .seq c59_4 c59_5 := by kernel_rfl
theorem c59_4e : c59_4 = .region 1 r59_4 false := by kernel_rfl
theorem c59_5e : c59_5 = .cond (cdC c59_5) c59_6 c59_7 := by kernel_rfl
theorem c59_6e : c59_6 = .region 2 r59_6 false := by kernel_rfl
theorem c59_8e : c59_8 = .seq c59_9 c59_10 := by kernel_rfl
theorem c59_9e : c59_9 = .region 3 r59_9 false := by kernel_rfl
theorem c59_10e : c59_10 = .ret := by kernel_rfl
theorem c59_7e : c59_7 = .skip := by kernel_rfl
noncomputable def pack_Reader_fail.R (b_2 : Nat) : Pst (Int × T_pack_Reader) where
  ε := Unit
  v := fun r x => .int .u64 r.1
  H := fun r x => [⟨1, b_2, [.string (bs r.2.s), .bool r.2.bad]⟩]
  B := fun r x => []
noncomputable def pack_Reader_fail.cx (b_2 : Nat) (w0 : World) (S0 : Fam) : Cx (Int × T_pack_Reader) := ⟨Try.prog, 59, Try.f59, 11, w0, S0, [1], 1, pack_Reader_fail.R b_2⟩
theorem pack_Reader_fail_ok (n : Nat) (r_1 : T_pack_Reader) (b_2 : Nat) :
    Meets Try.prog 59 [.pointer (some ⟨b_2, 0, none⟩)] 1 [1] [⟨1, b_2, [.string (bs r_1.s), .bool r_1.bad]⟩] [] (pack_Reader_fail.f n r_1) (pack_Reader_fail.R b_2) := by
  refine Meets.of (c := c59_0) (n := 11) Try.func59 (by kernel_rfl) (by kernel_rfl) (by kernel_rfl) fun w0 S0 => ?_
  unfold pack_Reader_fail.f
  show GoO (pack_Reader_fail.cx b_2 w0 S0) [(0, .pointer (some ⟨b_2, 0, none⟩))] [⟨1, b_2, [.string (bs r_1.s), .bool r_1.bad]⟩] [] [.code c59_0] _
  refine GoO.seq' c59_0e ?_
  refine GoO.region' (is := [0]) c59_1e (by kernel_rfl) ?_
  refine GoO.exec (is := [0]) (hs := [.p]) (rest := []) (ks := [0]) (env' := [(0, .pointer (some ⟨b_2, 0, none⟩))]) (H' := [⟨1, b_2, [.string (bs r_1.s), .bool r_1.bad]⟩]) (ps := []) (by kernel_rfl) trivial ?_
  refine GoO.regionEnd ?_
  refine GoO.seq' c59_2e ?_
  refine GoO.seq' c59_3e ?_
  refine GoO.region' (is := [0, 1]) c59_4e (by kernel_rfl) ?_
  refine GoO.exec (is := [0, 1]) (hs := [.p, .p]) (rest := []) (ks := [0, 4]) (env' := [(0, .pointer (some ⟨b_2, 0, none⟩)), (4, .bool true)]) (H' := [⟨1, b_2, [.string (bs r_1.s), .bool r_1.bad]⟩]) (ps := []) (by kernel_rfl) trivial ?_
  refine GoO.regionEnd ?_
  refine GoO.condT c59_5e (by kernel_rfl) ?_
  refine GoO.region' (is := [0, 1, 2, 3, 4, 5, 6, 7]) c59_6e (by kernel_rfl) ?_
  refine GoO.exec (is := [0, 1, 2, 3, 4, 5, 6, 7]) (hs := [.p, .p, .p, .p, .b 0, .p, .p, .b 0]) (rest := []) (ks := []) (env' := []) (H' := [⟨1, b_2, [.string (bs []), .bool true]⟩]) (ps := [b_2 = b_2, b_2 = b_2]) (by kernel_rfl) (And.intro rfl (And.intro rfl trivial)) ?_
  refine GoO.regionEnd ?_
  refine GoO.seq' c59_8e ?_
  refine GoO.region' (is := [0]) c59_9e (by kernel_rfl) ?_
  refine GoO.exec (is := [0]) (hs := [.p]) (rest := []) (ks := [2]) (env' := [(2, .int .u64 0)]) (H' := [⟨1, b_2, [.string (bs []), .bool true]⟩]) (ps := []) (by kernel_rfl) trivial ?_
  refine GoO.regionEnd ?_
  exact GoO.ret' (h := c59_10e) (hs := []) (ps := []) (hk := [0]) (bk := []) Try.func59 () (by kernel_rfl) trivial (by kernel_rfl) (by kernel_rfl)

/-! (*tontine/pack.Reader).Num -/
noncomputable def c49_0 : Code := bodyOf Try.f49
noncomputable def c49_1 : Code := cdL c49_0
noncomputable def c49_2 : Code := cdR c49_0
noncomputable def c49_3 : Code := cdL c49_2
noncomputable def c49_4 : Code := cdL c49_3
noncomputable def c49_5 : Code := cdR c49_3
noncomputable def c49_6 : Code := cdL c49_5
noncomputable def c49_7 : Code := cdL c49_6
noncomputable def c49_8 : Code := cdR c49_6
noncomputable def c49_9 : Code := cdR c49_5
noncomputable def c49_10 : Code := cdR c49_2
noncomputable def c49_11 : Code := cdL c49_10
noncomputable def c49_12 : Code := cdR c49_10
noncomputable def c49_13 : Code := cdL c49_12
noncomputable def c49_14 : Code := cdL c49_13
noncomputable def c49_15 : Code := cdR c49_13
noncomputable def c49_16 : Code := cdL c49_15
noncomputable def c49_17 : Code := cdL c49_16
noncomputable def c49_18 : Code := cdR c49_16
noncomputable def c49_19 : Code := cdR c49_15
noncomputable def c49_20 : Code := cdR c49_12
noncomputable def c49_21 : Code := cdL c49_20
noncomputable def c49_22 : Code := cdR c49_20
noncomputable def c49_23 : Code := cdL c49_22
noncomputable def c49_24 : Code := cdL c49_23
noncomputable def c49_25 : Code := cdR c49_23
noncomputable def c49_26 : Code := cdL c49_25
noncomputable def c49_27 : Code := cdL c49_26
noncomputable def c49_28 : Code := cdL c49_27
noncomputable def c49_29 : Code := cdL c49_28
noncomputable def c49_30 : Code := cdR c49_28
noncomputable def c49_31 : Code := cdL c49_30
noncomputable def c49_32 : Code := cdR c49_30
noncomputable def c49_33 : Code := cdR c49_27
noncomputable def c49_34 : Code := cdL c49_33
noncomputable def c49_35 : Code := cdL c49_34
noncomputable def c49_36 : Code := cdR c49_33
noncomputable def c49_37 : Code := cdR c49_22
noncomputable def c49_38 : Code := cdL c49_37
noncomputable def c49_39 : Code := cdR c49_37
noncomputable def c49_40 : Code := cdL c49_39
noncomputable def c49_41 : Code := cdR c49_39
noncomputable def r49_1 : Array Oper := cdO c49_1
noncomputable def r49_4 : Array Oper := cdO c49_4
noncomputable def r49_7 : Array Oper := cdO c49_7
noncomputable def r49_11 : Array Oper := cdO c49_11
noncomputable def r49_14 : Array Oper := cdO c49_14
noncomputable def r49_17 : Array Oper := cdO c49_17
noncomputable def r49_21 : Array Oper := cdO c49_21
noncomputable def r49_24 : Array Oper := cdO c49_24
noncomputable def r49_29 : Array Oper := cdO c49_29
noncomputable def r49_35 : Array Oper := cdO c49_35
noncomputable def r49_36 : Array Oper := cdO c49_36
noncomputable def r49_38 : Array Oper := cdO c49_38
noncomputable def r49_40 : Array Oper := cdO c49_40
theorem c49_0e : c49_0 = .seq c49_1 c49_2 := by kernel_rfl
theorem c49_1e : c49_1 = .region 0 r49_1 false := by kernel_rfl
theorem c49_2e : c49_2 = .seq c49_3 c49_10 := by kernel_rfl
theorem c49_3e : c49_3 = .seq c49_4 c49_5 := by kernel_rfl
theorem c49_4e : c49_4 = .region 1 r49_4 false := by kernel_rfl
theorem c49_5e : c49_5 = .cond (cdC c49_5) c49_6 c49_9 := by kernel_rfl
theorem c49_6e : c49_6 = .seq c49_7 c49_8 := by kernel_rfl
theorem c49_7e : c49_7 = .region 2 r49_7 false := by kernel_rfl
theorem c49_8e : c49_8 = .ret := by kernel_rfl
theorem c49_9e : c49_9 = .skip := by kernel_rfl
theorem c49_10e : c49_10 = .seq c49_11 c49_12 := by kernel_rfl
theorem c49_11e : c49_11 = .region 3 r49_11 false := by kernel_rfl
theorem c49_12e : c49_12 = .seq c49_13 c49_20 := by kernel_rfl
theorem c49_13e : c49_13 = .seq c49_14 c49_15 := by kernel_rfl
theorem c49_14e : c49_14 = .region 4 r49_14 false := by kernel_rfl
theorem c49_15e : c49_15 = .cond (cdC c49_15) c49_16 c49_19 := by kernel_rfl
theorem c49_16e : c49_16 = .seq c49_17 c49_18 := by kernel_rfl
theorem c49_17e : c49_17 = .region 5 r49_17 false := by kernel_rfl
theorem c49_18e : c49_18 = .ret := by kernel_rfl
theorem c49_19e : c49_19 = .skip := by kernel_rfl
theorem c49_20e : c49_20 = .seq c49_21 c49_22 := by kernel_rfl
theorem c49_21e : c49_21 = .region 6 r49_21 false := by kernel_rfl
theorem c49_22e : c49_22 = .seq c49_23 c49_37 := by kernel_rfl
theorem c49_23e : c49_23 = .seq c49_24 c49_25 := by kernel_rfl
theorem c49_24e : c49_24 = .region 7 r49_24 false := by kernel_rfl
theorem c49_25e : c49_25 = .block 0 c49_26 := by kernel_rfl
theorem c49_26e : c49_26 = .loop c49_27 := by kernel_rfl
theorem c49_27e : c49_27 = .seq c49_28 c49_33 := by kernel_rfl
theorem c49_28e : c49_28 = .seq c49_29 c49_30 := by kernel_rfl
theorem c49_29e : c49_29 = .region 8 r49_29 false := by kernel_rfl
theorem c49_30e : c49_30 = .cond (cdC c49_30) c49_31 c49_32 := by kernel_rfl
theorem c49_31e : c49_31 = .skip := by kernel_rfl
theorem c49_32e : c49_32 = .exit 0 := by kernel_rfl
theorem c49_33e : c49_33 = .seq c49_34 c49_36 := by kernel_rfl
theorem c49_34e : c49_34 = .block 1 c49_35 := by kernel_rfl
theorem c49_35e : c49_35 = .region 10 r49_35 false := by kernel_rfl
theorem c49_36e : c49_36 = .region 9 r49_36 false := by kernel_rfl
theorem c49_37e : c49_37 = .seq c49_38 c49_39 := by kernel_rfl
theorem c49_38e : c49_38 = .region 11 r49_38 false := by kernel_rfl
theorem c49_39e : c49_39 = .seq c49_40 c49_41 := by kernel_rfl
theorem c49_40e : c49_40 = .region 12 r49_40 false := by kernel_rfl
theorem c49_41e : c49_41 = .ret := by kernel_rfl
noncomputable def pack_Reader_Num.R (b_2 : Nat) : Pst (Int × T_pack_Reader) where
  ε := Unit
  v := fun r x => .int .u64 r.1
  H := fun r x => [⟨1, b_2, [.string (bs r.2.s), .bool r.2.bad]⟩]
  B := fun r x => []
noncomputable def pack_Reader_Num.cx (b_2 : Nat) (w0 : World) (S0 : Fam) : Cx (Int × T_pack_Reader) := ⟨Try.prog, 49, Try.f49, 75, w0, S0, [1], 1, pack_Reader_Num.R b_2⟩
theorem pack_Reader_Num_l0_ok (n : Nat) (r_1 : T_pack_Reader) (b_2 : Nat) (w0 : World) (S0 : Fam) :
    ∀ (k : Nat) (x_15 : Int) (i_16 : Int), GoO (pack_Reader_Num.cx b_2 w0 S0) [(0, .pointer (some ⟨b_2, 0, none⟩)), (3, .int .i64 (wi64 ((rdB r_1.s 0).toNat : Int))), (4, .int .u64 x_15), (5, .int .i64 i_16)] [⟨1, b_2, [.string (bs r_1.s), .bool r_1.bad]⟩] [] [.code c49_27, .inLoop c49_27, .inBlock 0, .code c49_37] (pack_Reader_Num.l0 n r_1 k x_15 i_16) := by
  intro k
  induction k with
  | zero => intros; rw [pack_Reader_Num.l0.eq_1]; exact GoO.stop
  | succ k ih0 =>
    intro x_15 i_16
    rw [pack_Reader_Num.l0.eq_2]
    refine GoO.seq' c49_27e ?_
    refine GoO.seq' c49_28e ?_
    refine GoO.region' (is := [0, 1, 2]) c49_29e (by kernel_rfl) ?_
    refine GoO.exec (is := [0, 1, 2]) (hs := [.p, .p, .p]) (rest := []) (ks := [0, 3, 4, 5, 51]) (env' := [(0, .pointer (some ⟨b_2, 0, none⟩)), (3, .int .i64 (wi64 ((rdB r_1.s 0).toNat : Int))), (4, .int .u64 x_15), (5, .int .i64 i_16), (51, .bool (decide (i_16 ≤ (wi64 ((rdB r_1.s 0).toNat : Int)))))]) (H' := [⟨1, b_2, [.string (bs r_1.s), .bool r_1.bad]⟩]) (ps := []) (by kernel_rfl) trivial ?_
    refine GoO.regionEnd ?_
    refine GoO.ite' c49_30e (by kernel_rfl) (fun h17 => ?_) (fun h17 => ?_)
    · refine GoO.skip' c49_31e ?_
      refine GoO.seq' c49_33e ?_
      refine GoO.block' c49_34e ?_
      refine GoO.region' (is := [0, 1, 2, 3, 4, 5, 6, 7, 8, 9, 10]) c49_35e (by kernel_rfl) ?_
      refine GoO.guard (fun h18 => ?_)
      refine GoO.exec (is := [0, 1, 2, 3, 4, 5, 6, 7, 8, 9, 10]) (hs := [.p, .p, .p, .p, .p, .b 0, .p, .p, .p, .p, .p]) (rest := []) (ks := [0, 3, 4, 5]) (env' := [(0, .pointer (some ⟨b_2, 0, none⟩)), (3, .int .i64 (wi64 ((rdB r_1.s 0).toNat : Int))), (4, .int .u64 (bOr .u64 (shL .u64 x_15 8) (wu64 ((rdB r_1.s i_16).toNat : Int)))), (5, .int .i64 i_16)]) (H' := [⟨1, b_2, [.string (bs r_1.s), .bool r_1.bad]⟩]) (ps := [(0 : Int) ≤ 8, b_2 = b_2, (0 : Int) ≤ i_16, i_16 < (r_1.s.length : Int)]) (by kernel_rfl) (And.intro (by decide) (And.intro rfl (And.intro h18.1 (And.intro h18.2 trivial)))) ?_
      refine GoO.regionEnd ?_
      refine GoO.inBlock ?_
      refine GoO.region' (is := [0, 1, 2]) c49_36e (by kernel_rfl) ?_
      refine GoO.exec (is := [0, 1, 2]) (hs := [.p, .p, .p]) (rest := []) (ks := [0, 3, 4, 5]) (env' := [(0, .pointer (some ⟨b_2, 0, none⟩)), (3, .int .i64 (wi64 ((rdB r_1.s 0).toNat : Int))), (4, .int .u64 (bOr .u64 (shL .u64 x_15 8) (wu64 ((rdB r_1.s i_16).toNat : Int)))), (5, .int .i64 (wi64 (i_16 + 1)))]) (H' := [⟨1, b_2, [.string (bs r_1.s), .bool r_1.bad]⟩]) (ps := []) (by kernel_rfl) trivial ?_
      refine GoO.regionEnd ?_
      refine GoO.inLoop ?_
      exact GoO.sub (ks := [0, 3, 4, 5]) (hk := [0]) (bk := []) (by kernel_rfl) (by kernel_rfl) (by kernel_rfl) (ih0 (bOr .u64 (shL .u64 x_15 8) (wu64 ((rdB r_1.s i_16).toNat : Int))) (wi64 (i_16 + 1)))
    · refine GoO.exit' c49_32e rfl ?_
      refine GoO.seq' c49_37e ?_
      refine GoO.region' (is := [0, 1, 2, 3, 4, 5, 6, 7, 8, 9, 10]) c49_38e (by kernel_rfl) ?_
      refine GoO.guard (fun h19 => ?_)
      refine GoO.exec (is := [0, 1, 2, 3, 4, 5, 6, 7, 8, 9, 10]) (hs := [.p, .p, .p, .p, .b 0, .p, .p, .p, .p, .p, .b 0]) (rest := []) (ks := [4]) (env' := [(4, .int .u64 x_15)]) (H' := [⟨1, b_2, [.string (bs (r_1.s.drop (wi64 ((wi64 ((rdB r_1.s 0).toNat : Int)) + 1)).toNat)), .bool r_1.bad]⟩]) (ps := [b_2 = b_2, (0 : Int) ≤ (wi64 ((wi64 ((rdB r_1.s 0).toNat : Int)) + 1)), (wi64 ((wi64 ((rdB r_1.s 0).toNat : Int)) + 1)) ≤ (r_1.s.length : Int), b_2 = b_2]) (by kernel_rfl) (And.intro rfl (And.intro h19.1 (And.intro h19.2 (And.intro rfl trivial)))) ?_
      refine GoO.regionEnd ?_
      refine GoO.seq' c49_39e ?_
      refine GoO.region' (is := [0, 1]) c49_40e (by kernel_rfl) ?_
      refine GoO.exec (is := [0, 1]) (hs := [.p, .p]) (rest := []) (ks := [2]) (env' := [(2, .int .u64 x_15)]) (H' := [⟨1, b_2, [.string (bs (r_1.s.drop (wi64 ((wi64 ((rdB r_1.s 0).toNat : Int)) + 1)).toNat)), .bool r_1.bad]⟩]) (ps := []) (by kernel_rfl) trivial ?_
      refine GoO.regionEnd ?_
      exact GoO.ret' (h := c49_41e) (hs := []) (ps := []) (hk := [0]) (bk := []) Try.func49 () (by kernel_rfl) trivial (by kernel_rfl) (by kernel_rfl)
theorem pack_Reader_Num_j0_ok (n : Nat) (r_1 : T_pack_Reader) (b_2 : Nat) (w0 : World) (S0 : Fam) (b_11 : Bool) :
    GoO (pack_Reader_Num.cx b_2 w0 S0) [(0, .pointer (some ⟨b_2, 0, none⟩)), (3, .int .i64 (wi64 ((rdB r_1.s 0).toNat : Int))), (46, .bool b_11)] [⟨1, b_2, [.string (bs r_1.s), .bool r_1.bad]⟩] [] [.code c49_15, .code c49_20] (pack_Reader_Num.j0 n r_1 b_11) := by
  unfold pack_Reader_Num.j0
  refine GoO.ite' c49_15e (by kernel_rfl) (fun h12 => ?_) (fun h12 => ?_)
  · refine GoO.seq' c49_16e ?_
    refine GoO.region' (is := [0, 1, 2]) c49_17e (by kernel_rfl) ?_
    refine GoO.exec (is := [0]) (hs := [.p]) (rest := [1, 2]) (ks := [47]) (env' := [(47, .pointer (some ⟨b_2, 0, none⟩))]) (H' := [⟨1, b_2, [.string (bs r_1.s), .bool r_1.bad]⟩]) (ps := []) (by kernel_rfl) trivial ?_
    refine OpTo.go (GoO.call rfl (by kernel_rfl) (by kernel_rfl) (pack_Reader_fail_ok n r_1 b_2) [[0], [1]] [(1, 1)] [(1, 0)] [] (hks := []) (bks := []) (by kernel_rfl) (by kernel_rfl) (by kernel_rfl) (.inl rfl) rfl rfl (by kernel_rfl) (by kernel_rfl) _ (fun _ _ => rfl) _ _ (fun _ _ => rfl) (fun _ _ => rfl) (fun _ _ => by kernel_rfl) (fun _ _ => by kernel_rfl) (fun r_13 x_14 => ?_))
    refine GoO.shape (env' := [(47, .pointer (some ⟨b_2, 0, none⟩)), (48, .int .u64 r_13.1)]) (H' := [⟨1, b_2, [.string (bs r_13.2.s), .bool r_13.2.bad]⟩]) (B' := []) (ks := [47, 48]) (by kernel_rfl) (by kernel_rfl) (by kernel_rfl) ?_
    refine GoO.exec (is := [2]) (hs := [.p]) (rest := []) (ks := [2]) (env' := [(2, .int .u64 r_13.1)]) (H' := [⟨1, b_2, [.string (bs r_13.2.s), .bool r_13.2.bad]⟩]) (ps := []) (by kernel_rfl) trivial ?_
    refine GoO.regionEnd ?_
    exact GoO.ret' (h := c49_18e) (hs := []) (ps := []) (hk := [0]) (bk := []) Try.func49 () (by kernel_rfl) trivial (by kernel_rfl) (by kernel_rfl)
  · refine GoO.skip' c49_19e ?_
    refine GoO.seq' c49_20e ?_
    refine GoO.region' (is := [0]) c49_21e (by kernel_rfl) ?_
    refine GoO.exec (is := [0]) (hs := [.p]) (rest := []) (ks := [0, 3, 4]) (env' := [(0, .pointer (some ⟨b_2, 0, none⟩)), (3, .int .i64 (wi64 ((rdB r_1.s 0).toNat : Int))), (4, .int .u64 0)]) (H' := [⟨1, b_2, [.string (bs r_1.s), .bool r_1.bad]⟩]) (ps := []) (by kernel_rfl) trivial ?_
    refine GoO.regionEnd ?_
    refine GoO.seq' c49_22e ?_
    refine GoO.seq' c49_23e ?_
    refine GoO.region' (is := [0]) c49_24e (by kernel_rfl) ?_
    refine GoO.exec (is := [0]) (hs := [.p]) (rest := []) (ks := [0, 3, 4, 5]) (env' := [(0, .pointer (some ⟨b_2, 0, none⟩)), (3, .int .i64 (wi64 ((rdB r_1.s 0).toNat : Int))), (4, .int .u64 0), (5, .int .i64 1)]) (H' := [⟨1, b_2, [.string (bs r_1.s), .bool r_1.bad]⟩]) (ps := []) (by kernel_rfl) trivial ?_
    refine GoO.regionEnd ?_
    refine GoO.block' c49_25e ?_
    refine GoO.loop' c49_26e ?_
    exact GoO.sub (ks := [0, 3, 4, 5]) (hk := [0]) (bk := []) (by kernel_rfl) (by kernel_rfl) (by kernel_rfl) (pack_Reader_Num_l0_ok n r_1 b_2 w0 S0 n 0 1)
theorem pack_Reader_Num_ok (n : Nat) (r_1 : T_pack_Reader) (b_2 : Nat) :
    Meets Try.prog 49 [.pointer (some ⟨b_2, 0, none⟩)] 1 [1] [⟨1, b_2, [.string (bs r_1.s), .bool r_1.bad]⟩] [] (pack_Reader_Num.f n r_1) (pack_Reader_Num.R b_2) := by
  refine Meets.of (c := c49_0) (n := 75) Try.func49 (by kernel_rfl) (by kernel_rfl) (by kernel_rfl) fun w0 S0 => ?_
  unfold pack_Reader_Num.f
  show GoO (pack_Reader_Num.cx b_2 w0 S0) [(0, .pointer (some ⟨b_2, 0, none⟩))] [⟨1, b_2, [.string (bs r_1.s), .bool r_1.bad]⟩] [] [.code c49_0] _
  refine GoO.seq' c49_0e ?_
  refine GoO.region' (is := [0]) c49_1e (by kernel_rfl) ?_
  refine GoO.exec (is := [0]) (hs := [.p]) (rest := []) (ks := [0]) (env' := [(0, .pointer (some ⟨b_2, 0, none⟩))]) (H' := [⟨1, b_2, [.string (bs r_1.s), .bool r_1.bad]⟩]) (ps := []) (by kernel_rfl) trivial ?_
  refine GoO.regionEnd ?_
  refine GoO.seq' c49_2e ?_
  refine GoO.seq' c49_3e ?_
  refine GoO.region' (is := [0, 1, 2, 3, 4, 5, 6, 7, 8]) c49_4e (by kernel_rfl) ?_
  refine GoO.exec (is := [0, 1, 2, 3, 4, 5, 6, 7, 8]) (hs := [.p, .p, .p, .p, .p, .p, .b 0, .p, .p]) (rest := []) (ks := [0, 14]) (env' := [(0, .pointer (some ⟨b_2, 0, none⟩)), (14, .bool (r_1.s == ([] : List UInt8)))]) (H' := [⟨1, b_2, [.string (bs r_1.s), .bool r_1.bad]⟩]) (ps := [b_2 = b_2]) (by kernel_rfl) (And.intro rfl trivial) ?_
  refine GoO.regionEnd ?_
  refine GoO.ite' c49_5e (by kernel_rfl) (fun h3 => ?_) (fun h3 => ?_)
  · refine GoO.seq' c49_6e ?_
    refine GoO.region' (is := [0, 1, 2]) c49_7e (by kernel_rfl) ?_
    refine GoO.exec (is := [0]) (hs := [.p]) (rest := [1, 2]) (ks := [15]) (env' := [(15, .pointer (some ⟨b_2, 0, none⟩))]) (H' := [⟨1, b_2, [.string (bs r_1.s), .bool r_1.bad]⟩]) (ps := []) (by kernel_rfl) trivial ?_
    refine OpTo.go (GoO.call rfl (by kernel_rfl) (by kernel_rfl) (pack_Reader_fail_ok n r_1 b_2) [[0], [1]] [(1, 1)] [(1, 0)] [] (hks := []) (bks := []) (by kernel_rfl) (by kernel_rfl) (by kernel_rfl) (.inl rfl) rfl rfl (by kernel_rfl) (by kernel_rfl) _ (fun _ _ => rfl) _ _ (fun _ _ => rfl) (fun _ _ => rfl) (fun _ _ => by kernel_rfl) (fun _ _ => by kernel_rfl) (fun r_4 x_5 => ?_))
    refine GoO.shape (env' := [(15, .pointer (some ⟨b_2, 0, none⟩)), (16, .int .u64 r_4.1)]) (H' := [⟨1, b_2, [.string (bs r_4.2.s), .bool r_4.2.bad]⟩]) (B' := []) (ks := [15, 16]) (by kernel_rfl) (by kernel_rfl) (by kernel_rfl) ?_
    refine GoO.exec (is := [2]) (hs := [.p]) (rest := []) (ks := [2]) (env' := [(2, .int .u64 r_4.1)]) (H' := [⟨1, b_2, [.string (bs r_4.2.s), .bool r_4.2.bad]⟩]) (ps := []) (by kernel_rfl) trivial ?_
    refine GoO.regionEnd ?_
    exact GoO.ret' (h := c49_8e) (hs := []) (ps := []) (hk := [0]) (bk := []) Try.func49 () (by kernel_rfl) trivial (by kernel_rfl) (by kernel_rfl)
  · refine GoO.skip' c49_9e ?_
    refine GoO.seq' c49_10e ?_
    refine GoO.region' (is := [0, 1, 2, 3, 4, 5, 6]) c49_11e (by kernel_rfl) ?_
    refine GoO.guard (fun h6 => ?_)
    refine GoO.exec (is := [0, 1, 2, 3, 4, 5, 6]) (hs := [.p, .p, .p, .b 0, .p, .p, .p]) (rest := []) (ks := [0, 3]) (env' := [(0, .pointer (some ⟨b_2, 0, none⟩)), (3, .int .i64 (wi64 ((rdB r_1.s 0).toNat : Int)))]) (H' := [⟨1, b_2, [.string (bs r_1.s), .bool r_1.bad]⟩]) (ps := [b_2 = b_2, (0 : Int) ≤ 0, 0 < (r_1.s.length : Int)]) (by kernel_rfl) (And.intro rfl (And.intro h6.1 (And.intro h6.2 trivial))) ?_
    refine GoO.regionEnd ?_
    refine GoO.seq' c49_12e ?_
    refine GoO.seq' c49_13e ?_
    refine GoO.region' (is := [0, 1, 2, 3, 4, 5, 6, 7, 8, 9, 10, 11, 12, 13, 14, 15, 16, 17, 18, 19, 20, 21, 22, 23]) c49_14e (by kernel_rfl) ?_
    refine GoO.exec (is := [0, 1, 2]) (hs := [.p, .p, .p]) (rest := [3, 4, 5, 6, 7, 8, 9, 10, 11, 12, 13, 14, 15, 16, 17, 18, 19, 20, 21, 22, 23]) (ks := [0, 3, 25]) (env' := [(0, .pointer (some ⟨b_2, 0, none⟩)), (3, .int .i64 (wi64 ((rdB r_1.s 0).toNat : Int))), (25, .bool (decide ((wi64 ((rdB r_1.s 0).toNat : Int)) > 8)))]) (H' := [⟨1, b_2, [.string (bs r_1.s), .bool r_1.bad]⟩]) (ps := []) (by kernel_rfl) trivial ?_
    refine GoO.bsplit (t := 25) (by kernel_rfl) (fun h7 => ?_) (fun h7 => ?_)
    · refine GoO.exec (is := [3, 4, 5, 6, 7, 8, 9, 10, 11, 12, 13, 14, 15, 16, 17, 18, 19, 20, 21, 22, 23]) (hs := [.p, .p, .p, .p, .p, .p, .p, .p, .p, .p, .p, .p, .p, .p, .p, .p, .p, .p, .p, .p, .p]) (rest := []) (ks := [0, 3, 46]) (env' := [(0, .pointer (some ⟨b_2, 0, none⟩)), (3, .int .i64 (wi64 ((rdB r_1.s 0).toNat : Int))), (46, .bool true)]) (H' := [⟨1, b_2, [.string (bs r_1.s), .bool r_1.bad]⟩]) (ps := []) (by kernel_rfl) trivial ?_
      refine GoO.regionEnd ?_
      exact GoO.sub (ks := [0, 3, 46]) (hk := [0]) (bk := []) (by kernel_rfl) (by kernel_rfl) (by kernel_rfl) (pack_Reader_Num_j0_ok n r_1 b_2 w0 S0 true)
    · refine GoO.exec (is := [3, 4, 5, 6, 7, 8, 9, 10, 11, 12]) (hs := [.p, .p, .p, .p, .b 0, .p, .p, .p, .p, .p]) (rest := [13, 14, 15, 16, 17, 18, 19, 20, 21, 22, 23]) (ks := [0, 3, 35]) (env' := [(0, .pointer (some ⟨b_2, 0, none⟩)), (3, .int .i64 (wi64 ((rdB r_1.s 0).toNat : Int))), (35, .bool (decide ((wi64 ((rdB r_1.s 0).toNat : Int)) > (wi64 ((r_1.s.length : Int) - 1)))))]) (H' := [⟨1, b_2, [.string (bs r_1.s), .bool r_1.bad]⟩]) (ps := [b_2 = b_2]) (by kernel_rfl) (And.intro rfl trivial) ?_
      refine GoO.bsplit (t := 35) (by kernel_rfl) (fun h8 => ?_) (fun h8 => ?_)
      · refine GoO.exec (is := [13, 14, 15, 16, 17, 18, 19, 20, 21, 22, 23]) (hs := [.p, .p, .p, .p, .p, .p, .p, .p, .p, .p, .p]) (rest := []) (ks := [0, 3, 46]) (env' := [(0, .pointer (some ⟨b_2, 0, none⟩)), (3, .int .i64 (wi64 ((rdB r_1.s 0).toNat : Int))), (46, .bool true)]) (H' := [⟨1, b_2, [.string (bs r_1.s), .bool r_1.bad]⟩]) (ps := []) (by kernel_rfl) trivial ?_
        refine GoO.regionEnd ?_
        exact GoO.sub (ks := [0, 3, 46]) (hk := [0]) (bk := []) (by kernel_rfl) (by kernel_rfl) (by kernel_rfl) (pack_Reader_Num_j0_ok n r_1 b_2 w0 S0 true)
      · refine GoO.exec (is := [13, 14, 15]) (hs := [.p, .p, .p]) (rest := [16, 17, 18, 19, 20, 21, 22, 23]) (ks := [0, 3, 35, 38]) (env' := [(0, .pointer (some ⟨b_2, 0, none⟩)), (3, .int .i64 (wi64 ((rdB r_1.s 0).toNat : Int))), (35, .bool false), (38, .bool (decide ((wi64 ((rdB r_1.s 0).toNat : Int)) > 0)))]) (H' := [⟨1, b_2, [.string (bs r_1.s), .bool r_1.bad]⟩]) (ps := []) (by kernel_rfl) trivial ?_
        refine GoO.bsplit (t := 38) (by kernel_rfl) (fun h9 => ?_) (fun h9 => ?_)
        · refine GoO.guard (fun h10 => ?_)
          refine GoO.exec (is := [16, 17, 18, 19, 20, 21, 22, 23]) (hs := [.p, .p, .p, .b 0, .p, .p, .p, .p]) (rest := []) (ks := [0, 3, 46]) (env' := [(0, .pointer (some ⟨b_2, 0, none⟩)), (3, .int .i64 (wi64 ((rdB r_1.s 0).toNat : Int))), (46, .bool (((rdB r_1.s 1).toNat : Int) == 0))]) (H' := [⟨1, b_2, [.string (bs r_1.s), .bool r_1.bad]⟩]) (ps := [b_2 = b_2, (0 : Int) ≤ 1, 1 < (r_1.s.length : Int)]) (by kernel_rfl) (And.intro rfl (And.intro h10.1 (And.intro h10.2 trivial))) ?_
          refine GoO.regionEnd ?_
          exact GoO.sub (ks := [0, 3, 46]) (hk := [0]) (bk := []) (by kernel_rfl) (by kernel_rfl) (by kernel_rfl) (pack_Reader_Num_j0_ok n r_1 b_2 w0 S0 (((rdB r_1.s 1).toNat : Int) == 0))
        · refine GoO.exec (is := [16, 17, 18, 19, 20, 21, 22, 23]) (hs := [.p, .p, .p, .p, .p, .p, .p, .p]) (rest := []) (ks := [0, 3, 46]) (env' := [(0, .pointer (some ⟨b_2, 0, none⟩)), (3, .int .i64 (wi64 ((rdB r_1.s 0).toNat : Int))), (46, .bool false)]) (H' := [⟨1, b_2, [.string (bs r_1.s), .bool r_1.bad]⟩]) (ps := []) (by kernel_rfl) trivial ?_
          refine GoO.regionEnd ?_
          exact GoO.sub (ks := [0, 3, 46]) (hk := [0]) (bk := []) (by kernel_rfl) (by kernel_rfl) (by kernel_rfl) (pack_Reader_Num_j0_ok n r_1 b_2 w0 S0 false)

/-! (*tontine/pack.Reader).Up -/
noncomputable def c48_0 : Code := bodyOf Try.f48
noncomputable def c48_1 : Code := cdL c48_0
noncomputable def c48_2 : Code := cdR c48_0
noncomputable def c48_3 : Code := cdL c48_2
noncomputable def c48_4 : Code := cdR c48_2
noncomputable def c48_5 : Code := cdL c48_4
noncomputable def c48_6 : Code := cdL c48_5
noncomputable def c48_7 : Code := cdR c48_5
noncomputable def c48_8 : Code := cdL c48_7
noncomputable def c48_9 : Code := cdL c48_8
noncomputable def c48_10 : Code := cdR c48_8
noncomputable def c48_11 : Code := cdR c48_7
noncomputable def c48_12 : Code := cdR c48_4
noncomputable def c48_13 : Code := cdL c48_12
noncomputable def c48_14 : Code := cdR c48_12
noncomputable def r48_1 : Array Oper := cdO c48_1
noncomputable def r48_3 : Array Oper := cdO c48_3
noncomputable def r48_6 : Array Oper := cdO c48_6
noncomputable def r48_9 : Array Oper := cdO c48_9
noncomputable def r48_13 : Array Oper := cdO c48_13
theorem c48_0e : c48_0 = .seq c48_1 c48_2 := by kernel_rfl
theorem c48_1e : c48_1 = .region 0 r48_1 false := by kernel_rfl
theorem c48_2e : c48_2 = .seq c48_3 c48_4 := by kernel_rfl
theorem c48_3e : c48_3 = .region 1 r48_3 false := by kernel_rfl
theorem c48_4e : c48_4 = .seq c48_5 c48_12 := by kernel_rfl
theorem c48_5e : c48_5 = .seq c48_6 c48_7 := by kernel_rfl
theorem c48_6e : c48_6 = .region 2 r48_6 false := by kernel_rfl
theorem c48_7e : c48_7 = .cond (cdC c48_7) c48_8 c48_11 := by kernel_rfl
theorem c48_8e : c48_8 = .seq c48_9 c48_10 := by kernel_rfl
theorem c48_9e : c48_9 = .region 3 r48_9 false := by kernel_rfl
theorem c48_10e : c48_10 = .ret := by kernel_rfl
theorem c48_11e : c48_11 = .skip := by kernel_rfl
theorem c48_12e : c48_12 = .seq c48_13 c48_14 := by kernel_rfl
theorem c48_13e : c48_13 = .region 4 r48_13 false := by kernel_rfl
theorem c48_14e : c48_14 = .ret := by kernel_rfl
noncomputable def pack_Reader_Up.R (b_2 : Nat) : Pst (Int × T_pack_Reader) where
  ε := Unit
  v := fun r x => .int .i64 r.1
  H := fun r x => [⟨1, b_2, [.string (bs r.2.s), .bool r.2.bad]⟩]
  B := fun r x => []
noncomputable def pack_Reader_Up.cx (b_2 : Nat) (w0 : World) (S0 : Fam) : Cx (Int × T_pack_Reader) := ⟨Try.prog, 48, Try.f48, 21, w0, S0, [1], 1, pack_Reader_Up.R b_2⟩
theorem pack_Reader_Up_j0_ok (n : Nat) (r_4 : Int × T_pack_Reader) (b_2 : Nat) (w0 : World) (S0 : Fam) (b_6 : Bool) :
    GoO (pack_Reader_Up.cx b_2 w0 S0) [(0, .pointer (some ⟨b_2, 0, none⟩)), (5, .int .u64 r_4.1), (15, .bool b_6)] [⟨1, b_2, [.string (bs r_4.2.s), .bool r_4.2.bad]⟩] [] [.code c48_7, .code c48_12] (pack_Reader_Up.j0 n r_4 b_6) := by
  unfold pack_Reader_Up.j0
  refine GoO.ite' c48_7e (by kernel_rfl) (fun h7 => ?_) (fun h7 => ?_)
  · refine GoO.seq' c48_8e ?_
    refine GoO.region' (is := [0, 1, 2, 3]) c48_9e (by kernel_rfl) ?_
    refine GoO.exec (is := [0]) (hs := [.p]) (rest := [1, 2, 3]) (ks := [16]) (env' := [(16, .pointer (some ⟨b_2, 0, none⟩))]) (H' := [⟨1, b_2, [.string (bs r_4.2.s), .bool r_4.2.bad]⟩]) (ps := []) (by kernel_rfl) trivial ?_
    refine OpTo.go (GoO.call rfl (by kernel_rfl) (by kernel_rfl) (pack_Reader_fail_ok n r_4.2 b_2) [[0], [1]] [(1, 1)] [(1, 0)] [] (hks := []) (bks := []) (by kernel_rfl) (by kernel_rfl) (by kernel_rfl) (.inl rfl) rfl rfl (by kernel_rfl) (by kernel_rfl) _ (fun _ _ => rfl) _ _ (fun _ _ => rfl) (fun _ _ => rfl) (fun _ _ => by kernel_rfl) (fun _ _ => by kernel_rfl) (fun r_8 x_9 => ?_))
    refine GoO.shape (env' := [(16, .pointer (some ⟨b_2, 0, none⟩)), (17, .int .u64 r_8.1)]) (H' := [⟨1, b_2, [.string (bs r_8.2.s), .bool r_8.2.bad]⟩]) (B' := []) (ks := [16, 17]) (by kernel_rfl) (by kernel_rfl) (by kernel_rfl) ?_
    refine GoO.exec (is := [2, 3]) (hs := [.p, .p]) (rest := []) (ks := [4]) (env' := [(4, .int .i64 (wi64 r_8.1))]) (H' := [⟨1, b_2, [.string (bs r_8.2.s), .bool r_8.2.bad]⟩]) (ps := []) (by kernel_rfl) trivial ?_
    refine GoO.regionEnd ?_
    exact GoO.ret' (h := c48_10e) (hs := []) (ps := []) (hk := [0]) (bk := []) Try.func48 () (by kernel_rfl) trivial (by kernel_rfl) (by kernel_rfl)
  · refine GoO.skip' c48_11e ?_
    refine GoO.seq' c48_12e ?_
    refine GoO.region' (is := [0, 1, 2]) c48_13e (by kernel_rfl) ?_
    refine GoO.exec (is := [0, 1, 2]) (hs := [.p, .p, .p]) (rest := []) (ks := [4]) (env' := [(4, .int .i64 (wi64 r_4.1))]) (H' := [⟨1, b_2, [.string (bs r_4.2.s), .bool r_4.2.bad]⟩]) (ps := []) (by kernel_rfl) trivial ?_
    refine GoO.regionEnd ?_
    exact GoO.ret' (h := c48_14e) (hs := []) (ps := []) (hk := [0]) (bk := []) Try.func48 () (by kernel_rfl) trivial (by kernel_rfl) (by kernel_rfl)
theorem pack_Reader_Up_ok (n : Nat) (r_1 : T_pack_Reader) (limit_3 : Int) (b_2 : Nat) :
    Meets Try.prog 48 [.pointer (some ⟨b_2, 0, none⟩), .int .i64 limit_3] 1 [1] [⟨1, b_2, [.string (bs r_1.s), .bool r_1.bad]⟩] [] (pack_Reader_Up.f n r_1 limit_3) (pack_Reader_Up.R b_2) := by
  refine Meets.of (c := c48_0) (n := 21) Try.func48 (by kernel_rfl) (by kernel_rfl) (by kernel_rfl) fun w0 S0 => ?_
  unfold pack_Reader_Up.f
  show GoO (pack_Reader_Up.cx b_2 w0 S0) [(0, .pointer (some ⟨b_2, 0, none⟩)), (1, .int .i64 limit_3)] [⟨1, b_2, [.string (bs r_1.s), .bool r_1.bad]⟩] [] [.code c48_0] _
  refine GoO.seq' c48_0e ?_
  refine GoO.region' (is := [0]) c48_1e (by kernel_rfl) ?_
  refine GoO.exec (is := [0]) (hs := [.p]) (rest := []) (ks := [0, 1]) (env' := [(0, .pointer (some ⟨b_2, 0, none⟩)), (1, .int .i64 limit_3)]) (H' := [⟨1, b_2, [.string (bs r_1.s), .bool r_1.bad]⟩]) (ps := []) (by kernel_rfl) trivial ?_
  refine GoO.regionEnd ?_
  refine GoO.seq' c48_2e ?_
  refine GoO.region' (is := [0, 1, 2]) c48_3e (by kernel_rfl) ?_
  refine GoO.exec (is := [0]) (hs := [.p]) (rest := [1, 2]) (ks := [0, 1, 6]) (env' := [(0, .pointer (some ⟨b_2, 0, none⟩)), (1, .int .i64 limit_3), (6, .pointer (some ⟨b_2, 0, none⟩))]) (H' := [⟨1, b_2, [.string (bs r_1.s), .bool r_1.bad]⟩]) (ps := []) (by kernel_rfl) trivial ?_
  refine OpTo.go (GoO.call rfl (by kernel_rfl) (by kernel_rfl) (pack_Reader_Num_ok n r_1 b_2) [[0], [1]] [(1, 1)] [(1, 0)] [] (hks := []) (bks := []) (by kernel_rfl) (by kernel_rfl) (by kernel_rfl) (.inl rfl) rfl rfl (by kernel_rfl) (by kernel_rfl) _ (fun _ _ => rfl) _ _ (fun _ _ => rfl) (fun _ _ => rfl) (fun _ _ => by kernel_rfl) (fun _ _ => by kernel_rfl) (fun r_4 x_10 => ?_))
  refine GoO.shape (env' := [(0, .pointer (some ⟨b_2, 0, none⟩)), (1, .int .i64 limit_3), (6, .pointer (some ⟨b_2, 0, none⟩)), (7, .int .u64 r_4.1)]) (H' := [⟨1, b_2, [.string (bs r_4.2.s), .bool r_4.2.bad]⟩]) (B' := []) (ks := [0, 1, 6, 7]) (by kernel_rfl) (by kernel_rfl) (by kernel_rfl) ?_
  refine GoO.exec (is := [2]) (hs := [.p]) (rest := []) (ks := [0, 1, 5]) (env' := [(0, .pointer (some ⟨b_2, 0, none⟩)), (1, .int .i64 limit_3), (5, .int .u64 r_4.1)]) (H' := [⟨1, b_2, [.string (bs r_4.2.s), .bool r_4.2.bad]⟩]) (ps := []) (by kernel_rfl) trivial ?_
  refine GoO.regionEnd ?_
  refine GoO.seq' c48_4e ?_
  refine GoO.seq' c48_5e ?_
  refine GoO.region' (is := [0, 1, 2, 3, 4, 5, 6, 7]) c48_6e (by kernel_rfl) ?_
  refine GoO.exec (is := [0, 1, 2]) (hs := [.p, .p, .p]) (rest := [3, 4, 5, 6, 7]) (ks := [0, 1, 5, 10]) (env' := [(0, .pointer (some ⟨b_2, 0, none⟩)), (1, .int .i64 limit_3), (5, .int .u64 r_4.1), (10, .bool (decide (limit_3 < 0)))]) (H' := [⟨1, b_2, [.string (bs r_4.2.s), .bool r_4.2.bad]⟩]) (ps := []) (by kernel_rfl) trivial ?_
  refine GoO.bsplit (t := 10) (by kernel_rfl) (fun h5 => ?_) (fun h5 => ?_)
  · refine GoO.exec (is := [3, 4, 5, 6, 7]) (hs := [.p, .p, .p, .p, .p]) (rest := []) (ks := [0, 5, 15]) (env' := [(0, .pointer (some ⟨b_2, 0, none⟩)), (5, .int .u64 r_4.1), (15, .bool true)]) (H' := [⟨1, b_2, [.string (bs r_4.2.s), .bool r_4.2.bad]⟩]) (ps := []) (by kernel_rfl) trivial ?_
    refine GoO.regionEnd ?_
    exact GoO.sub (ks := [0, 5, 15]) (hk := [0]) (bk := []) (by kernel_rfl) (by kernel_rfl) (by kernel_rfl) (pack_Reader_Up_j0_ok n r_4 b_2 w0 S0 true)
  · refine GoO.exec (is := [3, 4, 5, 6, 7]) (hs := [.p, .p, .p, .p, .p]) (rest := []) (ks := [0, 5, 15]) (env' := [(0, .pointer (some ⟨b_2, 0, none⟩)), (5, .int .u64 r_4.1), (15, .bool (decide (r_4.1 > (wu64 limit_3))))]) (H' := [⟨1, b_2, [.string (bs r_4.2.s), .bool r_4.2.bad]⟩]) (ps := []) (by kernel_rfl) trivial ?_
    refine GoO.regionEnd ?_
    exact GoO.sub (ks := [0, 5, 15]) (hk := [0]) (bk := []) (by kernel_rfl) (by kernel_rfl) (by kernel_rfl) (pack_Reader_Up_j0_ok n r_4 b_2 w0 S0 (decide (r_4.1 > (wu64 limit_3))))

/-! (*tontine/pack.Reader).Bool -/
noncomputable def c50_0 : Code := bodyOf Try.f50
noncomputable def c50_1 : Code := cdL c50_0
noncomputable def c50_2 : Code := cdR c50_0
noncomputable def c50_3 : Code := cdL c50_2
noncomputable def c50_4 : Code := cdR c50_2
noncomputable def r50_1 : Array Oper := cdO c50_1
noncomputable def r50_3 : Array Oper := cdO c50_3
theorem c50_0e : c50_0 = .seq c50_1 c50_2 := by kernel_rfl
theorem c50_1e : c50_1 = .region 0 r50_1 false := by kernel_rfl
theorem c50_2e : c50_2 = .seq c50_3 c50_4 := by kernel_rfl
theorem c50_3e : c50_3 = .region 1 r50_3 false := by kernel_rfl
theorem c50_4e : c50_4 = .ret := by kernel_rfl
noncomputable def pack_Reader_Bool.R (b_2 : Nat) : Pst (Bool × T_pack_Reader) where
  ε := Unit
  v := fun r x => .bool r.1
  H := fun r x => [⟨1, b_2, [.string (bs r.2.s), .bool r.2.bad]⟩]
  B := fun r x => []
noncomputable def pack_Reader_Bool.cx (b_2 : Nat) (w0 : World) (S0 : Fam) : Cx (Bool × T_pack_Reader) := ⟨Try.prog, 50, Try.f50, 6, w0, S0, [1], 1, pack_Reader_Bool.R b_2⟩
theorem pack_Reader_Bool_ok (n : Nat) (r_1 : T_pack_Reader) (b_2 : Nat) :
    Meets Try.prog 50 [.pointer (some ⟨b_2, 0, none⟩)] 1 [1] [⟨1, b_2, [.string (bs r_1.s), .bool r_1.bad]⟩] [] (pack_Reader_Bool.f n r_1) (pack_Reader_Bool.R b_2) := by
  refine Meets.of (c := c50_0) (n := 6) Try.func50 (by kernel_rfl) (by kernel_rfl) (by kernel_rfl) fun w0 S0 => ?_
  unfold pack_Reader_Bool.f
  show GoO (pack_Reader_Bool.cx b_2 w0 S0) [(0, .pointer (some ⟨b_2, 0, none⟩))] [⟨1, b_2, [.string (bs r_1.s), .bool r_1.bad]⟩] [] [.code c50_0] _
  refine GoO.seq' c50_0e ?_
  refine GoO.region' (is := [0]) c50_1e (by kernel_rfl) ?_
  refine GoO.exec (is := [0]) (hs := [.p]) (rest := []) (ks := [0]) (env' := [(0, .pointer (some ⟨b_2, 0, none⟩))]) (H' := [⟨1, b_2, [.string (bs r_1.s), .bool r_1.bad]⟩]) (ps := []) (by kernel_rfl) trivial ?_
  refine GoO.regionEnd ?_
  refine GoO.seq' c50_2e ?_
  refine GoO.region' (is := [0, 1, 2, 3]) c50_3e (by kernel_rfl) ?_
  refine GoO.exec (is := [0]) (hs := [.p]) (rest := [1, 2, 3]) (ks := [3]) (env' := [(3, .pointer (some ⟨b_2, 0, none⟩))]) (H' := [⟨1, b_2, [.string (bs r_1.s), .bool r_1.bad]⟩]) (ps := []) (by kernel_rfl) trivial ?_
  refine OpTo.go (GoO.call rfl (by kernel_rfl) (by kernel_rfl) (pack_Reader_Up_ok n r_1 1 b_2) [[0], [1]] [(1, 1)] [(1, 0)] [] (hks := []) (bks := []) (by kernel_rfl) (by kernel_rfl) (by kernel_rfl) (.inl rfl) rfl rfl (by kernel_rfl) (by kernel_rfl) _ (fun _ _ => rfl) _ _ (fun _ _ => rfl) (fun _ _ => rfl) (fun _ _ => by kernel_rfl) (fun _ _ => by kernel_rfl) (fun r_3 x_4 => ?_))
  refine GoO.shape (env' := [(3, .pointer (some ⟨b_2, 0, none⟩)), (4, .int .i64 r_3.1)]) (H' := [⟨1, b_2, [.string (bs r_3.2.s), .bool r_3.2.bad]⟩]) (B' := []) (ks := [3, 4]) (by kernel_rfl) (by kernel_rfl) (by kernel_rfl) ?_
  refine GoO.exec (is := [2, 3]) (hs := [.p, .p]) (rest := []) (ks := [2]) (env' := [(2, .bool (r_3.1 == 1))]) (H' := [⟨1, b_2, [.string (bs r_3.2.s), .bool r_3.2.bad]⟩]) (ps := []) (by kernel_rfl) trivial ?_
  refine GoO.regionEnd ?_
  exact GoO.ret' (h := c50_4e) (hs := []) (ps := []) (hk := [0]) (bk := []) Try.func50 () (by kernel_rfl) trivial (by kernel_rfl) (by kernel_rfl)

/-! (*tontine/pack.Reader).Text -/
noncomputable def c51_0 : Code := bodyOf Try.f51
noncomputable def c51_1 : Code := cdL c51_0
noncomputable def c51_2 : Code := cdR c51_0
noncomputable def c51_3 : Code := cdL c51_2
noncomputable def c51_4 : Code := cdR c51_2
noncomputable def c51_5 : Code := cdL c51_4
noncomputable def c51_6 : Code := cdL c51_5
noncomputable def c51_7 : Code := cdR c51_5
noncomputable def c51_8 : Code := cdL c51_7
noncomputable def c51_9 : Code := cdL c51_8
noncomputable def c51_10 : Code := cdR c51_8
noncomputable def c51_11 : Code := cdL c51_10
noncomputable def c51_12 : Code := cdR c51_10
noncomputable def c51_13 : Code := cdR c51_7
noncomputable def c51_14 : Code := cdR c51_4
noncomputable def c51_15 : Code := cdL c51_14
noncomputable def c51_16 : Code := cdR c51_14
noncomputable def c51_17 : Code := cdL c51_16
noncomputable def c51_18 : Code := cdR c51_16
noncomputable def c51_19 : Code := cdL c51_18
noncomputable def c51_20 : Code := cdR c51_18
noncomputable def r51_1 : Array Oper := cdO c51_1
noncomputable def r51_3 : Array Oper := cdO c51_3
noncomputable def r51_6 : Array Oper := cdO c51_6
noncomputable def r51_9 : Array Oper := cdO c51_9
noncomputable def r51_11 : Array Oper := cdO c51_11
noncomputable def r51_15 : Array Oper := cdO c51_15
noncomputable def r51_17 : Array Oper := cdO c51_17
noncomputable def r51_19 : Array Oper := cdO c51_19
theorem c51_0e : c51_0 = .seq c51_1 c51_2 := by kernel_rfl
theorem c51_1e : c51_1 = .region 0 r51_1 false := by kernel_rfl
theorem c51_2e : c51_2 = .seq c51_3 c51_4 := by kernel_rfl
theorem c51_3e : c51_3 = .region 1 r51_3 false := by kernel_rfl
theorem c51_4e : c51_4 = .seq c51_5 c51_14 := by kernel_rfl
theorem c51_5e : c51_5 = .seq c51_6 c51_7 := by kernel_rfl
theorem c51_6e : c51_6 = .region 2 r51_6 false := by kernel_rfl
theorem c51_7e : c51_7 = .cond (cdC c51_7) c51_8 c51_13 := by kernel_rfl
theorem c51_8e : c51_8 = .seq c51_9 c51_10 := by kernel_rfl
theorem c51_9e : c51_9 = .region 3 r51_9 false := by kernel_rfl
theorem c51_10e : c51_10 = .seq c51_11 c51_12 := by kernel_rfl
theorem c51_11e : c51_11 = .region 4 r51_11 false := by kernel_rfl
theorem c51_12e : c51_12 = .ret := by kernel_rfl
theorem c51_13e : c51_13 = .skip := by kernel_rfl
theorem c51_14e : c51_14 = .seq c51_15 c51_16 := by kernel_rfl
theorem c51_15e : c51_15 = .region 5 r51_15 false := by kernel_rfl
theorem c51_16e : c51_16 = .seq c51_17 c51_18 := by kernel_rfl
theorem c51_17e : c51_17 = .region 6 r51_17 false := by kernel_rfl
theorem c51_18e : c51_18 = .seq c51_19 c51_20 := by kernel_rfl
theorem c51_19e : c51_19 = .region 7 r51_19 false := by kernel_rfl
theorem c51_20e : c51_20 = .ret := by kernel_rfl
noncomputable def pack_Reader_Text.R (b_2 : Nat) : Pst ((List UInt8) × T_pack_Reader) where
  ε := Unit
  v := fun r x => .string (bs r.1)
  H := fun r x => [⟨1, b_2, [.string (bs r.2.s), .bool r.2.bad]⟩]
  B := fun r x => []
noncomputable def pack_Reader_Text.cx (b_2 : Nat) (w0 : World) (S0 : Fam) : Cx ((List UInt8) × T_pack_Reader) := ⟨Try.prog, 51, Try.f51, 39, w0, S0, [1], 1, pack_Reader_Text.R b_2⟩
theorem pack_Reader_Text_ok (n : Nat) (r_1 : T_pack_Reader) (limit_3 : Int) (b_2 : Nat) :
    Meets Try.prog 51 [.pointer (some ⟨b_2, 0, none⟩), .int .i64 limit_3] 1 [1] [⟨1, b_2, [.string (bs r_1.s), .bool r_1.bad]⟩] [] (pack_Reader_Text.f n r_1 limit_3) (pack_Reader_Text.R b_2) := by
  refine Meets.of (c := c51_0) (n := 39) Try.func51 (by kernel_rfl) (by kernel_rfl) (by kernel_rfl) fun w0 S0 => ?_
  unfold pack_Reader_Text.f
  show GoO (pack_Reader_Text.cx b_2 w0 S0) [(0, .pointer (some ⟨b_2, 0, none⟩)), (1, .int .i64 limit_3)] [⟨1, b_2, [.string (bs r_1.s), .bool r_1.bad]⟩] [] [.code c51_0] _
  refine GoO.seq' c51_0e ?_
  refine GoO.region' (is := [0]) c51_1e (by kernel_rfl) ?_
  refine GoO.exec (is := [0]) (hs := [.p]) (rest := []) (ks := [0, 1]) (env' := [(0, .pointer (some ⟨b_2, 0, none⟩)), (1, .int .i64 limit_3)]) (H' := [⟨1, b_2, [.string (bs r_1.s), .bool r_1.bad]⟩]) (ps := []) (by kernel_rfl) trivial ?_
  refine GoO.regionEnd ?_
  refine GoO.seq' c51_2e ?_
  refine GoO.region' (is := [0, 1, 2, 3]) c51_3e (by kernel_rfl) ?_
  refine GoO.exec (is := [0, 1]) (hs := [.p, .p]) (rest := [2, 3]) (ks := [0, 7, 8]) (env' := [(0, .pointer (some ⟨b_2, 0, none⟩)), (7, .pointer (some ⟨b_2, 0, none⟩)), (8, .int .i64 limit_3)]) (H' := [⟨1, b_2, [.string (bs r_1.s), .bool r_1.bad]⟩]) (ps := []) (by kernel_rfl) trivial ?_
  refine OpTo.go (GoO.call rfl (by kernel_rfl) (by kernel_rfl) (pack_Reader_Up_ok n r_1 limit_3 b_2) [[0], [1]] [(1, 1)] [(1, 0)] [] (hks := []) (bks := []) (by kernel_rfl) (by kernel_rfl) (by kernel_rfl) (.inl rfl) rfl rfl (by kernel_rfl) (by kernel_rfl) _ (fun _ _ => rfl) _ _ (fun _ _ => rfl) (fun _ _ => rfl) (fun _ _ => by kernel_rfl) (fun _ _ => by kernel_rfl) (fun r_4 x_10 => ?_))
  refine GoO.shape (env' := [(0, .pointer (some ⟨b_2, 0, none⟩)), (7, .pointer (some ⟨b_2, 0, none⟩)), (8, .int .i64 limit_3), (9, .int .i64 r_4.1)]) (H' := [⟨1, b_2, [.string (bs r_4.2.s), .bool r_4.2.bad]⟩]) (B' := []) (ks := [0, 7, 8, 9]) (by kernel_rfl) (by kernel_rfl) (by kernel_rfl) ?_
  refine GoO.exec (is := [3]) (hs := [.p]) (rest := []) (ks := [0, 5]) (env' := [(0, .pointer (some ⟨b_2, 0, none⟩)), (5, .int .i64 r_4.1)]) (H' := [⟨1, b_2, [.string (bs r_4.2.s), .bool r_4.2.bad]⟩]) (ps := []) (by kernel_rfl) trivial ?_
  refine GoO.regionEnd ?_
  refine GoO.seq' c51_4e ?_
  refine GoO.seq' c51_5e ?_
  refine GoO.region' (is := [0, 1, 2, 3, 4, 5, 6, 7, 8, 9, 10]) c51_6e (by kernel_rfl) ?_
  refine GoO.exec (is := [0, 1, 2, 3, 4, 5, 6, 7, 8, 9, 10]) (hs := [.p, .p, .p, .p, .p, .p, .p, .b 0, .p, .p, .p]) (rest := []) (ks := [0, 5, 20]) (env' := [(0, .pointer (some ⟨b_2, 0, none⟩)), (5, .int .i64 r_4.1), (20, .bool (decide (r_4.1 > (r_4.2.s.length : Int))))]) (H' := [⟨1, b_2, [.string (bs r_4.2.s), .bool r_4.2.bad]⟩]) (ps := [b_2 = b_2]) (by kernel_rfl) (And.intro rfl trivial) ?_
  refine GoO.regionEnd ?_
  refine GoO.ite' c51_7e (by kernel_rfl) (fun h5 => ?_) (fun h5 => ?_)
  · refine GoO.seq' c51_8e ?_
    refine GoO.region' (is := [0, 1]) c51_9e (by kernel_rfl) ?_
    refine GoO.exec (is := [0]) (hs := [.p]) (rest := [1]) (ks := [21]) (env' := [(21, .pointer (some ⟨b_2, 0, none⟩))]) (H' := [⟨1, b_2, [.string (bs r_4.2.s), .bool r_4.2.bad]⟩]) (ps := []) (by kernel_rfl) trivial ?_
    refine OpTo.go (GoO.call rfl (by kernel_rfl) (by kernel_rfl) (pack_Reader_fail_ok n r_4.2 b_2) [[0], [1]] [(1, 1)] [(1, 0)] [] (hks := []) (bks := []) (by kernel_rfl) (by kernel_rfl) (by kernel_rfl) (.inl rfl) rfl rfl (by kernel_rfl) (by kernel_rfl) _ (fun _ _ => rfl) _ _ (fun _ _ => rfl) (fun _ _ => rfl) (fun _ _ => by kernel_rfl) (fun _ _ => by kernel_rfl) (fun r_6 x_7 => ?_))
    refine GoO.shape (env' := [(21, .pointer (some ⟨b_2, 0, none⟩)), (22, .int .u64 r_6.1)]) (H' := [⟨1, b_2, [.string (bs r_6.2.s), .bool r_6.2.bad]⟩]) (B' := []) (ks := [21, 22]) (by kernel_rfl) (by kernel_rfl) (by kernel_rfl) ?_
    refine GoO.regionEnd ?_
    refine GoO.seq' c51_10e ?_
    refine GoO.region' (is := [0]) c51_11e (by kernel_rfl) ?_
    refine GoO.exec (is := [0]) (hs := [.p]) (rest := []) (ks := [4]) (env' := [(4, .string (bs []))]) (H' := [⟨1, b_2, [.string (bs r_6.2.s), .bool r_6.2.bad]⟩]) (ps := []) (by kernel_rfl) trivial ?_
    refine GoO.regionEnd ?_
    exact GoO.ret' (h := c51_12e) (hs := []) (ps := []) (hk := [0]) (bk := []) Try.func51 () (by kernel_rfl) trivial (by kernel_rfl) (by kernel_rfl)
  · refine GoO.skip' c51_13e ?_
    refine GoO.seq' c51_14e ?_
    refine GoO.region' (is := [0, 1, 2, 3, 4, 5, 6]) c51_15e (by kernel_rfl) ?_
    refine GoO.guard (fun h8 => ?_)
    refine GoO.exec (is := [0, 1, 2, 3, 4, 5, 6]) (hs := [.p, .p, .p, .b 0, .p, .p, .p]) (rest := []) (ks := [0, 5, 6]) (env' := [(0, .pointer (some ⟨b_2, 0, none⟩)), (5, .int .i64 r_4.1), (6, .string (bs (r_4.2.s.take r_4.1.toNat)))]) (H' := [⟨1, b_2, [.string (bs r_4.2.s), .bool r_4.2.bad]⟩]) (ps := [b_2 = b_2, (0 : Int) ≤ r_4.1, r_4.1 ≤ (r_4.2.s.length : Int)]) (by kernel_rfl) (And.intro rfl (And.intro h8.1 (And.intro h8.2 trivial))) ?_
    refine GoO.regionEnd ?_
    refine GoO.seq' c51_16e ?_
    refine GoO.region' (is := [0, 1, 2, 3, 4, 5, 6, 7, 8, 9]) c51_17e (by kernel_rfl) ?_
    refine GoO.guard (fun h9 => ?_)
    refine GoO.exec (is := [0, 1, 2, 3, 4, 5, 6, 7, 8, 9]) (hs := [.p, .p, .p, .p, .b 0, .p, .p, .p, .p, .b 0]) (rest := []) (ks := [6]) (env' := [(6, .string (bs (r_4.2.s.take r_4.1.toNat)))]) (H' := [⟨1, b_2, [.string (bs (r_4.2.s.drop r_4.1.toNat)), .bool r_4.2.bad]⟩]) (ps := [b_2 = b_2, (0 : Int) ≤ r_4.1, r_4.1 ≤ (r_4.2.s.length : Int), b_2 = b_2]) (by kernel_rfl) (And.intro rfl (And.intro h9.1 (And.intro h9.2 (And.intro rfl trivial)))) ?_
    refine GoO.regionEnd ?_
    refine GoO.seq' c51_18e ?_
    refine GoO.region' (is := [0, 1]) c51_19e (by kernel_rfl) ?_
    refine GoO.exec (is := [0, 1]) (hs := [.p, .p]) (rest := []) (ks := [4]) (env' := [(4, .string (bs (r_4.2.s.take r_4.1.toNat)))]) (H' := [⟨1, b_2, [.string (bs (r_4.2.s.drop r_4.1.toNat)), .bool r_4.2.bad]⟩]) (ps := []) (by kernel_rfl) trivial ?_
    refine GoO.regionEnd ?_
    exact GoO.ret' (h := c51_20e) (hs := []) (ps := []) (hk := [0]) (bk := []) Try.func51 () (by kernel_rfl) trivial (by kernel_rfl) (by kernel_rfl)

/-! (*tontine/pack.Reader).Left -/
noncomputable def c57_0 : Code := bodyOf Try.f57
noncomputable def c57_1 : Code := cdL c57_0
noncomputable def c57_2 : Code := cdR c57_0
noncomputable def c57_3 : Code := cdL c57_2
noncomputable def c57_4 : Code := cdL c57_3
noncomputable def c57_5 : Code := cdR c57_3
noncomputable def c57_9 : Code := cdR c57_5
noncomputable def c57_10 : Code := cdR c57_2
noncomputable def c57_11 : Code := cdL c57_10
noncomputable def c57_12 : Code := cdR c57_10
noncomputable def c57_6 : Code := cdL c57_5
noncomputable def r57_1 : Array Oper := cdO c57_1
noncomputable def r57_4 : Array Oper := cdO c57_4
noncomputable def r57_11 : Array Oper := cdO c57_11
theorem c57_0e : c57_0 = .seq c57_1 c57_2 := by kernel_rfl
theorem c57_1e : c57_1 = .region 0 r57_1 false := by kernel_rfl
theorem c57_2e : c57_2 = .seq c57_3 c57_10 := by kernel_rfl
theorem c57_3e : c57_3 = .seq c57_4 c57_5 := by kernel_rfl
theorem c57_4e : c57_4 = .region 1 r57_4 false := by kernel_rfl
theorem c57_5e : c57_5 = .cond (cdC c57_5) c57_6 c57_9 := by kernel_rfl
theorem c57_9e : c57_9 = .skip := by kernel_rfl
theorem c57_10e : c57_10 = .seq c57_11 c57_12 := by kernel_rfl
theorem c57_11e : c57_11 = .region 3 r57_11 true := by kernel_rfl
theorem c57_12e : c57_12 = .ret := by kernel_rfl
noncomputable def pack_Reader_Left.R (b_2 : Nat) : Pst (Int × Bool) where
  ε := Unit
  v := fun r x => .tuple ⟨[.int .i64 r.1, .bool r.2]⟩
  H := fun r x => []
  B := fun r x => []
noncomputable def pack_Reader_Left.cx (b_2 : Nat) (w0 : World) (S0 : Fam) : Cx (Int × Bool) := ⟨Try.prog, 57, Try.f57, 16, w0, S0, [], 1, pack_Reader_Left.R b_2⟩
theorem pack_Reader_Left_ok (n : Nat) (r_1 : T_pack_Reader) (b_2 : Nat) :
    Meets Try.prog 57 [.pointer (some ⟨b_2, 0, none⟩)] 1 [] [⟨1, b_2, [.string (bs r_1.s), .bool r_1.bad]⟩] [] (pack_Reader_Left.f n r_1) (pack_Reader_Left.R b_2) := by
  refine Meets.of (c := c57_0) (n := 16) Try.func57 (by kernel_rfl) (by kernel_rfl) (by kernel_rfl) fun w0 S0 => ?_
  unfold pack_Reader_Left.f
  show GoO (pack_Reader_Left.cx b_2 w0 S0) [(0, .pointer (some ⟨b_2, 0, none⟩))] [⟨1, b_2, [.string (bs r_1.s), .bool r_1.bad]⟩] [] [.code c57_0] _
  refine GoO.seq' c57_0e ?_
  refine GoO.region' (is := [0, 1]) c57_1e (by kernel_rfl) ?_
  refine GoO.exec (is := [0, 1]) (hs := [.p, .p]) (rest := []) (ks := [0]) (env' := [(0, .pointer (some ⟨b_2, 0, none⟩))]) (H' := [⟨1, b_2, [.string (bs r_1.s), .bool r_1.bad]⟩]) (ps := []) (by kernel_rfl) trivial ?_
  refine GoO.regionEnd ?_
  refine GoO.seq' c57_2e ?_
  refine GoO.seq' c57_3e ?_
  refine GoO.region' (is := [0, 1]) c57_4e (by kernel_rfl) ?_
  refine GoO.exec (is := [0, 1]) (hs := [.p, .p]) (rest := []) (ks := [0, 5]) (env' := [(0, .pointer (some ⟨b_2, 0, none⟩)), (5, .bool false)]) (H' := [⟨1, b_2, [.string (bs r_1.s), .bool r_1.bad]⟩]) (ps := []) (by kernel_rfl) trivial ?_
  refine GoO.regionEnd ?_
  refine GoO.condF c57_5e (by kernel_rfl) ?_
  refine GoO.skip' c57_9e ?_
  refine GoO.seq' c57_10e ?_
  refine GoO.draw c57_11e (by kernel_rfl) [11] [⟨1, b_2, [.string (bs r_1.s), .bool r_1.bad]⟩] [] (n := 12) (by kernel_rfl) ?_
  simp only [List.replicate]
  refine GoF.take [0, 1, 2, 3, 4, 5, 6, 7, 8, 9, 10] [.p, .p, .p, .b 0, .p, .p, .p, .p, .b 0, .p, .p] (ks := [2, 15]) (fu := 1) (li := [true, true, true, true, true, true, true, true, true, true, true, false]) (env' := [(2, .int .i64 (r_1.s.length : Int)), (15, .bool (!r_1.bad))]) (ps := [b_2 = b_2, b_2 = b_2]) (hk := [0]) (bk := []) (by kernel_rfl) (And.intro rfl (And.intro rfl trivial)) rfl rfl ?_
  refine GoF.fin1 (i := 11) (hint := .p) (ps := []) (hk := []) (bk := []) (by kernel_rfl) rfl trivial (.inl rfl) ?_
  refine GoF.done (by kernel_rfl) ?_
  exact GoO.ret' (h := c57_12e) (hs := []) (ps := []) (hk := []) (bk := []) Try.func57 () (by kernel_rfl) trivial (by kernel_rfl) (by kernel_rfl)

/-! (*tontine/pack.Reader).Done -/
noncomputable def c52_0 : Code := bodyOf Try.f52
noncomputable def c52_1 : Code := cdL c52_0
noncomputable def c52_2 : Code := cdR c52_0
noncomputable def c52_3 : Code := cdL c52_2
noncomputable def c52_4 : Code := cdR c52_2
noncomputable def c52_5 : Code := cdL c52_4
noncomputable def c52_6 : Code := cdR c52_4
noncomputable def r52_1 : Array Oper := cdO c52_1
noncomputable def r52_3 : Array Oper := cdO c52_3
noncomputable def r52_5 : Array Oper := cdO c52_5
theorem c52_0e : c52_0 = .seq c52_1 c52_2 := by kernel_rfl
theorem c52_1e : c52_1 = .region 0 r52_1 false := by kernel_rfl
theorem c52_2e : c52_2 = .seq c52_3 c52_4 := by kernel_rfl
theorem c52_3e : c52_3 = .region 1 r52_3 false := by kernel_rfl
theorem c52_4e : c52_4 = .seq c52_5 c52_6 := by kernel_rfl
theorem c52_5e : c52_5 = .region 2 r52_5 false := by kernel_rfl
theorem c52_6e : c52_6 = .ret := by kernel_rfl
noncomputable def pack_Reader_Done.R (b_2 : Nat) : Pst Bool where
  ε := Unit
  v := fun r x => .bool r
  H := fun r x => []
  B := fun r x => []
noncomputable def pack_Reader_Done.cx (b_2 : Nat) (w0 : World) (S0 : Fam) : Cx Bool := ⟨Try.prog, 52, Try.f52, 15, w0, S0, [], 1, pack_Reader_Done.R b_2⟩
theorem pack_Reader_Done_ok (n : Nat) (r_1 : T_pack_Reader) (b_2 : Nat) :
    Meets Try.prog 52 [.pointer (some ⟨b_2, 0, none⟩)] 1 [] [⟨1, b_2, [.string (bs r_1.s), .bool r_1.bad]⟩] [] (pack_Reader_Done.f n r_1) (pack_Reader_Done.R b_2) := by
  refine Meets.of (c := c52_0) (n := 15) Try.func52 (by kernel_rfl) (by kernel_rfl) (by kernel_rfl) fun w0 S0 => ?_
  unfold pack_Reader_Done.f
  show GoO (pack_Reader_Done.cx b_2 w0 S0) [(0, .pointer (some ⟨b_2, 0, none⟩))] [⟨1, b_2, [.string (bs r_1.s), .bool r_1.bad]⟩] [] [.code c52_0] _
  refine GoO.seq' c52_0e ?_
  refine GoO.region' (is := [0]) c52_1e (by kernel_rfl) ?_
  refine GoO.exec (is := [0]) (hs := [.p]) (rest := []) (ks := [0]) (env' := [(0, .pointer (some ⟨b_2, 0, none⟩))]) (H' := [⟨1, b_2, [.string (bs r_1.s), .bool r_1.bad]⟩]) (ps := []) (by kernel_rfl) trivial ?_
  refine GoO.regionEnd ?_
  refine GoO.seq' c52_2e ?_
  refine GoO.region' (is := [0, 1, 2, 3, 4, 5, 6]) c52_3e (by kernel_rfl) ?_
  refine GoO.exec (is := [0]) (hs := [.p]) (rest := [1, 2, 3, 4, 5, 6]) (ks := [6]) (env' := [(6, .pointer (some ⟨b_2, 0, none⟩))]) (H' := [⟨1, b_2, [.string (bs r_1.s), .bool r_1.bad]⟩]) (ps := []) (by kernel_rfl) trivial ?_
  refine OpTo.go (GoO.call rfl (by kernel_rfl) (by kernel_rfl) (pack_Reader_Left_ok n r_1 b_2) [[0], [1]] [] [(1, 0)] [] (hks := [0]) (bks := []) (by kernel_rfl) (by kernel_rfl) (by kernel_rfl) (.inl rfl) rfl rfl (by kernel_rfl) (by kernel_rfl) _ (fun _ _ => rfl) _ _ (fun _ _ => rfl) (fun _ _ => rfl) (fun _ _ => by kernel_rfl) (fun _ _ => by kernel_rfl) (fun r_3 x_5 => ?_))
  refine GoO.shape (env' := [(6, .pointer (some ⟨b_2, 0, none⟩)), (7, .tuple ⟨[.int .i64 r_3.1, .bool r_3.2]⟩)]) (H' := [⟨1, b_2, [.string (bs r_1.s), .bool r_1.bad]⟩]) (B' := []) (ks := [6, 7]) (by kernel_rfl) (by kernel_rfl) (by kernel_rfl) ?_
  refine GoO.exec (is := [2, 3, 4, 5, 6]) (hs := [.p, .p, .p, .p, .p]) (rest := []) (ks := [3, 4]) (env' := [(3, .int .i64 r_3.1), (4, .bool r_3.2)]) (H' := [⟨1, b_2, [.string (bs r_1.s), .bool r_1.bad]⟩]) (ps := []) (by kernel_rfl) trivial ?_
  refine GoO.regionEnd ?_
  refine GoO.seq' c52_4e ?_
  refine GoO.region' (is := [0, 1, 2, 3, 4, 5]) c52_5e (by kernel_rfl) ?_
  refine GoO.exec (is := [0, 1, 2]) (hs := [.p, .p, .p]) (rest := [3, 4, 5]) (ks := [4, 12]) (env' := [(4, .bool r_3.2), (12, .bool (r_3.1 == 0))]) (H' := [⟨1, b_2, [.string (bs r_1.s), .bool r_1.bad]⟩]) (ps := []) (by kernel_rfl) trivial ?_
  refine GoO.bsplit (t := 12) (by kernel_rfl) (fun h4 => ?_) (fun h4 => ?_)
  · refine GoO.exec (is := [3, 4, 5]) (hs := [.p, .p, .p]) (rest := []) (ks := [2]) (env' := [(2, .bool r_3.2)]) (H' := [⟨1, b_2, [.string (bs r_1.s), .bool r_1.bad]⟩]) (ps := []) (by kernel_rfl) trivial ?_
    refine GoO.regionEnd ?_
    exact GoO.ret' (h := c52_6e) (hs := []) (ps := []) (hk := []) (bk := []) Try.func52 () (by kernel_rfl) trivial (by kernel_rfl) (by kernel_rfl)
  · refine GoO.exec (is := [3, 4, 5]) (hs := [.p, .p, .p]) (rest := []) (ks := [2]) (env' := [(2, .bool false)]) (H' := [⟨1, b_2, [.string (bs r_1.s), .bool r_1.bad]⟩]) (ps := []) (by kernel_rfl) trivial ?_
    refine GoO.regionEnd ?_
    exact GoO.ret' (h := c52_6e) (hs := []) (ps := []) (hk := []) (bk := []) Try.func52 () (by kernel_rfl) trivial (by kernel_rfl) (by kernel_rfl)

/-! tontine/letter.Decode -/
noncomputable def c31_0 : Code := bodyOf Try.f31
noncomputable def c31_1 : Code := cdL c31_0
noncomputable def c31_2 : Code := cdR c31_0
noncomputable def c31_3 : Code := cdL c31_2
noncomputable def c31_4 : Code := cdR c31_2
noncomputable def c31_5 : Code := cdL c31_4
noncomputable def c31_6 : Code := cdR c31_4
noncomputable def c31_7 : Code := cdL c31_6
noncomputable def c31_8 : Code := cdL c31_7
noncomputable def c31_9 : Code := cdR c31_7
noncomputable def c31_10 : Code := cdL c31_9
noncomputable def c31_11 : Code := cdL c31_10
noncomputable def c31_12 : Code := cdL c31_11
noncomputable def c31_13 : Code := cdL c31_12
noncomputable def c31_14 : Code := cdR c31_12
noncomputable def c31_15 : Code := cdL c31_14
noncomputable def c31_16 : Code := cdR c31_14
noncomputable def c31_17 : Code := cdR c31_11
noncomputable def c31_18 : Code := cdL c31_17
noncomputable def c31_19 : Code := cdL c31_18
noncomputable def c31_20 : Code := cdL c31_19
noncomputable def c31_21 : Code := cdR c31_19
noncomputable def c31_22 : Code := cdR c31_17
noncomputable def c31_23 : Code := cdR c31_6
noncomputable def c31_24 : Code := cdL c31_23
noncomputable def c31_25 : Code := cdR c31_23
noncomputable def c31_26 : Code := cdL c31_25
noncomputable def c31_27 : Code := cdL c31_26
noncomputable def c31_28 : Code := cdR c31_26
noncomputable def c31_29 : Code := cdL c31_28
noncomputable def c31_30 : Code := cdL c31_29
noncomputable def c31_31 : Code := cdR c31_29
noncomputable def c31_32 : Code := cdR c31_28
noncomputable def c31_33 : Code := cdR c31_25
noncomputable def c31_34 : Code := cdL c31_33
noncomputable def c31_35 : Code := cdR c31_33
noncomputable def r31_1 : Array Oper := cdO c31_1
noncomputable def r31_3 : Array Oper := cdO c31_3
noncomputable def r31_5 : Array Oper := cdO c31_5
noncomputable def r31_8 : Array Oper := cdO c31_8
noncomputable def r31_13 : Array Oper := cdO c31_13
noncomputable def r31_20 : Array Oper := cdO c31_20
noncomputable def r31_21 : Array Oper := cdO c31_21
noncomputable def r31_22 : Array Oper := cdO c31_22
noncomputable def r31_24 : Array Oper := cdO c31_24
noncomputable def r31_27 : Array Oper := cdO c31_27
noncomputable def r31_30 : Array Oper := cdO c31_30
noncomputable def r31_34 : Array Oper := cdO c31_34
theorem c31_0e : c31_0 = .seq c31_1 c31_2 := by kernel_rfl
theorem c31_1e : c31_1 = .region 0 r31_1 false := by kernel_rfl
theorem c31_2e : c31_2 = .seq c31_3 c31_4 := by kernel_rfl
theorem c31_3e : c31_3 = .region 1 r31_3 false := by kernel_rfl
theorem c31_4e : c31_4 = .seq c31_5 c31_6 := by kernel_rfl
theorem c31_5e : c31_5 = .region 2 r31_5 false := by kernel_rfl
theorem c31_6e : c31_6 = .seq c31_7 c31_23 := by kernel_rfl
theorem c31_7e : c31_7 = .seq c31_8 c31_9 := by kernel_rfl
theorem c31_8e : c31_8 = .region 3 r31_8 false := by kernel_rfl
theorem c31_9e : c31_9 = .block 0 c31_10 := by kernel_rfl
theorem c31_10e : c31_10 = .loop c31_11 := by kernel_rfl
theorem c31_11e : c31_11 = .seq c31_12 c31_17 := by kernel_rfl
theorem c31_12e : c31_12 = .seq c31_13 c31_14 := by kernel_rfl
theorem c31_13e : c31_13 = .region 4 r31_13 false := by kernel_rfl
theorem c31_14e : c31_14 = .cond (cdC c31_14) c31_15 c31_16 := by kernel_rfl
theorem c31_15e : c31_15 = .skip := by kernel_rfl
theorem c31_16e : c31_16 = .exit 0 := by kernel_rfl
theorem c31_17e : c31_17 = .seq c31_18 c31_22 := by kernel_rfl
theorem c31_18e : c31_18 = .block 1 c31_19 := by kernel_rfl
theorem c31_19e : c31_19 = .seq c31_20 c31_21 := by kernel_rfl
theorem c31_20e : c31_20 = .region 6 r31_20 false := by kernel_rfl
theorem c31_21e : c31_21 = .region 7 r31_21 false := by kernel_rfl
theorem c31_22e : c31_22 = .region 5 r31_22 false := by kernel_rfl
theorem c31_23e : c31_23 = .seq c31_24 c31_25 := by kernel_rfl
theorem c31_24e : c31_24 = .region 8 r31_24 false := by kernel_rfl
theorem c31_25e : c31_25 = .seq c31_26 c31_33 := by kernel_rfl
theorem c31_26e : c31_26 = .seq c31_27 c31_28 := by kernel_rfl
theorem c31_27e : c31_27 = .region 9 r31_27 false := by kernel_rfl
theorem c31_28e : c31_28 = .cond (cdC c31_28) c31_29 c31_32 := by kernel_rfl
theorem c31_29e : c31_29 = .seq c31_30 c31_31 := by kernel_rfl
theorem c31_30e : c31_30 = .region 10 r31_30 false := by kernel_rfl
theorem c31_31e : c31_31 = .ret := by kernel_rfl
theorem c31_32e : c31_32 = .skip := by kernel_rfl
theorem c31_33e : c31_33 = .seq c31_34 c31_35 := by kernel_rfl
theorem c31_34e : c31_34 = .region 11 r31_34 false := by kernel_rfl
theorem c31_35e : c31_35 = .ret := by kernel_rfl
noncomputable def letter_Decode.R : Pst (T_api_Letter × Int) where
  ε := Option Addr × Nat
  v := fun r x => .tuple ⟨[.agg ⟨[.int .i64 r.1.Kind, .int .i64 r.1.From, .int .i64 r.1.To, .int .u64 r.1.Term, .int .u64 r.1.Index, .int .u64 r.1.Prev, .int .u64 r.1.Commit, .bool r.1.Ok, .slice x.1 r.1.Entries.length x.2, .string (bs r.1.Data)]⟩, .int .i64 r.2]⟩
  H := fun r x => []
  B := fun r x => [Rd 0 kT_api_Entry x.1 x.2 r.1.Entries]
noncomputable def letter_Decode.cx (w0 : World) (S0 : Fam) : Cx (T_api_Letter × Int) := ⟨Try.prog, 31, Try.f31, 61, w0, S0, [], 0, letter_Decode.R⟩
theorem letter_Decode_l0_ok (n : Nat) (r_5 : Int × T_pack_Reader) (r_6 : Int × T_pack_Reader) (r_7 : Int × T_pack_Reader) (r_8 : Int × T_pack_Reader) (r_9 : Int × T_pack_Reader) (r_10 : Int × T_pack_Reader) (r_11 : Int × T_pack_Reader) (r_12 : Bool × T_pack_Reader) (b_2 : Nat) (b_4 : Nat) (b_13 : Nat) (w0 : World) (S0 : Fam) :
    ∀ (k : Nat) (f_15 : (List UInt8)) (f_16 : Bool) (f_17 : (List T_api_Entry)) (n_20 : Int) (A_18 : Option Addr) (c_19 : Nat), GoO (letter_Decode.cx w0 S0) [(2, .pointer (some ⟨b_2, 0, none⟩)), (4, .pointer (some ⟨b_4, 0, none⟩)), (5, .pointer (some ⟨b_13, 0, none⟩)), (6, .int .i64 n_20)] [⟨40, b_2, [.int .i64 0, .int .i64 0, .int .i64 0, .int .u64 0, .int .u64 0, .int .u64 0, .int .u64 0, .bool false, .slice none ([] : List T_api_Entry).length 0, .string (bs [])]⟩, ⟨41, b_4, [.string (bs f_15), .bool f_16]⟩, ⟨42, b_13, [.int .i64 r_5.1, .int .i64 r_6.1, .int .i64 r_7.1, .int .u64 r_8.1, .int .u64 r_9.1, .int .u64 r_10.1, .int .u64 r_11.1, .bool r_12.1, .slice A_18 f_17.length c_19, .string (bs [])]⟩] [Ow 45 kT_api_Entry A_18 c_19 f_17] [.code c31_11, .inLoop c31_11, .inBlock 0, .code c31_23] (letter_Decode.l0 n r_5 r_6 r_7 r_8 r_9 r_10 r_11 r_12 k f_15 f_16 f_17 n_20) := by
  intro k
  induction k with
  | zero => intros; rw [letter_Decode.l0.eq_1]; exact GoO.stop
  | succ k ih0 =>
    intro f_15 f_16 f_17 n_20 A_18 c_19
    rw [letter_Decode.l0.eq_2]
    refine GoO.seq' c31_11e ?_
    refine GoO.seq' c31_12e ?_
    refine GoO.region' (is := [0, 1]) c31_13e (by kernel_rfl) ?_
    refine GoO.exec (is := [0, 1]) (hs := [.p, .p]) (rest := []) (ks := [2, 4, 5, 6, 30]) (env' := [(2, .pointer (some ⟨b_2, 0, none⟩)), (4, .pointer (some ⟨b_4, 0, none⟩)), (5, .pointer (some ⟨b_13, 0, none⟩)), (6, .int .i64 n_20), (30, .bool (decide (n_20 > 0)))]) (H' := [⟨40, b_2, [.int .i64 0, .int .i64 0, .int .i64 0, .int .u64 0, .int .u64 0, .int .u64 0, .int .u64 0, .bool false, .slice none ([] : List T_api_Entry).length 0, .string (bs [])]⟩, ⟨41, b_4, [.string (bs f_15), .bool f_16]⟩, ⟨42, b_13, [.int .i64 r_5.1, .int .i64 r_6.1, .int .i64 r_7.1, .int .u64 r_8.1, .int .u64 r_9.1, .int .u64 r_10.1, .int .u64 r_11.1, .bool r_12.1, .slice A_18 f_17.length c_19, .string (bs [])]⟩]) (ps := []) (by kernel_rfl) trivial ?_
    refine GoO.regionEnd ?_
    refine GoO.ite' c31_14e (by kernel_rfl) (fun h21 => ?_) (fun h21 => ?_)
    · refine GoO.skip' c31_15e ?_
      refine GoO.seq' c31_17e ?_
      refine GoO.block' c31_18e ?_
      refine GoO.seq' c31_19e ?_
      refine GoO.region' (is := [0, 1, 2, 3, 4, 5, 6, 7, 8, 9, 10]) c31_20e (by kernel_rfl) ?_
      refine GoO.exec (is := [0]) (hs := [.p]) (rest := [1, 2, 3, 4, 5, 6, 7, 8, 9, 10]) (ks := [2, 4, 5, 6, 33]) (env' := [(2, .pointer (some ⟨b_2, 0, none⟩)), (4, .pointer (some ⟨b_4, 0, none⟩)), (5, .pointer (some ⟨b_13, 0, none⟩)), (6, .int .i64 n_20), (33, .pointer (some ⟨b_4, 0, none⟩))]) (H' := [⟨40, b_2, [.int .i64 0, .int .i64 0, .int .i64 0, .int .u64 0, .int .u64 0, .int .u64 0, .int .u64 0, .bool false, .slice none ([] : List T_api_Entry).length 0, .string (bs [])]⟩, ⟨41, b_4, [.string (bs f_15), .bool f_16]⟩, ⟨42, b_13, [.int .i64 r_5.1, .int .i64 r_6.1, .int .i64 r_7.1, .int .u64 r_8.1, .int .u64 r_9.1, .int .u64 r_10.1, .int .u64 r_11.1, .bool r_12.1, .slice A_18 f_17.length c_19, .string (bs [])]⟩]) (ps := []) (by kernel_rfl) trivial ?_
      refine OpTo.go (GoO.call rfl (by kernel_rfl) (by kernel_rfl) (pack_Reader_Num_ok n (⟨f_15, f_16⟩ : T_pack_Reader) b_4) [[0], [41]] [(41, 1)] [(1, 1)] [] (hks := [0, 2]) (bks := [0]) (by kernel_rfl) (by kernel_rfl) (by kernel_rfl) (.inl rfl) rfl rfl (by kernel_rfl) (by kernel_rfl) _ (fun _ _ => rfl) _ _ (fun _ _ => rfl) (fun _ _ => rfl) (fun _ _ => by kernel_rfl) (fun _ _ => by kernel_rfl) (fun r_22 x_35 => ?_))
      refine GoO.shape (env' := [(2, .pointer (some ⟨b_2, 0, none⟩)), (4, .pointer (some ⟨b_4, 0, none⟩)), (5, .pointer (some ⟨b_13, 0, none⟩)), (6, .int .i64 n_20), (33, .pointer (some ⟨b_4, 0, none⟩)), (34, .int .u64 r_22.1)]) (H' := [⟨41, b_4, [.string (bs r_22.2.s), .bool r_22.2.bad]⟩, ⟨40, b_2, [.int .i64 0, .int .i64 0, .int .i64 0, .int .u64 0, .int .u64 0, .int .u64 0, .int .u64 0, .bool false, .slice none ([] : List T_api_Entry).length 0, .string (bs [])]⟩, ⟨42, b_13, [.int .i64 r_5.1, .int .i64 r_6.1, .int .i64 r_7.1, .int .u64 r_8.1, .int .u64 r_9.1, .int .u64 r_10.1, .int .u64 r_11.1, .bool r_12.1, .slice A_18 f_17.length c_19, .string (bs [])]⟩]) (B' := [Ow 45 kT_api_Entry A_18 c_19 f_17]) (ks := [2, 4, 5, 6, 33, 34]) (by kernel_rfl) (by kernel_rfl) (by kernel_rfl) ?_
      refine GoO.exec (is := [2]) (hs := [.p]) (rest := [3, 4, 5, 6, 7, 8, 9, 10]) (ks := [2, 4, 5, 6, 34, 35]) (env' := [(2, .pointer (some ⟨b_2, 0, none⟩)), (4, .pointer (some ⟨b_4, 0, none⟩)), (5, .pointer (some ⟨b_13, 0, none⟩)), (6, .int .i64 n_20), (34, .int .u64 r_22.1), (35, .pointer (some ⟨b_4, 0, none⟩))]) (H' := [⟨41, b_4, [.string (bs r_22.2.s), .bool r_22.2.bad]⟩, ⟨40, b_2, [.int .i64 0, .int .i64 0, .int .i64 0, .int .u64 0, .int .u64 0, .int .u64 0, .int .u64 0, .bool false, .slice none ([] : List T_api_Entry).length 0, .string (bs [])]⟩, ⟨42, b_13, [.int .i64 r_5.1, .int .i64 r_6.1, .int .i64 r_7.1, .int .u64 r_8.1, .int .u64 r_9.1, .int .u64 r_10.1, .int .u64 r_11.1, .bool r_12.1, .slice A_18 f_17.length c_19, .string (bs [])]⟩]) (ps := []) (by kernel_rfl) trivial ?_
      refine OpTo.go (GoO.call rfl (by kernel_rfl) (by kernel_rfl) (pack_Reader_Num_ok n r_22.2 b_4) [[0], [41]] [(41, 1)] [(1, 0)] [] (hks := [1, 2]) (bks := [0]) (by kernel_rfl) (by kernel_rfl) (by kernel_rfl) (.inl rfl) rfl rfl (by kernel_rfl) (by kernel_rfl) _ (fun _ _ => rfl) _ _ (fun _ _ => rfl) (fun _ _ => rfl) (fun _ _ => by kernel_rfl) (fun _ _ => by kernel_rfl) (fun r_23 x_34 => ?_))
      refine GoO.shape (env' := [(2, .pointer (some ⟨b_2, 0, none⟩)), (4, .pointer (some ⟨b_4, 0, none⟩)), (5, .pointer (some ⟨b_13, 0, none⟩)), (6, .int .i64 n_20), (34, .int .u64 r_22.1), (35, .pointer (some ⟨b_4, 0, none⟩)), (36, .int .u64 r_23.1)]) (H' := [⟨41, b_4, [.string (bs r_23.2.s), .bool r_23.2.bad]⟩, ⟨40, b_2, [.int .i64 0, .int .i64 0, .int .i64 0, .int .u64 0, .int .u64 0, .int .u64 0, .int .u64 0, .bool false, .slice none ([] : List T_api_Entry).length 0, .string (bs [])]⟩, ⟨42, b_13, [.int .i64 r_5.1, .int .i64 r_6.1, .int .i64 r_7.1, .int .u64 r_8.1, .int .u64 r_9.1, .int .u64 r_10.1, .int .u64 r_11.1, .bool r_12.1, .slice A_18 f_17.length c_19, .string (bs [])]⟩]) (B' := [Ow 45 kT_api_Entry A_18 c_19 f_17]) (ks := [2, 4, 5, 6, 34, 35, 36]) (by kernel_rfl) (by kernel_rfl) (by kernel_rfl) ?_
      refine GoO.exec (is := [4]) (hs := [.p]) (rest := [5, 6, 7, 8, 9, 10]) (ks := [2, 4, 5, 6, 34, 36, 37]) (env' := [(2, .pointer (some ⟨b_2, 0, none⟩)), (4, .pointer (some ⟨b_4, 0, none⟩)), (5, .pointer (some ⟨b_13, 0, none⟩)), (6, .int .i64 n_20), (34, .int .u64 r_22.1), (36, .int .u64 r_23.1), (37, .pointer (some ⟨b_4, 0, none⟩))]) (H' := [⟨41, b_4, [.string (bs r_23.2.s), .bool r_23.2.bad]⟩, ⟨40, b_2, [.int .i64 0, .int .i64 0, .int .i64 0, .int .u64 0, .int .u64 0, .int .u64 0, .int .u64 0, .bool false, .slice none ([] : List T_api_Entry).length 0, .string (bs [])]⟩, ⟨42, b_13, [.int .i64 r_5.1, .int .i64 r_6.1, .int .i64 r_7.1, .int .u64 r_8.1, .int .u64 r_9.1, .int .u64 r_10.1, .int .u64 r_11.1, .bool r_12.1, .slice A_18 f_17.length c_19, .string (bs [])]⟩]) (ps := []) (by kernel_rfl) trivial ?_
      refine OpTo.go (GoO.call rfl (by kernel_rfl) (by kernel_rfl) (pack_Reader_Up_ok n r_23.2 2 b_4) [[0], [41]] [(41, 1)] [(1, 0)] [] (hks := [1, 2]) (bks := [0]) (by kernel_rfl) (by kernel_rfl) (by kernel_rfl) (.inl rfl) rfl rfl (by kernel_rfl) (by kernel_rfl) _ (fun _ _ => rfl) _ _ (fun _ _ => rfl) (fun _ _ => rfl) (fun _ _ => by kernel_rfl) (fun _ _ => by kernel_rfl) (fun r_24 x_33 => ?_))
      refine GoO.shape (env' := [(2, .pointer (some ⟨b_2, 0, none⟩)), (4, .pointer (some ⟨b_4, 0, none⟩)), (5, .pointer (some ⟨b_13, 0, none⟩)), (6, .int .i64 n_20), (34, .int .u64 r_22.1), (36, .int .u64 r_23.1), (37, .pointer (some ⟨b_4, 0, none⟩)), (38, .int .i64 r_24.1)]) (H' := [⟨41, b_4, [.string (bs r_24.2.s), .bool r_24.2.bad]⟩, ⟨40, b_2, [.int .i64 0, .int .i64 0, .int .i64 0, .int .u64 0, .int .u64 0, .int .u64 0, .int .u64 0, .bool false, .slice none ([] : List T_api_Entry).length 0, .string (bs [])]⟩, ⟨42, b_13, [.int .i64 r_5.1, .int .i64 r_6.1, .int .i64 r_7.1, .int .u64 r_8.1, .int .u64 r_9.1, .int .u64 r_10.1, .int .u64 r_11.1, .bool r_12.1, .slice A_18 f_17.length c_19, .string (bs [])]⟩]) (B' := [Ow 45 kT_api_Entry A_18 c_19 f_17]) (ks := [2, 4, 5, 6, 34, 36, 37, 38]) (by kernel_rfl) (by kernel_rfl) (by kernel_rfl) ?_
      refine GoO.exec (is := [6]) (hs := [.p]) (rest := [7, 8, 9, 10]) (ks := [2, 4, 5, 6, 34, 36, 38, 39]) (env' := [(2, .pointer (some ⟨b_2, 0, none⟩)), (4, .pointer (some ⟨b_4, 0, none⟩)), (5, .pointer (some ⟨b_13, 0, none⟩)), (6, .int .i64 n_20), (34, .int .u64 r_22.1), (36, .int .u64 r_23.1), (38, .int .i64 r_24.1), (39, .pointer (some ⟨b_4, 0, none⟩))]) (H' := [⟨41, b_4, [.string (bs r_24.2.s), .bool r_24.2.bad]⟩, ⟨40, b_2, [.int .i64 0, .int .i64 0, .int .i64 0, .int .u64 0, .int .u64 0, .int .u64 0, .int .u64 0, .bool false, .slice none ([] : List T_api_Entry).length 0, .string (bs [])]⟩, ⟨42, b_13, [.int .i64 r_5.1, .int .i64 r_6.1, .int .i64 r_7.1, .int .u64 r_8.1, .int .u64 r_9.1, .int .u64 r_10.1, .int .u64 r_11.1, .bool r_12.1, .slice A_18 f_17.length c_19, .string (bs [])]⟩]) (ps := []) (by kernel_rfl) trivial ?_
      refine OpTo.go (GoO.call rfl (by kernel_rfl) (by kernel_rfl) (pack_Reader_Text_ok n r_24.2 65536 b_4) [[0], [41]] [(41, 1)] [(1, 0)] [] (hks := [1, 2]) (bks := [0]) (by kernel_rfl) (by kernel_rfl) (by kernel_rfl) (.inl rfl) rfl rfl (by kernel_rfl) (by kernel_rfl) _ (fun _ _ => rfl) _ _ (fun _ _ => rfl) (fun _ _ => rfl) (fun _ _ => by kernel_rfl) (fun _ _ => by kernel_rfl) (fun r_25 x_32 => ?_))
      refine GoO.shape (env' := [(2, .pointer (some ⟨b_2, 0, none⟩)), (4, .pointer (some ⟨b_4, 0, none⟩)), (5, .pointer (some ⟨b_13, 0, none⟩)), (6, .int .i64 n_20), (34, .int .u64 r_22.1), (36, .int .u64 r_23.1), (38, .int .i64 r_24.1), (39, .pointer (some ⟨b_4, 0, none⟩)), (40, .string (bs r_25.1))]) (H' := [⟨41, b_4, [.string (bs r_25.2.s), .bool r_25.2.bad]⟩, ⟨40, b_2, [.int .i64 0, .int .i64 0, .int .i64 0, .int .u64 0, .int .u64 0, .int .u64 0, .int .u64 0, .bool false, .slice none ([] : List T_api_Entry).length 0, .string (bs [])]⟩, ⟨42, b_13, [.int .i64 r_5.1, .int .i64 r_6.1, .int .i64 r_7.1, .int .u64 r_8.1, .int .u64 r_9.1, .int .u64 r_10.1, .int .u64 r_11.1, .bool r_12.1, .slice A_18 f_17.length c_19, .string (bs [])]⟩]) (B' := [Ow 45 kT_api_Entry A_18 c_19 f_17]) (ks := [2, 4, 5, 6, 34, 36, 38, 39, 40]) (by kernel_rfl) (by kernel_rfl) (by kernel_rfl) ?_
      refine GoO.exec (is := [8]) (hs := [.p]) (rest := [9, 10]) (ks := [2, 4, 5, 6, 41]) (env' := [(2, .pointer (some ⟨b_2, 0, none⟩)), (4, .pointer (some ⟨b_4, 0, none⟩)), (5, .pointer (some ⟨b_13, 0, none⟩)), (6, .int .i64 n_20), (41, .agg ⟨[.int .u64 r_22.1, .int .u64 r_23.1, .int .i64 r_24.1, .string (bs r_25.1)]⟩)]) (H' := [⟨41, b_4, [.string (bs r_25.2.s), .bool r_25.2.bad]⟩, ⟨40, b_2, [.int .i64 0, .int .i64 0, .int .i64 0, .int .u64 0, .int .u64 0, .int .u64 0, .int .u64 0, .bool false, .slice none ([] : List T_api_Entry).length 0, .string (bs [])]⟩, ⟨42, b_13, [.int .i64 r_5.1, .int .i64 r_6.1, .int .i64 r_7.1, .int .u64 r_8.1, .int .u64 r_9.1, .int .u64 r_10.1, .int .u64 r_11.1, .bool r_12.1, .slice A_18 f_17.length c_19, .string (bs [])]⟩]) (ps := []) (by kernel_rfl) trivial ?_
      refine OpTo.go (GoO.new rfl 43 (cs := [.int .u64 0, .int .u64 0, .int .i64 0, .string (bs [])]) (by kernel_rfl) _ (fun _ => rfl) (fun b_26 => ?_))
      refine GoO.exec (is := [10]) (hs := [.b 0]) (rest := []) (ks := [2, 4, 5, 6, 7]) (env' := [(2, .pointer (some ⟨b_2, 0, none⟩)), (4, .pointer (some ⟨b_4, 0, none⟩)), (5, .pointer (some ⟨b_13, 0, none⟩)), (6, .int .i64 n_20), (7, .pointer (some ⟨b_26, 0, none⟩))]) (H' := [⟨43, b_26, [.int .u64 r_22.1, .int .u64 r_23.1, .int .i64 r_24.1, .string (bs r_25.1)]⟩, ⟨41, b_4, [.string (bs r_25.2.s), .bool r_25.2.bad]⟩, ⟨40, b_2, [.int .i64 0, .int .i64 0, .int .i64 0, .int .u64 0, .int .u64 0, .int .u64 0, .int .u64 0, .bool false, .slice none ([] : List T_api_Entry).length 0, .string (bs [])]⟩, ⟨42, b_13, [.int .i64 r_5.1, .int .i64 r_6.1, .int .i64 r_7.1, .int .u64 r_8.1, .int .u64 r_9.1, .int .u64 r_10.1, .int .u64 r_11.1, .bool r_12.1, .slice A_18 f_17.length c_19, .string (bs [])]⟩]) (ps := [b_26 = b_26]) (by kernel_rfl) (And.intro rfl trivial) ?_
      refine GoO.regionEnd ?_
      refine GoO.region' (is := [0, 1, 2, 3, 4, 5, 6]) c31_21e (by kernel_rfl) ?_
      refine GoO.exec (is := [0, 1, 2]) (hs := [.p, .b 3, .b 0]) (rest := [3, 4, 5, 6]) (ks := [2, 4, 5, 6, 43, 44]) (env' := [(2, .pointer (some ⟨b_2, 0, none⟩)), (4, .pointer (some ⟨b_4, 0, none⟩)), (5, .pointer (some ⟨b_13, 0, none⟩)), (6, .int .i64 n_20), (43, .slice A_18 f_17.length c_19), (44, .agg ⟨[.int .u64 r_22.1, .int .u64 r_23.1, .int .i64 r_24.1, .string (bs r_25.1)]⟩)]) (H' := [⟨43, b_26, [.int .u64 r_22.1, .int .u64 r_23.1, .int .i64 r_24.1, .string (bs r_25.1)]⟩, ⟨41, b_4, [.string (bs r_25.2.s), .bool r_25.2.bad]⟩, ⟨40, b_2, [.int .i64 0, .int .i64 0, .int .i64 0, .int .u64 0, .int .u64 0, .int .u64 0, .int .u64 0, .bool false, .slice none ([] : List T_api_Entry).length 0, .string (bs [])]⟩, ⟨42, b_13, [.int .i64 r_5.1, .int .i64 r_6.1, .int .i64 r_7.1, .int .u64 r_8.1, .int .u64 r_9.1, .int .u64 r_10.1, .int .u64 r_11.1, .bool r_12.1, .slice A_18 f_17.length c_19, .string (bs [])]⟩]) (ps := [b_13 = b_13, b_26 = b_26]) (by kernel_rfl) (And.intro rfl (And.intro rfl trivial)) ?_
      refine OpTo.go (GoO.lit (e := 93) (K := kT_api_Entry) rfl (by kernel_rfl) (by kernel_rfl) (cs := [.int .u64 r_22.1, .int .u64 r_23.1, .int .i64 r_24.1, .string (bs r_25.1)]) (by kernel_rfl) [(⟨r_22.1, r_23.1, r_24.1, r_25.1⟩ : T_api_Entry)] (by kernel_rfl) (by kernel_rfl) (fun w S hB => ⟨[.int .u64 r_22.1, .int .u64 r_23.1, .int .i64 r_24.1, .string (bs r_25.1)], _, rfl, rfl, rfl⟩) 44 _ (fun _ _ => rfl) (fun A_27 c_28 => ?_))
      refine GoO.guard (fun h29 => ?_)
      refine OpTo.go (GoO.appW (e := 93) (K := kT_api_Entry) (A := A_18) (c := c_19) (tg := 45) (bytes := 40) (zs := [.int .u64 0, .int .u64 0, .int .i64 0, .string (bs [])]) (xs := f_17) (ys := [(⟨r_22.1, r_23.1, r_24.1, r_25.1⟩ : T_api_Entry)]) (xv := .slice A_27 [(⟨r_22.1, r_23.1, r_24.1, r_25.1⟩ : T_api_Entry)].length c_28) (j := 1) (bk := [0]) rfl (by kernel_rfl) (by kernel_rfl) (by kernel_rfl) (by kernel_rfl) rfl (by kernel_rfl) rfl (fun w S hB => SrcIs.row (Reads.own w S (hB _ (List.mem_of_getElem? (i := 0) rfl)))) h29 rfl rfl rfl rfl _ (fun _ _ => rfl) (fun A_30 c_31 => ?_))
      refine GoO.exec (is := [5, 6]) (hs := [.p, .b 3]) (rest := []) (ks := [2, 4, 5, 6]) (env' := [(2, .pointer (some ⟨b_2, 0, none⟩)), (4, .pointer (some ⟨b_4, 0, none⟩)), (5, .pointer (some ⟨b_13, 0, none⟩)), (6, .int .i64 n_20)]) (H' := [⟨43, b_26, [.int .u64 r_22.1, .int .u64 r_23.1, .int .i64 r_24.1, .string (bs r_25.1)]⟩, ⟨41, b_4, [.string (bs r_25.2.s), .bool r_25.2.bad]⟩, ⟨40, b_2, [.int .i64 0, .int .i64 0, .int .i64 0, .int .u64 0, .int .u64 0, .int .u64 0, .int .u64 0, .bool false, .slice none ([] : List T_api_Entry).length 0, .string (bs [])]⟩, ⟨42, b_13, [.int .i64 r_5.1, .int .i64 r_6.1, .int .i64 r_7.1, .int .u64 r_8.1, .int .u64 r_9.1, .int .u64 r_10.1, .int .u64 r_11.1, .bool r_12.1, .slice A_30 (f_17 ++ [(⟨r_22.1, r_23.1, r_24.1, r_25.1⟩ : T_api_Entry)]).length c_31, .string (bs [])]⟩]) (ps := [b_13 = b_13]) (by kernel_rfl) (And.intro rfl trivial) ?_
      refine GoO.regionEnd ?_
      refine GoO.inBlock ?_
      refine GoO.region' (is := [0, 1, 2]) c31_22e (by kernel_rfl) ?_
      refine GoO.exec (is := [0, 1, 2]) (hs := [.p, .p, .p]) (rest := []) (ks := [2, 4, 5, 6]) (env' := [(2, .pointer (some ⟨b_2, 0, none⟩)), (4, .pointer (some ⟨b_4, 0, none⟩)), (5, .pointer (some ⟨b_13, 0, none⟩)), (6, .int .i64 (wi64 (n_20 - 1)))]) (H' := [⟨43, b_26, [.int .u64 r_22.1, .int .u64 r_23.1, .int .i64 r_24.1, .string (bs r_25.1)]⟩, ⟨41, b_4, [.string (bs r_25.2.s), .bool r_25.2.bad]⟩, ⟨40, b_2, [.int .i64 0, .int .i64 0, .int .i64 0, .int .u64 0, .int .u64 0, .int .u64 0, .int .u64 0, .bool false, .slice none ([] : List T_api_Entry).length 0, .string (bs [])]⟩, ⟨42, b_13, [.int .i64 r_5.1, .int .i64 r_6.1, .int .i64 r_7.1, .int .u64 r_8.1, .int .u64 r_9.1, .int .u64 r_10.1, .int .u64 r_11.1, .bool r_12.1, .slice A_30 (f_17 ++ [(⟨r_22.1, r_23.1, r_24.1, r_25.1⟩ : T_api_Entry)]).length c_31, .string (bs [])]⟩]) (ps := []) (by kernel_rfl) trivial ?_
      refine GoO.regionEnd ?_
      refine GoO.inLoop ?_
      exact GoO.sub (ks := [2, 4, 5, 6]) (hk := [2, 1, 3]) (bk := [0]) (by kernel_rfl) (by kernel_rfl) (by kernel_rfl) (ih0 r_25.2.s r_25.2.bad (f_17 ++ [(⟨r_22.1, r_23.1, r_24.1, r_25.1⟩ : T_api_Entry)]) (wi64 (n_20 - 1)) A_30 c_31)
    · refine GoO.exit' c31_16e rfl ?_
      refine GoO.seq' c31_23e ?_
      refine GoO.region' (is := [0, 1, 2, 3]) c31_24e (by kernel_rfl) ?_
      refine GoO.exec (is := [0]) (hs := [.p]) (rest := [1, 2, 3]) (ks := [2, 4, 5, 48]) (env' := [(2, .pointer (some ⟨b_2, 0, none⟩)), (4, .pointer (some ⟨b_4, 0, none⟩)), (5, .pointer (some ⟨b_13, 0, none⟩)), (48, .pointer (some ⟨b_4, 0, none⟩))]) (H' := [⟨40, b_2, [.int .i64 0, .int .i64 0, .int .i64 0, .int .u64 0, .int .u64 0, .int .u64 0, .int .u64 0, .bool false, .slice none ([] : List T_api_Entry).length 0, .string (bs [])]⟩, ⟨41, b_4, [.string (bs f_15), .bool f_16]⟩, ⟨42, b_13, [.int .i64 r_5.1, .int .i64 r_6.1, .int .i64 r_7.1, .int .u64 r_8.1, .int .u64 r_9.1, .int .u64 r_10.1, .int .u64 r_11.1, .bool r_12.1, .slice A_18 f_17.length c_19, .string (bs [])]⟩]) (ps := []) (by kernel_rfl) trivial ?_
      refine OpTo.go (GoO.call rfl (by kernel_rfl) (by kernel_rfl) (pack_Reader_Text_ok n (⟨f_15, f_16⟩ : T_pack_Reader) 65536 b_4) [[0], [41]] [(41, 1)] [(1, 1)] [] (hks := [0, 2]) (bks := [0]) (by kernel_rfl) (by kernel_rfl) (by kernel_rfl) (.inl rfl) rfl rfl (by kernel_rfl) (by kernel_rfl) _ (fun _ _ => rfl) _ _ (fun _ _ => rfl) (fun _ _ => rfl) (fun _ _ => by kernel_rfl) (fun _ _ => by kernel_rfl) (fun r_36 x_43 => ?_))
      refine GoO.shape (env' := [(2, .pointer (some ⟨b_2, 0, none⟩)), (4, .pointer (some ⟨b_4, 0, none⟩)), (5, .pointer (some ⟨b_13, 0, none⟩)), (48, .pointer (some ⟨b_4, 0, none⟩)), (49, .string (bs r_36.1))]) (H' := [⟨41, b_4, [.string (bs r_36.2.s), .bool r_36.2.bad]⟩, ⟨40, b_2, [.int .i64 0, .int .i64 0, .int .i64 0, .int .u64 0, .int .u64 0, .int .u64 0, .int .u64 0, .bool false, .slice none ([] : List T_api_Entry).length 0, .string (bs [])]⟩, ⟨42, b_13, [.int .i64 r_5.1, .int .i64 r_6.1, .int .i64 r_7.1, .int .u64 r_8.1, .int .u64 r_9.1, .int .u64 r_10.1, .int .u64 r_11.1, .bool r_12.1, .slice A_18 f_17.length c_19, .string (bs [])]⟩]) (B' := [Ow 45 kT_api_Entry A_18 c_19 f_17]) (ks := [2, 4, 5, 48, 49]) (by kernel_rfl) (by kernel_rfl) (by kernel_rfl) ?_
      refine GoO.exec (is := [2, 3]) (hs := [.p, .b 2]) (rest := []) (ks := [2, 4, 5]) (env' := [(2, .pointer (some ⟨b_2, 0, none⟩)), (4, .pointer (some ⟨b_4, 0, none⟩)), (5, .pointer (some ⟨b_13, 0, none⟩))]) (H' := [⟨41, b_4, [.string (bs r_36.2.s), .bool r_36.2.bad]⟩, ⟨40, b_2, [.int .i64 0, .int .i64 0, .int .i64 0, .int .u64 0, .int .u64 0, .int .u64 0, .int .u64 0, .bool false, .slice none ([] : List T_api_Entry).length 0, .string (bs [])]⟩, ⟨42, b_13, [.int .i64 r_5.1, .int .i64 r_6.1, .int .i64 r_7.1, .int .u64 r_8.1, .int .u64 r_9.1, .int .u64 r_10.1, .int .u64 r_11.1, .bool r_12.1, .slice A_18 f_17.length c_19, .string (bs r_36.1)]⟩]) (ps := [b_13 = b_13]) (by kernel_rfl) (And.intro rfl trivial) ?_
      refine GoO.regionEnd ?_
      refine GoO.seq' c31_25e ?_
      refine GoO.seq' c31_26e ?_
      refine GoO.region' (is := [0, 1, 2, 3, 4, 5, 6, 7]) c31_27e (by kernel_rfl) ?_
      refine GoO.exec (is := [0]) (hs := [.p]) (rest := [1, 2, 3, 4, 5, 6, 7]) (ks := [2, 5, 51]) (env' := [(2, .pointer (some ⟨b_2, 0, none⟩)), (5, .pointer (some ⟨b_13, 0, none⟩)), (51, .pointer (some ⟨b_4, 0, none⟩))]) (H' := [⟨41, b_4, [.string (bs r_36.2.s), .bool r_36.2.bad]⟩, ⟨40, b_2, [.int .i64 0, .int .i64 0, .int .i64 0, .int .u64 0, .int .u64 0, .int .u64 0, .int .u64 0, .bool false, .slice none ([] : List T_api_Entry).length 0, .string (bs [])]⟩, ⟨42, b_13, [.int .i64 r_5.1, .int .i64 r_6.1, .int .i64 r_7.1, .int .u64 r_8.1, .int .u64 r_9.1, .int .u64 r_10.1, .int .u64 r_11.1, .bool r_12.1, .slice A_18 f_17.length c_19, .string (bs r_36.1)]⟩]) (ps := []) (by kernel_rfl) trivial ?_
      refine OpTo.go (GoO.call rfl (by kernel_rfl) (by kernel_rfl) (pack_Reader_Done_ok n r_36.2 b_4) [[0], [41]] [] [(1, 0)] [] (hks := [0, 1, 2]) (bks := [0]) (by kernel_rfl) (by kernel_rfl) (by kernel_rfl) (.inl rfl) rfl rfl (by kernel_rfl) (by kernel_rfl) _ (fun _ _ => rfl) _ _ (fun _ _ => rfl) (fun _ _ => rfl) (fun _ _ => by kernel_rfl) (fun _ _ => by kernel_rfl) (fun r_37 x_42 => ?_))
      refine GoO.shape (env' := [(2, .pointer (some ⟨b_2, 0, none⟩)), (5, .pointer (some ⟨b_13, 0, none⟩)), (51, .pointer (some ⟨b_4, 0, none⟩)), (52, .bool r_37)]) (H' := [⟨41, b_4, [.string (bs r_36.2.s), .bool r_36.2.bad]⟩, ⟨40, b_2, [.int .i64 0, .int .i64 0, .int .i64 0, .int .u64 0, .int .u64 0, .int .u64 0, .int .u64 0, .bool false, .slice none ([] : List T_api_Entry).length 0, .string (bs [])]⟩, ⟨42, b_13, [.int .i64 r_5.1, .int .i64 r_6.1, .int .i64 r_7.1, .int .u64 r_8.1, .int .u64 r_9.1, .int .u64 r_10.1, .int .u64 r_11.1, .bool r_12.1, .slice A_18 f_17.length c_19, .string (bs r_36.1)]⟩]) (B' := [Ow 45 kT_api_Entry A_18 c_19 f_17]) (ks := [2, 5, 51, 52]) (by kernel_rfl) (by kernel_rfl) (by kernel_rfl) ?_
      refine GoO.exec (is := [2, 3]) (hs := [.p, .p]) (rest := [4, 5, 6, 7]) (ks := [2, 5, 54]) (env' := [(2, .pointer (some ⟨b_2, 0, none⟩)), (5, .pointer (some ⟨b_13, 0, none⟩)), (54, .bool (!r_37))]) (H' := [⟨41, b_4, [.string (bs r_36.2.s), .bool r_36.2.bad]⟩, ⟨40, b_2, [.int .i64 0, .int .i64 0, .int .i64 0, .int .u64 0, .int .u64 0, .int .u64 0, .int .u64 0, .bool false, .slice none ([] : List T_api_Entry).length 0, .string (bs [])]⟩, ⟨42, b_13, [.int .i64 r_5.1, .int .i64 r_6.1, .int .i64 r_7.1, .int .u64 r_8.1, .int .u64 r_9.1, .int .u64 r_10.1, .int .u64 r_11.1, .bool r_12.1, .slice A_18 f_17.length c_19, .string (bs r_36.1)]⟩]) (ps := []) (by kernel_rfl) trivial ?_
      refine GoO.bsplit (t := 54) (by kernel_rfl) (fun h38 => ?_) (fun h38 => ?_)
      · refine GoO.exec (is := [4, 5, 6, 7]) (hs := [.p, .p, .p, .p]) (rest := []) (ks := [2, 5, 58]) (env' := [(2, .pointer (some ⟨b_2, 0, none⟩)), (5, .pointer (some ⟨b_13, 0, none⟩)), (58, .bool true)]) (H' := [⟨41, b_4, [.string (bs r_36.2.s), .bool r_36.2.bad]⟩, ⟨40, b_2, [.int .i64 0, .int .i64 0, .int .i64 0, .int .u64 0, .int .u64 0, .int .u64 0, .int .u64 0, .bool false, .slice none ([] : List T_api_Entry).length 0, .string (bs [])]⟩, ⟨42, b_13, [.int .i64 r_5.1, .int .i64 r_6.1, .int .i64 r_7.1, .int .u64 r_8.1, .int .u64 r_9.1, .int .u64 r_10.1, .int .u64 r_11.1, .bool r_12.1, .slice A_18 f_17.length c_19, .string (bs r_36.1)]⟩]) (ps := []) (by kernel_rfl) trivial ?_
        refine GoO.regionEnd ?_
        refine GoO.condT c31_28e (by kernel_rfl) ?_
        refine GoO.seq' c31_29e ?_
        refine GoO.region' (is := [0, 1, 2]) c31_30e (by kernel_rfl) ?_
        refine GoO.exec (is := [0, 1, 2]) (hs := [.p, .b 1, .p]) (rest := []) (ks := [2, 3]) (env' := [(2, .pointer (some ⟨b_2, 0, none⟩)), (3, .int .i64 2)]) (H' := [⟨41, b_4, [.string (bs r_36.2.s), .bool r_36.2.bad]⟩, ⟨40, b_2, [.int .i64 0, .int .i64 0, .int .i64 0, .int .u64 0, .int .u64 0, .int .u64 0, .int .u64 0, .bool false, .slice none ([] : List T_api_Entry).length 0, .string (bs [])]⟩, ⟨42, b_13, [.int .i64 r_5.1, .int .i64 r_6.1, .int .i64 r_7.1, .int .u64 r_8.1, .int .u64 r_9.1, .int .u64 r_10.1, .int .u64 r_11.1, .bool r_12.1, .slice A_18 f_17.length c_19, .string (bs r_36.1)]⟩]) (ps := [b_2 = b_2]) (by kernel_rfl) (And.intro rfl trivial) ?_
        refine GoO.regionEnd ?_
        refine GoO.nilRd kT_api_Entry ?_
        exact GoO.ret' (h := c31_31e) (hs := [1]) (ps := [b_2 = b_2]) (hk := []) (bk := [0]) Try.func31 (⟨none, 0⟩ : Option Addr × Nat) (by kernel_rfl) (And.intro rfl trivial) (by kernel_rfl) (by kernel_rfl)
      · refine GoO.exec (is := [4]) (hs := [.b 2]) (rest := [5, 6, 7]) (ks := [2, 5, 54, 55]) (env' := [(2, .pointer (some ⟨b_2, 0, none⟩)), (5, .pointer (some ⟨b_13, 0, none⟩)), (54, .bool false), (55, .agg ⟨[.int .i64 r_5.1, .int .i64 r_6.1, .int .i64 r_7.1, .int .u64 r_8.1, .int .u64 r_9.1, .int .u64 r_10.1, .int .u64 r_11.1, .bool r_12.1, .slice A_18 f_17.length c_19, .string (bs r_36.1)]⟩)]) (H' := [⟨41, b_4, [.string (bs r_36.2.s), .bool r_36.2.bad]⟩, ⟨40, b_2, [.int .i64 0, .int .i64 0, .int .i64 0, .int .u64 0, .int .u64 0, .int .u64 0, .int .u64 0, .bool false, .slice none ([] : List T_api_Entry).length 0, .string (bs [])]⟩, ⟨42, b_13, [.int .i64 r_5.1, .int .i64 r_6.1, .int .i64 r_7.1, .int .u64 r_8.1, .int .u64 r_9.1, .int .u64 r_10.1, .int .u64 r_11.1, .bool r_12.1, .slice A_18 f_17.length c_19, .string (bs r_36.1)]⟩]) (ps := [b_13 = b_13]) (by kernel_rfl) (And.intro rfl trivial) ?_
        refine GoO.view (j := 0) rfl ?_
        refine OpTo.go (GoO.call rfl (by kernel_rfl) (by kernel_rfl) (letter_May_ok n (⟨r_5.1, r_6.1, r_7.1, r_8.1, r_9.1, r_10.1, r_11.1, r_12.1, f_17, r_36.1⟩ : T_api_Letter) A_18 c_19) [[0, 45]] [] [] [(0, 1)] (hks := [0, 1, 2]) (bks := [0]) (by kernel_rfl) (by kernel_rfl) (by kernel_rfl) (.inr (fun _ _ => by simp [letter_May.R])) rfl rfl (by kernel_rfl) (by kernel_rfl) _ (fun _ _ => rfl) _ _ (fun _ _ => rfl) (fun _ _ => rfl) (fun _ _ => by kernel_rfl) (fun _ _ => by kernel_rfl) (fun r_39 x_41 => ?_))
        refine GoO.shape (env' := [(2, .pointer (some ⟨b_2, 0, none⟩)), (5, .pointer (some ⟨b_13, 0, none⟩)), (54, .bool false), (55, .agg ⟨[.int .i64 r_5.1, .int .i64 r_6.1, .int .i64 r_7.1, .int .u64 r_8.1, .int .u64 r_9.1, .int .u64 r_10.1, .int .u64 r_11.1, .bool r_12.1, .slice A_18 f_17.length c_19, .string (bs r_36.1)]⟩), (56, .bool r_39)]) (H' := [⟨41, b_4, [.string (bs r_36.2.s), .bool r_36.2.bad]⟩, ⟨40, b_2, [.int .i64 0, .int .i64 0, .int .i64 0, .int .u64 0, .int .u64 0, .int .u64 0, .int .u64 0, .bool false, .slice none ([] : List T_api_Entry).length 0, .string (bs [])]⟩, ⟨42, b_13, [.int .i64 r_5.1, .int .i64 r_6.1, .int .i64 r_7.1, .int .u64 r_8.1, .int .u64 r_9.1, .int .u64 r_10.1, .int .u64 r_11.1, .bool r_12.1, .slice A_18 f_17.length c_19, .string (bs r_36.1)]⟩]) (B' := [Ow 45 kT_api_Entry A_18 c_19 f_17]) (ks := [2, 5, 54, 55, 56]) (by kernel_rfl) (by kernel_rfl) (by kernel_rfl) ?_
        refine GoO.exec (is := [6, 7]) (hs := [.p, .p]) (rest := []) (ks := [2, 5, 58]) (env' := [(2, .pointer (some ⟨b_2, 0, none⟩)), (5, .pointer (some ⟨b_13, 0, none⟩)), (58, .bool (!r_39))]) (H' := [⟨41, b_4, [.string (bs r_36.2.s), .bool r_36.2.bad]⟩, ⟨40, b_2, [.int .i64 0, .int .i64 0, .int .i64 0, .int .u64 0, .int .u64 0, .int .u64 0, .int .u64 0, .bool false, .slice none ([] : List T_api_Entry).length 0, .string (bs [])]⟩, ⟨42, b_13, [.int .i64 r_5.1, .int .i64 r_6.1, .int .i64 r_7.1, .int .u64 r_8.1, .int .u64 r_9.1, .int .u64 r_10.1, .int .u64 r_11.1, .bool r_12.1, .slice A_18 f_17.length c_19, .string (bs r_36.1)]⟩]) (ps := []) (by kernel_rfl) trivial ?_
        refine GoO.regionEnd ?_
        refine GoO.ite' c31_28e (by kernel_rfl) (fun h40 => ?_) (fun h40 => ?_)
        · refine GoO.seq' c31_29e ?_
          refine GoO.region' (is := [0, 1, 2]) c31_30e (by kernel_rfl) ?_
          refine GoO.exec (is := [0, 1, 2]) (hs := [.p, .b 1, .p]) (rest := []) (ks := [2, 3]) (env' := [(2, .pointer (some ⟨b_2, 0, none⟩)), (3, .int .i64 2)]) (H' := [⟨41, b_4, [.string (bs r_36.2.s), .bool r_36.2.bad]⟩, ⟨40, b_2, [.int .i64 0, .int .i64 0, .int .i64 0, .int .u64 0, .int .u64 0, .int .u64 0, .int .u64 0, .bool false, .slice none ([] : List T_api_Entry).length 0, .string (bs [])]⟩, ⟨42, b_13, [.int .i64 r_5.1, .int .i64 r_6.1, .int .i64 r_7.1, .int .u64 r_8.1, .int .u64 r_9.1, .int .u64 r_10.1, .int .u64 r_11.1, .bool r_12.1, .slice A_18 f_17.length c_19, .string (bs r_36.1)]⟩]) (ps := [b_2 = b_2]) (by kernel_rfl) (And.intro rfl trivial) ?_
          refine GoO.regionEnd ?_
          refine GoO.nilRd kT_api_Entry ?_
          exact GoO.ret' (h := c31_31e) (hs := [1]) (ps := [b_2 = b_2]) (hk := []) (bk := [0]) Try.func31 (⟨none, 0⟩ : Option Addr × Nat) (by kernel_rfl) (And.intro rfl trivial) (by kernel_rfl) (by kernel_rfl)
        · refine GoO.skip' c31_32e ?_
          refine GoO.seq' c31_33e ?_
          refine GoO.region' (is := [0, 1, 2]) c31_34e (by kernel_rfl) ?_
          refine GoO.exec (is := [0, 1, 2]) (hs := [.b 2, .b 1, .p]) (rest := []) (ks := [2, 3]) (env' := [(2, .pointer (some ⟨b_2, 0, none⟩)), (3, .int .i64 0)]) (H' := [⟨41, b_4, [.string (bs r_36.2.s), .bool r_36.2.bad]⟩, ⟨40, b_2, [.int .i64 r_5.1, .int .i64 r_6.1, .int .i64 r_7.1, .int .u64 r_8.1, .int .u64 r_9.1, .int .u64 r_10.1, .int .u64 r_11.1, .bool r_12.1, .slice A_18 f_17.length c_19, .string (bs r_36.1)]⟩, ⟨42, b_13, [.int .i64 r_5.1, .int .i64 r_6.1, .int .i64 r_7.1, .int .u64 r_8.1, .int .u64 r_9.1, .int .u64 r_10.1, .int .u64 r_11.1, .bool r_12.1, .slice A_18 f_17.length c_19, .string (bs r_36.1)]⟩]) (ps := [b_13 = b_13, b_2 = b_2]) (by kernel_rfl) (And.intro rfl (And.intro rfl trivial)) ?_
          refine GoO.regionEnd ?_
          refine GoO.retag (t := 45) (u := 0) (j := 0) (hk := [0, 1, 2]) (bk := []) rfl rfl rfl rfl rfl rfl (by kernel_rfl) (by kernel_rfl) ?_
          refine GoO.own2rd (j := 0) rfl ?_
          exact GoO.ret' (h := c31_35e) (hs := [1]) (ps := [b_2 = b_2]) (hk := []) (bk := [0]) Try.func31 (⟨A_18, c_19⟩ : Option Addr × Nat) (by kernel_rfl) (And.intro rfl trivial) (by kernel_rfl) (by kernel_rfl)
theorem letter_Decode_ok (n : Nat) (s_1 : (List UInt8)) :
    Meets Try.prog 31 [.string (bs s_1)] 0 [] [] [] (letter_Decode.f n s_1) (letter_Decode.R) := by
  refine Meets.of (c := c31_0) (n := 61) Try.func31 (by kernel_rfl) (by kernel_rfl) (by kernel_rfl) fun w0 S0 => ?_
  unfold letter_Decode.f
  show GoO (letter_Decode.cx w0 S0) [(0, .string (bs s_1))] [] [] [.code c31_0] _
  refine GoO.seq' c31_0e ?_
  refine GoO.region' (is := [0, 1]) c31_1e (by kernel_rfl) ?_
  refine OpTo.go (GoO.new rfl 40 (cs := [.int .i64 0, .int .i64 0, .int .i64 0, .int .u64 0, .int .u64 0, .int .u64 0, .int .u64 0, .bool false, .slice none ([] : List T_api_Entry).length 0, .string (bs [])]) (by kernel_rfl) _ (fun _ => rfl) (fun b_2 => ?_))
  refine GoO.exec (is := [1]) (hs := [.p]) (rest := []) (ks := [0, 2]) (env' := [(0, .string (bs s_1)), (2, .pointer (some ⟨b_2, 0, none⟩))]) (H' := [⟨40, b_2, [.int .i64 0, .int .i64 0, .int .i64 0, .int .u64 0, .int .u64 0, .int .u64 0, .int .u64 0, .bool false, .slice none ([] : List T_api_Entry).length 0, .string (bs [])]⟩]) (ps := []) (by kernel_rfl) trivial ?_
  refine GoO.regionEnd ?_
  refine GoO.seq' c31_2e ?_
  refine GoO.region' (is := [0, 1, 2]) c31_3e (by kernel_rfl) ?_
  refine GoO.exec (is := [0]) (hs := [.p]) (rest := [1, 2]) (ks := [2, 8]) (env' := [(2, .pointer (some ⟨b_2, 0, none⟩)), (8, .string (bs s_1))]) (H' := [⟨40, b_2, [.int .i64 0, .int .i64 0, .int .i64 0, .int .u64 0, .int .u64 0, .int .u64 0, .int .u64 0, .bool false, .slice none ([] : List T_api_Entry).length 0, .string (bs [])]⟩]) (ps := []) (by kernel_rfl) trivial ?_
  refine OpTo.go (GoO.call rfl (by kernel_rfl) (by kernel_rfl) (pack_From_ok n s_1) [[0]] [(41, 1)] [] [] (hks := [0]) (bks := []) (by kernel_rfl) (by kernel_rfl) (by kernel_rfl) (.inl rfl) rfl rfl (by kernel_rfl) (by kernel_rfl) _ (fun _ _ => rfl) _ _ (fun _ _ => rfl) (fun _ _ => rfl) (fun _ _ => by kernel_rfl) (fun _ _ => by kernel_rfl) (fun r_3 b_4 => ?_))
  refine GoO.shape (env' := [(2, .pointer (some ⟨b_2, 0, none⟩)), (8, .string (bs s_1)), (9, .pointer (some ⟨b_4, 0, none⟩))]) (H' := [⟨41, b_4, [.string (bs r_3.s), .bool r_3.bad]⟩, ⟨40, b_2, [.int .i64 0, .int .i64 0, .int .i64 0, .int .u64 0, .int .u64 0, .int .u64 0, .int .u64 0, .bool false, .slice none ([] : List T_api_Entry).length 0, .string (bs [])]⟩]) (B' := []) (ks := [2, 8, 9]) (by kernel_rfl) (by kernel_rfl) (by kernel_rfl) ?_
  refine GoO.exec (is := [2]) (hs := [.p]) (rest := []) (ks := [2, 4]) (env' := [(2, .pointer (some ⟨b_2, 0, none⟩)), (4, .pointer (some ⟨b_4, 0, none⟩))]) (H' := [⟨41, b_4, [.string (bs r_3.s), .bool r_3.bad]⟩, ⟨40, b_2, [.int .i64 0, .int .i64 0, .int .i64 0, .int .u64 0, .int .u64 0, .int .u64 0, .int .u64 0, .bool false, .slice none ([] : List T_api_Entry).length 0, .string (bs [])]⟩]) (ps := []) (by kernel_rfl) trivial ?_
  refine GoO.regionEnd ?_
  refine GoO.seq' c31_4e ?_
  refine GoO.region' (is := [0, 1, 2, 3, 4, 5, 6, 7, 8, 9, 10, 11, 12, 13, 14, 15, 16, 17, 18]) c31_5e (by kernel_rfl) ?_
  refine GoO.exec (is := [0]) (hs := [.p]) (rest := [1, 2, 3, 4, 5, 6, 7, 8, 9, 10, 11, 12, 13, 14, 15, 16, 17, 18]) (ks := [2, 4, 10]) (env' := [(2, .pointer (some ⟨b_2, 0, none⟩)), (4, .pointer (some ⟨b_4, 0, none⟩)), (10, .pointer (some ⟨b_4, 0, none⟩))]) (H' := [⟨41, b_4, [.string (bs r_3.s), .bool r_3.bad]⟩, ⟨40, b_2, [.int .i64 0, .int .i64 0, .int .i64 0, .int .u64 0, .int .u64 0, .int .u64 0, .int .u64 0, .bool false, .slice none ([] : List T_api_Entry).length 0, .string (bs [])]⟩]) (ps := []) (by kernel_rfl) trivial ?_
  refine OpTo.go (GoO.call rfl (by kernel_rfl) (by kernel_rfl) (pack_Reader_Up_ok n r_3 9 b_4) [[0], [41]] [(41, 1)] [(1, 0)] [] (hks := [1]) (bks := []) (by kernel_rfl) (by kernel_rfl) (by kernel_rfl) (.inl rfl) rfl rfl (by kernel_rfl) (by kernel_rfl) _ (fun _ _ => rfl) _ _ (fun _ _ => rfl) (fun _ _ => rfl) (fun _ _ => by kernel_rfl) (fun _ _ => by kernel_rfl) (fun r_5 x_52 => ?_))
  refine GoO.shape (env' := [(2, .pointer (some ⟨b_2, 0, none⟩)), (4, .pointer (some ⟨b_4, 0, none⟩)), (10, .pointer (some ⟨b_4, 0, none⟩)), (11, .int .i64 r_5.1)]) (H' := [⟨41, b_4, [.string (bs r_5.2.s), .bool r_5.2.bad]⟩, ⟨40, b_2, [.int .i64 0, .int .i64 0, .int .i64 0, .int .u64 0, .int .u64 0, .int .u64 0, .int .u64 0, .bool false, .slice none ([] : List T_api_Entry).length 0, .string (bs [])]⟩]) (B' := []) (ks := [2, 4, 10, 11]) (by kernel_rfl) (by kernel_rfl) (by kernel_rfl) ?_
  refine GoO.exec (is := [2]) (hs := [.p]) (rest := [3, 4, 5, 6, 7, 8, 9, 10, 11, 12, 13, 14, 15, 16, 17, 18]) (ks := [2, 4, 11, 12]) (env' := [(2, .pointer (some ⟨b_2, 0, none⟩)), (4, .pointer (some ⟨b_4, 0, none⟩)), (11, .int .i64 r_5.1), (12, .pointer (some ⟨b_4, 0, none⟩))]) (H' := [⟨41, b_4, [.string (bs r_5.2.s), .bool r_5.2.bad]⟩, ⟨40, b_2, [.int .i64 0, .int .i64 0, .int .i64 0, .int .u64 0, .int .u64 0, .int .u64 0, .int .u64 0, .bool false, .slice none ([] : List T_api_Entry).length 0, .string (bs [])]⟩]) (ps := []) (by kernel_rfl) trivial ?_
  refine OpTo.go (GoO.call rfl (by kernel_rfl) (by kernel_rfl) (pack_Reader_Up_ok n r_5.2 255 b_4) [[0], [41]] [(41, 1)] [(1, 0)] [] (hks := [1]) (bks := []) (by kernel_rfl) (by kernel_rfl) (by kernel_rfl) (.inl rfl) rfl rfl (by kernel_rfl) (by kernel_rfl) _ (fun _ _ => rfl) _ _ (fun _ _ => rfl) (fun _ _ => rfl) (fun _ _ => by kernel_rfl) (fun _ _ => by kernel_rfl) (fun r_6 x_51 => ?_))
  refine GoO.shape (env' := [(2, .pointer (some ⟨b_2, 0, none⟩)), (4, .pointer (some ⟨b_4, 0, none⟩)), (11, .int .i64 r_5.1), (12, .pointer (some ⟨b_4, 0, none⟩)), (13, .int .i64 r_6.1)]) (H' := [⟨41, b_4, [.string (bs r_6.2.s), .bool r_6.2.bad]⟩, ⟨40, b_2, [.int .i64 0, .int .i64 0, .int .i64 0, .int .u64 0, .int .u64 0, .int .u64 0, .int .u64 0, .bool false, .slice none ([] : List T_api_Entry).length 0, .string (bs [])]⟩]) (B' := []) (ks := [2, 4, 11, 12, 13]) (by kernel_rfl) (by kernel_rfl) (by kernel_rfl) ?_
  refine GoO.exec (is := [4]) (hs := [.p]) (rest := [5, 6, 7, 8, 9, 10, 11, 12, 13, 14, 15, 16, 17, 18]) (ks := [2, 4, 11, 13, 14]) (env' := [(2, .pointer (some ⟨b_2, 0, none⟩)), (4, .pointer (some ⟨b_4, 0, none⟩)), (11, .int .i64 r_5.1), (13, .int .i64 r_6.1), (14, .pointer (some ⟨b_4, 0, none⟩))]) (H' := [⟨41, b_4, [.string (bs r_6.2.s), .bool r_6.2.bad]⟩, ⟨40, b_2, [.int .i64 0, .int .i64 0, .int .i64 0, .int .u64 0, .int .u64 0, .int .u64 0, .int .u64 0, .bool false, .slice none ([] : List T_api_Entry).length 0, .string (bs [])]⟩]) (ps := []) (by kernel_rfl) trivial ?_
  refine OpTo.go (GoO.call rfl (by kernel_rfl) (by kernel_rfl) (pack_Reader_Up_ok n r_6.2 255 b_4) [[0], [41]] [(41, 1)] [(1, 0)] [] (hks := [1]) (bks := []) (by kernel_rfl) (by kernel_rfl) (by kernel_rfl) (.inl rfl) rfl rfl (by kernel_rfl) (by kernel_rfl) _ (fun _ _ => rfl) _ _ (fun _ _ => rfl) (fun _ _ => rfl) (fun _ _ => by kernel_rfl) (fun _ _ => by kernel_rfl) (fun r_7 x_50 => ?_))
  refine GoO.shape (env' := [(2, .pointer (some ⟨b_2, 0, none⟩)), (4, .pointer (some ⟨b_4, 0, none⟩)), (11, .int .i64 r_5.1), (13, .int .i64 r_6.1), (14, .pointer (some ⟨b_4, 0, none⟩)), (15, .int .i64 r_7.1)]) (H' := [⟨41, b_4, [.string (bs r_7.2.s), .bool r_7.2.bad]⟩, ⟨40, b_2, [.int .i64 0, .int .i64 0, .int .i64 0, .int .u64 0, .int .u64 0, .int .u64 0, .int .u64 0, .bool false, .slice none ([] : List T_api_Entry).length 0, .string (bs [])]⟩]) (B' := []) (ks := [2, 4, 11, 13, 14, 15]) (by kernel_rfl) (by kernel_rfl) (by kernel_rfl) ?_
  refine GoO.exec (is := [6]) (hs := [.p]) (rest := [7, 8, 9, 10, 11, 12, 13, 14, 15, 16, 17, 18]) (ks := [2, 4, 11, 13, 15, 16]) (env' := [(2, .pointer (some ⟨b_2, 0, none⟩)), (4, .pointer (some ⟨b_4, 0, none⟩)), (11, .int .i64 r_5.1), (13, .int .i64 r_6.1), (15, .int .i64 r_7.1), (16, .pointer (some ⟨b_4, 0, none⟩))]) (H' := [⟨41, b_4, [.string (bs r_7.2.s), .bool r_7.2.bad]⟩, ⟨40, b_2, [.int .i64 0, .int .i64 0, .int .i64 0, .int .u64 0, .int .u64 0, .int .u64 0, .int .u64 0, .bool false, .slice none ([] : List T_api_Entry).length 0, .string (bs [])]⟩]) (ps := []) (by kernel_rfl) trivial ?_
  refine OpTo.go (GoO.call rfl (by kernel_rfl) (by kernel_rfl) (pack_Reader_Num_ok n r_7.2 b_4) [[0], [41]] [(41, 1)] [(1, 0)] [] (hks := [1]) (bks := []) (by kernel_rfl) (by kernel_rfl) (by kernel_rfl) (.inl rfl) rfl rfl (by kernel_rfl) (by kernel_rfl) _ (fun _ _ => rfl) _ _ (fun _ _ => rfl) (fun _ _ => rfl) (fun _ _ => by kernel_rfl) (fun _ _ => by kernel_rfl) (fun r_8 x_49 => ?_))
  refine GoO.shape (env' := [(2, .pointer (some ⟨b_2, 0, none⟩)), (4, .pointer (some ⟨b_4, 0, none⟩)), (11, .int .i64 r_5.1), (13, .int .i64 r_6.1), (15, .int .i64 r_7.1), (16, .pointer (some ⟨b_4, 0, none⟩)), (17, .int .u64 r_8.1)]) (H' := [⟨41, b_4, [.string (bs r_8.2.s), .bool r_8.2.bad]⟩, ⟨40, b_2, [.int .i64 0, .int .i64 0, .int .i64 0, .int .u64 0, .int .u64 0, .int .u64 0, .int .u64 0, .bool false, .slice none ([] : List T_api_Entry).length 0, .string (bs [])]⟩]) (B' := []) (ks := [2, 4, 11, 13, 15, 16, 17]) (by kernel_rfl) (by kernel_rfl) (by kernel_rfl) ?_
  refine GoO.exec (is := [8]) (hs := [.p]) (rest := [9, 10, 11, 12, 13, 14, 15, 16, 17, 18]) (ks := [2, 4, 11, 13, 15, 17, 18]) (env' := [(2, .pointer (some ⟨b_2, 0, none⟩)), (4, .pointer (some ⟨b_4, 0, none⟩)), (11, .int .i64 r_5.1), (13, .int .i64 r_6.1), (15, .int .i64 r_7.1), (17, .int .u64 r_8.1), (18, .pointer (some ⟨b_4, 0, none⟩))]) (H' := [⟨41, b_4, [.string (bs r_8.2.s), .bool r_8.2.bad]⟩, ⟨40, b_2, [.int .i64 0, .int .i64 0, .int .i64 0, .int .u64 0, .int .u64 0, .int .u64 0, .int .u64 0, .bool false, .slice none ([] : List T_api_Entry).length 0, .string (bs [])]⟩]) (ps := []) (by kernel_rfl) trivial ?_
  refine OpTo.go (GoO.call rfl (by kernel_rfl) (by kernel_rfl) (pack_Reader_Num_ok n r_8.2 b_4) [[0], [41]] [(41, 1)] [(1, 0)] [] (hks := [1]) (bks := []) (by kernel_rfl) (by kernel_rfl) (by kernel_rfl) (.inl rfl) rfl rfl (by kernel_rfl) (by kernel_rfl) _ (fun _ _ => rfl) _ _ (fun _ _ => rfl) (fun _ _ => rfl) (fun _ _ => by kernel_rfl) (fun _ _ => by kernel_rfl) (fun r_9 x_48 => ?_))
  refine GoO.shape (env' := [(2, .pointer (some ⟨b_2, 0, none⟩)), (4, .pointer (some ⟨b_4, 0, none⟩)), (11, .int .i64 r_5.1), (13, .int .i64 r_6.1), (15, .int .i64 r_7.1), (17, .int .u64 r_8.1), (18, .pointer (some ⟨b_4, 0, none⟩)), (19, .int .u64 r_9.1)]) (H' := [⟨41, b_4, [.string (bs r_9.2.s), .bool r_9.2.bad]⟩, ⟨40, b_2, [.int .i64 0, .int .i64 0, .int .i64 0, .int .u64 0, .int .u64 0, .int .u64 0, .int .u64 0, .bool false, .slice none ([] : List T_api_Entry).length 0, .string (bs [])]⟩]) (B' := []) (ks := [2, 4, 11, 13, 15, 17, 18, 19]) (by kernel_rfl) (by kernel_rfl) (by kernel_rfl) ?_
  refine GoO.exec (is := [10]) (hs := [.p]) (rest := [11, 12, 13, 14, 15, 16, 17, 18]) (ks := [2, 4, 11, 13, 15, 17, 19, 20]) (env' := [(2, .pointer (some ⟨b_2, 0, none⟩)), (4, .pointer (some ⟨b_4, 0, none⟩)), (11, .int .i64 r_5.1), (13, .int .i64 r_6.1), (15, .int .i64 r_7.1), (17, .int .u64 r_8.1), (19, .int .u64 r_9.1), (20, .pointer (some ⟨b_4, 0, none⟩))]) (H' := [⟨41, b_4, [.string (bs r_9.2.s), .bool r_9.2.bad]⟩, ⟨40, b_2, [.int .i64 0, .int .i64 0, .int .i64 0, .int .u64 0, .int .u64 0, .int .u64 0, .int .u64 0, .bool false, .slice none ([] : List T_api_Entry).length 0, .string (bs [])]⟩]) (ps := []) (by kernel_rfl) trivial ?_
  refine OpTo.go (GoO.call rfl (by kernel_rfl) (by kernel_rfl) (pack_Reader_Num_ok n r_9.2 b_4) [[0], [41]] [(41, 1)] [(1, 0)] [] (hks := [1]) (bks := []) (by kernel_rfl) (by kernel_rfl) (by kernel_rfl) (.inl rfl) rfl rfl (by kernel_rfl) (by kernel_rfl) _ (fun _ _ => rfl) _ _ (fun _ _ => rfl) (fun _ _ => rfl) (fun _ _ => by kernel_rfl) (fun _ _ => by kernel_rfl) (fun r_10 x_47 => ?_))
  refine GoO.shape (env' := [(2, .pointer (some ⟨b_2, 0, none⟩)), (4, .pointer (some ⟨b_4, 0, none⟩)), (11, .int .i64 r_5.1), (13, .int .i64 r_6.1), (15, .int .i64 r_7.1), (17, .int .u64 r_8.1), (19, .int .u64 r_9.1), (20, .pointer (some ⟨b_4, 0, none⟩)), (21, .int .u64 r_10.1)]) (H' := [⟨41, b_4, [.string (bs r_10.2.s), .bool r_10.2.bad]⟩, ⟨40, b_2, [.int .i64 0, .int .i64 0, .int .i64 0, .int .u64 0, .int .u64 0, .int .u64 0, .int .u64 0, .bool false, .slice none ([] : List T_api_Entry).length 0, .string (bs [])]⟩]) (B' := []) (ks := [2, 4, 11, 13, 15, 17, 19, 20, 21]) (by kernel_rfl) (by kernel_rfl) (by kernel_rfl) ?_
  refine GoO.exec (is := [12]) (hs := [.p]) (rest := [13, 14, 15, 16, 17, 18]) (ks := [2, 4, 11, 13, 15, 17, 19, 21, 22]) (env' := [(2, .pointer (some ⟨b_2, 0, none⟩)), (4, .pointer (some ⟨b_4, 0, none⟩)), (11, .int .i64 r_5.1), (13, .int .i64 r_6.1), (15, .int .i64 r_7.1), (17, .int .u64 r_8.1), (19, .int .u64 r_9.1), (21, .int .u64 r_10.1), (22, .pointer (some ⟨b_4, 0, none⟩))]) (H' := [⟨41, b_4, [.string (bs r_10.2.s), .bool r_10.2.bad]⟩, ⟨40, b_2, [.int .i64 0, .int .i64 0, .int .i64 0, .int .u64 0, .int .u64 0, .int .u64 0, .int .u64 0, .bool false, .slice none ([] : List T_api_Entry).length 0, .string (bs [])]⟩]) (ps := []) (by kernel_rfl) trivial ?_
  refine OpTo.go (GoO.call rfl (by kernel_rfl) (by kernel_rfl) (pack_Reader_Num_ok n r_10.2 b_4) [[0], [41]] [(41, 1)] [(1, 0)] [] (hks := [1]) (bks := []) (by kernel_rfl) (by kernel_rfl) (by kernel_rfl) (.inl rfl) rfl rfl (by kernel_rfl) (by kernel_rfl) _ (fun _ _ => rfl) _ _ (fun _ _ => rfl) (fun _ _ => rfl) (fun _ _ => by kernel_rfl) (fun _ _ => by kernel_rfl) (fun r_11 x_46 => ?_))
  refine GoO.shape (env' := [(2, .pointer (some ⟨b_2, 0, none⟩)), (4, .pointer (some ⟨b_4, 0, none⟩)), (11, .int .i64 r_5.1), (13, .int .i64 r_6.1), (15, .int .i64 r_7.1), (17, .int .u64 r_8.1), (19, .int .u64 r_9.1), (21, .int .u64 r_10.1), (22, .pointer (some ⟨b_4, 0, none⟩)), (23, .int .u64 r_11.1)]) (H' := [⟨41, b_4, [.string (bs r_11.2.s), .bool r_11.2.bad]⟩, ⟨40, b_2, [.int .i64 0, .int .i64 0, .int .i64 0, .int .u64 0, .int .u64 0, .int .u64 0, .int .u64 0, .bool false, .slice none ([] : List T_api_Entry).length 0, .string (bs [])]⟩]) (B' := []) (ks := [2, 4, 11, 13, 15, 17, 19, 21, 22, 23]) (by kernel_rfl) (by kernel_rfl) (by kernel_rfl) ?_
  refine GoO.exec (is := [14]) (hs := [.p]) (rest := [15, 16, 17, 18]) (ks := [2, 4, 11, 13, 15, 17, 19, 21, 23, 24]) (env' := [(2, .pointer (some ⟨b_2, 0, none⟩)), (4, .pointer (some ⟨b_4, 0, none⟩)), (11, .int .i64 r_5.1), (13, .int .i64 r_6.1), (15, .int .i64 r_7.1), (17, .int .u64 r_8.1), (19, .int .u64 r_9.1), (21, .int .u64 r_10.1), (23, .int .u64 r_11.1), (24, .pointer (some ⟨b_4, 0, none⟩))]) (H' := [⟨41, b_4, [.string (bs r_11.2.s), .bool r_11.2.bad]⟩, ⟨40, b_2, [.int .i64 0, .int .i64 0, .int .i64 0, .int .u64 0, .int .u64 0, .int .u64 0, .int .u64 0, .bool false, .slice none ([] : List T_api_Entry).length 0, .string (bs [])]⟩]) (ps := []) (by kernel_rfl) trivial ?_
  refine OpTo.go (GoO.call rfl (by kernel_rfl) (by kernel_rfl) (pack_Reader_Bool_ok n r_11.2 b_4) [[0], [41]] [(41, 1)] [(1, 0)] [] (hks := [1]) (bks := []) (by kernel_rfl) (by kernel_rfl) (by kernel_rfl) (.inl rfl) rfl rfl (by kernel_rfl) (by kernel_rfl) _ (fun _ _ => rfl) _ _ (fun _ _ => rfl) (fun _ _ => rfl) (fun _ _ => by kernel_rfl) (fun _ _ => by kernel_rfl) (fun r_12 x_45 => ?_))
  refine GoO.shape (env' := [(2, .pointer (some ⟨b_2, 0, none⟩)), (4, .pointer (some ⟨b_4, 0, none⟩)), (11, .int .i64 r_5.1), (13, .int .i64 r_6.1), (15, .int .i64 r_7.1), (17, .int .u64 r_8.1), (19, .int .u64 r_9.1), (21, .int .u64 r_10.1), (23, .int .u64 r_11.1), (24, .pointer (some ⟨b_4, 0, none⟩)), (25, .bool r_12.1)]) (H' := [⟨41, b_4, [.string (bs r_12.2.s), .bool r_12.2.bad]⟩, ⟨40, b_2, [.int .i64 0, .int .i64 0, .int .i64 0, .int .u64 0, .int .u64 0, .int .u64 0, .int .u64 0, .bool false, .slice none ([] : List T_api_Entry).length 0, .string (bs [])]⟩]) (B' := []) (ks := [2, 4, 11, 13, 15, 17, 19, 21, 23, 24, 25]) (by kernel_rfl) (by kernel_rfl) (by kernel_rfl) ?_
  refine GoO.exec (is := [16]) (hs := [.p]) (rest := [17, 18]) (ks := [2, 4, 26]) (env' := [(2, .pointer (some ⟨b_2, 0, none⟩)), (4, .pointer (some ⟨b_4, 0, none⟩)), (26, .agg ⟨[.int .i64 r_5.1, .int .i64 r_6.1, .int .i64 r_7.1, .int .u64 r_8.1, .int .u64 r_9.1, .int .u64 r_10.1, .int .u64 r_11.1, .bool r_12.1, .slice none ([] : List T_api_Entry).length 0, .string (bs [])]⟩)]) (H' := [⟨41, b_4, [.string (bs r_12.2.s), .bool r_12.2.bad]⟩, ⟨40, b_2, [.int .i64 0, .int .i64 0, .int .i64 0, .int .u64 0, .int .u64 0, .int .u64 0, .int .u64 0, .bool false, .slice none ([] : List T_api_Entry).length 0, .string (bs [])]⟩]) (ps := []) (by kernel_rfl) trivial ?_
  refine OpTo.go (GoO.new rfl 42 (cs := [.int .i64 0, .int .i64 0, .int .i64 0, .int .u64 0, .int .u64 0, .int .u64 0, .int .u64 0, .bool false, .slice none ([] : List T_api_Entry).length 0, .string (bs [])]) (by kernel_rfl) _ (fun _ => rfl) (fun b_13 => ?_))
  refine GoO.exec (is := [18]) (hs := [.b 0]) (rest := []) (ks := [2, 4, 5]) (env' := [(2, .pointer (some ⟨b_2, 0, none⟩)), (4, .pointer (some ⟨b_4, 0, none⟩)), (5, .pointer (some ⟨b_13, 0, none⟩))]) (H' := [⟨42, b_13, [.int .i64 r_5.1, .int .i64 r_6.1, .int .i64 r_7.1, .int .u64 r_8.1, .int .u64 r_9.1, .int .u64 r_10.1, .int .u64 r_11.1, .bool r_12.1, .slice none ([] : List T_api_Entry).length 0, .string (bs [])]⟩, ⟨41, b_4, [.string (bs r_12.2.s), .bool r_12.2.bad]⟩, ⟨40, b_2, [.int .i64 0, .int .i64 0, .int .i64 0, .int .u64 0, .int .u64 0, .int .u64 0, .int .u64 0, .bool false, .slice none ([] : List T_api_Entry).length 0, .string (bs [])]⟩]) (ps := [b_13 = b_13]) (by kernel_rfl) (And.intro rfl trivial) ?_
  refine GoO.regionEnd ?_
  refine GoO.seq' c31_6e ?_
  refine GoO.seq' c31_7e ?_
  refine GoO.region' (is := [0, 1, 2]) c31_8e (by kernel_rfl) ?_
  refine GoO.exec (is := [0]) (hs := [.p]) (rest := [1, 2]) (ks := [2, 4, 5, 27]) (env' := [(2, .pointer (some ⟨b_2, 0, none⟩)), (4, .pointer (some ⟨b_4, 0, none⟩)), (5, .pointer (some ⟨b_13, 0, none⟩)), (27, .pointer (some ⟨b_4, 0, none⟩))]) (H' := [⟨42, b_13, [.int .i64 r_5.1, .int .i64 r_6.1, .int .i64 r_7.1, .int .u64 r_8.1, .int .u64 r_9.1, .int .u64 r_10.1, .int .u64 r_11.1, .bool r_12.1, .slice none ([] : List T_api_Entry).length 0, .string (bs [])]⟩, ⟨41, b_4, [.string (bs r_12.2.s), .bool r_12.2.bad]⟩, ⟨40, b_2, [.int .i64 0, .int .i64 0, .int .i64 0, .int .u64 0, .int .u64 0, .int .u64 0, .int .u64 0, .bool false, .slice none ([] : List T_api_Entry).length 0, .string (bs [])]⟩]) (ps := []) (by kernel_rfl) trivial ?_
  refine OpTo.go (GoO.call rfl (by kernel_rfl) (by kernel_rfl) (pack_Reader_Up_ok n r_12.2 8 b_4) [[0], [41]] [(41, 1)] [(1, 1)] [] (hks := [0, 2]) (bks := []) (by kernel_rfl) (by kernel_rfl) (by kernel_rfl) (.inl rfl) rfl rfl (by kernel_rfl) (by kernel_rfl) _ (fun _ _ => rfl) _ _ (fun _ _ => rfl) (fun _ _ => rfl) (fun _ _ => by kernel_rfl) (fun _ _ => by kernel_rfl) (fun r_14 x_44 => ?_))
  refine GoO.shape (env' := [(2, .pointer (some ⟨b_2, 0, none⟩)), (4, .pointer (some ⟨b_4, 0, none⟩)), (5, .pointer (some ⟨b_13, 0, none⟩)), (27, .pointer (some ⟨b_4, 0, none⟩)), (28, .int .i64 r_14.1)]) (H' := [⟨41, b_4, [.string (bs r_14.2.s), .bool r_14.2.bad]⟩, ⟨42, b_13, [.int .i64 r_5.1, .int .i64 r_6.1, .int .i64 r_7.1, .int .u64 r_8.1, .int .u64 r_9.1, .int .u64 r_10.1, .int .u64 r_11.1, .bool r_12.1, .slice none ([] : List T_api_Entry).length 0, .string (bs [])]⟩, ⟨40, b_2, [.int .i64 0, .int .i64 0, .int .i64 0, .int .u64 0, .int .u64 0, .int .u64 0, .int .u64 0, .bool false, .slice none ([] : List T_api_Entry).length 0, .string (bs [])]⟩]) (B' := []) (ks := [2, 4, 5, 27, 28]) (by kernel_rfl) (by kernel_rfl) (by kernel_rfl) ?_
  refine GoO.exec (is := [2]) (hs := [.p]) (rest := []) (ks := [2, 4, 5, 6]) (env' := [(2, .pointer (some ⟨b_2, 0, none⟩)), (4, .pointer (some ⟨b_4, 0, none⟩)), (5, .pointer (some ⟨b_13, 0, none⟩)), (6, .int .i64 r_14.1)]) (H' := [⟨41, b_4, [.string (bs r_14.2.s), .bool r_14.2.bad]⟩, ⟨42, b_13, [.int .i64 r_5.1, .int .i64 r_6.1, .int .i64 r_7.1, .int .u64 r_8.1, .int .u64 r_9.1, .int .u64 r_10.1, .int .u64 r_11.1, .bool r_12.1, .slice none ([] : List T_api_Entry).length 0, .string (bs [])]⟩, ⟨40, b_2, [.int .i64 0, .int .i64 0, .int .i64 0, .int .u64 0, .int .u64 0, .int .u64 0, .int .u64 0, .bool false, .slice none ([] : List T_api_Entry).length 0, .string (bs [])]⟩]) (ps := []) (by kernel_rfl) trivial ?_
  refine GoO.regionEnd ?_
  refine GoO.block' c31_9e ?_
  refine GoO.loop' c31_10e ?_
  refine GoO.nilOwn kT_api_Entry 45 ?_
  exact GoO.sub (ks := [2, 4, 5, 6]) (hk := [2, 0, 1]) (bk := [0]) (by kernel_rfl) (by kernel_rfl) (by kernel_rfl) (letter_Decode_l0_ok n r_5 r_6 r_7 r_8 r_9 r_10 r_11 r_12 b_2 b_4 b_13 w0 S0 n r_14.2.s r_14.2.bad ([] : List T_api_Entry) r_14.1 none 0)

/-! tontine/tontineref07.Same -/
noncomputable def c56_0 : Code := bodyOf Try.f56
noncomputable def c56_1 : Code := cdL c56_0
noncomputable def c56_2 : Code := cdR c56_0
noncomputable def c56_3 : Code := cdL c56_2
noncomputable def c56_4 : Code := cdL c56_3
noncomputable def c56_5 : Code := cdR c56_3
noncomputable def c56_6 : Code := cdL c56_5
noncomputable def c56_7 : Code := cdL c56_6
noncomputable def c56_8 : Code := cdR c56_6
noncomputable def c56_9 : Code := cdR c56_5
noncomputable def c56_10 : Code := cdR c56_2
noncomputable def c56_11 : Code := cdL c56_10
noncomputable def c56_12 : Code := cdL c56_11
noncomputable def c56_13 : Code := cdR c56_11
noncomputable def c56_14 : Code := cdL c56_13
noncomputable def c56_15 : Code := cdL c56_14
noncomputable def c56_16 : Code := cdL c56_15
noncomputable def c56_17 : Code := cdL c56_16
noncomputable def c56_18 : Code := cdR c56_16
noncomputable def c56_19 : Code := cdL c56_18
noncomputable def c56_20 : Code := cdR c56_18
noncomputable def c56_21 : Code := cdR c56_15
noncomputable def c56_22 : Code := cdL c56_21
noncomputable def c56_23 : Code := cdL c56_22
noncomputable def c56_24 : Code := cdL c56_23
noncomputable def c56_25 : Code := cdR c56_23
noncomputable def c56_26 : Code := cdL c56_25
noncomputable def c56_27 : Code := cdL c56_26
noncomputable def c56_28 : Code := cdR c56_26
noncomputable def c56_29 : Code := cdR c56_25
noncomputable def c56_30 : Code := cdR c56_21
noncomputable def c56_31 : Code := cdR c56_10
noncomputable def c56_32 : Code := cdL c56_31
noncomputable def c56_33 : Code := cdR c56_31
noncomputable def r56_1 : Array Oper := cdO c56_1
noncomputable def r56_4 : Array Oper := cdO c56_4
noncomputable def r56_7 : Array Oper := cdO c56_7
noncomputable def r56_12 : Array Oper := cdO c56_12
noncomputable def r56_17 : Array Oper := cdO c56_17
noncomputable def r56_24 : Array Oper := cdO c56_24
noncomputable def r56_27 : Array Oper := cdO c56_27
noncomputable def r56_30 : Array Oper := cdO c56_30
noncomputable def r56_32 : Array Oper := cdO c56_32
theorem c56_0e : c56_0 = .seq c56_1 c56_2 := by kernel_rfl
theorem c56_1e : c56_1 = .region 0 r56_1 false := by kernel_rfl
theorem c56_2e : c56_2 = .seq c56_3 c56_10 := by kernel_rfl
theorem c56_3e : c56_3 = .seq c56_4 c56_5 := by kernel_rfl
theorem c56_4e : c56_4 = .region 1 r56_4 false := by kernel_rfl
theorem c56_5e : c56_5 = .cond (cdC c56_5) c56_6 c56_9 := by kernel_rfl
theorem c56_6e : c56_6 = .seq c56_7 c56_8 := by kernel_rfl
theorem c56_7e : c56_7 = .region 2 r56_7 false := by kernel_rfl
theorem c56_8e : c56_8 = .ret := by kernel_rfl
theorem c56_9e : c56_9 = .skip := by kernel_rfl
theorem c56_10e : c56_10 = .seq c56_11 c56_31 := by kernel_rfl
theorem c56_11e : c56_11 = .seq c56_12 c56_13 := by kernel_rfl
theorem c56_12e : c56_12 = .region 3 r56_12 false := by kernel_rfl
theorem c56_13e : c56_13 = .block 0 c56_14 := by kernel_rfl
theorem c56_14e : c56_14 = .loop c56_15 := by kernel_rfl
theorem c56_15e : c56_15 = .seq c56_16 c56_21 := by kernel_rfl
theorem c56_16e : c56_16 = .seq c56_17 c56_18 := by kernel_rfl
theorem c56_17e : c56_17 = .region 4 r56_17 false := by kernel_rfl
theorem c56_18e : c56_18 = .cond (cdC c56_18) c56_19 c56_20 := by kernel_rfl
theorem c56_19e : c56_19 = .skip := by kernel_rfl
theorem c56_20e : c56_20 = .exit 0 := by kernel_rfl
theorem c56_21e : c56_21 = .seq c56_22 c56_30 := by kernel_rfl
theorem c56_22e : c56_22 = .block 1 c56_23 := by kernel_rfl
theorem c56_23e : c56_23 = .seq c56_24 c56_25 := by kernel_rfl
theorem c56_24e : c56_24 = .region 6 r56_24 true := by kernel_rfl
theorem c56_25e : c56_25 = .cond (cdC c56_25) c56_26 c56_29 := by kernel_rfl
theorem c56_26e : c56_26 = .seq c56_27 c56_28 := by kernel_rfl
theorem c56_27e : c56_27 = .region 7 r56_27 false := by kernel_rfl
theorem c56_28e : c56_28 = .ret := by kernel_rfl
theorem c56_29e : c56_29 = .skip := by kernel_rfl
theorem c56_30e : c56_30 = .region 5 r56_30 false := by kernel_rfl
theorem c56_31e : c56_31 = .seq c56_32 c56_33 := by kernel_rfl
theorem c56_32e : c56_32 = .region 8 r56_32 false := by kernel_rfl
theorem c56_33e : c56_33 = .ret := by kernel_rfl
noncomputable def tontineref07_Same.R (A_2 : Option Addr) (c_3 : Nat) (A_5 : Option Addr) (c_6 : Nat) : Pst Bool where
  ε := Unit
  v := fun r x => .bool r
  H := fun r x => []
  B := fun r x => []
noncomputable def tontineref07_Same.cx (A_2 : Option Addr) (c_3 : Nat) (A_5 : Option Addr) (c_6 : Nat) (w0 : World) (S0 : Fam) : Cx Bool := ⟨Try.prog, 56, Try.f56, 26, w0, S0, [], 0, tontineref07_Same.R A_2 c_3 A_5 c_6⟩
theorem tontineref07_Same_l0_ok (n : Nat) (a_1 : (List T_api_Entry)) (b_4 : (List T_api_Entry)) (A_2 : Option Addr) (c_3 : Nat) (A_5 : Option Addr) (c_6 : Nat) (w0 : World) (S0 : Fam) :
    ∀ (k : Nat) (i_8 : Int), GoO (tontineref07_Same.cx A_2 c_3 A_5 c_6 w0 S0) [(0, .slice A_2 a_1.length c_3), (1, .slice A_5 b_4.length c_6), (5, .int .i64 i_8)] [] [Rd 0 kT_api_Entry A_2 c_3 a_1, Rd 0 kT_api_Entry A_5 c_6 b_4] [.code c56_15, .inLoop c56_15, .inBlock 0, .code c56_31] (tontineref07_Same.l0 n a_1 b_4 k i_8) := by
  intro k
  induction k with
  | zero => intros; rw [tontineref07_Same.l0.eq_1]; exact GoO.stop
  | succ k ih0 =>
    intro i_8
    rw [tontineref07_Same.l0.eq_2]
    refine GoO.seq' c56_15e ?_
    refine GoO.seq' c56_16e ?_
    refine GoO.region' (is := [0, 1, 2, 3]) c56_17e (by kernel_rfl) ?_
    refine GoO.exec (is := [0, 1, 2, 3]) (hs := [.p, .p, .p, .p]) (rest := []) (ks := [0, 1, 5, 14]) (env' := [(0, .slice A_2 a_1.length c_3), (1, .slice A_5 b_4.length c_6), (5, .int .i64 i_8), (14, .bool (decide (i_8 < (a_1.length : Int))))]) (H' := []) (ps := []) (by kernel_rfl) trivial ?_
    refine GoO.regionEnd ?_
    refine GoO.ite' c56_18e (by kernel_rfl) (fun h9 => ?_) (fun h9 => ?_)
    · refine GoO.skip' c56_19e ?_
      refine GoO.seq' c56_21e ?_
      refine GoO.block' c56_22e ?_
      refine GoO.seq' c56_23e ?_
      refine GoO.draw c56_24e (by kernel_rfl) [] [] [Rd 0 kT_api_Entry A_2 c_3 a_1, Rd 0 kT_api_Entry A_5 c_6 b_4] (n := 9) (by kernel_rfl) ?_
      simp only [List.replicate]
      refine GoF.take [0, 1, 4, 5] [.p, .p, .p, .p] (ks := [0, 1, 5, 17, 18, 21, 22]) (fu := 5) (li := [true, true, false, false, true, true, false, false, false]) (env' := [(0, .slice A_2 a_1.length c_3), (1, .slice A_5 b_4.length c_6), (5, .int .i64 i_8), (17, .slice A_2 a_1.length c_3), (18, .int .i64 i_8), (21, .slice A_5 b_4.length c_6), (22, .int .i64 i_8)]) (ps := []) (hk := []) (bk := [0, 1]) (by kernel_rfl) trivial rfl rfl ?_
      refine GoF.guard (fun h10 => ?_)
      refine GoF.idx (i := 2) (hk := []) (bk := [0, 1]) (kk := .i64) (e := 93) (K := kT_api_Entry) (A := A_2) (c := c_3) (xs := a_1) (iv := i_8) (j := 0) (by kernel_rfl) rfl rfl rfl (by kernel_rfl) (by kernel_rfl) (by kernel_rfl) (by kernel_rfl) rfl Reads.rd rfl h10.1 h10.2 (by decide) rfl ?_
      refine GoF.ldE (i := 3) (hk := []) (bk := [0, 1]) (K := kT_api_Entry) (A := A_2) (c := c_3) (xs := a_1) (iN := i_8.toNat) (off := 0) (j := 0) (v := .agg ⟨[.int .u64 ((rdL a_1 i_8).Term), .int .u64 ((rdL a_1 i_8).Index), .int .i64 ((rdL a_1 i_8).Kind), .string (bs ((rdL a_1 i_8).Data))]⟩) (by kernel_rfl) rfl rfl rfl (hK := rfl) (by kernel_rfl) rfl Reads.rd (by first | exact idx_lt h10.1 h10.2 | (simp only [List.length_set]; exact idx_lt h10.1 h10.2)) (by decide) (by kernel_rfl) rfl ?_
      refine GoF.guard (fun h11 => ?_)
      refine GoF.idx (i := 6) (hk := []) (bk := [0, 1]) (kk := .i64) (e := 93) (K := kT_api_Entry) (A := A_5) (c := c_6) (xs := b_4) (iv := i_8) (j := 1) (by kernel_rfl) rfl rfl rfl (by kernel_rfl) (by kernel_rfl) (by kernel_rfl) (by kernel_rfl) rfl Reads.rd rfl h11.1 h11.2 (by decide) rfl ?_
      refine GoF.ldE (i := 7) (hk := []) (bk := [0, 1]) (K := kT_api_Entry) (A := A_5) (c := c_6) (xs := b_4) (iN := i_8.toNat) (off := 0) (j := 1) (v := .agg ⟨[.int .u64 ((rdL b_4 i_8).Term), .int .u64 ((rdL b_4 i_8).Index), .int .i64 ((rdL b_4 i_8).Kind), .string (bs ((rdL b_4 i_8).Data))]⟩) (by kernel_rfl) rfl rfl rfl (hK := rfl) (by kernel_rfl) rfl Reads.rd (by first | exact idx_lt h11.1 h11.2 | (simp only [List.length_set]; exact idx_lt h11.1 h11.2)) (by decide) (by kernel_rfl) rfl ?_
      refine GoF.take [8] [.p] (ks := [0, 1, 5, 25]) (fu := 0) (li := [true, true, true, true, true, true, true, true, true]) (env' := [(0, .slice A_2 a_1.length c_3), (1, .slice A_5 b_4.length c_6), (5, .int .i64 i_8), (25, .bool (!((((rdL a_1 i_8).Term) == ((rdL b_4 i_8).Term)) && ((((rdL a_1 i_8).Index) == ((rdL b_4 i_8).Index)) && ((((rdL a_1 i_8).Kind) == ((rdL b_4 i_8).Kind)) && ((((rdL a_1 i_8).Data) == ((rdL b_4 i_8).Data)) && true))))))]) (ps := []) (hk := []) (bk := [0, 1]) (by kernel_rfl) trivial rfl rfl ?_
      refine GoF.done (by kernel_rfl) ?_
      refine GoO.ite' c56_25e (by kernel_rfl) (fun h12 => ?_) (fun h12 => ?_)
      · refine GoO.seq' c56_26e ?_
        refine GoO.region' (is := [0]) c56_27e (by kernel_rfl) ?_
        refine GoO.exec (is := [0]) (hs := [.p]) (rest := []) (ks := [4]) (env' := [(4, .bool false)]) (H' := []) (ps := []) (by kernel_rfl) trivial ?_
        refine GoO.regionEnd ?_
        exact GoO.ret' (h := c56_28e) (hs := []) (ps := []) (hk := []) (bk := []) Try.func56 () (by kernel_rfl) trivial (by kernel_rfl) (by kernel_rfl)
      · refine GoO.skip' c56_29e ?_
        refine GoO.inBlock ?_
        refine GoO.region' (is := [0, 1, 2]) c56_30e (by kernel_rfl) ?_
        refine GoO.exec (is := [0, 1, 2]) (hs := [.p, .p, .p]) (rest := []) (ks := [0, 1, 5]) (env' := [(0, .slice A_2 a_1.length c_3), (1, .slice A_5 b_4.length c_6), (5, .int .i64 (wi64 (i_8 + 1)))]) (H' := []) (ps := []) (by kernel_rfl) trivial ?_
        refine GoO.regionEnd ?_
        refine GoO.inLoop ?_
        exact GoO.sub (ks := [0, 1, 5]) (hk := []) (bk := [0, 1]) (by kernel_rfl) (by kernel_rfl) (by kernel_rfl) (ih0 (wi64 (i_8 + 1)))
    · refine GoO.exit' c56_20e rfl ?_
      refine GoO.seq' c56_31e ?_
      refine GoO.region' (is := [0]) c56_32e (by kernel_rfl) ?_
      refine GoO.exec (is := [0]) (hs := [.p]) (rest := []) (ks := [4]) (env' := [(4, .bool true)]) (H' := []) (ps := []) (by kernel_rfl) trivial ?_
      refine GoO.regionEnd ?_
      exact GoO.ret' (h := c56_33e) (hs := []) (ps := []) (hk := []) (bk := []) Try.func56 () (by kernel_rfl) trivial (by kernel_rfl) (by kernel_rfl)
theorem tontineref07_Same_ok (n : Nat) (a_1 : (List T_api_Entry)) (b_4 : (List T_api_Entry)) (A_2 : Option Addr) (c_3 : Nat) (A_5 : Option Addr) (c_6 : Nat) :
    Meets Try.prog 56 [.slice A_2 a_1.length c_3, .slice A_5 b_4.length c_6] 0 [] [] [Rd 0 kT_api_Entry A_2 c_3 a_1, Rd 0 kT_api_Entry A_5 c_6 b_4] (tontineref07_Same.f n a_1 b_4) (tontineref07_Same.R A_2 c_3 A_5 c_6) := by
  refine Meets.of (c := c56_0) (n := 26) Try.func56 (by kernel_rfl) (by kernel_rfl) (by kernel_rfl) fun w0 S0 => ?_
  unfold tontineref07_Same.f
  show GoO (tontineref07_Same.cx A_2 c_3 A_5 c_6 w0 S0) [(0, .slice A_2 a_1.length c_3), (1, .slice A_5 b_4.length c_6)] [] [Rd 0 kT_api_Entry A_2 c_3 a_1, Rd 0 kT_api_Entry A_5 c_6 b_4] [.code c56_0] _
  refine GoO.seq' c56_0e ?_
  refine GoO.region' (is := [0]) c56_1e (by kernel_rfl) ?_
  refine GoO.exec (is := [0]) (hs := [.p]) (rest := []) (ks := [0, 1]) (env' := [(0, .slice A_2 a_1.length c_3), (1, .slice A_5 b_4.length c_6)]) (H' := []) (ps := []) (by kernel_rfl) trivial ?_
  refine GoO.regionEnd ?_
  refine GoO.seq' c56_2e ?_
  refine GoO.seq' c56_3e ?_
  refine GoO.region' (is := [0, 1, 2, 3, 4]) c56_4e (by kernel_rfl) ?_
  refine GoO.exec (is := [0, 1, 2, 3, 4]) (hs := [.p, .p, .p, .p, .p]) (rest := []) (ks := [0, 1, 10]) (env' := [(0, .slice A_2 a_1.length c_3), (1, .slice A_5 b_4.length c_6), (10, .bool ((a_1.length : Int) != (b_4.length : Int)))]) (H' := []) (ps := []) (by kernel_rfl) trivial ?_
  refine GoO.regionEnd ?_
  refine GoO.ite' c56_5e (by kernel_rfl) (fun h7 => ?_) (fun h7 => ?_)
  · refine GoO.seq' c56_6e ?_
    refine GoO.region' (is := [0]) c56_7e (by kernel_rfl) ?_
    refine GoO.exec (is := [0]) (hs := [.p]) (rest := []) (ks := [4]) (env' := [(4, .bool false)]) (H' := []) (ps := []) (by kernel_rfl) trivial ?_
    refine GoO.regionEnd ?_
    exact GoO.ret' (h := c56_8e) (hs := []) (ps := []) (hk := []) (bk := []) Try.func56 () (by kernel_rfl) trivial (by kernel_rfl) (by kernel_rfl)
  · refine GoO.skip' c56_9e ?_
    refine GoO.seq' c56_10e ?_
    refine GoO.seq' c56_11e ?_
    refine GoO.region' (is := [0]) c56_12e (by kernel_rfl) ?_
    refine GoO.exec (is := [0]) (hs := [.p]) (rest := []) (ks := [0, 1, 5]) (env' := [(0, .slice A_2 a_1.length c_3), (1, .slice A_5 b_4.length c_6), (5, .int .i64 0)]) (H' := []) (ps := []) (by kernel_rfl) trivial ?_
    refine GoO.regionEnd ?_
    refine GoO.block' c56_13e ?_
    refine GoO.loop' c56_14e ?_
    exact GoO.sub (ks := [0, 1, 5]) (hk := []) (bk := [0, 1]) (by kernel_rfl) (by kernel_rfl) (by kernel_rfl) (tontineref07_Same_l0_ok n a_1 b_4 A_2 c_3 A_5 c_6 w0 S0 n 0)

/-! tontine/tontineref10.Same -/
noncomputable def c33_0 : Code := bodyOf Try.f33
noncomputable def c33_1 : Code := cdL c33_0
noncomputable def c33_2 : Code := cdR c33_0
noncomputable def c33_3 : Code := cdL c33_2
noncomputable def c33_4 : Code := cdR c33_2
noncomputable def r33_1 : Array Oper := cdO c33_1
noncomputable def r33_3 : Array Oper := cdO c33_3
theorem c33_0e : c33_0 = .seq c33_1 c33_2 := by kernel_rfl
theorem c33_1e : c33_1 = .region 0 r33_1 false := by kernel_rfl
theorem c33_2e : c33_2 = .seq c33_3 c33_4 := by kernel_rfl
theorem c33_3e : c33_3 = .region 1 r33_3 false := by kernel_rfl
theorem c33_4e : c33_4 = .ret := by kernel_rfl
noncomputable def tontineref10_Same.R (A_2 : Option Addr) (c_3 : Nat) (A_5 : Option Addr) (c_6 : Nat) : Pst Bool where
  ε := Unit
  v := fun r x => .bool r
  H := fun r x => []
  B := fun r x => []
noncomputable def tontineref10_Same.cx (A_2 : Option Addr) (c_3 : Nat) (A_5 : Option Addr) (c_6 : Nat) (w0 : World) (S0 : Fam) : Cx Bool := ⟨Try.prog, 33, Try.f33, 73, w0, S0, [], 0, tontineref10_Same.R A_2 c_3 A_5 c_6⟩
end Go.GL
