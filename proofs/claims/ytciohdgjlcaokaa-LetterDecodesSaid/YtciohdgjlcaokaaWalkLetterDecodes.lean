import Derived.Test.YtciohdgjlcaokaaWalkLetterDecodesP1
import Derived.Test.YtciohdgjlcaokaaKindsT1
import Derived.Test.YtciohdgjlcaokaaProg
set_option linter.unusedVariables false
set_option linter.unusedSimpArgs false
set_option maxRecDepth 100000
namespace Go.GL
open Go Go.Proofs
theorem tontineref03_Reader_Text_ok (n : Nat) (r_1 : T_tontineref03_Reader) (limit_3 : Int) (b_2 : Nat) :
    Meets Try.prog 55 [.pointer (some ⟨b_2, 0, none⟩), .int .i64 limit_3] 1 [1] [⟨1, b_2, [.string (bs r_1.S_), .bool r_1.Bad]⟩] [] (tontineref03_Reader_Text.f n r_1 limit_3) (tontineref03_Reader_Text.R b_2) := by
  refine Meets.of (c := c55_0) (n := 35) Try.func55 (by kernel_rfl) (by kernel_rfl) (by kernel_rfl) fun w0 S0 => ?_
  unfold tontineref03_Reader_Text.f
  show GoO (tontineref03_Reader_Text.cx b_2 w0 S0) [(0, .pointer (some ⟨b_2, 0, none⟩)), (1, .int .i64 limit_3)] [⟨1, b_2, [.string (bs r_1.S_), .bool r_1.Bad]⟩] [] [.code c55_0] _
  refine GoO.seq' c55_0e ?_
  refine GoO.region' (is := [0]) c55_1e (by kernel_rfl) ?_
  refine GoO.exec (is := [0]) (hs := [.p]) (rest := []) (ks := [0, 1]) (env' := [(0, .pointer (some ⟨b_2, 0, none⟩)), (1, .int .i64 limit_3)]) (H' := [⟨1, b_2, [.string (bs r_1.S_), .bool r_1.Bad]⟩]) (ps := []) (by kernel_rfl) trivial ?_
  refine GoO.regionEnd ?_
  refine GoO.seq' c55_2e ?_
  refine GoO.region' (is := [0, 1, 2, 3]) c55_3e (by kernel_rfl) ?_
  refine GoO.exec (is := [0, 1]) (hs := [.p, .p]) (rest := [2, 3]) (ks := [0, 7, 8]) (env' := [(0, .pointer (some ⟨b_2, 0, none⟩)), (7, .pointer (some ⟨b_2, 0, none⟩)), (8, .int .i64 limit_3)]) (H' := [⟨1, b_2, [.string (bs r_1.S_), .bool r_1.Bad]⟩]) (ps := []) (by kernel_rfl) trivial ?_
  refine OpTo.go (GoO.call rfl (by kernel_rfl) (by kernel_rfl) (tontineref03_Reader_Up_ok n r_1 limit_3 b_2) [[0], [1]] [(1, 1)] [(1, 0)] [] (hks := []) (bks := []) (by kernel_rfl) (by kernel_rfl) (by kernel_rfl) (.inl rfl) rfl rfl (by kernel_rfl) (by kernel_rfl) _ (fun _ _ => rfl) _ _ (fun _ _ => rfl) (fun _ _ => rfl) (fun _ _ => by kernel_rfl) (fun _ _ => by kernel_rfl) (fun r_4 x_10 => ?_))
  refine GoO.shape (env' := [(0, .pointer (some ⟨b_2, 0, none⟩)), (7, .pointer (some ⟨b_2, 0, none⟩)), (8, .int .i64 limit_3), (9, .int .i64 r_4.1)]) (H' := [⟨1, b_2, [.string (bs r_4.2.S_), .bool r_4.2.Bad]⟩]) (B' := []) (ks := [0, 7, 8, 9]) (by kernel_rfl) (by kernel_rfl) (by kernel_rfl) ?_
  refine GoO.exec (is := [3]) (hs := [.p]) (rest := []) (ks := [0, 5]) (env' := [(0, .pointer (some ⟨b_2, 0, none⟩)), (5, .int .i64 r_4.1)]) (H' := [⟨1, b_2, [.string (bs r_4.2.S_), .bool r_4.2.Bad]⟩]) (ps := []) (by kernel_rfl) trivial ?_
  refine GoO.regionEnd ?_
  refine GoO.seq' c55_4e ?_
  refine GoO.seq' c55_5e ?_
  refine GoO.region' (is := [0, 1, 2, 3, 4, 5, 6]) c55_6e (by kernel_rfl) ?_
  refine GoO.exec (is := [0, 1, 2, 3, 4, 5, 6]) (hs := [.p, .p, .p, .p, .b 0, .p, .p]) (rest := []) (ks := [0, 5, 16]) (env' := [(0, .pointer (some ⟨b_2, 0, none⟩)), (5, .int .i64 r_4.1), (16, .bool (decide (r_4.1 > (r_4.2.S_.length : Int))))]) (H' := [⟨1, b_2, [.string (bs r_4.2.S_), .bool r_4.2.Bad]⟩]) (ps := [b_2 = b_2]) (by kernel_rfl) (And.intro rfl trivial) ?_
  refine GoO.regionEnd ?_
  refine GoO.ite' c55_7e (by kernel_rfl) (fun h5 => ?_) (fun h5 => ?_)
  · refine GoO.seq' c55_8e ?_
    refine GoO.region' (is := [0, 1]) c55_9e (by kernel_rfl) ?_
    refine GoO.exec (is := [0]) (hs := [.p]) (rest := [1]) (ks := [17]) (env' := [(17, .pointer (some ⟨b_2, 0, none⟩))]) (H' := [⟨1, b_2, [.string (bs r_4.2.S_), .bool r_4.2.Bad]⟩]) (ps := []) (by kernel_rfl) trivial ?_
    refine OpTo.go (GoO.call rfl (by kernel_rfl) (by kernel_rfl) (tontineref03_Reader_Fail_ok n r_4.2 b_2) [[0], [1]] [(1, 1)] [(1, 0)] [] (hks := []) (bks := []) (by kernel_rfl) (by kernel_rfl) (by kernel_rfl) (.inl rfl) rfl rfl (by kernel_rfl) (by kernel_rfl) _ (fun _ _ => rfl) _ _ (fun _ _ => rfl) (fun _ _ => rfl) (fun _ _ => by kernel_rfl) (fun _ _ => by kernel_rfl) (fun r_6 x_7 => ?_))
    refine GoO.shape (env' := [(17, .pointer (some ⟨b_2, 0, none⟩)), (18, .tuple ⟨[]⟩)]) (H' := [⟨1, b_2, [.string (bs r_6.S_), .bool r_6.Bad]⟩]) (B' := []) (ks := [17, 18]) (by kernel_rfl) (by kernel_rfl) (by kernel_rfl) ?_
    refine GoO.regionEnd ?_
    refine GoO.seq' c55_10e ?_
    refine GoO.region' (is := [0]) c55_11e (by kernel_rfl) ?_
    refine GoO.exec (is := [0]) (hs := [.p]) (rest := []) (ks := [4]) (env' := [(4, .string (bs []))]) (H' := [⟨1, b_2, [.string (bs r_6.S_), .bool r_6.Bad]⟩]) (ps := []) (by kernel_rfl) trivial ?_
    refine GoO.regionEnd ?_
    exact GoO.ret' (h := c55_12e) (hs := []) (ps := []) (hk := [0]) (bk := []) Try.func55 () (by kernel_rfl) trivial (by kernel_rfl) (by kernel_rfl)
  · refine GoO.skip' c55_13e ?_
    refine GoO.seq' c55_14e ?_
    refine GoO.region' (is := [0, 1, 2, 3, 4, 5, 6]) c55_15e (by kernel_rfl) ?_
    refine GoO.guard (fun h8 => ?_)
    refine GoO.exec (is := [0, 1, 2, 3, 4, 5, 6]) (hs := [.p, .p, .p, .b 0, .p, .p, .p]) (rest := []) (ks := [0, 5, 6]) (env' := [(0, .pointer (some ⟨b_2, 0, none⟩)), (5, .int .i64 r_4.1), (6, .string (bs (r_4.2.S_.take r_4.1.toNat)))]) (H' := [⟨1, b_2, [.string (bs r_4.2.S_), .bool r_4.2.Bad]⟩]) (ps := [b_2 = b_2, (0 : Int) ≤ r_4.1, r_4.1 ≤ (r_4.2.S_.length : Int)]) (by kernel_rfl) (And.intro rfl (And.intro h8.1 (And.intro h8.2 trivial))) ?_
    refine GoO.regionEnd ?_
    refine GoO.seq' c55_16e ?_
    refine GoO.region' (is := [0, 1, 2, 3, 4, 5, 6, 7, 8, 9]) c55_17e (by kernel_rfl) ?_
    refine GoO.guard (fun h9 => ?_)
    refine GoO.exec (is := [0, 1, 2, 3, 4, 5, 6, 7, 8, 9]) (hs := [.p, .p, .p, .p, .b 0, .p, .p, .p, .p, .b 0]) (rest := []) (ks := [6]) (env' := [(6, .string (bs (r_4.2.S_.take r_4.1.toNat)))]) (H' := [⟨1, b_2, [.string (bs (r_4.2.S_.drop r_4.1.toNat)), .bool r_4.2.Bad]⟩]) (ps := [b_2 = b_2, (0 : Int) ≤ r_4.1, r_4.1 ≤ (r_4.2.S_.length : Int), b_2 = b_2]) (by kernel_rfl) (And.intro rfl (And.intro h9.1 (And.intro h9.2 (And.intro rfl trivial)))) ?_
    refine GoO.regionEnd ?_
    refine GoO.seq' c55_18e ?_
    refine GoO.region' (is := [0, 1]) c55_19e (by kernel_rfl) ?_
    refine GoO.exec (is := [0, 1]) (hs := [.p, .p]) (rest := []) (ks := [4]) (env' := [(4, .string (bs (r_4.2.S_.take r_4.1.toNat)))]) (H' := [⟨1, b_2, [.string (bs (r_4.2.S_.drop r_4.1.toNat)), .bool r_4.2.Bad]⟩]) (ps := []) (by kernel_rfl) trivial ?_
    refine GoO.regionEnd ?_
    exact GoO.ret' (h := c55_20e) (hs := []) (ps := []) (hk := [0]) (bk := []) Try.func55 () (by kernel_rfl) trivial (by kernel_rfl) (by kernel_rfl)

/-! tontine/tontineref11.May -/
noncomputable def c41_0 : Code := bodyOf Try.f41
noncomputable def c41_1 : Code := cdL c41_0
noncomputable def c41_2 : Code := cdR c41_0
noncomputable def c41_3 : Code := cdL c41_2
noncomputable def c41_4 : Code := cdR c41_2
noncomputable def c41_5 : Code := cdL c41_4
noncomputable def c41_6 : Code := cdL c41_5
noncomputable def c41_7 : Code := cdR c41_5
noncomputable def c41_8 : Code := cdL c41_7
noncomputable def c41_9 : Code := cdL c41_8
noncomputable def c41_10 : Code := cdR c41_8
noncomputable def c41_11 : Code := cdR c41_7
noncomputable def c41_12 : Code := cdR c41_4
noncomputable def c41_13 : Code := cdL c41_12
noncomputable def c41_14 : Code := cdL c41_13
noncomputable def c41_15 : Code := cdR c41_13
noncomputable def c41_16 : Code := cdL c41_15
noncomputable def c41_17 : Code := cdL c41_16
noncomputable def c41_18 : Code := cdL c41_17
noncomputable def c41_19 : Code := cdL c41_18
noncomputable def c41_20 : Code := cdR c41_18
noncomputable def c41_21 : Code := cdL c41_20
noncomputable def c41_22 : Code := cdR c41_20
noncomputable def c41_23 : Code := cdR c41_17
noncomputable def c41_24 : Code := cdL c41_23
noncomputable def c41_25 : Code := cdL c41_24
noncomputable def c41_26 : Code := cdL c41_25
noncomputable def c41_27 : Code := cdR c41_25
noncomputable def c41_28 : Code := cdR c41_23
noncomputable def c41_29 : Code := cdR c41_12
noncomputable def c41_30 : Code := cdL c41_29
noncomputable def c41_31 : Code := cdR c41_29
noncomputable def r41_1 : Array Oper := cdO c41_1
noncomputable def r41_3 : Array Oper := cdO c41_3
noncomputable def r41_6 : Array Oper := cdO c41_6
noncomputable def r41_9 : Array Oper := cdO c41_9
noncomputable def r41_14 : Array Oper := cdO c41_14
noncomputable def r41_19 : Array Oper := cdO c41_19
noncomputable def r41_26 : Array Oper := cdO c41_26
noncomputable def r41_27 : Array Oper := cdO c41_27
noncomputable def r41_28 : Array Oper := cdO c41_28
noncomputable def r41_30 : Array Oper := cdO c41_30
theorem c41_0e : c41_0 = .seq c41_1 c41_2 := by kernel_rfl
theorem c41_1e : c41_1 = .region 0 r41_1 false := by kernel_rfl
theorem c41_2e : c41_2 = .seq c41_3 c41_4 := by kernel_rfl
theorem c41_3e : c41_3 = .region 1 r41_3 false := by kernel_rfl
theorem c41_4e : c41_4 = .seq c41_5 c41_12 := by kernel_rfl
theorem c41_5e : c41_5 = .seq c41_6 c41_7 := by kernel_rfl
theorem c41_6e : c41_6 = .region 2 r41_6 false := by kernel_rfl
theorem c41_7e : c41_7 = .cond (cdC c41_7) c41_8 c41_11 := by kernel_rfl
theorem c41_8e : c41_8 = .seq c41_9 c41_10 := by kernel_rfl
theorem c41_9e : c41_9 = .region 3 r41_9 false := by kernel_rfl
theorem c41_10e : c41_10 = .ret := by kernel_rfl
theorem c41_11e : c41_11 = .skip := by kernel_rfl
theorem c41_12e : c41_12 = .seq c41_13 c41_29 := by kernel_rfl
theorem c41_13e : c41_13 = .seq c41_14 c41_15 := by kernel_rfl
theorem c41_14e : c41_14 = .region 4 r41_14 false := by kernel_rfl
theorem c41_15e : c41_15 = .block 0 c41_16 := by kernel_rfl
theorem c41_16e : c41_16 = .loop c41_17 := by kernel_rfl
theorem c41_17e : c41_17 = .seq c41_18 c41_23 := by kernel_rfl
theorem c41_18e : c41_18 = .seq c41_19 c41_20 := by kernel_rfl
theorem c41_19e : c41_19 = .region 5 r41_19 false := by kernel_rfl
theorem c41_20e : c41_20 = .cond (cdC c41_20) c41_21 c41_22 := by kernel_rfl
theorem c41_21e : c41_21 = .skip := by kernel_rfl
theorem c41_22e : c41_22 = .exit 0 := by kernel_rfl
theorem c41_23e : c41_23 = .seq c41_24 c41_28 := by kernel_rfl
theorem c41_24e : c41_24 = .block 1 c41_25 := by kernel_rfl
theorem c41_25e : c41_25 = .seq c41_26 c41_27 := by kernel_rfl
theorem c41_26e : c41_26 = .region 7 r41_26 false := by kernel_rfl
theorem c41_27e : c41_27 = .region 8 r41_27 false := by kernel_rfl
theorem c41_28e : c41_28 = .region 6 r41_28 false := by kernel_rfl
theorem c41_29e : c41_29 = .seq c41_30 c41_31 := by kernel_rfl
theorem c41_30e : c41_30 = .region 9 r41_30 false := by kernel_rfl
theorem c41_31e : c41_31 = .ret := by kernel_rfl
noncomputable def tontineref11_May.R (A_2 : Option Addr) (c_3 : Nat) : Pst Bool where
  ε := Unit
  v := fun r x => .bool r
  H := fun r x => []
  B := fun r x => []
noncomputable def tontineref11_May.cx (A_2 : Option Addr) (c_3 : Nat) (w0 : World) (S0 : Fam) : Cx Bool := ⟨Try.prog, 41, Try.f41, 85, w0, S0, [], 0, tontineref11_May.R A_2 c_3⟩
theorem tontineref11_May_j2_ok (n : Nat) (L0 : Bool → Int → Option Bool) (x_1 : T_api_Letter) (ok_16 : Bool) (i_17 : Int) (A_2 : Option Addr) (c_3 : Nat) (b_4 : Nat) (w0 : World) (S0 : Fam) (ih0 : ∀ (ok_16 : Bool) (i_17 : Int), GoO (tontineref11_May.cx A_2 c_3 w0 S0) [(1, .pointer (some ⟨b_4, 0, none⟩)), (3, .bool ok_16), (4, .int .i64 i_17)] [⟨40, b_4, [.int .i64 x_1.Kind, .int .i64 x_1.From, .int .i64 x_1.To, .int .u64 x_1.Term, .int .u64 x_1.Index, .int .u64 x_1.Prev, .int .u64 x_1.Commit, .bool x_1.Ok, .slice A_2 x_1.Entries.length c_3, .string (bs x_1.Data)]⟩] [Rd 0 kT_api_Entry A_2 c_3 x_1.Entries] [.code c41_17, .inLoop c41_17, .inBlock 0, .code c41_29] (L0 ok_16 i_17)) (b_19 : Bool) :
    GoO (tontineref11_May.cx A_2 c_3 w0 S0) [(1, .pointer (some ⟨b_4, 0, none⟩)), (3, .bool ok_16), (4, .int .i64 i_17), (62, .bool b_19)] [⟨40, b_4, [.int .i64 x_1.Kind, .int .i64 x_1.From, .int .i64 x_1.To, .int .u64 x_1.Term, .int .u64 x_1.Index, .int .u64 x_1.Prev, .int .u64 x_1.Commit, .bool x_1.Ok, .slice A_2 x_1.Entries.length c_3, .string (bs x_1.Data)]⟩] [Rd 0 kT_api_Entry A_2 c_3 x_1.Entries] [.code c41_20, .code c41_23, .inLoop c41_17, .inBlock 0, .code c41_29] (tontineref11_May.j2 n L0 x_1 ok_16 i_17 b_19) := by
  unfold tontineref11_May.j2
  refine GoO.ite' c41_20e (by kernel_rfl) (fun h20 => ?_) (fun h20 => ?_)
  · refine GoO.skip' c41_21e ?_
    refine GoO.seq' c41_23e ?_
    refine GoO.block' c41_24e ?_
    refine GoO.seq' c41_25e ?_
    refine GoO.region' (is := [0, 1, 2, 3, 4, 5, 6]) c41_26e (by kernel_rfl) ?_
    refine GoO.exec (is := [0, 1, 2]) (hs := [.p, .b 0, .p]) (rest := [3, 4, 5, 6]) (ks := [1, 4, 66, 67]) (env' := [(1, .pointer (some ⟨b_4, 0, none⟩)), (4, .int .i64 i_17), (66, .slice A_2 x_1.Entries.length c_3), (67, .int .i64 i_17)]) (H' := [⟨40, b_4, [.int .i64 x_1.Kind, .int .i64 x_1.From, .int .i64 x_1.To, .int .u64 x_1.Term, .int .u64 x_1.Index, .int .u64 x_1.Prev, .int .u64 x_1.Commit, .bool x_1.Ok, .slice A_2 x_1.Entries.length c_3, .string (bs x_1.Data)]⟩]) (ps := [b_4 = b_4]) (by kernel_rfl) (And.intro rfl trivial) ?_
    refine GoO.guard (fun h21 => ?_)
    refine OpTo.go (GoO.idx (kk := .i64) (e := 93) (K := kT_api_Entry) (A := A_2) (c := c_3) (xs := x_1.Entries) (iv := i_17) (j := 0) rfl (by kernel_rfl) (by kernel_rfl) (by kernel_rfl) (by kernel_rfl) rfl Reads.rd rfl h21.1 h21.2 (by decide) rfl ?_)
    refine OpTo.go (GoO.ldE' (K := kT_api_Entry) (A := A_2) (c := c_3) (xs := x_1.Entries) (iN := i_17.toNat) (off := 0) (j := 0) rfl (by kernel_rfl) rfl Reads.rd (idx_lt h21.1 h21.2) (by decide) (Opn.flat _ _ _ _ _) (v := fun _ => .agg ⟨[.int .u64 ((rdL x_1.Entries i_17).Term), .int .u64 ((rdL x_1.Entries i_17).Index), .int .i64 ((rdL x_1.Entries i_17).Kind), .string (bs ((rdL x_1.Entries i_17).Data))]⟩) (fun _ => by kernel_rfl) _ (fun _ => rfl) (fun _ => ?_))
    refine OpTo.go (GoO.new rfl 41 (cs := [.int .u64 0, .int .u64 0, .int .i64 0, .string (bs [])]) (by kernel_rfl) _ (fun _ => rfl) (fun b_22 => ?_))
    refine GoO.exec (is := [6]) (hs := [.b 0]) (rest := []) (ks := [1, 4, 5]) (env' := [(1, .pointer (some ⟨b_4, 0, none⟩)), (4, .int .i64 i_17), (5, .pointer (some ⟨b_22, 0, none⟩))]) (H' := [⟨41, b_22, [.int .u64 ((rdL x_1.Entries i_17).Term), .int .u64 ((rdL x_1.Entries i_17).Index), .int .i64 ((rdL x_1.Entries i_17).Kind), .string (bs ((rdL x_1.Entries i_17).Data))]⟩, ⟨40, b_4, [.int .i64 x_1.Kind, .int .i64 x_1.From, .int .i64 x_1.To, .int .u64 x_1.Term, .int .u64 x_1.Index, .int .u64 x_1.Prev, .int .u64 x_1.Commit, .bool x_1.Ok, .slice A_2 x_1.Entries.length c_3, .string (bs x_1.Data)]⟩]) (ps := [b_22 = b_22]) (by kernel_rfl) (And.intro rfl trivial) ?_
    refine GoO.regionEnd ?_
    refine GoO.region' (is := [0, 1, 2, 3, 4, 5, 6, 7, 8, 9, 10, 11, 12, 13, 14]) c41_27e (by kernel_rfl) ?_
    refine GoO.exec (is := [0, 1, 2, 3]) (hs := [.p, .b 0, .p, .p]) (rest := [4, 5, 6, 7, 8, 9, 10, 11, 12, 13, 14]) (ks := [1, 4, 5, 73]) (env' := [(1, .pointer (some ⟨b_4, 0, none⟩)), (4, .int .i64 i_17), (5, .pointer (some ⟨b_22, 0, none⟩)), (73, .bool (decide (((rdL x_1.Entries i_17).Kind) ≥ 0)))]) (H' := [⟨41, b_22, [.int .u64 ((rdL x_1.Entries i_17).Term), .int .u64 ((rdL x_1.Entries i_17).Index), .int .i64 ((rdL x_1.Entries i_17).Kind), .string (bs ((rdL x_1.Entries i_17).Data))]⟩, ⟨40, b_4, [.int .i64 x_1.Kind, .int .i64 x_1.From, .int .i64 x_1.To, .int .u64 x_1.Term, .int .u64 x_1.Index, .int .u64 x_1.Prev, .int .u64 x_1.Commit, .bool x_1.Ok, .slice A_2 x_1.Entries.length c_3, .string (bs x_1.Data)]⟩]) (ps := [b_22 = b_22]) (by kernel_rfl) (And.intro rfl trivial) ?_
    refine GoO.bsplit (t := 73) (by kernel_rfl) (fun h23 => ?_) (fun h23 => ?_)
    · refine GoO.exec (is := [4, 5, 6, 7, 8]) (hs := [.p, .b 0, .p, .p, .p]) (rest := [9, 10, 11, 12, 13, 14]) (ks := [1, 4, 5, 78]) (env' := [(1, .pointer (some ⟨b_4, 0, none⟩)), (4, .int .i64 i_17), (5, .pointer (some ⟨b_22, 0, none⟩)), (78, .bool (decide (((rdL x_1.Entries i_17).Kind) ≤ 2)))]) (H' := [⟨41, b_22, [.int .u64 ((rdL x_1.Entries i_17).Term), .int .u64 ((rdL x_1.Entries i_17).Index), .int .i64 ((rdL x_1.Entries i_17).Kind), .string (bs ((rdL x_1.Entries i_17).Data))]⟩, ⟨40, b_4, [.int .i64 x_1.Kind, .int .i64 x_1.From, .int .i64 x_1.To, .int .u64 x_1.Term, .int .u64 x_1.Index, .int .u64 x_1.Prev, .int .u64 x_1.Commit, .bool x_1.Ok, .slice A_2 x_1.Entries.length c_3, .string (bs x_1.Data)]⟩]) (ps := [b_22 = b_22]) (by kernel_rfl) (And.intro rfl trivial) ?_
      refine GoO.bsplit (t := 78) (by kernel_rfl) (fun h24 => ?_) (fun h24 => ?_)
      · refine GoO.exec (is := [9, 10, 11, 12, 13, 14]) (hs := [.p, .b 0, .p, .p, .p, .p]) (rest := []) (ks := [1, 3, 4]) (env' := [(1, .pointer (some ⟨b_4, 0, none⟩)), (3, .bool (decide ((((rdL x_1.Entries i_17).Data).length : Int) ≤ 65536))), (4, .int .i64 i_17)]) (H' := [⟨41, b_22, [.int .u64 ((rdL x_1.Entries i_17).Term), .int .u64 ((rdL x_1.Entries i_17).Index), .int .i64 ((rdL x_1.Entries i_17).Kind), .string (bs ((rdL x_1.Entries i_17).Data))]⟩, ⟨40, b_4, [.int .i64 x_1.Kind, .int .i64 x_1.From, .int .i64 x_1.To, .int .u64 x_1.Term, .int .u64 x_1.Index, .int .u64 x_1.Prev, .int .u64 x_1.Commit, .bool x_1.Ok, .slice A_2 x_1.Entries.length c_3, .string (bs x_1.Data)]⟩]) (ps := [b_22 = b_22]) (by kernel_rfl) (And.intro rfl trivial) ?_
        refine GoO.regionEnd ?_
        refine GoO.inBlock ?_
        refine GoO.region' (is := [0, 1, 2]) c41_28e (by kernel_rfl) ?_
        refine GoO.exec (is := [0, 1, 2]) (hs := [.p, .p, .p]) (rest := []) (ks := [1, 3, 4]) (env' := [(1, .pointer (some ⟨b_4, 0, none⟩)), (3, .bool (decide ((((rdL x_1.Entries i_17).Data).length : Int) ≤ 65536))), (4, .int .i64 (wi64 (i_17 + 1)))]) (H' := [⟨41, b_22, [.int .u64 ((rdL x_1.Entries i_17).Term), .int .u64 ((rdL x_1.Entries i_17).Index), .int .i64 ((rdL x_1.Entries i_17).Kind), .string (bs ((rdL x_1.Entries i_17).Data))]⟩, ⟨40, b_4, [.int .i64 x_1.Kind, .int .i64 x_1.From, .int .i64 x_1.To, .int .u64 x_1.Term, .int .u64 x_1.Index, .int .u64 x_1.Prev, .int .u64 x_1.Commit, .bool x_1.Ok, .slice A_2 x_1.Entries.length c_3, .string (bs x_1.Data)]⟩]) (ps := []) (by kernel_rfl) trivial ?_
        refine GoO.regionEnd ?_
        refine GoO.inLoop ?_
        exact GoO.sub (ks := [1, 3, 4]) (hk := [1]) (bk := [0]) (by kernel_rfl) (by kernel_rfl) (by kernel_rfl) (ih0 (decide ((((rdL x_1.Entries i_17).Data).length : Int) ≤ 65536)) (wi64 (i_17 + 1)))
      · refine GoO.exec (is := [9, 10, 11, 12, 13, 14]) (hs := [.p, .p, .p, .p, .p, .p]) (rest := []) (ks := [1, 3, 4]) (env' := [(1, .pointer (some ⟨b_4, 0, none⟩)), (3, .bool false), (4, .int .i64 i_17)]) (H' := [⟨41, b_22, [.int .u64 ((rdL x_1.Entries i_17).Term), .int .u64 ((rdL x_1.Entries i_17).Index), .int .i64 ((rdL x_1.Entries i_17).Kind), .string (bs ((rdL x_1.Entries i_17).Data))]⟩, ⟨40, b_4, [.int .i64 x_1.Kind, .int .i64 x_1.From, .int .i64 x_1.To, .int .u64 x_1.Term, .int .u64 x_1.Index, .int .u64 x_1.Prev, .int .u64 x_1.Commit, .bool x_1.Ok, .slice A_2 x_1.Entries.length c_3, .string (bs x_1.Data)]⟩]) (ps := []) (by kernel_rfl) trivial ?_
        refine GoO.regionEnd ?_
        refine GoO.inBlock ?_
        refine GoO.region' (is := [0, 1, 2]) c41_28e (by kernel_rfl) ?_
        refine GoO.exec (is := [0, 1, 2]) (hs := [.p, .p, .p]) (rest := []) (ks := [1, 3, 4]) (env' := [(1, .pointer (some ⟨b_4, 0, none⟩)), (3, .bool false), (4, .int .i64 (wi64 (i_17 + 1)))]) (H' := [⟨41, b_22, [.int .u64 ((rdL x_1.Entries i_17).Term), .int .u64 ((rdL x_1.Entries i_17).Index), .int .i64 ((rdL x_1.Entries i_17).Kind), .string (bs ((rdL x_1.Entries i_17).Data))]⟩, ⟨40, b_4, [.int .i64 x_1.Kind, .int .i64 x_1.From, .int .i64 x_1.To, .int .u64 x_1.Term, .int .u64 x_1.Index, .int .u64 x_1.Prev, .int .u64 x_1.Commit, .bool x_1.Ok, .slice A_2 x_1.Entries.length c_3, .string (bs x_1.Data)]⟩]) (ps := []) (by kernel_rfl) trivial ?_
        refine GoO.regionEnd ?_
        refine GoO.inLoop ?_
        exact GoO.sub (ks := [1, 3, 4]) (hk := [1]) (bk := [0]) (by kernel_rfl) (by kernel_rfl) (by kernel_rfl) (ih0 false (wi64 (i_17 + 1)))
    · refine GoO.exec (is := [4, 5, 6, 7, 8, 9, 10, 11, 12, 13, 14]) (hs := [.p, .p, .p, .p, .p, .p, .p, .p, .p, .p, .p]) (rest := []) (ks := [1, 3, 4]) (env' := [(1, .pointer (some ⟨b_4, 0, none⟩)), (3, .bool false), (4, .int .i64 i_17)]) (H' := [⟨41, b_22, [.int .u64 ((rdL x_1.Entries i_17).Term), .int .u64 ((rdL x_1.Entries i_17).Index), .int .i64 ((rdL x_1.Entries i_17).Kind), .string (bs ((rdL x_1.Entries i_17).Data))]⟩, ⟨40, b_4, [.int .i64 x_1.Kind, .int .i64 x_1.From, .int .i64 x_1.To, .int .u64 x_1.Term, .int .u64 x_1.Index, .int .u64 x_1.Prev, .int .u64 x_1.Commit, .bool x_1.Ok, .slice A_2 x_1.Entries.length c_3, .string (bs x_1.Data)]⟩]) (ps := []) (by kernel_rfl) trivial ?_
      refine GoO.regionEnd ?_
      refine GoO.inBlock ?_
      refine GoO.region' (is := [0, 1, 2]) c41_28e (by kernel_rfl) ?_
      refine GoO.exec (is := [0, 1, 2]) (hs := [.p, .p, .p]) (rest := []) (ks := [1, 3, 4]) (env' := [(1, .pointer (some ⟨b_4, 0, none⟩)), (3, .bool false), (4, .int .i64 (wi64 (i_17 + 1)))]) (H' := [⟨41, b_22, [.int .u64 ((rdL x_1.Entries i_17).Term), .int .u64 ((rdL x_1.Entries i_17).Index), .int .i64 ((rdL x_1.Entries i_17).Kind), .string (bs ((rdL x_1.Entries i_17).Data))]⟩, ⟨40, b_4, [.int .i64 x_1.Kind, .int .i64 x_1.From, .int .i64 x_1.To, .int .u64 x_1.Term, .int .u64 x_1.Index, .int .u64 x_1.Prev, .int .u64 x_1.Commit, .bool x_1.Ok, .slice A_2 x_1.Entries.length c_3, .string (bs x_1.Data)]⟩]) (ps := []) (by kernel_rfl) trivial ?_
      refine GoO.regionEnd ?_
      refine GoO.inLoop ?_
      exact GoO.sub (ks := [1, 3, 4]) (hk := [1]) (bk := [0]) (by kernel_rfl) (by kernel_rfl) (by kernel_rfl) (ih0 false (wi64 (i_17 + 1)))
  · refine GoO.exit' c41_22e rfl ?_
    refine GoO.seq' c41_29e ?_
    refine GoO.region' (is := [0, 1]) c41_30e (by kernel_rfl) ?_
    refine GoO.exec (is := [0, 1]) (hs := [.p, .p]) (rest := []) (ks := [2]) (env' := [(2, .bool ok_16)]) (H' := [⟨40, b_4, [.int .i64 x_1.Kind, .int .i64 x_1.From, .int .i64 x_1.To, .int .u64 x_1.Term, .int .u64 x_1.Index, .int .u64 x_1.Prev, .int .u64 x_1.Commit, .bool x_1.Ok, .slice A_2 x_1.Entries.length c_3, .string (bs x_1.Data)]⟩]) (ps := []) (by kernel_rfl) trivial ?_
    refine GoO.regionEnd ?_
    exact GoO.ret' (h := c41_31e) (hs := []) (ps := []) (hk := []) (bk := []) Try.func41 () (by kernel_rfl) trivial (by kernel_rfl) (by kernel_rfl)
theorem tontineref11_May_l0_ok (n : Nat) (x_1 : T_api_Letter) (A_2 : Option Addr) (c_3 : Nat) (b_4 : Nat) (w0 : World) (S0 : Fam) :
    ∀ (k : Nat) (ok_16 : Bool) (i_17 : Int), GoO (tontineref11_May.cx A_2 c_3 w0 S0) [(1, .pointer (some ⟨b_4, 0, none⟩)), (3, .bool ok_16), (4, .int .i64 i_17)] [⟨40, b_4, [.int .i64 x_1.Kind, .int .i64 x_1.From, .int .i64 x_1.To, .int .u64 x_1.Term, .int .u64 x_1.Index, .int .u64 x_1.Prev, .int .u64 x_1.Commit, .bool x_1.Ok, .slice A_2 x_1.Entries.length c_3, .string (bs x_1.Data)]⟩] [Rd 0 kT_api_Entry A_2 c_3 x_1.Entries] [.code c41_17, .inLoop c41_17, .inBlock 0, .code c41_29] (tontineref11_May.l0 n x_1 k ok_16 i_17) := by
  intro k
  induction k with
  | zero => intros; rw [tontineref11_May.l0.eq_1]; exact GoO.stop
  | succ k ih0 =>
    intro ok_16 i_17
    rw [tontineref11_May.l0.eq_2]
    refine GoO.seq' c41_17e ?_
    refine GoO.seq' c41_18e ?_
    refine GoO.region' (is := [0, 1, 2, 3, 4, 5, 6, 7]) c41_19e (by kernel_rfl) ?_
    refine GoO.exec (is := [0, 1, 2, 3, 4, 5]) (hs := [.p, .p, .b 0, .p, .p, .p]) (rest := [6, 7]) (ks := [1, 3, 4, 60]) (env' := [(1, .pointer (some ⟨b_4, 0, none⟩)), (3, .bool ok_16), (4, .int .i64 i_17), (60, .bool (decide (i_17 < (x_1.Entries.length : Int))))]) (H' := [⟨40, b_4, [.int .i64 x_1.Kind, .int .i64 x_1.From, .int .i64 x_1.To, .int .u64 x_1.Term, .int .u64 x_1.Index, .int .u64 x_1.Prev, .int .u64 x_1.Commit, .bool x_1.Ok, .slice A_2 x_1.Entries.length c_3, .string (bs x_1.Data)]⟩]) (ps := [b_4 = b_4]) (by kernel_rfl) (And.intro rfl trivial) ?_
    refine GoO.bsplit (t := 60) (by kernel_rfl) (fun h18 => ?_) (fun h18 => ?_)
    · refine GoO.exec (is := [6, 7]) (hs := [.p, .p]) (rest := []) (ks := [1, 3, 4, 62]) (env' := [(1, .pointer (some ⟨b_4, 0, none⟩)), (3, .bool ok_16), (4, .int .i64 i_17), (62, .bool ok_16)]) (H' := [⟨40, b_4, [.int .i64 x_1.Kind, .int .i64 x_1.From, .int .i64 x_1.To, .int .u64 x_1.Term, .int .u64 x_1.Index, .int .u64 x_1.Prev, .int .u64 x_1.Commit, .bool x_1.Ok, .slice A_2 x_1.Entries.length c_3, .string (bs x_1.Data)]⟩]) (ps := []) (by kernel_rfl) trivial ?_
      refine GoO.regionEnd ?_
      exact GoO.sub (ks := [1, 3, 4, 62]) (hk := [0]) (bk := [0]) (by kernel_rfl) (by kernel_rfl) (by kernel_rfl) (tontineref11_May_j2_ok n (tontineref11_May.l0 n x_1 k) x_1 ok_16 i_17 A_2 c_3 b_4 w0 S0 ih0 ok_16)
    · refine GoO.exec (is := [6, 7]) (hs := [.p, .p]) (rest := []) (ks := [1, 3, 4, 62]) (env' := [(1, .pointer (some ⟨b_4, 0, none⟩)), (3, .bool ok_16), (4, .int .i64 i_17), (62, .bool false)]) (H' := [⟨40, b_4, [.int .i64 x_1.Kind, .int .i64 x_1.From, .int .i64 x_1.To, .int .u64 x_1.Term, .int .u64 x_1.Index, .int .u64 x_1.Prev, .int .u64 x_1.Commit, .bool x_1.Ok, .slice A_2 x_1.Entries.length c_3, .string (bs x_1.Data)]⟩]) (ps := []) (by kernel_rfl) trivial ?_
      refine GoO.regionEnd ?_
      exact GoO.sub (ks := [1, 3, 4, 62]) (hk := [0]) (bk := [0]) (by kernel_rfl) (by kernel_rfl) (by kernel_rfl) (tontineref11_May_j2_ok n (tontineref11_May.l0 n x_1 k) x_1 ok_16 i_17 A_2 c_3 b_4 w0 S0 ih0 false)
theorem tontineref11_May_j1_ok (n : Nat) (x_1 : T_api_Letter) (ok_12 : Bool) (A_2 : Option Addr) (c_3 : Nat) (b_4 : Nat) (w0 : World) (S0 : Fam) (b_14 : Bool) :
    GoO (tontineref11_May.cx A_2 c_3 w0 S0) [(1, .pointer (some ⟨b_4, 0, none⟩)), (3, .bool ok_12), (54, .bool b_14)] [⟨40, b_4, [.int .i64 x_1.Kind, .int .i64 x_1.From, .int .i64 x_1.To, .int .u64 x_1.Term, .int .u64 x_1.Index, .int .u64 x_1.Prev, .int .u64 x_1.Commit, .bool x_1.Ok, .slice A_2 x_1.Entries.length c_3, .string (bs x_1.Data)]⟩] [Rd 0 kT_api_Entry A_2 c_3 x_1.Entries] [.code c41_7, .code c41_12] (tontineref11_May.j1 n x_1 ok_12 b_14) := by
  unfold tontineref11_May.j1
  refine GoO.ite' c41_7e (by kernel_rfl) (fun h15 => ?_) (fun h15 => ?_)
  · refine GoO.seq' c41_8e ?_
    refine GoO.region' (is := [0]) c41_9e (by kernel_rfl) ?_
    refine GoO.exec (is := [0]) (hs := [.p]) (rest := []) (ks := [2]) (env' := [(2, .bool false)]) (H' := [⟨40, b_4, [.int .i64 x_1.Kind, .int .i64 x_1.From, .int .i64 x_1.To, .int .u64 x_1.Term, .int .u64 x_1.Index, .int .u64 x_1.Prev, .int .u64 x_1.Commit, .bool x_1.Ok, .slice A_2 x_1.Entries.length c_3, .string (bs x_1.Data)]⟩]) (ps := []) (by kernel_rfl) trivial ?_
    refine GoO.regionEnd ?_
    exact GoO.ret' (h := c41_10e) (hs := []) (ps := []) (hk := []) (bk := []) Try.func41 () (by kernel_rfl) trivial (by kernel_rfl) (by kernel_rfl)
  · refine GoO.skip' c41_11e ?_
    refine GoO.seq' c41_12e ?_
    refine GoO.seq' c41_13e ?_
    refine GoO.region' (is := [0]) c41_14e (by kernel_rfl) ?_
    refine GoO.exec (is := [0]) (hs := [.p]) (rest := []) (ks := [1, 3, 4]) (env' := [(1, .pointer (some ⟨b_4, 0, none⟩)), (3, .bool ok_12), (4, .int .i64 0)]) (H' := [⟨40, b_4, [.int .i64 x_1.Kind, .int .i64 x_1.From, .int .i64 x_1.To, .int .u64 x_1.Term, .int .u64 x_1.Index, .int .u64 x_1.Prev, .int .u64 x_1.Commit, .bool x_1.Ok, .slice A_2 x_1.Entries.length c_3, .string (bs x_1.Data)]⟩]) (ps := []) (by kernel_rfl) trivial ?_
    refine GoO.regionEnd ?_
    refine GoO.block' c41_15e ?_
    refine GoO.loop' c41_16e ?_
    exact GoO.sub (ks := [1, 3, 4]) (hk := [0]) (bk := [0]) (by kernel_rfl) (by kernel_rfl) (by kernel_rfl) (tontineref11_May_l0_ok n x_1 A_2 c_3 b_4 w0 S0 n ok_12 0)
theorem tontineref11_May_j0_ok (n : Nat) (x_1 : T_api_Letter) (A_2 : Option Addr) (c_3 : Nat) (b_4 : Nat) (w0 : World) (S0 : Fam) (ok_12 : Bool) :
    GoO (tontineref11_May.cx A_2 c_3 w0 S0) [(1, .pointer (some ⟨b_4, 0, none⟩)), (3, .bool ok_12)] [⟨40, b_4, [.int .i64 x_1.Kind, .int .i64 x_1.From, .int .i64 x_1.To, .int .u64 x_1.Term, .int .u64 x_1.Index, .int .u64 x_1.Prev, .int .u64 x_1.Commit, .bool x_1.Ok, .slice A_2 x_1.Entries.length c_3, .string (bs x_1.Data)]⟩] [Rd 0 kT_api_Entry A_2 c_3 x_1.Entries] [.code c41_4] (tontineref11_May.j0 n x_1 ok_12) := by
  unfold tontineref11_May.j0
  refine GoO.seq' c41_4e ?_
  refine GoO.seq' c41_5e ?_
  refine GoO.region' (is := [0, 1, 2, 3, 4, 5, 6, 7, 8]) c41_6e (by kernel_rfl) ?_
  refine GoO.exec (is := [0, 1, 2, 3]) (hs := [.p, .b 0, .p, .p]) (rest := [4, 5, 6, 7, 8]) (ks := [1, 3, 49]) (env' := [(1, .pointer (some ⟨b_4, 0, none⟩)), (3, .bool ok_12), (49, .bool (x_1.Kind != 3))]) (H' := [⟨40, b_4, [.int .i64 x_1.Kind, .int .i64 x_1.From, .int .i64 x_1.To, .int .u64 x_1.Term, .int .u64 x_1.Index, .int .u64 x_1.Prev, .int .u64 x_1.Commit, .bool x_1.Ok, .slice A_2 x_1.Entries.length c_3, .string (bs x_1.Data)]⟩]) (ps := [b_4 = b_4]) (by kernel_rfl) (And.intro rfl trivial) ?_
  refine GoO.bsplit (t := 49) (by kernel_rfl) (fun h13 => ?_) (fun h13 => ?_)
  · refine GoO.exec (is := [4, 5, 6, 7, 8]) (hs := [.p, .b 0, .p, .p, .p]) (rest := []) (ks := [1, 3, 54]) (env' := [(1, .pointer (some ⟨b_4, 0, none⟩)), (3, .bool ok_12), (54, .bool (decide ((x_1.Entries.length : Int) > 0)))]) (H' := [⟨40, b_4, [.int .i64 x_1.Kind, .int .i64 x_1.From, .int .i64 x_1.To, .int .u64 x_1.Term, .int .u64 x_1.Index, .int .u64 x_1.Prev, .int .u64 x_1.Commit, .bool x_1.Ok, .slice A_2 x_1.Entries.length c_3, .string (bs x_1.Data)]⟩]) (ps := [b_4 = b_4]) (by kernel_rfl) (And.intro rfl trivial) ?_
    refine GoO.regionEnd ?_
    exact GoO.sub (ks := [1, 3, 54]) (hk := [0]) (bk := [0]) (by kernel_rfl) (by kernel_rfl) (by kernel_rfl) (tontineref11_May_j1_ok n x_1 ok_12 A_2 c_3 b_4 w0 S0 (decide ((x_1.Entries.length : Int) > 0)))
  · refine GoO.exec (is := [4, 5, 6, 7, 8]) (hs := [.p, .p, .p, .p, .p]) (rest := []) (ks := [1, 3, 54]) (env' := [(1, .pointer (some ⟨b_4, 0, none⟩)), (3, .bool ok_12), (54, .bool false)]) (H' := [⟨40, b_4, [.int .i64 x_1.Kind, .int .i64 x_1.From, .int .i64 x_1.To, .int .u64 x_1.Term, .int .u64 x_1.Index, .int .u64 x_1.Prev, .int .u64 x_1.Commit, .bool x_1.Ok, .slice A_2 x_1.Entries.length c_3, .string (bs x_1.Data)]⟩]) (ps := []) (by kernel_rfl) trivial ?_
    refine GoO.regionEnd ?_
    exact GoO.sub (ks := [1, 3, 54]) (hk := [0]) (bk := [0]) (by kernel_rfl) (by kernel_rfl) (by kernel_rfl) (tontineref11_May_j1_ok n x_1 ok_12 A_2 c_3 b_4 w0 S0 false)
theorem tontineref11_May_ok (n : Nat) (x_1 : T_api_Letter) (A_2 : Option Addr) (c_3 : Nat) :
    Meets Try.prog 41 [.agg ⟨[.int .i64 x_1.Kind, .int .i64 x_1.From, .int .i64 x_1.To, .int .u64 x_1.Term, .int .u64 x_1.Index, .int .u64 x_1.Prev, .int .u64 x_1.Commit, .bool x_1.Ok, .slice A_2 x_1.Entries.length c_3, .string (bs x_1.Data)]⟩] 0 [] [] [Rd 0 kT_api_Entry A_2 c_3 x_1.Entries] (tontineref11_May.f n x_1) (tontineref11_May.R A_2 c_3) := by
  refine Meets.of (c := c41_0) (n := 85) Try.func41 (by kernel_rfl) (by kernel_rfl) (by kernel_rfl) fun w0 S0 => ?_
  unfold tontineref11_May.f
  show GoO (tontineref11_May.cx A_2 c_3 w0 S0) [(0, .agg ⟨[.int .i64 x_1.Kind, .int .i64 x_1.From, .int .i64 x_1.To, .int .u64 x_1.Term, .int .u64 x_1.Index, .int .u64 x_1.Prev, .int .u64 x_1.Commit, .bool x_1.Ok, .slice A_2 x_1.Entries.length c_3, .string (bs x_1.Data)]⟩)] [] [Rd 0 kT_api_Entry A_2 c_3 x_1.Entries] [.code c41_0] _
  refine GoO.seq' c41_0e ?_
  refine GoO.region' (is := [0, 1]) c41_1e (by kernel_rfl) ?_
  refine OpTo.go (GoO.new rfl 40 (cs := [.int .i64 x_1.Kind, .int .i64 x_1.From, .int .i64 x_1.To, .int .u64 x_1.Term, .int .u64 x_1.Index, .int .u64 x_1.Prev, .int .u64 x_1.Commit, .bool x_1.Ok, .slice A_2 x_1.Entries.length c_3, .string (bs x_1.Data)]) (by kernel_rfl) _ (fun _ => rfl) (fun b_4 => ?_))
  refine GoO.exec (is := [1]) (hs := [.p]) (rest := []) (ks := [1]) (env' := [(1, .pointer (some ⟨b_4, 0, none⟩))]) (H' := [⟨40, b_4, [.int .i64 x_1.Kind, .int .i64 x_1.From, .int .i64 x_1.To, .int .u64 x_1.Term, .int .u64 x_1.Index, .int .u64 x_1.Prev, .int .u64 x_1.Commit, .bool x_1.Ok, .slice A_2 x_1.Entries.length c_3, .string (bs x_1.Data)]⟩]) (ps := []) (by kernel_rfl) trivial ?_
  refine GoO.regionEnd ?_
  refine GoO.seq' c41_2e ?_
  refine GoO.region' (is := [0, 1, 2, 3, 4, 5, 6, 7, 8, 9, 10, 11, 12, 13, 14, 15, 16, 17, 18, 19, 20, 21, 22, 23, 24, 25, 26, 27, 28, 29, 30, 31, 32, 33, 34, 35, 36, 37, 38, 39, 40]) c41_3e (by kernel_rfl) ?_
  refine GoO.exec (is := [0, 1, 2, 3]) (hs := [.p, .b 0, .p, .p]) (rest := [4, 5, 6, 7, 8, 9, 10, 11, 12, 13, 14, 15, 16, 17, 18, 19, 20, 21, 22, 23, 24, 25, 26, 27, 28, 29, 30, 31, 32, 33, 34, 35, 36, 37, 38, 39, 40]) (ks := [1, 9]) (env' := [(1, .pointer (some ⟨b_4, 0, none⟩)), (9, .bool (decide (x_1.Kind ≥ 1)))]) (H' := [⟨40, b_4, [.int .i64 x_1.Kind, .int .i64 x_1.From, .int .i64 x_1.To, .int .u64 x_1.Term, .int .u64 x_1.Index, .int .u64 x_1.Prev, .int .u64 x_1.Commit, .bool x_1.Ok, .slice A_2 x_1.Entries.length c_3, .string (bs x_1.Data)]⟩]) (ps := [b_4 = b_4]) (by kernel_rfl) (And.intro rfl trivial) ?_
  refine GoO.bsplit (t := 9) (by kernel_rfl) (fun h5 => ?_) (fun h5 => ?_)
  · refine GoO.exec (is := [4, 5, 6, 7, 8]) (hs := [.p, .b 0, .p, .p, .p]) (rest := [9, 10, 11, 12, 13, 14, 15, 16, 17, 18, 19, 20, 21, 22, 23, 24, 25, 26, 27, 28, 29, 30, 31, 32, 33, 34, 35, 36, 37, 38, 39, 40]) (ks := [1, 14]) (env' := [(1, .pointer (some ⟨b_4, 0, none⟩)), (14, .bool (decide (x_1.Kind ≤ 9)))]) (H' := [⟨40, b_4, [.int .i64 x_1.Kind, .int .i64 x_1.From, .int .i64 x_1.To, .int .u64 x_1.Term, .int .u64 x_1.Index, .int .u64 x_1.Prev, .int .u64 x_1.Commit, .bool x_1.Ok, .slice A_2 x_1.Entries.length c_3, .string (bs x_1.Data)]⟩]) (ps := [b_4 = b_4]) (by kernel_rfl) (And.intro rfl trivial) ?_
    refine GoO.bsplit (t := 14) (by kernel_rfl) (fun h6 => ?_) (fun h6 => ?_)
    · refine GoO.exec (is := [9, 10, 11, 12, 13]) (hs := [.p, .b 0, .p, .p, .p]) (rest := [14, 15, 16, 17, 18, 19, 20, 21, 22, 23, 24, 25, 26, 27, 28, 29, 30, 31, 32, 33, 34, 35, 36, 37, 38, 39, 40]) (ks := [1, 19]) (env' := [(1, .pointer (some ⟨b_4, 0, none⟩)), (19, .bool (decide (x_1.From ≥ 0)))]) (H' := [⟨40, b_4, [.int .i64 x_1.Kind, .int .i64 x_1.From, .int .i64 x_1.To, .int .u64 x_1.Term, .int .u64 x_1.Index, .int .u64 x_1.Prev, .int .u64 x_1.Commit, .bool x_1.Ok, .slice A_2 x_1.Entries.length c_3, .string (bs x_1.Data)]⟩]) (ps := [b_4 = b_4]) (by kernel_rfl) (And.intro rfl trivial) ?_
      refine GoO.bsplit (t := 19) (by kernel_rfl) (fun h7 => ?_) (fun h7 => ?_)
      · refine GoO.exec (is := [14, 15, 16, 17, 18]) (hs := [.p, .b 0, .p, .p, .p]) (rest := [19, 20, 21, 22, 23, 24, 25, 26, 27, 28, 29, 30, 31, 32, 33, 34, 35, 36, 37, 38, 39, 40]) (ks := [1, 24]) (env' := [(1, .pointer (some ⟨b_4, 0, none⟩)), (24, .bool (decide (x_1.From ≤ 255)))]) (H' := [⟨40, b_4, [.int .i64 x_1.Kind, .int .i64 x_1.From, .int .i64 x_1.To, .int .u64 x_1.Term, .int .u64 x_1.Index, .int .u64 x_1.Prev, .int .u64 x_1.Commit, .bool x_1.Ok, .slice A_2 x_1.Entries.length c_3, .string (bs x_1.Data)]⟩]) (ps := [b_4 = b_4]) (by kernel_rfl) (And.intro rfl trivial) ?_
        refine GoO.bsplit (t := 24) (by kernel_rfl) (fun h8 => ?_) (fun h8 => ?_)
        · refine GoO.exec (is := [19, 20, 21, 22, 23]) (hs := [.p, .b 0, .p, .p, .p]) (rest := [24, 25, 26, 27, 28, 29, 30, 31, 32, 33, 34, 35, 36, 37, 38, 39, 40]) (ks := [1, 29]) (env' := [(1, .pointer (some ⟨b_4, 0, none⟩)), (29, .bool (decide (x_1.To ≥ 0)))]) (H' := [⟨40, b_4, [.int .i64 x_1.Kind, .int .i64 x_1.From, .int .i64 x_1.To, .int .u64 x_1.Term, .int .u64 x_1.Index, .int .u64 x_1.Prev, .int .u64 x_1.Commit, .bool x_1.Ok, .slice A_2 x_1.Entries.length c_3, .string (bs x_1.Data)]⟩]) (ps := [b_4 = b_4]) (by kernel_rfl) (And.intro rfl trivial) ?_
          refine GoO.bsplit (t := 29) (by kernel_rfl) (fun h9 => ?_) (fun h9 => ?_)
          · refine GoO.exec (is := [24, 25, 26, 27, 28]) (hs := [.p, .b 0, .p, .p, .p]) (rest := [29, 30, 31, 32, 33, 34, 35, 36, 37, 38, 39, 40]) (ks := [1, 34]) (env' := [(1, .pointer (some ⟨b_4, 0, none⟩)), (34, .bool (decide (x_1.To ≤ 255)))]) (H' := [⟨40, b_4, [.int .i64 x_1.Kind, .int .i64 x_1.From, .int .i64 x_1.To, .int .u64 x_1.Term, .int .u64 x_1.Index, .int .u64 x_1.Prev, .int .u64 x_1.Commit, .bool x_1.Ok, .slice A_2 x_1.Entries.length c_3, .string (bs x_1.Data)]⟩]) (ps := [b_4 = b_4]) (by kernel_rfl) (And.intro rfl trivial) ?_
            refine GoO.bsplit (t := 34) (by kernel_rfl) (fun h10 => ?_) (fun h10 => ?_)
            · refine GoO.exec (is := [29, 30, 31, 32, 33, 34]) (hs := [.p, .b 0, .p, .p, .p, .p]) (rest := [35, 36, 37, 38, 39, 40]) (ks := [1, 40]) (env' := [(1, .pointer (some ⟨b_4, 0, none⟩)), (40, .bool (decide ((x_1.Entries.length : Int) ≤ 8)))]) (H' := [⟨40, b_4, [.int .i64 x_1.Kind, .int .i64 x_1.From, .int .i64 x_1.To, .int .u64 x_1.Term, .int .u64 x_1.Index, .int .u64 x_1.Prev, .int .u64 x_1.Commit, .bool x_1.Ok, .slice A_2 x_1.Entries.length c_3, .string (bs x_1.Data)]⟩]) (ps := [b_4 = b_4]) (by kernel_rfl) (And.intro rfl trivial) ?_
              refine GoO.bsplit (t := 40) (by kernel_rfl) (fun h11 => ?_) (fun h11 => ?_)
              · refine GoO.exec (is := [35, 36, 37, 38, 39, 40]) (hs := [.p, .b 0, .p, .p, .p, .p]) (rest := []) (ks := [1, 3]) (env' := [(1, .pointer (some ⟨b_4, 0, none⟩)), (3, .bool (decide ((x_1.Data.length : Int) ≤ 65536)))]) (H' := [⟨40, b_4, [.int .i64 x_1.Kind, .int .i64 x_1.From, .int .i64 x_1.To, .int .u64 x_1.Term, .int .u64 x_1.Index, .int .u64 x_1.Prev, .int .u64 x_1.Commit, .bool x_1.Ok, .slice A_2 x_1.Entries.length c_3, .string (bs x_1.Data)]⟩]) (ps := [b_4 = b_4]) (by kernel_rfl) (And.intro rfl trivial) ?_
                refine GoO.regionEnd ?_
                exact GoO.sub (ks := [1, 3]) (hk := [0]) (bk := [0]) (by kernel_rfl) (by kernel_rfl) (by kernel_rfl) (tontineref11_May_j0_ok n x_1 A_2 c_3 b_4 w0 S0 (decide ((x_1.Data.length : Int) ≤ 65536)))
              · refine GoO.exec (is := [35, 36, 37, 38, 39, 40]) (hs := [.p, .p, .p, .p, .p, .p]) (rest := []) (ks := [1, 3]) (env' := [(1, .pointer (some ⟨b_4, 0, none⟩)), (3, .bool false)]) (H' := [⟨40, b_4, [.int .i64 x_1.Kind, .int .i64 x_1.From, .int .i64 x_1.To, .int .u64 x_1.Term, .int .u64 x_1.Index, .int .u64 x_1.Prev, .int .u64 x_1.Commit, .bool x_1.Ok, .slice A_2 x_1.Entries.length c_3, .string (bs x_1.Data)]⟩]) (ps := []) (by kernel_rfl) trivial ?_
                refine GoO.regionEnd ?_
                exact GoO.sub (ks := [1, 3]) (hk := [0]) (bk := [0]) (by kernel_rfl) (by kernel_rfl) (by kernel_rfl) (tontineref11_May_j0_ok n x_1 A_2 c_3 b_4 w0 S0 false)
            · refine GoO.exec (is := [29, 30, 31, 32, 33, 34, 35, 36, 37, 38, 39, 40]) (hs := [.p, .p, .p, .p, .p, .p, .p, .p, .p, .p, .p, .p]) (rest := []) (ks := [1, 3]) (env' := [(1, .pointer (some ⟨b_4, 0, none⟩)), (3, .bool false)]) (H' := [⟨40, b_4, [.int .i64 x_1.Kind, .int .i64 x_1.From, .int .i64 x_1.To, .int .u64 x_1.Term, .int .u64 x_1.Index, .int .u64 x_1.Prev, .int .u64 x_1.Commit, .bool x_1.Ok, .slice A_2 x_1.Entries.length c_3, .string (bs x_1.Data)]⟩]) (ps := []) (by kernel_rfl) trivial ?_
              refine GoO.regionEnd ?_
              exact GoO.sub (ks := [1, 3]) (hk := [0]) (bk := [0]) (by kernel_rfl) (by kernel_rfl) (by kernel_rfl) (tontineref11_May_j0_ok n x_1 A_2 c_3 b_4 w0 S0 false)
          · refine GoO.exec (is := [24, 25, 26, 27, 28, 29, 30, 31, 32, 33, 34, 35, 36, 37, 38, 39, 40]) (hs := [.p, .p, .p, .p, .p, .p, .p, .p, .p, .p, .p, .p, .p, .p, .p, .p, .p]) (rest := []) (ks := [1, 3]) (env' := [(1, .pointer (some ⟨b_4, 0, none⟩)), (3, .bool false)]) (H' := [⟨40, b_4, [.int .i64 x_1.Kind, .int .i64 x_1.From, .int .i64 x_1.To, .int .u64 x_1.Term, .int .u64 x_1.Index, .int .u64 x_1.Prev, .int .u64 x_1.Commit, .bool x_1.Ok, .slice A_2 x_1.Entries.length c_3, .string (bs x_1.Data)]⟩]) (ps := []) (by kernel_rfl) trivial ?_
            refine GoO.regionEnd ?_
            exact GoO.sub (ks := [1, 3]) (hk := [0]) (bk := [0]) (by kernel_rfl) (by kernel_rfl) (by kernel_rfl) (tontineref11_May_j0_ok n x_1 A_2 c_3 b_4 w0 S0 false)
        · refine GoO.exec (is := [19, 20, 21, 22, 23, 24, 25, 26, 27, 28, 29, 30, 31, 32, 33, 34, 35, 36, 37, 38, 39, 40]) (hs := [.p, .p, .p, .p, .p, .p, .p, .p, .p, .p, .p, .p, .p, .p, .p, .p, .p, .p, .p, .p, .p, .p]) (rest := []) (ks := [1, 3]) (env' := [(1, .pointer (some ⟨b_4, 0, none⟩)), (3, .bool false)]) (H' := [⟨40, b_4, [.int .i64 x_1.Kind, .int .i64 x_1.From, .int .i64 x_1.To, .int .u64 x_1.Term, .int .u64 x_1.Index, .int .u64 x_1.Prev, .int .u64 x_1.Commit, .bool x_1.Ok, .slice A_2 x_1.Entries.length c_3, .string (bs x_1.Data)]⟩]) (ps := []) (by kernel_rfl) trivial ?_
          refine GoO.regionEnd ?_
          exact GoO.sub (ks := [1, 3]) (hk := [0]) (bk := [0]) (by kernel_rfl) (by kernel_rfl) (by kernel_rfl) (tontineref11_May_j0_ok n x_1 A_2 c_3 b_4 w0 S0 false)
      · refine GoO.exec (is := [14, 15, 16, 17, 18, 19, 20, 21, 22, 23, 24, 25, 26, 27, 28, 29, 30, 31, 32, 33, 34, 35, 36, 37, 38, 39, 40]) (hs := [.p, .p, .p, .p, .p, .p, .p, .p, .p, .p, .p, .p, .p, .p, .p, .p, .p, .p, .p, .p, .p, .p, .p, .p, .p, .p, .p]) (rest := []) (ks := [1, 3]) (env' := [(1, .pointer (some ⟨b_4, 0, none⟩)), (3, .bool false)]) (H' := [⟨40, b_4, [.int .i64 x_1.Kind, .int .i64 x_1.From, .int .i64 x_1.To, .int .u64 x_1.Term, .int .u64 x_1.Index, .int .u64 x_1.Prev, .int .u64 x_1.Commit, .bool x_1.Ok, .slice A_2 x_1.Entries.length c_3, .string (bs x_1.Data)]⟩]) (ps := []) (by kernel_rfl) trivial ?_
        refine GoO.regionEnd ?_
        exact GoO.sub (ks := [1, 3]) (hk := [0]) (bk := [0]) (by kernel_rfl) (by kernel_rfl) (by kernel_rfl) (tontineref11_May_j0_ok n x_1 A_2 c_3 b_4 w0 S0 false)
    · refine GoO.exec (is := [9, 10, 11, 12, 13, 14, 15, 16, 17, 18, 19, 20, 21, 22, 23, 24, 25, 26, 27, 28, 29, 30, 31, 32, 33, 34, 35, 36, 37, 38, 39, 40]) (hs := [.p, .p, .p, .p, .p, .p, .p, .p, .p, .p, .p, .p, .p, .p, .p, .p, .p, .p, .p, .p, .p, .p, .p, .p, .p, .p, .p, .p, .p, .p, .p, .p]) (rest := []) (ks := [1, 3]) (env' := [(1, .pointer (some ⟨b_4, 0, none⟩)), (3, .bool false)]) (H' := [⟨40, b_4, [.int .i64 x_1.Kind, .int .i64 x_1.From, .int .i64 x_1.To, .int .u64 x_1.Term, .int .u64 x_1.Index, .int .u64 x_1.Prev, .int .u64 x_1.Commit, .bool x_1.Ok, .slice A_2 x_1.Entries.length c_3, .string (bs x_1.Data)]⟩]) (ps := []) (by kernel_rfl) trivial ?_
      refine GoO.regionEnd ?_
      exact GoO.sub (ks := [1, 3]) (hk := [0]) (bk := [0]) (by kernel_rfl) (by kernel_rfl) (by kernel_rfl) (tontineref11_May_j0_ok n x_1 A_2 c_3 b_4 w0 S0 false)
  · refine GoO.exec (is := [4, 5, 6, 7, 8, 9, 10, 11, 12, 13, 14, 15, 16, 17, 18, 19, 20, 21, 22, 23, 24, 25, 26, 27, 28, 29, 30, 31, 32, 33, 34, 35, 36, 37, 38, 39, 40]) (hs := [.p, .p, .p, .p, .p, .p, .p, .p, .p, .p, .p, .p, .p, .p, .p, .p, .p, .p, .p, .p, .p, .p, .p, .p, .p, .p, .p, .p, .p, .p, .p, .p, .p, .p, .p, .p, .p]) (rest := []) (ks := [1, 3]) (env' := [(1, .pointer (some ⟨b_4, 0, none⟩)), (3, .bool false)]) (H' := [⟨40, b_4, [.int .i64 x_1.Kind, .int .i64 x_1.From, .int .i64 x_1.To, .int .u64 x_1.Term, .int .u64 x_1.Index, .int .u64 x_1.Prev, .int .u64 x_1.Commit, .bool x_1.Ok, .slice A_2 x_1.Entries.length c_3, .string (bs x_1.Data)]⟩]) (ps := []) (by kernel_rfl) trivial ?_
    refine GoO.regionEnd ?_
    exact GoO.sub (ks := [1, 3]) (hk := [0]) (bk := [0]) (by kernel_rfl) (by kernel_rfl) (by kernel_rfl) (tontineref11_May_j0_ok n x_1 A_2 c_3 b_4 w0 S0 false)

/-! tontine/tontineref03.Num -/
noncomputable def c42_0 : Code := bodyOf Try.f42
noncomputable def c42_1 : Code := cdL c42_0
noncomputable def c42_2 : Code := cdR c42_0
noncomputable def c42_3 : Code := cdL c42_2
noncomputable def c42_4 : Code := cdR c42_2
noncomputable def c42_5 : Code := cdL c42_4
noncomputable def c42_6 : Code := cdR c42_4
noncomputable def c42_7 : Code := cdL c42_6
noncomputable def c42_8 : Code := cdL c42_7
noncomputable def c42_9 : Code := cdL c42_8
noncomputable def c42_10 : Code := cdL c42_9
noncomputable def c42_11 : Code := cdL c42_10
noncomputable def c42_12 : Code := cdR c42_10
noncomputable def c42_13 : Code := cdL c42_12
noncomputable def c42_14 : Code := cdR c42_12
noncomputable def c42_15 : Code := cdR c42_9
noncomputable def c42_16 : Code := cdL c42_15
noncomputable def c42_17 : Code := cdL c42_16
noncomputable def c42_18 : Code := cdR c42_16
noncomputable def c42_19 : Code := cdL c42_18
noncomputable def c42_20 : Code := cdR c42_18
noncomputable def c42_21 : Code := cdR c42_6
noncomputable def c42_22 : Code := cdL c42_21
noncomputable def c42_23 : Code := cdR c42_21
noncomputable def r42_1 : Array Oper := cdO c42_1
noncomputable def r42_3 : Array Oper := cdO c42_3
noncomputable def r42_5 : Array Oper := cdO c42_5
noncomputable def r42_11 : Array Oper := cdO c42_11
noncomputable def r42_17 : Array Oper := cdO c42_17
noncomputable def r42_19 : Array Oper := cdO c42_19
noncomputable def r42_20 : Array Oper := cdO c42_20
noncomputable def r42_22 : Array Oper := cdO c42_22
theorem c42_0e : c42_0 = .seq c42_1 c42_2 := by kernel_rfl
theorem c42_1e : c42_1 = .region 0 r42_1 false := by kernel_rfl
theorem c42_2e : c42_2 = .seq c42_3 c42_4 := by kernel_rfl
theorem c42_3e : c42_3 = .region 1 r42_3 false := by kernel_rfl
theorem c42_4e : c42_4 = .seq c42_5 c42_6 := by kernel_rfl
theorem c42_5e : c42_5 = .region 2 r42_5 false := by kernel_rfl
theorem c42_6e : c42_6 = .seq c42_7 c42_21 := by kernel_rfl
theorem c42_7e : c42_7 = .block 0 c42_8 := by kernel_rfl
theorem c42_8e : c42_8 = .loop c42_9 := by kernel_rfl
theorem c42_9e : c42_9 = .seq c42_10 c42_15 := by kernel_rfl
theorem c42_10e : c42_10 = .seq c42_11 c42_12 := by kernel_rfl
theorem c42_11e : c42_11 = .region 3 r42_11 false := by kernel_rfl
theorem c42_12e : c42_12 = .cond (cdC c42_12) c42_13 c42_14 := by kernel_rfl
theorem c42_13e : c42_13 = .skip := by kernel_rfl
theorem c42_14e : c42_14 = .exit 0 := by kernel_rfl
theorem c42_15e : c42_15 = .block 1 c42_16 := by kernel_rfl
theorem c42_16e : c42_16 = .seq c42_17 c42_18 := by kernel_rfl
theorem c42_17e : c42_17 = .region 4 r42_17 false := by kernel_rfl
theorem c42_18e : c42_18 = .seq c42_19 c42_20 := by kernel_rfl
theorem c42_19e : c42_19 = .region 5 r42_19 false := by kernel_rfl
theorem c42_20e : c42_20 = .region 6 r42_20 false := by kernel_rfl
theorem c42_21e : c42_21 = .seq c42_22 c42_23 := by kernel_rfl
theorem c42_22e : c42_22 = .region 7 r42_22 false := by kernel_rfl
theorem c42_23e : c42_23 = .ret := by kernel_rfl
noncomputable def tontineref03_Num.R : Pst (List UInt8) where
  ε := Unit
  v := fun r x => .string (bs r)
  H := fun r x => []
  B := fun r x => []
noncomputable def tontineref03_Num.cx (w0 : World) (S0 : Fam) : Cx (List UInt8) := ⟨Try.prog, 42, Try.f42, 24, w0, S0, [], 0, tontineref03_Num.R⟩
theorem tontineref03_Num_l0_ok (n : Nat) (w0 : World) (S0 : Fam) :
    ∀ (k : Nat) (x_2 : Int) (s_3 : (List UInt8)) (n_4 : Int), GoO (tontineref03_Num.cx w0 S0) [(0, .int .u64 x_2), (3, .string (bs s_3)), (4, .int .i64 n_4)] [] [] [.code c42_9, .inLoop c42_9, .inBlock 0, .code c42_21] (tontineref03_Num.l0 n k x_2 s_3 n_4) := by
  intro k
  induction k with
  | zero => intros; rw [tontineref03_Num.l0.eq_1]; exact GoO.stop
  | succ k ih0 =>
    intro x_2 s_3 n_4
    rw [tontineref03_Num.l0.eq_2]
    refine GoO.seq' c42_9e ?_
    refine GoO.seq' c42_10e ?_
    refine GoO.region' (is := [0, 1]) c42_11e (by kernel_rfl) ?_
    refine GoO.exec (is := [0, 1]) (hs := [.p, .p]) (rest := []) (ks := [0, 3, 4, 6]) (env' := [(0, .int .u64 x_2), (3, .string (bs s_3)), (4, .int .i64 n_4), (6, .bool (decide (x_2 > 0)))]) (H' := []) (ps := []) (by kernel_rfl) trivial ?_
    refine GoO.regionEnd ?_
    refine GoO.ite' c42_12e (by kernel_rfl) (fun h5 => ?_) (fun h5 => ?_)
    · refine GoO.skip' c42_13e ?_
      refine GoO.block' c42_15e ?_
      refine GoO.seq' c42_16e ?_
      refine GoO.region' (is := [0, 1, 2, 3, 4, 5, 6, 7]) c42_17e (by kernel_rfl) ?_
      refine GoO.exec (is := [0, 1, 2]) (hs := [.p, .p, .p]) (rest := [3, 4, 5, 6, 7]) (ks := [0, 3, 4, 9]) (env' := [(0, .int .u64 x_2), (3, .string (bs s_3)), (4, .int .i64 n_4), (9, .int .u8 (wu8 (x_2.tmod 256)))]) (H' := []) (ps := [(256 : Int) ≠ 0]) (by kernel_rfl) (And.intro (by decide) trivial) ?_
      refine OpTo.go (GoO.lit (e := 5) (K := Kd.u8) rfl (by kernel_rfl) (by kernel_rfl) (cs := [.int .u8 (wu8 (x_2.tmod 256))]) (by kernel_rfl) [u8of (x_2.tmod 256)] (by kernel_rfl) (by kernel_rfl) (fun w S hB => ⟨[.int .u8 (wu8 (x_2.tmod 256))], _, rfl, (congrArg (fun v => [v]) (u8cell _)), rfl⟩) 40 _ (fun _ _ => rfl) (fun A_6 c_7 => ?_))
      refine OpTo.go (GoO.toStr (e := 5) (A := A_6) (c := c_7) (xs := [u8of (x_2.tmod 256)]) (j := 0) rfl (by kernel_rfl) (by kernel_rfl) (by kernel_rfl) (by kernel_rfl) rfl Reads.own rfl rfl ?_)
      refine GoO.guard (fun h8 => ?_)
      refine GoO.exec (is := [5, 6, 7]) (hs := [.p, .p, .p]) (rest := []) (ks := [0, 3, 4]) (env' := [(0, .int .u64 x_2), (3, .string (bs ([u8of (x_2.tmod 256)] ++ s_3))), (4, .int .i64 n_4)]) (H' := []) (ps := [([u8of (x_2.tmod 256)] : List UInt8).length + s_3.length ≤ i64max]) (by kernel_rfl) (And.intro h8 trivial) ?_
      refine GoO.regionEnd ?_
      refine GoO.seq' c42_18e ?_
      refine GoO.region' (is := [0, 1, 2]) c42_19e (by kernel_rfl) ?_
      refine GoO.exec (is := [0, 1, 2]) (hs := [.p, .p, .p]) (rest := []) (ks := [0, 3, 4]) (env' := [(0, .int .u64 (wu64 (x_2.tdiv 256))), (3, .string (bs ([u8of (x_2.tmod 256)] ++ s_3))), (4, .int .i64 n_4)]) (H' := []) (ps := [(256 : Int) ≠ 0]) (by kernel_rfl) (And.intro (by decide) trivial) ?_
      refine GoO.regionEnd ?_
      refine GoO.region' (is := [0, 1, 2]) c42_20e (by kernel_rfl) ?_
      refine GoO.exec (is := [0, 1, 2]) (hs := [.p, .p, .p]) (rest := []) (ks := [0, 3, 4]) (env' := [(0, .int .u64 (wu64 (x_2.tdiv 256))), (3, .string (bs ([u8of (x_2.tmod 256)] ++ s_3))), (4, .int .i64 (wi64 (n_4 + 1)))]) (H' := []) (ps := []) (by kernel_rfl) trivial ?_
      refine GoO.regionEnd ?_
      refine GoO.inBlock ?_
      refine GoO.inLoop ?_
      exact GoO.sub (ks := [0, 3, 4]) (hk := []) (bk := []) (by kernel_rfl) (by kernel_rfl) (by kernel_rfl) (ih0 (wu64 (x_2.tdiv 256)) ([u8of (x_2.tmod 256)] ++ s_3) (wi64 (n_4 + 1)))
    · refine GoO.exit' c42_14e rfl ?_
      refine GoO.seq' c42_21e ?_
      refine GoO.region' (is := [0, 1, 2, 3, 4, 5, 6]) c42_22e (by kernel_rfl) ?_
      refine GoO.exec (is := [0, 1]) (hs := [.p, .p]) (rest := [2, 3, 4, 5, 6]) (ks := [3, 19]) (env' := [(3, .string (bs s_3)), (19, .int .u8 (wu8 n_4))]) (H' := []) (ps := []) (by kernel_rfl) trivial ?_
      refine OpTo.go (GoO.lit (e := 5) (K := Kd.u8) rfl (by kernel_rfl) (by kernel_rfl) (cs := [.int .u8 (wu8 n_4)]) (by kernel_rfl) [u8of n_4] (by kernel_rfl) (by kernel_rfl) (fun w S hB => ⟨[.int .u8 (wu8 n_4)], _, rfl, (congrArg (fun v => [v]) (u8cell _)), rfl⟩) 41 _ (fun _ _ => rfl) (fun A_9 c_10 => ?_))
      refine OpTo.go (GoO.toStr (e := 5) (A := A_9) (c := c_10) (xs := [u8of n_4]) (j := 0) rfl (by kernel_rfl) (by kernel_rfl) (by kernel_rfl) (by kernel_rfl) rfl Reads.own rfl rfl ?_)
      refine GoO.guard (fun h11 => ?_)
      refine GoO.exec (is := [4, 5, 6]) (hs := [.p, .p, .p]) (rest := []) (ks := [2]) (env' := [(2, .string (bs ([u8of n_4] ++ s_3)))]) (H' := []) (ps := [([u8of n_4] : List UInt8).length + s_3.length ≤ i64max]) (by kernel_rfl) (And.intro h11 trivial) ?_
      refine GoO.regionEnd ?_
      exact GoO.ret' (h := c42_23e) (hs := []) (ps := []) (hk := []) (bk := []) Try.func42 () (by kernel_rfl) trivial (by kernel_rfl) (by kernel_rfl)
theorem tontineref03_Num_ok (n : Nat) (x_1 : Int) :
    Meets Try.prog 42 [.int .u64 x_1] 0 [] [] [] (tontineref03_Num.f n x_1) (tontineref03_Num.R) := by
  refine Meets.of (c := c42_0) (n := 24) Try.func42 (by kernel_rfl) (by kernel_rfl) (by kernel_rfl) fun w0 S0 => ?_
  unfold tontineref03_Num.f
  show GoO (tontineref03_Num.cx w0 S0) [(0, .int .u64 x_1)] [] [] [.code c42_0] _
  refine GoO.seq' c42_0e ?_
  refine GoO.region' (is := [0]) c42_1e (by kernel_rfl) ?_
  refine GoO.exec (is := [0]) (hs := [.p]) (rest := []) (ks := [0]) (env' := [(0, .int .u64 x_1)]) (H' := []) (ps := []) (by kernel_rfl) trivial ?_
  refine GoO.regionEnd ?_
  refine GoO.seq' c42_2e ?_
  refine GoO.region' (is := [0]) c42_3e (by kernel_rfl) ?_
  refine GoO.exec (is := [0]) (hs := [.p]) (rest := []) (ks := [0, 3]) (env' := [(0, .int .u64 x_1), (3, .string (bs []))]) (H' := []) (ps := []) (by kernel_rfl) trivial ?_
  refine GoO.regionEnd ?_
  refine GoO.seq' c42_4e ?_
  refine GoO.region' (is := [0]) c42_5e (by kernel_rfl) ?_
  refine GoO.exec (is := [0]) (hs := [.p]) (rest := []) (ks := [0, 3, 4]) (env' := [(0, .int .u64 x_1), (3, .string (bs [])), (4, .int .i64 0)]) (H' := []) (ps := []) (by kernel_rfl) trivial ?_
  refine GoO.regionEnd ?_
  refine GoO.seq' c42_6e ?_
  refine GoO.block' c42_7e ?_
  refine GoO.loop' c42_8e ?_
  exact GoO.sub (ks := [0, 3, 4]) (hk := []) (bk := []) (by kernel_rfl) (by kernel_rfl) (by kernel_rfl) (tontineref03_Num_l0_ok n w0 S0 n x_1 [] 0)

/-! tontine/tontineref03.Text -/
noncomputable def c43_0 : Code := bodyOf Try.f43
noncomputable def c43_1 : Code := cdL c43_0
noncomputable def c43_2 : Code := cdR c43_0
noncomputable def c43_3 : Code := cdL c43_2
noncomputable def c43_4 : Code := cdR c43_2
noncomputable def r43_1 : Array Oper := cdO c43_1
noncomputable def r43_3 : Array Oper := cdO c43_3
theorem c43_0e : c43_0 = .seq c43_1 c43_2 := by kernel_rfl
theorem c43_1e : c43_1 = .region 0 r43_1 false := by kernel_rfl
theorem c43_2e : c43_2 = .seq c43_3 c43_4 := by kernel_rfl
theorem c43_3e : c43_3 = .region 1 r43_3 false := by kernel_rfl
theorem c43_4e : c43_4 = .ret := by kernel_rfl
noncomputable def tontineref03_Text.R : Pst (List UInt8) where
  ε := Unit
  v := fun r x => .string (bs r)
  H := fun r x => []
  B := fun r x => []
noncomputable def tontineref03_Text.cx (w0 : World) (S0 : Fam) : Cx (List UInt8) := ⟨Try.prog, 43, Try.f43, 9, w0, S0, [], 0, tontineref03_Text.R⟩
theorem tontineref03_Text_ok (n : Nat) (s_1 : (List UInt8)) :
    Meets Try.prog 43 [.string (bs s_1)] 0 [] [] [] (tontineref03_Text.f n s_1) (tontineref03_Text.R) := by
  refine Meets.of (c := c43_0) (n := 9) Try.func43 (by kernel_rfl) (by kernel_rfl) (by kernel_rfl) fun w0 S0 => ?_
  unfold tontineref03_Text.f
  show GoO (tontineref03_Text.cx w0 S0) [(0, .string (bs s_1))] [] [] [.code c43_0] _
  refine GoO.seq' c43_0e ?_
  refine GoO.region' (is := [0]) c43_1e (by kernel_rfl) ?_
  refine GoO.exec (is := [0]) (hs := [.p]) (rest := []) (ks := [0]) (env' := [(0, .string (bs s_1))]) (H' := []) (ps := []) (by kernel_rfl) trivial ?_
  refine GoO.regionEnd ?_
  refine GoO.seq' c43_2e ?_
  refine GoO.region' (is := [0, 1, 2, 3, 4, 5, 6]) c43_3e (by kernel_rfl) ?_
  refine GoO.exec (is := [0, 1, 2]) (hs := [.p, .p, .p]) (rest := [3, 4, 5, 6]) (ks := [0, 5]) (env' := [(0, .string (bs s_1)), (5, .int .u64 (wu64 (s_1.length : Int)))]) (H' := []) (ps := []) (by kernel_rfl) trivial ?_
  refine OpTo.go (GoO.call rfl (by kernel_rfl) (by kernel_rfl) (tontineref03_Num_ok n (wu64 (s_1.length : Int))) [[0]] [] [] [] (hks := []) (bks := []) (by kernel_rfl) (by kernel_rfl) (by kernel_rfl) (.inl rfl) rfl rfl (by kernel_rfl) (by kernel_rfl) _ (fun _ _ => rfl) _ _ (fun _ _ => rfl) (fun _ _ => rfl) (fun _ _ => by kernel_rfl) (fun _ _ => by kernel_rfl) (fun r_2 x_4 => ?_))
  refine GoO.shape (env' := [(0, .string (bs s_1)), (5, .int .u64 (wu64 (s_1.length : Int))), (6, .string (bs r_2))]) (H' := []) (B' := []) (ks := [0, 5, 6]) (by kernel_rfl) (by kernel_rfl) (by kernel_rfl) ?_
  refine GoO.guard (fun h3 => ?_)
  refine GoO.exec (is := [4, 5, 6]) (hs := [.p, .p, .p]) (rest := []) (ks := [2]) (env' := [(2, .string (bs (r_2 ++ s_1)))]) (H' := []) (ps := [r_2.length + s_1.length ≤ i64max]) (by kernel_rfl) (And.intro h3 trivial) ?_
  refine GoO.regionEnd ?_
  exact GoO.ret' (h := c43_4e) (hs := []) (ps := []) (hk := []) (bk := []) Try.func43 () (by kernel_rfl) trivial (by kernel_rfl) (by kernel_rfl)

/-! tontine/tontineref11.Encode -/
noncomputable def c22_0 : Code := bodyOf Try.f22
noncomputable def c22_1 : Code := cdL c22_0
noncomputable def c22_2 : Code := cdR c22_0
noncomputable def c22_3 : Code := cdL c22_2
noncomputable def c22_4 : Code := cdL c22_3
noncomputable def c22_5 : Code := cdR c22_3
noncomputable def c22_6 : Code := cdL c22_5
noncomputable def c22_7 : Code := cdL c22_6
noncomputable def c22_8 : Code := cdR c22_6
noncomputable def c22_9 : Code := cdR c22_5
noncomputable def c22_10 : Code := cdR c22_2
noncomputable def c22_11 : Code := cdL c22_10
noncomputable def c22_12 : Code := cdR c22_10
noncomputable def c22_13 : Code := cdL c22_12
noncomputable def c22_14 : Code := cdR c22_12
noncomputable def c22_15 : Code := cdL c22_14
noncomputable def c22_16 : Code := cdL c22_15
noncomputable def c22_17 : Code := cdR c22_15
noncomputable def c22_18 : Code := cdL c22_17
noncomputable def c22_19 : Code := cdR c22_17
noncomputable def c22_20 : Code := cdR c22_14
noncomputable def c22_21 : Code := cdL c22_20
noncomputable def c22_22 : Code := cdR c22_20
noncomputable def c22_23 : Code := cdL c22_22
noncomputable def c22_24 : Code := cdL c22_23
noncomputable def c22_25 : Code := cdR c22_23
noncomputable def c22_26 : Code := cdL c22_25
noncomputable def c22_27 : Code := cdL c22_26
noncomputable def c22_28 : Code := cdL c22_27
noncomputable def c22_29 : Code := cdL c22_28
noncomputable def c22_30 : Code := cdR c22_28
noncomputable def c22_31 : Code := cdL c22_30
noncomputable def c22_32 : Code := cdR c22_30
noncomputable def c22_33 : Code := cdR c22_27
noncomputable def c22_34 : Code := cdL c22_33
noncomputable def c22_35 : Code := cdL c22_34
noncomputable def c22_36 : Code := cdR c22_33
noncomputable def c22_37 : Code := cdR c22_22
noncomputable def c22_38 : Code := cdL c22_37
noncomputable def c22_39 : Code := cdL c22_38
noncomputable def c22_40 : Code := cdR c22_38
noncomputable def c22_41 : Code := cdL c22_40
noncomputable def c22_42 : Code := cdL c22_41
noncomputable def c22_43 : Code := cdL c22_42
noncomputable def c22_44 : Code := cdL c22_43
noncomputable def c22_45 : Code := cdR c22_43
noncomputable def c22_46 : Code := cdL c22_45
noncomputable def c22_47 : Code := cdR c22_45
noncomputable def c22_48 : Code := cdR c22_42
noncomputable def c22_49 : Code := cdL c22_48
noncomputable def c22_50 : Code := cdL c22_49
noncomputable def c22_51 : Code := cdL c22_50
noncomputable def c22_52 : Code := cdR c22_50
noncomputable def c22_53 : Code := cdR c22_48
noncomputable def c22_54 : Code := cdR c22_37
noncomputable def c22_55 : Code := cdL c22_54
noncomputable def c22_56 : Code := cdR c22_54
noncomputable def r22_1 : Array Oper := cdO c22_1
noncomputable def r22_4 : Array Oper := cdO c22_4
noncomputable def r22_7 : Array Oper := cdO c22_7
noncomputable def r22_11 : Array Oper := cdO c22_11
noncomputable def r22_13 : Array Oper := cdO c22_13
noncomputable def r22_16 : Array Oper := cdO c22_16
noncomputable def r22_18 : Array Oper := cdO c22_18
noncomputable def r22_21 : Array Oper := cdO c22_21
noncomputable def r22_24 : Array Oper := cdO c22_24
noncomputable def r22_29 : Array Oper := cdO c22_29
noncomputable def r22_35 : Array Oper := cdO c22_35
noncomputable def r22_36 : Array Oper := cdO c22_36
noncomputable def r22_39 : Array Oper := cdO c22_39
noncomputable def r22_44 : Array Oper := cdO c22_44
noncomputable def r22_51 : Array Oper := cdO c22_51
noncomputable def r22_52 : Array Oper := cdO c22_52
noncomputable def r22_53 : Array Oper := cdO c22_53
noncomputable def r22_55 : Array Oper := cdO c22_55
theorem c22_0e : c22_0 = .seq c22_1 c22_2 := by kernel_rfl
theorem c22_1e : c22_1 = .region 0 r22_1 false := by kernel_rfl
theorem c22_2e : c22_2 = .seq c22_3 c22_10 := by kernel_rfl
theorem c22_3e : c22_3 = .seq c22_4 c22_5 := by kernel_rfl
theorem c22_4e : c22_4 = .region 1 r22_4 false := by kernel_rfl
theorem c22_5e : c22_5 = .cond (cdC c22_5) c22_6 c22_9 := by kernel_rfl
theorem c22_6e : c22_6 = .seq c22_7 c22_8 := by kernel_rfl
theorem c22_7e : c22_7 = .region 2 r22_7 false := by kernel_rfl
theorem c22_8e : c22_8 = .ret := by kernel_rfl
theorem c22_9e : c22_9 = .skip := by kernel_rfl
theorem c22_10e : c22_10 = .seq c22_11 c22_12 := by kernel_rfl
theorem c22_11e : c22_11 = .region 3 r22_11 false := by kernel_rfl
theorem c22_12e : c22_12 = .seq c22_13 c22_14 := by kernel_rfl
theorem c22_13e : c22_13 = .region 4 r22_13 false := by kernel_rfl
theorem c22_14e : c22_14 = .seq c22_15 c22_20 := by kernel_rfl
theorem c22_15e : c22_15 = .seq c22_16 c22_17 := by kernel_rfl
theorem c22_16e : c22_16 = .region 5 r22_16 false := by kernel_rfl
theorem c22_17e : c22_17 = .cond (cdC c22_17) c22_18 c22_19 := by kernel_rfl
theorem c22_18e : c22_18 = .region 6 r22_18 false := by kernel_rfl
theorem c22_19e : c22_19 = .skip := by kernel_rfl
theorem c22_20e : c22_20 = .seq c22_21 c22_22 := by kernel_rfl
theorem c22_21e : c22_21 = .region 7 r22_21 false := by kernel_rfl
theorem c22_22e : c22_22 = .seq c22_23 c22_37 := by kernel_rfl
theorem c22_23e : c22_23 = .seq c22_24 c22_25 := by kernel_rfl
theorem c22_24e : c22_24 = .region 8 r22_24 false := by kernel_rfl
theorem c22_25e : c22_25 = .block 0 c22_26 := by kernel_rfl
theorem c22_26e : c22_26 = .loop c22_27 := by kernel_rfl
theorem c22_27e : c22_27 = .seq c22_28 c22_33 := by kernel_rfl
theorem c22_28e : c22_28 = .seq c22_29 c22_30 := by kernel_rfl
theorem c22_29e : c22_29 = .region 9 r22_29 false := by kernel_rfl
theorem c22_30e : c22_30 = .cond (cdC c22_30) c22_31 c22_32 := by kernel_rfl
theorem c22_31e : c22_31 = .skip := by kernel_rfl
theorem c22_32e : c22_32 = .exit 0 := by kernel_rfl
theorem c22_33e : c22_33 = .seq c22_34 c22_36 := by kernel_rfl
theorem c22_34e : c22_34 = .block 1 c22_35 := by kernel_rfl
theorem c22_35e : c22_35 = .region 11 r22_35 false := by kernel_rfl
theorem c22_36e : c22_36 = .region 10 r22_36 false := by kernel_rfl
theorem c22_37e : c22_37 = .seq c22_38 c22_54 := by kernel_rfl
theorem c22_38e : c22_38 = .seq c22_39 c22_40 := by kernel_rfl
theorem c22_39e : c22_39 = .region 12 r22_39 false := by kernel_rfl
theorem c22_40e : c22_40 = .block 2 c22_41 := by kernel_rfl
theorem c22_41e : c22_41 = .loop c22_42 := by kernel_rfl
theorem c22_42e : c22_42 = .seq c22_43 c22_48 := by kernel_rfl
theorem c22_43e : c22_43 = .seq c22_44 c22_45 := by kernel_rfl
theorem c22_44e : c22_44 = .region 13 r22_44 false := by kernel_rfl
theorem c22_45e : c22_45 = .cond (cdC c22_45) c22_46 c22_47 := by kernel_rfl
theorem c22_46e : c22_46 = .skip := by kernel_rfl
theorem c22_47e : c22_47 = .exit 2 := by kernel_rfl
theorem c22_48e : c22_48 = .seq c22_49 c22_53 := by kernel_rfl
theorem c22_49e : c22_49 = .block 3 c22_50 := by kernel_rfl
theorem c22_50e : c22_50 = .seq c22_51 c22_52 := by kernel_rfl
theorem c22_51e : c22_51 = .region 15 r22_51 false := by kernel_rfl
theorem c22_52e : c22_52 = .region 16 r22_52 true := by kernel_rfl
theorem c22_53e : c22_53 = .region 14 r22_53 false := by kernel_rfl
theorem c22_54e : c22_54 = .seq c22_55 c22_56 := by kernel_rfl
theorem c22_55e : c22_55 = .region 17 r22_55 false := by kernel_rfl
theorem c22_56e : c22_56 = .ret := by kernel_rfl
noncomputable def tontineref11_Encode.R (A_2 : Option Addr) (c_3 : Nat) : Pst ((List UInt8) × Int) where
  ε := Unit
  v := fun r x => .tuple ⟨[.string (bs r.1), .int .i64 r.2]⟩
  H := fun r x => []
  B := fun r x => []
noncomputable def tontineref11_Encode.cx (A_2 : Option Addr) (c_3 : Nat) (w0 : World) (S0 : Fam) : Cx ((List UInt8) × Int) := ⟨Try.prog, 22, Try.f22, 86, w0, S0, [], 0, tontineref11_Encode.R A_2 c_3⟩
theorem tontineref11_Encode_l1_ok (n : Nat) (x_1 : T_api_Letter) (A_2 : Option Addr) (c_3 : Nat) (b_4 : Nat) (w0 : World) (S0 : Fam) :
    ∀ (k : Nat) (s_18 : (List UInt8)) (i_19 : Int), GoO (tontineref11_Encode.cx A_2 c_3 w0 S0) [(1, .pointer (some ⟨b_4, 0, none⟩)), (4, .string (bs s_18)), (8, .int .i64 i_19)] [⟨40, b_4, [.int .i64 x_1.Kind, .int .i64 x_1.From, .int .i64 x_1.To, .int .u64 x_1.Term, .int .u64 x_1.Index, .int .u64 x_1.Prev, .int .u64 x_1.Commit, .bool x_1.Ok, .slice A_2 x_1.Entries.length c_3, .string (bs x_1.Data)]⟩] [Rd 0 kT_api_Entry A_2 c_3 x_1.Entries] [.code c22_42, .inLoop c22_42, .inBlock 2, .code c22_54] (tontineref11_Encode.l1 n x_1 k s_18 i_19) := by
  intro k
  induction k with
  | zero => intros; rw [tontineref11_Encode.l1.eq_1]; exact GoO.stop
  | succ k ih1 =>
    intro s_18 i_19
    rw [tontineref11_Encode.l1.eq_2]
    refine GoO.seq' c22_42e ?_
    refine GoO.seq' c22_43e ?_
    refine GoO.region' (is := [0, 1, 2, 3, 4]) c22_44e (by kernel_rfl) ?_
    refine GoO.exec (is := [0, 1, 2, 3, 4]) (hs := [.p, .p, .b 0, .p, .p]) (rest := []) (ks := [1, 4, 8, 55]) (env' := [(1, .pointer (some ⟨b_4, 0, none⟩)), (4, .string (bs s_18)), (8, .int .i64 i_19), (55, .bool (decide (i_19 < (x_1.Entries.length : Int))))]) (H' := [⟨40, b_4, [.int .i64 x_1.Kind, .int .i64 x_1.From, .int .i64 x_1.To, .int .u64 x_1.Term, .int .u64 x_1.Index, .int .u64 x_1.Prev, .int .u64 x_1.Commit, .bool x_1.Ok, .slice A_2 x_1.Entries.length c_3, .string (bs x_1.Data)]⟩]) (ps := [b_4 = b_4]) (by kernel_rfl) (And.intro rfl trivial) ?_
    refine GoO.regionEnd ?_
    refine GoO.ite' c22_45e (by kernel_rfl) (fun h20 => ?_) (fun h20 => ?_)
    · refine GoO.skip' c22_46e ?_
      refine GoO.seq' c22_48e ?_
      refine GoO.block' c22_49e ?_
      refine GoO.seq' c22_50e ?_
      refine GoO.region' (is := [0, 1, 2, 3, 4, 5, 6]) c22_51e (by kernel_rfl) ?_
      refine GoO.exec (is := [0, 1, 2]) (hs := [.p, .b 0, .p]) (rest := [3, 4, 5, 6]) (ks := [1, 4, 8, 59, 60]) (env' := [(1, .pointer (some ⟨b_4, 0, none⟩)), (4, .string (bs s_18)), (8, .int .i64 i_19), (59, .slice A_2 x_1.Entries.length c_3), (60, .int .i64 i_19)]) (H' := [⟨40, b_4, [.int .i64 x_1.Kind, .int .i64 x_1.From, .int .i64 x_1.To, .int .u64 x_1.Term, .int .u64 x_1.Index, .int .u64 x_1.Prev, .int .u64 x_1.Commit, .bool x_1.Ok, .slice A_2 x_1.Entries.length c_3, .string (bs x_1.Data)]⟩]) (ps := [b_4 = b_4]) (by kernel_rfl) (And.intro rfl trivial) ?_
      refine GoO.guard (fun h21 => ?_)
      refine OpTo.go (GoO.idx (kk := .i64) (e := 93) (K := kT_api_Entry) (A := A_2) (c := c_3) (xs := x_1.Entries) (iv := i_19) (j := 0) rfl (by kernel_rfl) (by kernel_rfl) (by kernel_rfl) (by kernel_rfl) rfl Reads.rd rfl h21.1 h21.2 (by decide) rfl ?_)
      refine OpTo.go (GoO.ldE' (K := kT_api_Entry) (A := A_2) (c := c_3) (xs := x_1.Entries) (iN := i_19.toNat) (off := 0) (j := 0) rfl (by kernel_rfl) rfl Reads.rd (idx_lt h21.1 h21.2) (by decide) (Opn.flat _ _ _ _ _) (v := fun _ => .agg ⟨[.int .u64 ((rdL x_1.Entries i_19).Term), .int .u64 ((rdL x_1.Entries i_19).Index), .int .i64 ((rdL x_1.Entries i_19).Kind), .string (bs ((rdL x_1.Entries i_19).Data))]⟩) (fun _ => by kernel_rfl) _ (fun _ => rfl) (fun _ => ?_))
      refine OpTo.go (GoO.new rfl 42 (cs := [.int .u64 0, .int .u64 0, .int .i64 0, .string (bs [])]) (by kernel_rfl) _ (fun _ => rfl) (fun b_22 => ?_))
      refine GoO.exec (is := [6]) (hs := [.b 0]) (rest := []) (ks := [1, 4, 8, 9]) (env' := [(1, .pointer (some ⟨b_4, 0, none⟩)), (4, .string (bs s_18)), (8, .int .i64 i_19), (9, .pointer (some ⟨b_22, 0, none⟩))]) (H' := [⟨42, b_22, [.int .u64 ((rdL x_1.Entries i_19).Term), .int .u64 ((rdL x_1.Entries i_19).Index), .int .i64 ((rdL x_1.Entries i_19).Kind), .string (bs ((rdL x_1.Entries i_19).Data))]⟩, ⟨40, b_4, [.int .i64 x_1.Kind, .int .i64 x_1.From, .int .i64 x_1.To, .int .u64 x_1.Term, .int .u64 x_1.Index, .int .u64 x_1.Prev, .int .u64 x_1.Commit, .bool x_1.Ok, .slice A_2 x_1.Entries.length c_3, .string (bs x_1.Data)]⟩]) (ps := [b_22 = b_22]) (by kernel_rfl) (And.intro rfl trivial) ?_
      refine GoO.regionEnd ?_
      refine GoO.draw c22_52e (by kernel_rfl) [18] [⟨42, b_22, [.int .u64 ((rdL x_1.Entries i_19).Term), .int .u64 ((rdL x_1.Entries i_19).Index), .int .i64 ((rdL x_1.Entries i_19).Kind), .string (bs ((rdL x_1.Entries i_19).Data))]⟩] [] (n := 19) (by kernel_rfl) ?_
      simp only [List.replicate]
      refine GoF.take [0, 1, 2, 4, 5, 8, 9, 10, 13, 14] [.p, .p, .b 0, .p, .b 0, .p, .b 0, .p, .p, .b 0] (ks := [1, 8, 63, 65, 68, 73, 77]) (fu := 9) (li := [true, true, true, false, true, true, false, false, true, true, true, false, false, true, true, false, false, false, false]) (env' := [(1, .pointer (some ⟨b_4, 0, none⟩)), (8, .int .i64 i_19), (63, .string (bs s_18)), (65, .int .u64 ((rdL x_1.Entries i_19).Term)), (68, .int .u64 ((rdL x_1.Entries i_19).Index)), (73, .int .u64 (wu64 ((rdL x_1.Entries i_19).Kind))), (77, .string (bs ((rdL x_1.Entries i_19).Data)))]) (ps := [b_22 = b_22, b_22 = b_22, b_22 = b_22, b_22 = b_22]) (hk := [0]) (bk := []) (by kernel_rfl) (And.intro rfl (And.intro rfl (And.intro rfl (And.intro rfl trivial)))) rfl rfl ?_
      refine OpTo.goF (i := 3) (by kernel_rfl) (hk := [0]) (bk := []) (GoO.call rfl (by kernel_rfl) (by kernel_rfl) (tontineref03_Num_ok n ((rdL x_1.Entries i_19).Term)) [[0]] [] [] [] (hks := [0, 1]) (bks := [0]) (by kernel_rfl) (by kernel_rfl) (by kernel_rfl) (.inl rfl) rfl rfl (by kernel_rfl) (by kernel_rfl) _ (fun _ _ => rfl) _ _ (fun _ _ => rfl) (fun _ _ => rfl) (fun _ _ => by kernel_rfl) (fun _ _ => by kernel_rfl) (fun r_23 x_34 => ⟨rfl, rfl, ?_⟩))
      refine GoF.shape (env' := [(1, .pointer (some ⟨b_4, 0, none⟩)), (8, .int .i64 i_19), (63, .string (bs s_18)), (65, .int .u64 ((rdL x_1.Entries i_19).Term)), (66, .string (bs r_23)), (68, .int .u64 ((rdL x_1.Entries i_19).Index)), (73, .int .u64 (wu64 ((rdL x_1.Entries i_19).Kind))), (77, .string (bs ((rdL x_1.Entries i_19).Data)))]) (H' := [⟨42, b_22, [.int .u64 ((rdL x_1.Entries i_19).Term), .int .u64 ((rdL x_1.Entries i_19).Index), .int .i64 ((rdL x_1.Entries i_19).Kind), .string (bs ((rdL x_1.Entries i_19).Data))]⟩, ⟨40, b_4, [.int .i64 x_1.Kind, .int .i64 x_1.From, .int .i64 x_1.To, .int .u64 x_1.Term, .int .u64 x_1.Index, .int .u64 x_1.Prev, .int .u64 x_1.Commit, .bool x_1.Ok, .slice A_2 x_1.Entries.length c_3, .string (bs x_1.Data)]⟩]) (B' := [Rd 0 kT_api_Entry A_2 c_3 x_1.Entries]) (ks := [1, 8, 63, 65, 66, 68, 73, 77]) (by kernel_rfl) (by kernel_rfl) (by kernel_rfl) ?_
      refine OpTo.goF (i := 6) (by kernel_rfl) (hk := [0]) (bk := []) (GoO.call rfl (by kernel_rfl) (by kernel_rfl) (tontineref03_Num_ok n ((rdL x_1.Entries i_19).Index)) [[0]] [] [] [] (hks := [0, 1]) (bks := [0]) (by kernel_rfl) (by kernel_rfl) (by kernel_rfl) (.inl rfl) rfl rfl (by kernel_rfl) (by kernel_rfl) _ (fun _ _ => rfl) _ _ (fun _ _ => rfl) (fun _ _ => rfl) (fun _ _ => by kernel_rfl) (fun _ _ => by kernel_rfl) (fun r_24 x_33 => ⟨rfl, rfl, ?_⟩))
      refine GoF.shape (env' := [(1, .pointer (some ⟨b_4, 0, none⟩)), (8, .int .i64 i_19), (63, .string (bs s_18)), (65, .int .u64 ((rdL x_1.Entries i_19).Term)), (66, .string (bs r_23)), (68, .int .u64 ((rdL x_1.Entries i_19).Index)), (69, .string (bs r_24)), (73, .int .u64 (wu64 ((rdL x_1.Entries i_19).Kind))), (77, .string (bs ((rdL x_1.Entries i_19).Data)))]) (H' := [⟨42, b_22, [.int .u64 ((rdL x_1.Entries i_19).Term), .int .u64 ((rdL x_1.Entries i_19).Index), .int .i64 ((rdL x_1.Entries i_19).Kind), .string (bs ((rdL x_1.Entries i_19).Data))]⟩, ⟨40, b_4, [.int .i64 x_1.Kind, .int .i64 x_1.From, .int .i64 x_1.To, .int .u64 x_1.Term, .int .u64 x_1.Index, .int .u64 x_1.Prev, .int .u64 x_1.Commit, .bool x_1.Ok, .slice A_2 x_1.Entries.length c_3, .string (bs x_1.Data)]⟩]) (B' := [Rd 0 kT_api_Entry A_2 c_3 x_1.Entries]) (ks := [1, 8, 63, 65, 66, 68, 69, 73, 77]) (by kernel_rfl) (by kernel_rfl) (by kernel_rfl) ?_
      refine GoF.guard (fun h25 => ?_)
      refine GoF.take [7] [.p] (ks := [1, 8, 63, 70, 73, 77]) (fu := 6) (li := [true, true, true, true, true, true, true, true, true, true, true, false, false, true, true, false, false, false, false]) (env' := [(1, .pointer (some ⟨b_4, 0, none⟩)), (8, .int .i64 i_19), (63, .string (bs s_18)), (70, .string (bs (r_23 ++ r_24))), (73, .int .u64 (wu64 ((rdL x_1.Entries i_19).Kind))), (77, .string (bs ((rdL x_1.Entries i_19).Data)))]) (ps := [r_23.length + r_24.length ≤ i64max]) (hk := [0]) (bk := []) (by kernel_rfl) (And.intro h25 trivial) rfl rfl ?_
      refine OpTo.goF (i := 11) (by kernel_rfl) (hk := [0]) (bk := []) (GoO.call rfl (by kernel_rfl) (by kernel_rfl) (tontineref03_Num_ok n (wu64 ((rdL x_1.Entries i_19).Kind))) [[0]] [] [] [] (hks := [0, 1]) (bks := [0]) (by kernel_rfl) (by kernel_rfl) (by kernel_rfl) (.inl rfl) rfl rfl (by kernel_rfl) (by kernel_rfl) _ (fun _ _ => rfl) _ _ (fun _ _ => rfl) (fun _ _ => rfl) (fun _ _ => by kernel_rfl) (fun _ _ => by kernel_rfl) (fun r_26 x_32 => ⟨rfl, rfl, ?_⟩))
      refine GoF.shape (env' := [(1, .pointer (some ⟨b_4, 0, none⟩)), (8, .int .i64 i_19), (63, .string (bs s_18)), (70, .string (bs (r_23 ++ r_24))), (73, .int .u64 (wu64 ((rdL x_1.Entries i_19).Kind))), (74, .string (bs r_26)), (77, .string (bs ((rdL x_1.Entries i_19).Data)))]) (H' := [⟨42, b_22, [.int .u64 ((rdL x_1.Entries i_19).Term), .int .u64 ((rdL x_1.Entries i_19).Index), .int .i64 ((rdL x_1.Entries i_19).Kind), .string (bs ((rdL x_1.Entries i_19).Data))]⟩, ⟨40, b_4, [.int .i64 x_1.Kind, .int .i64 x_1.From, .int .i64 x_1.To, .int .u64 x_1.Term, .int .u64 x_1.Index, .int .u64 x_1.Prev, .int .u64 x_1.Commit, .bool x_1.Ok, .slice A_2 x_1.Entries.length c_3, .string (bs x_1.Data)]⟩]) (B' := [Rd 0 kT_api_Entry A_2 c_3 x_1.Entries]) (ks := [1, 8, 63, 70, 73, 74, 77]) (by kernel_rfl) (by kernel_rfl) (by kernel_rfl) ?_
      refine GoF.guard (fun h27 => ?_)
      refine GoF.take [12] [.p] (ks := [1, 8, 63, 75, 77]) (fu := 4) (li := [true, true, true, true, true, true, true, true, true, true, true, true, true, true, true, false, false, false, false]) (env' := [(1, .pointer (some ⟨b_4, 0, none⟩)), (8, .int .i64 i_19), (63, .string (bs s_18)), (75, .string (bs ((r_23 ++ r_24) ++ r_26))), (77, .string (bs ((rdL x_1.Entries i_19).Data)))]) (ps := [(r_23 ++ r_24).length + r_26.length ≤ i64max]) (hk := [0]) (bk := []) (by kernel_rfl) (And.intro h27 trivial) rfl rfl ?_
      refine OpTo.goF (i := 15) (by kernel_rfl) (hk := [0]) (bk := []) (GoO.call rfl (by kernel_rfl) (by kernel_rfl) (tontineref03_Text_ok n ((rdL x_1.Entries i_19).Data)) [[0]] [] [] [] (hks := [0, 1]) (bks := [0]) (by kernel_rfl) (by kernel_rfl) (by kernel_rfl) (.inl rfl) rfl rfl (by kernel_rfl) (by kernel_rfl) _ (fun _ _ => rfl) _ _ (fun _ _ => rfl) (fun _ _ => rfl) (fun _ _ => by kernel_rfl) (fun _ _ => by kernel_rfl) (fun r_28 x_31 => ⟨rfl, rfl, ?_⟩))
      refine GoF.shape (env' := [(1, .pointer (some ⟨b_4, 0, none⟩)), (8, .int .i64 i_19), (63, .string (bs s_18)), (75, .string (bs ((r_23 ++ r_24) ++ r_26))), (77, .string (bs ((rdL x_1.Entries i_19).Data))), (78, .string (bs r_28))]) (H' := [⟨42, b_22, [.int .u64 ((rdL x_1.Entries i_19).Term), .int .u64 ((rdL x_1.Entries i_19).Index), .int .i64 ((rdL x_1.Entries i_19).Kind), .string (bs ((rdL x_1.Entries i_19).Data))]⟩, ⟨40, b_4, [.int .i64 x_1.Kind, .int .i64 x_1.From, .int .i64 x_1.To, .int .u64 x_1.Term, .int .u64 x_1.Index, .int .u64 x_1.Prev, .int .u64 x_1.Commit, .bool x_1.Ok, .slice A_2 x_1.Entries.length c_3, .string (bs x_1.Data)]⟩]) (B' := [Rd 0 kT_api_Entry A_2 c_3 x_1.Entries]) (ks := [1, 8, 63, 75, 77, 78]) (by kernel_rfl) (by kernel_rfl) (by kernel_rfl) ?_
      refine GoF.guard (fun h29 => ?_)
      refine GoF.guard (fun h30 => ?_)
      refine GoF.take [16, 17] [.p, .p] (ks := [1, 8, 80]) (fu := 1) (li := [true, true, true, true, true, true, true, true, true, true, true, true, true, true, true, true, true, true, false]) (env' := [(1, .pointer (some ⟨b_4, 0, none⟩)), (8, .int .i64 i_19), (80, .string (bs (s_18 ++ (((r_23 ++ r_24) ++ r_26) ++ r_28))))]) (ps := [((r_23 ++ r_24) ++ r_26).length + r_28.length ≤ i64max, s_18.length + (((r_23 ++ r_24) ++ r_26) ++ r_28).length ≤ i64max]) (hk := [0]) (bk := []) (by kernel_rfl) (And.intro h29 (And.intro h30 trivial)) rfl rfl ?_
      refine GoF.fin1 (i := 18) (hint := .p) (ps := []) (hk := []) (bk := []) (by kernel_rfl) rfl trivial (.inl rfl) ?_
      refine GoF.done (by kernel_rfl) ?_
      refine GoO.inBlock ?_
      refine GoO.region' (is := [0, 1, 2]) c22_53e (by kernel_rfl) ?_
      refine GoO.exec (is := [0, 1, 2]) (hs := [.p, .p, .p]) (rest := []) (ks := [1, 4, 8]) (env' := [(1, .pointer (some ⟨b_4, 0, none⟩)), (4, .string (bs (s_18 ++ (((r_23 ++ r_24) ++ r_26) ++ r_28)))), (8, .int .i64 (wi64 (i_19 + 1)))]) (H' := [⟨42, b_22, [.int .u64 ((rdL x_1.Entries i_19).Term), .int .u64 ((rdL x_1.Entries i_19).Index), .int .i64 ((rdL x_1.Entries i_19).Kind), .string (bs ((rdL x_1.Entries i_19).Data))]⟩, ⟨40, b_4, [.int .i64 x_1.Kind, .int .i64 x_1.From, .int .i64 x_1.To, .int .u64 x_1.Term, .int .u64 x_1.Index, .int .u64 x_1.Prev, .int .u64 x_1.Commit, .bool x_1.Ok, .slice A_2 x_1.Entries.length c_3, .string (bs x_1.Data)]⟩]) (ps := []) (by kernel_rfl) trivial ?_
      refine GoO.regionEnd ?_
      refine GoO.inLoop ?_
      exact GoO.sub (ks := [1, 4, 8]) (hk := [1]) (bk := [0]) (by kernel_rfl) (by kernel_rfl) (by kernel_rfl) (ih1 (s_18 ++ (((r_23 ++ r_24) ++ r_26) ++ r_28)) (wi64 (i_19 + 1)))
    · refine GoO.exit' c22_47e rfl ?_
      refine GoO.seq' c22_54e ?_
      refine GoO.region' (is := [0, 1, 2, 3, 4, 5, 6]) c22_55e (by kernel_rfl) ?_
      refine GoO.exec (is := [0, 1, 2]) (hs := [.p, .p, .b 0]) (rest := [3, 4, 5, 6]) (ks := [81, 83]) (env' := [(81, .string (bs s_18)), (83, .string (bs x_1.Data))]) (H' := [⟨40, b_4, [.int .i64 x_1.Kind, .int .i64 x_1.From, .int .i64 x_1.To, .int .u64 x_1.Term, .int .u64 x_1.Index, .int .u64 x_1.Prev, .int .u64 x_1.Commit, .bool x_1.Ok, .slice A_2 x_1.Entries.length c_3, .string (bs x_1.Data)]⟩]) (ps := [b_4 = b_4]) (by kernel_rfl) (And.intro rfl trivial) ?_
      refine OpTo.go (GoO.call rfl (by kernel_rfl) (by kernel_rfl) (tontineref03_Text_ok n x_1.Data) [[0]] [] [] [] (hks := [0]) (bks := [0]) (by kernel_rfl) (by kernel_rfl) (by kernel_rfl) (.inl rfl) rfl rfl (by kernel_rfl) (by kernel_rfl) _ (fun _ _ => rfl) _ _ (fun _ _ => rfl) (fun _ _ => rfl) (fun _ _ => by kernel_rfl) (fun _ _ => by kernel_rfl) (fun r_35 x_37 => ?_))
      refine GoO.shape (env' := [(81, .string (bs s_18)), (83, .string (bs x_1.Data)), (84, .string (bs r_35))]) (H' := [⟨40, b_4, [.int .i64 x_1.Kind, .int .i64 x_1.From, .int .i64 x_1.To, .int .u64 x_1.Term, .int .u64 x_1.Index, .int .u64 x_1.Prev, .int .u64 x_1.Commit, .bool x_1.Ok, .slice A_2 x_1.Entries.length c_3, .string (bs x_1.Data)]⟩]) (B' := [Rd 0 kT_api_Entry A_2 c_3 x_1.Entries]) (ks := [81, 83, 84]) (by kernel_rfl) (by kernel_rfl) (by kernel_rfl) ?_
      refine GoO.guard (fun h36 => ?_)
      refine GoO.exec (is := [4, 5, 6]) (hs := [.p, .p, .p]) (rest := []) (ks := [2, 3]) (env' := [(2, .string (bs (s_18 ++ r_35))), (3, .int .i64 0)]) (H' := [⟨40, b_4, [.int .i64 x_1.Kind, .int .i64 x_1.From, .int .i64 x_1.To, .int .u64 x_1.Term, .int .u64 x_1.Index, .int .u64 x_1.Prev, .int .u64 x_1.Commit, .bool x_1.Ok, .slice A_2 x_1.Entries.length c_3, .string (bs x_1.Data)]⟩]) (ps := [s_18.length + r_35.length ≤ i64max]) (by kernel_rfl) (And.intro h36 trivial) ?_
      refine GoO.regionEnd ?_
      exact GoO.ret' (h := c22_56e) (hs := []) (ps := []) (hk := []) (bk := []) Try.func22 () (by kernel_rfl) trivial (by kernel_rfl) (by kernel_rfl)
theorem tontineref11_Encode_l0_ok (n : Nat) (x_1 : T_api_Letter) (truth_8 : Int) (A_2 : Option Addr) (c_3 : Nat) (b_4 : Nat) (A_9 : Option Addr) (c_10 : Nat) (w0 : World) (S0 : Fam) :
    ∀ (k : Nat) (s_11 : (List UInt8)) (i_12 : Int), GoO (tontineref11_Encode.cx A_2 c_3 w0 S0) [(1, .pointer (some ⟨b_4, 0, none⟩)), (4, .string (bs s_11)), (6, .slice A_9 [wu64 x_1.Kind, wu64 x_1.From, wu64 x_1.To, x_1.Term, x_1.Index, x_1.Prev, x_1.Commit, truth_8, wu64 (x_1.Entries.length : Int)].length c_10), (7, .int .i64 i_12)] [⟨40, b_4, [.int .i64 x_1.Kind, .int .i64 x_1.From, .int .i64 x_1.To, .int .u64 x_1.Term, .int .u64 x_1.Index, .int .u64 x_1.Prev, .int .u64 x_1.Commit, .bool x_1.Ok, .slice A_2 x_1.Entries.length c_3, .string (bs x_1.Data)]⟩] [Rd 0 kT_api_Entry A_2 c_3 x_1.Entries, Ow 41 (Kd.int .u64) A_9 c_10 [wu64 x_1.Kind, wu64 x_1.From, wu64 x_1.To, x_1.Term, x_1.Index, x_1.Prev, x_1.Commit, truth_8, wu64 (x_1.Entries.length : Int)]] [.code c22_27, .inLoop c22_27, .inBlock 0, .code c22_37] (tontineref11_Encode.l0 n x_1 truth_8 k s_11 i_12) := by
  intro k
  induction k with
  | zero => intros; rw [tontineref11_Encode.l0.eq_1]; exact GoO.stop
  | succ k ih0 =>
    intro s_11 i_12
    rw [tontineref11_Encode.l0.eq_2]
    refine GoO.seq' c22_27e ?_
    refine GoO.seq' c22_28e ?_
    refine GoO.region' (is := [0, 1, 2, 3]) c22_29e (by kernel_rfl) ?_
    refine GoO.exec (is := [0, 1, 2, 3]) (hs := [.p, .p, .p, .p]) (rest := []) (ks := [1, 4, 6, 7, 41]) (env' := [(1, .pointer (some ⟨b_4, 0, none⟩)), (4, .string (bs s_11)), (6, .slice A_9 [wu64 x_1.Kind, wu64 x_1.From, wu64 x_1.To, x_1.Term, x_1.Index, x_1.Prev, x_1.Commit, truth_8, wu64 (x_1.Entries.length : Int)].length c_10), (7, .int .i64 i_12), (41, .bool (decide (i_12 < ([wu64 x_1.Kind, wu64 x_1.From, wu64 x_1.To, x_1.Term, x_1.Index, x_1.Prev, x_1.Commit, truth_8, wu64 (x_1.Entries.length : Int)].length : Int))))]) (H' := [⟨40, b_4, [.int .i64 x_1.Kind, .int .i64 x_1.From, .int .i64 x_1.To, .int .u64 x_1.Term, .int .u64 x_1.Index, .int .u64 x_1.Prev, .int .u64 x_1.Commit, .bool x_1.Ok, .slice A_2 x_1.Entries.length c_3, .string (bs x_1.Data)]⟩]) (ps := []) (by kernel_rfl) trivial ?_
    refine GoO.regionEnd ?_
    refine GoO.ite' c22_30e (by kernel_rfl) (fun h13 => ?_) (fun h13 => ?_)
    · refine GoO.skip' c22_31e ?_
      refine GoO.seq' c22_33e ?_
      refine GoO.block' c22_34e ?_
      refine GoO.region' (is := [0, 1, 2, 3, 4, 5, 6, 7]) c22_35e (by kernel_rfl) ?_
      refine GoO.exec (is := [0, 1, 2]) (hs := [.p, .p, .p]) (rest := [3, 4, 5, 6, 7]) (ks := [1, 6, 7, 44, 45, 46]) (env' := [(1, .pointer (some ⟨b_4, 0, none⟩)), (6, .slice A_9 [wu64 x_1.Kind, wu64 x_1.From, wu64 x_1.To, x_1.Term, x_1.Index, x_1.Prev, x_1.Commit, truth_8, wu64 (x_1.Entries.length : Int)].length c_10), (7, .int .i64 i_12), (44, .string (bs s_11)), (45, .slice A_9 [wu64 x_1.Kind, wu64 x_1.From, wu64 x_1.To, x_1.Term, x_1.Index, x_1.Prev, x_1.Commit, truth_8, wu64 (x_1.Entries.length : Int)].length c_10), (46, .int .i64 i_12)]) (H' := [⟨40, b_4, [.int .i64 x_1.Kind, .int .i64 x_1.From, .int .i64 x_1.To, .int .u64 x_1.Term, .int .u64 x_1.Index, .int .u64 x_1.Prev, .int .u64 x_1.Commit, .bool x_1.Ok, .slice A_2 x_1.Entries.length c_3, .string (bs x_1.Data)]⟩]) (ps := []) (by kernel_rfl) trivial ?_
      refine GoO.guard (fun h14 => ?_)
      refine OpTo.go (GoO.idx (kk := .i64) (e := 28) (K := (Kd.int .u64)) (A := A_9) (c := c_10) (xs := [wu64 x_1.Kind, wu64 x_1.From, wu64 x_1.To, x_1.Term, x_1.Index, x_1.Prev, x_1.Commit, truth_8, wu64 (x_1.Entries.length : Int)]) (iv := i_12) (j := 1) rfl (by kernel_rfl) (by kernel_rfl) (by kernel_rfl) (by kernel_rfl) rfl Reads.own rfl h14.1 h14.2 (by decide) rfl ?_)
      refine OpTo.go (GoO.ldE' (K := (Kd.int .u64)) (A := A_9) (c := c_10) (xs := [wu64 x_1.Kind, wu64 x_1.From, wu64 x_1.To, x_1.Term, x_1.Index, x_1.Prev, x_1.Commit, truth_8, wu64 (x_1.Entries.length : Int)]) (iN := i_12.toNat) (off := 0) (j := 1) rfl (by kernel_rfl) rfl Reads.own (idx_lt h14.1 h14.2) (by decide) (Opn.flat _ _ _ _ _) (v := fun _ => .int .u64 (rdL [wu64 x_1.Kind, wu64 x_1.From, wu64 x_1.To, x_1.Term, x_1.Index, x_1.Prev, x_1.Commit, truth_8, wu64 (x_1.Entries.length : Int)] i_12)) (fun _ => by kernel_rfl) _ (fun _ => rfl) (fun _ => ?_))
      refine OpTo.go (GoO.call rfl (by kernel_rfl) (by kernel_rfl) (tontineref03_Num_ok n (rdL [wu64 x_1.Kind, wu64 x_1.From, wu64 x_1.To, x_1.Term, x_1.Index, x_1.Prev, x_1.Commit, truth_8, wu64 (x_1.Entries.length : Int)] i_12)) [[0]] [] [] [] (hks := [0]) (bks := [0, 1]) (by kernel_rfl) (by kernel_rfl) (by kernel_rfl) (.inl rfl) rfl rfl (by kernel_rfl) (by kernel_rfl) _ (fun _ _ => rfl) _ _ (fun _ _ => rfl) (fun _ _ => rfl) (fun _ _ => by kernel_rfl) (fun _ _ => by kernel_rfl) (fun r_15 x_17 => ?_))
      refine GoO.shape (env' := [(1, .pointer (some ⟨b_4, 0, none⟩)), (6, .slice A_9 [wu64 x_1.Kind, wu64 x_1.From, wu64 x_1.To, x_1.Term, x_1.Index, x_1.Prev, x_1.Commit, truth_8, wu64 (x_1.Entries.length : Int)].length c_10), (7, .int .i64 i_12), (44, .string (bs s_11)), (45, .slice A_9 [wu64 x_1.Kind, wu64 x_1.From, wu64 x_1.To, x_1.Term, x_1.Index, x_1.Prev, x_1.Commit, truth_8, wu64 (x_1.Entries.length : Int)].length c_10), (46, .int .i64 i_12), (47, elemP A_9 i_12.toNat 1 0), (48, .int .u64 (rdL [wu64 x_1.Kind, wu64 x_1.From, wu64 x_1.To, x_1.Term, x_1.Index, x_1.Prev, x_1.Commit, truth_8, wu64 (x_1.Entries.length : Int)] i_12)), (49, .string (bs r_15))]) (H' := [⟨40, b_4, [.int .i64 x_1.Kind, .int .i64 x_1.From, .int .i64 x_1.To, .int .u64 x_1.Term, .int .u64 x_1.Index, .int .u64 x_1.Prev, .int .u64 x_1.Commit, .bool x_1.Ok, .slice A_2 x_1.Entries.length c_3, .string (bs x_1.Data)]⟩]) (B' := [Rd 0 kT_api_Entry A_2 c_3 x_1.Entries, Ow 41 (Kd.int .u64) A_9 c_10 [wu64 x_1.Kind, wu64 x_1.From, wu64 x_1.To, x_1.Term, x_1.Index, x_1.Prev, x_1.Commit, truth_8, wu64 (x_1.Entries.length : Int)]]) (ks := [1, 6, 7, 44, 45, 46, 47, 48, 49]) (by kernel_rfl) (by kernel_rfl) (by kernel_rfl) ?_
      refine GoO.guard (fun h16 => ?_)
      refine GoO.exec (is := [6, 7]) (hs := [.p, .p]) (rest := []) (ks := [1, 4, 6, 7]) (env' := [(1, .pointer (some ⟨b_4, 0, none⟩)), (4, .string (bs (s_11 ++ r_15))), (6, .slice A_9 [wu64 x_1.Kind, wu64 x_1.From, wu64 x_1.To, x_1.Term, x_1.Index, x_1.Prev, x_1.Commit, truth_8, wu64 (x_1.Entries.length : Int)].length c_10), (7, .int .i64 i_12)]) (H' := [⟨40, b_4, [.int .i64 x_1.Kind, .int .i64 x_1.From, .int .i64 x_1.To, .int .u64 x_1.Term, .int .u64 x_1.Index, .int .u64 x_1.Prev, .int .u64 x_1.Commit, .bool x_1.Ok, .slice A_2 x_1.Entries.length c_3, .string (bs x_1.Data)]⟩]) (ps := [s_11.length + r_15.length ≤ i64max]) (by kernel_rfl) (And.intro h16 trivial) ?_
      refine GoO.regionEnd ?_
      refine GoO.inBlock ?_
      refine GoO.region' (is := [0, 1, 2]) c22_36e (by kernel_rfl) ?_
      refine GoO.exec (is := [0, 1, 2]) (hs := [.p, .p, .p]) (rest := []) (ks := [1, 4, 6, 7]) (env' := [(1, .pointer (some ⟨b_4, 0, none⟩)), (4, .string (bs (s_11 ++ r_15))), (6, .slice A_9 [wu64 x_1.Kind, wu64 x_1.From, wu64 x_1.To, x_1.Term, x_1.Index, x_1.Prev, x_1.Commit, truth_8, wu64 (x_1.Entries.length : Int)].length c_10), (7, .int .i64 (wi64 (i_12 + 1)))]) (H' := [⟨40, b_4, [.int .i64 x_1.Kind, .int .i64 x_1.From, .int .i64 x_1.To, .int .u64 x_1.Term, .int .u64 x_1.Index, .int .u64 x_1.Prev, .int .u64 x_1.Commit, .bool x_1.Ok, .slice A_2 x_1.Entries.length c_3, .string (bs x_1.Data)]⟩]) (ps := []) (by kernel_rfl) trivial ?_
      refine GoO.regionEnd ?_
      refine GoO.inLoop ?_
      exact GoO.sub (ks := [1, 4, 6, 7]) (hk := [0]) (bk := [0, 1]) (by kernel_rfl) (by kernel_rfl) (by kernel_rfl) (ih0 (s_11 ++ r_15) (wi64 (i_12 + 1)))
    · refine GoO.exit' c22_32e rfl ?_
      refine GoO.seq' c22_37e ?_
      refine GoO.seq' c22_38e ?_
      refine GoO.region' (is := [0]) c22_39e (by kernel_rfl) ?_
      refine GoO.exec (is := [0]) (hs := [.p]) (rest := []) (ks := [1, 4, 8]) (env' := [(1, .pointer (some ⟨b_4, 0, none⟩)), (4, .string (bs s_11)), (8, .int .i64 0)]) (H' := [⟨40, b_4, [.int .i64 x_1.Kind, .int .i64 x_1.From, .int .i64 x_1.To, .int .u64 x_1.Term, .int .u64 x_1.Index, .int .u64 x_1.Prev, .int .u64 x_1.Commit, .bool x_1.Ok, .slice A_2 x_1.Entries.length c_3, .string (bs x_1.Data)]⟩]) (ps := []) (by kernel_rfl) trivial ?_
      refine GoO.regionEnd ?_
      refine GoO.block' c22_40e ?_
      refine GoO.loop' c22_41e ?_
      exact GoO.sub (ks := [1, 4, 8]) (hk := [0]) (bk := [0]) (by kernel_rfl) (by kernel_rfl) (by kernel_rfl) (tontineref11_Encode_l1_ok n x_1 A_2 c_3 b_4 w0 S0 n s_11 0)
theorem tontineref11_Encode_j0_ok (n : Nat) (x_1 : T_api_Letter) (A_2 : Option Addr) (c_3 : Nat) (b_4 : Nat) (w0 : World) (S0 : Fam) (truth_8 : Int) :
    GoO (tontineref11_Encode.cx A_2 c_3 w0 S0) [(1, .pointer (some ⟨b_4, 0, none⟩)), (4, .string (bs [])), (5, .int .u64 truth_8)] [⟨40, b_4, [.int .i64 x_1.Kind, .int .i64 x_1.From, .int .i64 x_1.To, .int .u64 x_1.Term, .int .u64 x_1.Index, .int .u64 x_1.Prev, .int .u64 x_1.Commit, .bool x_1.Ok, .slice A_2 x_1.Entries.length c_3, .string (bs x_1.Data)]⟩] [Rd 0 kT_api_Entry A_2 c_3 x_1.Entries] [.code c22_20] (tontineref11_Encode.j0 n x_1 truth_8) := by
  unfold tontineref11_Encode.j0
  refine GoO.seq' c22_20e ?_
  refine GoO.region' (is := [0, 1, 2, 3, 4, 5, 6, 7, 8, 9, 10, 11, 12, 13, 14, 15, 16, 17, 18, 19, 20, 21, 22, 23]) c22_21e (by kernel_rfl) ?_
  refine GoO.exec (is := [0, 1, 2, 3, 4, 5, 6, 7, 8, 9, 10, 11, 12, 13, 14, 15, 16, 17, 18, 19, 20, 21]) (hs := [.p, .b 0, .p, .p, .b 0, .p, .p, .b 0, .p, .p, .b 0, .p, .b 0, .p, .b 0, .p, .b 0, .p, .p, .b 0, .p, .p]) (rest := [22, 23]) (ks := [1, 4, 17, 20, 23, 25, 27, 29, 31, 32, 36]) (env' := [(1, .pointer (some ⟨b_4, 0, none⟩)), (4, .string (bs [])), (17, .int .u64 (wu64 x_1.Kind)), (20, .int .u64 (wu64 x_1.From)), (23, .int .u64 (wu64 x_1.To)), (25, .int .u64 x_1.Term), (27, .int .u64 x_1.Index), (29, .int .u64 x_1.Prev), (31, .int .u64 x_1.Commit), (32, .int .u64 truth_8), (36, .int .u64 (wu64 (x_1.Entries.length : Int)))]) (H' := [⟨40, b_4, [.int .i64 x_1.Kind, .int .i64 x_1.From, .int .i64 x_1.To, .int .u64 x_1.Term, .int .u64 x_1.Index, .int .u64 x_1.Prev, .int .u64 x_1.Commit, .bool x_1.Ok, .slice A_2 x_1.Entries.length c_3, .string (bs x_1.Data)]⟩]) (ps := [b_4 = b_4, b_4 = b_4, b_4 = b_4, b_4 = b_4, b_4 = b_4, b_4 = b_4, b_4 = b_4, b_4 = b_4]) (by kernel_rfl) (And.intro rfl (And.intro rfl (And.intro rfl (And.intro rfl (And.intro rfl (And.intro rfl (And.intro rfl (And.intro rfl trivial)))))))) ?_
  refine OpTo.go (GoO.lit (e := 28) (K := (Kd.int .u64)) rfl (by kernel_rfl) (by kernel_rfl) (cs := [.int .u64 (wu64 x_1.Kind), .int .u64 (wu64 x_1.From), .int .u64 (wu64 x_1.To), .int .u64 x_1.Term, .int .u64 x_1.Index, .int .u64 x_1.Prev, .int .u64 x_1.Commit, .int .u64 truth_8, .int .u64 (wu64 (x_1.Entries.length : Int))]) (by kernel_rfl) [wu64 x_1.Kind, wu64 x_1.From, wu64 x_1.To, x_1.Term, x_1.Index, x_1.Prev, x_1.Commit, truth_8, wu64 (x_1.Entries.length : Int)] (by kernel_rfl) (by kernel_rfl) (fun w S hB => ⟨[.int .u64 (wu64 x_1.Kind)], _, rfl, rfl, ⟨[.int .u64 (wu64 x_1.From)], _, rfl, rfl, ⟨[.int .u64 (wu64 x_1.To)], _, rfl, rfl, ⟨[.int .u64 x_1.Term], _, rfl, rfl, ⟨[.int .u64 x_1.Index], _, rfl, rfl, ⟨[.int .u64 x_1.Prev], _, rfl, rfl, ⟨[.int .u64 x_1.Commit], _, rfl, rfl, ⟨[.int .u64 truth_8], _, rfl, rfl, ⟨[.int .u64 (wu64 (x_1.Entries.length : Int))], _, rfl, rfl, rfl⟩⟩⟩⟩⟩⟩⟩⟩⟩) 41 _ (fun _ _ => rfl) (fun A_9 c_10 => ?_))
  refine GoO.exec (is := [23]) (hs := [.p]) (rest := []) (ks := [1, 4, 6]) (env' := [(1, .pointer (some ⟨b_4, 0, none⟩)), (4, .string (bs [])), (6, .slice A_9 [wu64 x_1.Kind, wu64 x_1.From, wu64 x_1.To, x_1.Term, x_1.Index, x_1.Prev, x_1.Commit, truth_8, wu64 (x_1.Entries.length : Int)].length c_10)]) (H' := [⟨40, b_4, [.int .i64 x_1.Kind, .int .i64 x_1.From, .int .i64 x_1.To, .int .u64 x_1.Term, .int .u64 x_1.Index, .int .u64 x_1.Prev, .int .u64 x_1.Commit, .bool x_1.Ok, .slice A_2 x_1.Entries.length c_3, .string (bs x_1.Data)]⟩]) (ps := []) (by kernel_rfl) trivial ?_
  refine GoO.regionEnd ?_
  refine GoO.seq' c22_22e ?_
  refine GoO.seq' c22_23e ?_
  refine GoO.region' (is := [0]) c22_24e (by kernel_rfl) ?_
  refine GoO.exec (is := [0]) (hs := [.p]) (rest := []) (ks := [1, 4, 6, 7]) (env' := [(1, .pointer (some ⟨b_4, 0, none⟩)), (4, .string (bs [])), (6, .slice A_9 [wu64 x_1.Kind, wu64 x_1.From, wu64 x_1.To, x_1.Term, x_1.Index, x_1.Prev, x_1.Commit, truth_8, wu64 (x_1.Entries.length : Int)].length c_10), (7, .int .i64 0)]) (H' := [⟨40, b_4, [.int .i64 x_1.Kind, .int .i64 x_1.From, .int .i64 x_1.To, .int .u64 x_1.Term, .int .u64 x_1.Index, .int .u64 x_1.Prev, .int .u64 x_1.Commit, .bool x_1.Ok, .slice A_2 x_1.Entries.length c_3, .string (bs x_1.Data)]⟩]) (ps := []) (by kernel_rfl) trivial ?_
  refine GoO.regionEnd ?_
  refine GoO.block' c22_25e ?_
  refine GoO.loop' c22_26e ?_
  exact GoO.sub (ks := [1, 4, 6, 7]) (hk := [0]) (bk := [1, 0]) (by kernel_rfl) (by kernel_rfl) (by kernel_rfl) (tontineref11_Encode_l0_ok n x_1 truth_8 A_2 c_3 b_4 A_9 c_10 w0 S0 n [] 0)
theorem tontineref11_Encode_ok (n : Nat) (x_1 : T_api_Letter) (A_2 : Option Addr) (c_3 : Nat) :
    Meets Try.prog 22 [.agg ⟨[.int .i64 x_1.Kind, .int .i64 x_1.From, .int .i64 x_1.To, .int .u64 x_1.Term, .int .u64 x_1.Index, .int .u64 x_1.Prev, .int .u64 x_1.Commit, .bool x_1.Ok, .slice A_2 x_1.Entries.length c_3, .string (bs x_1.Data)]⟩] 0 [] [] [Rd 0 kT_api_Entry A_2 c_3 x_1.Entries] (tontineref11_Encode.f n x_1) (tontineref11_Encode.R A_2 c_3) := by
  refine Meets.of (c := c22_0) (n := 86) Try.func22 (by kernel_rfl) (by kernel_rfl) (by kernel_rfl) fun w0 S0 => ?_
  unfold tontineref11_Encode.f
  show GoO (tontineref11_Encode.cx A_2 c_3 w0 S0) [(0, .agg ⟨[.int .i64 x_1.Kind, .int .i64 x_1.From, .int .i64 x_1.To, .int .u64 x_1.Term, .int .u64 x_1.Index, .int .u64 x_1.Prev, .int .u64 x_1.Commit, .bool x_1.Ok, .slice A_2 x_1.Entries.length c_3, .string (bs x_1.Data)]⟩)] [] [Rd 0 kT_api_Entry A_2 c_3 x_1.Entries] [.code c22_0] _
  refine GoO.seq' c22_0e ?_
  refine GoO.region' (is := [0, 1, 2]) c22_1e (by kernel_rfl) ?_
  refine OpTo.go (GoO.new rfl 40 (cs := [.int .i64 x_1.Kind, .int .i64 x_1.From, .int .i64 x_1.To, .int .u64 x_1.Term, .int .u64 x_1.Index, .int .u64 x_1.Prev, .int .u64 x_1.Commit, .bool x_1.Ok, .slice A_2 x_1.Entries.length c_3, .string (bs x_1.Data)]) (by kernel_rfl) _ (fun _ => rfl) (fun b_4 => ?_))
  refine GoO.exec (is := [1, 2]) (hs := [.p, .p]) (rest := []) (ks := [1]) (env' := [(1, .pointer (some ⟨b_4, 0, none⟩))]) (H' := [⟨40, b_4, [.int .i64 x_1.Kind, .int .i64 x_1.From, .int .i64 x_1.To, .int .u64 x_1.Term, .int .u64 x_1.Index, .int .u64 x_1.Prev, .int .u64 x_1.Commit, .bool x_1.Ok, .slice A_2 x_1.Entries.length c_3, .string (bs x_1.Data)]⟩]) (ps := []) (by kernel_rfl) trivial ?_
  refine GoO.regionEnd ?_
  refine GoO.seq' c22_2e ?_
  refine GoO.seq' c22_3e ?_
  refine GoO.region' (is := [0, 1, 2]) c22_4e (by kernel_rfl) ?_
  refine GoO.exec (is := [0]) (hs := [.b 0]) (rest := [1, 2]) (ks := [1, 10]) (env' := [(1, .pointer (some ⟨b_4, 0, none⟩)), (10, .agg ⟨[.int .i64 x_1.Kind, .int .i64 x_1.From, .int .i64 x_1.To, .int .u64 x_1.Term, .int .u64 x_1.Index, .int .u64 x_1.Prev, .int .u64 x_1.Commit, .bool x_1.Ok, .slice A_2 x_1.Entries.length c_3, .string (bs x_1.Data)]⟩)]) (H' := [⟨40, b_4, [.int .i64 x_1.Kind, .int .i64 x_1.From, .int .i64 x_1.To, .int .u64 x_1.Term, .int .u64 x_1.Index, .int .u64 x_1.Prev, .int .u64 x_1.Commit, .bool x_1.Ok, .slice A_2 x_1.Entries.length c_3, .string (bs x_1.Data)]⟩]) (ps := [b_4 = b_4]) (by kernel_rfl) (And.intro rfl trivial) ?_
  refine OpTo.go (GoO.call rfl (by kernel_rfl) (by kernel_rfl) (tontineref11_May_ok n x_1 A_2 c_3) [[0]] [] [] [(0, 0)] (hks := [0]) (bks := [0]) (by kernel_rfl) (by kernel_rfl) (by kernel_rfl) (.inl rfl) rfl rfl (by kernel_rfl) (by kernel_rfl) _ (fun _ _ => rfl) _ _ (fun _ _ => rfl) (fun _ _ => rfl) (fun _ _ => by kernel_rfl) (fun _ _ => by kernel_rfl) (fun r_5 x_38 => ?_))
  refine GoO.shape (env' := [(1, .pointer (some ⟨b_4, 0, none⟩)), (10, .agg ⟨[.int .i64 x_1.Kind, .int .i64 x_1.From, .int .i64 x_1.To, .int .u64 x_1.Term, .int .u64 x_1.Index, .int .u64 x_1.Prev, .int .u64 x_1.Commit, .bool x_1.Ok, .slice A_2 x_1.Entries.length c_3, .string (bs x_1.Data)]⟩), (11, .bool r_5)]) (H' := [⟨40, b_4, [.int .i64 x_1.Kind, .int .i64 x_1.From, .int .i64 x_1.To, .int .u64 x_1.Term, .int .u64 x_1.Index, .int .u64 x_1.Prev, .int .u64 x_1.Commit, .bool x_1.Ok, .slice A_2 x_1.Entries.length c_3, .string (bs x_1.Data)]⟩]) (B' := [Rd 0 kT_api_Entry A_2 c_3 x_1.Entries]) (ks := [1, 10, 11]) (by kernel_rfl) (by kernel_rfl) (by kernel_rfl) ?_
  refine GoO.exec (is := [2]) (hs := [.p]) (rest := []) (ks := [1, 12]) (env' := [(1, .pointer (some ⟨b_4, 0, none⟩)), (12, .bool (!r_5))]) (H' := [⟨40, b_4, [.int .i64 x_1.Kind, .int .i64 x_1.From, .int .i64 x_1.To, .int .u64 x_1.Term, .int .u64 x_1.Index, .int .u64 x_1.Prev, .int .u64 x_1.Commit, .bool x_1.Ok, .slice A_2 x_1.Entries.length c_3, .string (bs x_1.Data)]⟩]) (ps := []) (by kernel_rfl) trivial ?_
  refine GoO.regionEnd ?_
  refine GoO.ite' c22_5e (by kernel_rfl) (fun h6 => ?_) (fun h6 => ?_)
  · refine GoO.seq' c22_6e ?_
    refine GoO.region' (is := [0, 1]) c22_7e (by kernel_rfl) ?_
    refine GoO.exec (is := [0, 1]) (hs := [.p, .p]) (rest := []) (ks := [2, 3]) (env' := [(2, .string (bs [])), (3, .int .i64 1)]) (H' := [⟨40, b_4, [.int .i64 x_1.Kind, .int .i64 x_1.From, .int .i64 x_1.To, .int .u64 x_1.Term, .int .u64 x_1.Index, .int .u64 x_1.Prev, .int .u64 x_1.Commit, .bool x_1.Ok, .slice A_2 x_1.Entries.length c_3, .string (bs x_1.Data)]⟩]) (ps := []) (by kernel_rfl) trivial ?_
    refine GoO.regionEnd ?_
    exact GoO.ret' (h := c22_8e) (hs := []) (ps := []) (hk := []) (bk := []) Try.func22 () (by kernel_rfl) trivial (by kernel_rfl) (by kernel_rfl)
  · refine GoO.skip' c22_9e ?_
    refine GoO.seq' c22_10e ?_
    refine GoO.region' (is := [0]) c22_11e (by kernel_rfl) ?_
    refine GoO.exec (is := [0]) (hs := [.p]) (rest := []) (ks := [1, 4]) (env' := [(1, .pointer (some ⟨b_4, 0, none⟩)), (4, .string (bs []))]) (H' := [⟨40, b_4, [.int .i64 x_1.Kind, .int .i64 x_1.From, .int .i64 x_1.To, .int .u64 x_1.Term, .int .u64 x_1.Index, .int .u64 x_1.Prev, .int .u64 x_1.Commit, .bool x_1.Ok, .slice A_2 x_1.Entries.length c_3, .string (bs x_1.Data)]⟩]) (ps := []) (by kernel_rfl) trivial ?_
    refine GoO.regionEnd ?_
    refine GoO.seq' c22_12e ?_
    refine GoO.region' (is := [0]) c22_13e (by kernel_rfl) ?_
    refine GoO.exec (is := [0]) (hs := [.p]) (rest := []) (ks := [1, 4, 5]) (env' := [(1, .pointer (some ⟨b_4, 0, none⟩)), (4, .string (bs [])), (5, .int .u64 0)]) (H' := [⟨40, b_4, [.int .i64 x_1.Kind, .int .i64 x_1.From, .int .i64 x_1.To, .int .u64 x_1.Term, .int .u64 x_1.Index, .int .u64 x_1.Prev, .int .u64 x_1.Commit, .bool x_1.Ok, .slice A_2 x_1.Entries.length c_3, .string (bs x_1.Data)]⟩]) (ps := []) (by kernel_rfl) trivial ?_
    refine GoO.regionEnd ?_
    refine GoO.seq' c22_14e ?_
    refine GoO.seq' c22_15e ?_
    refine GoO.region' (is := [0, 1]) c22_16e (by kernel_rfl) ?_
    refine GoO.exec (is := [0, 1]) (hs := [.p, .b 0]) (rest := []) (ks := [1, 4, 5, 14]) (env' := [(1, .pointer (some ⟨b_4, 0, none⟩)), (4, .string (bs [])), (5, .int .u64 0), (14, .bool x_1.Ok)]) (H' := [⟨40, b_4, [.int .i64 x_1.Kind, .int .i64 x_1.From, .int .i64 x_1.To, .int .u64 x_1.Term, .int .u64 x_1.Index, .int .u64 x_1.Prev, .int .u64 x_1.Commit, .bool x_1.Ok, .slice A_2 x_1.Entries.length c_3, .string (bs x_1.Data)]⟩]) (ps := [b_4 = b_4]) (by kernel_rfl) (And.intro rfl trivial) ?_
    refine GoO.regionEnd ?_
    refine GoO.ite' c22_17e (by kernel_rfl) (fun h7 => ?_) (fun h7 => ?_)
    · refine GoO.region' (is := [0]) c22_18e (by kernel_rfl) ?_
      refine GoO.exec (is := [0]) (hs := [.p]) (rest := []) (ks := [1, 4, 5]) (env' := [(1, .pointer (some ⟨b_4, 0, none⟩)), (4, .string (bs [])), (5, .int .u64 1)]) (H' := [⟨40, b_4, [.int .i64 x_1.Kind, .int .i64 x_1.From, .int .i64 x_1.To, .int .u64 x_1.Term, .int .u64 x_1.Index, .int .u64 x_1.Prev, .int .u64 x_1.Commit, .bool x_1.Ok, .slice A_2 x_1.Entries.length c_3, .string (bs x_1.Data)]⟩]) (ps := []) (by kernel_rfl) trivial ?_
      refine GoO.regionEnd ?_
      exact GoO.sub (ks := [1, 4, 5]) (hk := [0]) (bk := [0]) (by kernel_rfl) (by kernel_rfl) (by kernel_rfl) (tontineref11_Encode_j0_ok n x_1 A_2 c_3 b_4 w0 S0 1)
    · refine GoO.skip' c22_19e ?_
      exact GoO.sub (ks := [1, 4, 5]) (hk := [0]) (bk := [0]) (by kernel_rfl) (by kernel_rfl) (by kernel_rfl) (tontineref11_Encode_j0_ok n x_1 A_2 c_3 b_4 w0 S0 0)

/-! tontine/tontineref11.Decode -/
noncomputable def c32_0 : Code := bodyOf Try.f32
noncomputable def c32_1 : Code := cdL c32_0
noncomputable def c32_2 : Code := cdR c32_0
noncomputable def c32_3 : Code := cdL c32_2
noncomputable def c32_4 : Code := cdR c32_2
noncomputable def c32_5 : Code := cdL c32_4
noncomputable def c32_6 : Code := cdR c32_4
noncomputable def c32_7 : Code := cdL c32_6
noncomputable def c32_8 : Code := cdR c32_6
noncomputable def c32_9 : Code := cdL c32_8
noncomputable def c32_10 : Code := cdR c32_8
noncomputable def c32_11 : Code := cdL c32_10
noncomputable def c32_12 : Code := cdR c32_10
noncomputable def c32_13 : Code := cdL c32_12
noncomputable def c32_14 : Code := cdR c32_12
noncomputable def c32_15 : Code := cdL c32_14
noncomputable def c32_16 : Code := cdR c32_14
noncomputable def c32_17 : Code := cdL c32_16
noncomputable def c32_18 : Code := cdR c32_16
noncomputable def c32_19 : Code := cdL c32_18
noncomputable def c32_20 : Code := cdR c32_18
noncomputable def c32_21 : Code := cdL c32_20
noncomputable def c32_22 : Code := cdR c32_20
noncomputable def c32_23 : Code := cdL c32_22
noncomputable def c32_24 : Code := cdL c32_23
noncomputable def c32_25 : Code := cdR c32_23
noncomputable def c32_26 : Code := cdL c32_25
noncomputable def c32_27 : Code := cdL c32_26
noncomputable def c32_28 : Code := cdL c32_27
noncomputable def c32_29 : Code := cdL c32_28
noncomputable def c32_30 : Code := cdR c32_28
noncomputable def c32_31 : Code := cdL c32_30
noncomputable def c32_32 : Code := cdR c32_30
noncomputable def c32_33 : Code := cdR c32_27
noncomputable def c32_34 : Code := cdL c32_33
noncomputable def c32_35 : Code := cdL c32_34
noncomputable def c32_36 : Code := cdL c32_35
noncomputable def c32_37 : Code := cdR c32_35
noncomputable def c32_38 : Code := cdL c32_37
noncomputable def c32_39 : Code := cdR c32_37
noncomputable def c32_40 : Code := cdL c32_39
noncomputable def c32_41 : Code := cdR c32_39
noncomputable def c32_42 : Code := cdL c32_41
noncomputable def c32_43 : Code := cdR c32_41
noncomputable def c32_44 : Code := cdR c32_33
noncomputable def c32_45 : Code := cdR c32_22
noncomputable def c32_46 : Code := cdL c32_45
noncomputable def c32_47 : Code := cdR c32_45
noncomputable def c32_48 : Code := cdL c32_47
noncomputable def c32_49 : Code := cdR c32_47
noncomputable def c32_50 : Code := cdL c32_49
noncomputable def c32_51 : Code := cdL c32_50
noncomputable def c32_52 : Code := cdR c32_50
noncomputable def c32_53 : Code := cdL c32_52
noncomputable def c32_54 : Code := cdL c32_53
noncomputable def c32_55 : Code := cdR c32_53
noncomputable def c32_56 : Code := cdR c32_52
noncomputable def c32_57 : Code := cdR c32_49
noncomputable def c32_58 : Code := cdL c32_57
noncomputable def c32_59 : Code := cdR c32_57
noncomputable def r32_1 : Array Oper := cdO c32_1
noncomputable def r32_3 : Array Oper := cdO c32_3
noncomputable def r32_5 : Array Oper := cdO c32_5
noncomputable def r32_7 : Array Oper := cdO c32_7
noncomputable def r32_9 : Array Oper := cdO c32_9
noncomputable def r32_11 : Array Oper := cdO c32_11
noncomputable def r32_13 : Array Oper := cdO c32_13
noncomputable def r32_15 : Array Oper := cdO c32_15
noncomputable def r32_17 : Array Oper := cdO c32_17
noncomputable def r32_19 : Array Oper := cdO c32_19
noncomputable def r32_21 : Array Oper := cdO c32_21
noncomputable def r32_24 : Array Oper := cdO c32_24
noncomputable def r32_29 : Array Oper := cdO c32_29
noncomputable def r32_36 : Array Oper := cdO c32_36
noncomputable def r32_38 : Array Oper := cdO c32_38
noncomputable def r32_40 : Array Oper := cdO c32_40
noncomputable def r32_42 : Array Oper := cdO c32_42
noncomputable def r32_43 : Array Oper := cdO c32_43
noncomputable def r32_44 : Array Oper := cdO c32_44
noncomputable def r32_46 : Array Oper := cdO c32_46
noncomputable def r32_48 : Array Oper := cdO c32_48
noncomputable def r32_51 : Array Oper := cdO c32_51
noncomputable def r32_54 : Array Oper := cdO c32_54
noncomputable def r32_58 : Array Oper := cdO c32_58
theorem c32_0e : c32_0 = .seq c32_1 c32_2 := by kernel_rfl
theorem c32_1e : c32_1 = .region 0 r32_1 false := by kernel_rfl
theorem c32_2e : c32_2 = .seq c32_3 c32_4 := by kernel_rfl
theorem c32_3e : c32_3 = .region 1 r32_3 false := by kernel_rfl
theorem c32_4e : c32_4 = .seq c32_5 c32_6 := by kernel_rfl
theorem c32_5e : c32_5 = .region 2 r32_5 false := by kernel_rfl
theorem c32_6e : c32_6 = .seq c32_7 c32_8 := by kernel_rfl
theorem c32_7e : c32_7 = .region 3 r32_7 false := by kernel_rfl
theorem c32_8e : c32_8 = .seq c32_9 c32_10 := by kernel_rfl
theorem c32_9e : c32_9 = .region 4 r32_9 false := by kernel_rfl
theorem c32_10e : c32_10 = .seq c32_11 c32_12 := by kernel_rfl
theorem c32_11e : c32_11 = .region 5 r32_11 false := by kernel_rfl
theorem c32_12e : c32_12 = .seq c32_13 c32_14 := by kernel_rfl
theorem c32_13e : c32_13 = .region 6 r32_13 false := by kernel_rfl
theorem c32_14e : c32_14 = .seq c32_15 c32_16 := by kernel_rfl
theorem c32_15e : c32_15 = .region 7 r32_15 false := by kernel_rfl
theorem c32_16e : c32_16 = .seq c32_17 c32_18 := by kernel_rfl
theorem c32_17e : c32_17 = .region 8 r32_17 false := by kernel_rfl
theorem c32_18e : c32_18 = .seq c32_19 c32_20 := by kernel_rfl
theorem c32_19e : c32_19 = .region 9 r32_19 false := by kernel_rfl
theorem c32_20e : c32_20 = .seq c32_21 c32_22 := by kernel_rfl
theorem c32_21e : c32_21 = .region 10 r32_21 false := by kernel_rfl
theorem c32_22e : c32_22 = .seq c32_23 c32_45 := by kernel_rfl
theorem c32_23e : c32_23 = .seq c32_24 c32_25 := by kernel_rfl
theorem c32_24e : c32_24 = .region 11 r32_24 false := by kernel_rfl
theorem c32_25e : c32_25 = .block 0 c32_26 := by kernel_rfl
theorem c32_26e : c32_26 = .loop c32_27 := by kernel_rfl
theorem c32_27e : c32_27 = .seq c32_28 c32_33 := by kernel_rfl
theorem c32_28e : c32_28 = .seq c32_29 c32_30 := by kernel_rfl
theorem c32_29e : c32_29 = .region 12 r32_29 false := by kernel_rfl
theorem c32_30e : c32_30 = .cond (cdC c32_30) c32_31 c32_32 := by kernel_rfl
theorem c32_31e : c32_31 = .skip := by kernel_rfl
theorem c32_32e : c32_32 = .exit 0 := by kernel_rfl
theorem c32_33e : c32_33 = .seq c32_34 c32_44 := by kernel_rfl
theorem c32_34e : c32_34 = .block 1 c32_35 := by kernel_rfl
theorem c32_35e : c32_35 = .seq c32_36 c32_37 := by kernel_rfl
theorem c32_36e : c32_36 = .region 14 r32_36 false := by kernel_rfl
theorem c32_37e : c32_37 = .seq c32_38 c32_39 := by kernel_rfl
theorem c32_38e : c32_38 = .region 15 r32_38 false := by kernel_rfl
theorem c32_39e : c32_39 = .seq c32_40 c32_41 := by kernel_rfl
theorem c32_40e : c32_40 = .region 16 r32_40 false := by kernel_rfl
theorem c32_41e : c32_41 = .seq c32_42 c32_43 := by kernel_rfl
theorem c32_42e : c32_42 = .region 17 r32_42 false := by kernel_rfl
theorem c32_43e : c32_43 = .region 18 r32_43 false := by kernel_rfl
theorem c32_44e : c32_44 = .region 13 r32_44 false := by kernel_rfl
theorem c32_45e : c32_45 = .seq c32_46 c32_47 := by kernel_rfl
theorem c32_46e : c32_46 = .region 19 r32_46 false := by kernel_rfl
theorem c32_47e : c32_47 = .seq c32_48 c32_49 := by kernel_rfl
theorem c32_48e : c32_48 = .region 20 r32_48 false := by kernel_rfl
theorem c32_49e : c32_49 = .seq c32_50 c32_57 := by kernel_rfl
theorem c32_50e : c32_50 = .seq c32_51 c32_52 := by kernel_rfl
theorem c32_51e : c32_51 = .region 21 r32_51 false := by kernel_rfl
theorem c32_52e : c32_52 = .cond (cdC c32_52) c32_53 c32_56 := by kernel_rfl
theorem c32_53e : c32_53 = .seq c32_54 c32_55 := by kernel_rfl
theorem c32_54e : c32_54 = .region 22 r32_54 false := by kernel_rfl
theorem c32_55e : c32_55 = .ret := by kernel_rfl
theorem c32_56e : c32_56 = .skip := by kernel_rfl
theorem c32_57e : c32_57 = .seq c32_58 c32_59 := by kernel_rfl
theorem c32_58e : c32_58 = .region 23 r32_58 false := by kernel_rfl
theorem c32_59e : c32_59 = .ret := by kernel_rfl
noncomputable def tontineref11_Decode.R : Pst (T_api_Letter × Int) where
  ε := Option Addr × Nat
  v := fun r x => .tuple ⟨[.agg ⟨[.int .i64 r.1.Kind, .int .i64 r.1.From, .int .i64 r.1.To, .int .u64 r.1.Term, .int .u64 r.1.Index, .int .u64 r.1.Prev, .int .u64 r.1.Commit, .bool r.1.Ok, .slice x.1 r.1.Entries.length x.2, .string (bs r.1.Data)]⟩, .int .i64 r.2]⟩
  H := fun r x => []
  B := fun r x => [Rd 0 kT_api_Entry x.1 x.2 r.1.Entries]
noncomputable def tontineref11_Decode.cx (w0 : World) (S0 : Fam) : Cx (T_api_Letter × Int) := ⟨Try.prog, 32, Try.f32, 94, w0, S0, [], 0, tontineref11_Decode.R⟩
theorem tontineref11_Decode_j0_ok (n : Nat) (r_4 : Int × T_tontineref03_Reader) (r_6 : Int × T_tontineref03_Reader) (r_7 : Int × T_tontineref03_Reader) (r_8 : Int × T_tontineref03_Reader) (r_9 : Int × T_tontineref03_Reader) (r_10 : Int × T_tontineref03_Reader) (r_11 : Int × T_tontineref03_Reader) (r_12 : Int × T_tontineref03_Reader) (f_16 : (List T_api_Entry)) (r_35 : (List UInt8) × T_tontineref03_Reader) (b_2 : Nat) (b_5 : Nat) (A_17 : Option Addr) (c_18 : Nat) (w0 : World) (S0 : Fam) (b_40 : Bool) :
    GoO (tontineref11_Decode.cx w0 S0) [(2, .pointer (some ⟨b_2, 0, none⟩)), (5, .pointer (some ⟨b_5, 0, none⟩)), (91, .bool b_40)] [⟨40, b_2, [.int .i64 0, .int .i64 0, .int .i64 0, .int .u64 0, .int .u64 0, .int .u64 0, .int .u64 0, .bool false, .slice none ([] : List T_api_Entry).length 0, .string (bs [])]⟩, ⟨42, b_5, [.int .i64 r_4.1, .int .i64 r_6.1, .int .i64 r_7.1, .int .u64 r_8.1, .int .u64 r_9.1, .int .u64 r_10.1, .int .u64 r_11.1, .bool (r_12.1 == 1), .slice A_17 f_16.length c_18, .string (bs r_35.1)]⟩] [Ow 45 kT_api_Entry A_17 c_18 f_16] [.code c32_52, .code c32_57] (tontineref11_Decode.j0 n r_4 r_6 r_7 r_8 r_9 r_10 r_11 r_12 f_16 r_35 b_40) := by
  unfold tontineref11_Decode.j0
  refine GoO.ite' c32_52e (by kernel_rfl) (fun h41 => ?_) (fun h41 => ?_)
  · refine GoO.seq' c32_53e ?_
    refine GoO.region' (is := [0, 1, 2]) c32_54e (by kernel_rfl) ?_
    refine GoO.exec (is := [0, 1, 2]) (hs := [.p, .b 0, .p]) (rest := []) (ks := [2, 3]) (env' := [(2, .pointer (some ⟨b_2, 0, none⟩)), (3, .int .i64 2)]) (H' := [⟨40, b_2, [.int .i64 0, .int .i64 0, .int .i64 0, .int .u64 0, .int .u64 0, .int .u64 0, .int .u64 0, .bool false, .slice none ([] : List T_api_Entry).length 0, .string (bs [])]⟩, ⟨42, b_5, [.int .i64 r_4.1, .int .i64 r_6.1, .int .i64 r_7.1, .int .u64 r_8.1, .int .u64 r_9.1, .int .u64 r_10.1, .int .u64 r_11.1, .bool (r_12.1 == 1), .slice A_17 f_16.length c_18, .string (bs r_35.1)]⟩]) (ps := [b_2 = b_2]) (by kernel_rfl) (And.intro rfl trivial) ?_
    refine GoO.regionEnd ?_
    refine GoO.nilRd kT_api_Entry ?_
    exact GoO.ret' (h := c32_55e) (hs := [0]) (ps := [b_2 = b_2]) (hk := []) (bk := [0]) Try.func32 (⟨none, 0⟩ : Option Addr × Nat) (by kernel_rfl) (And.intro rfl trivial) (by kernel_rfl) (by kernel_rfl)
  · refine GoO.skip' c32_56e ?_
    refine GoO.seq' c32_57e ?_
    refine GoO.region' (is := [0, 1, 2]) c32_58e (by kernel_rfl) ?_
    refine GoO.exec (is := [0, 1, 2]) (hs := [.b 1, .b 0, .p]) (rest := []) (ks := [2, 3]) (env' := [(2, .pointer (some ⟨b_2, 0, none⟩)), (3, .int .i64 0)]) (H' := [⟨40, b_2, [.int .i64 r_4.1, .int .i64 r_6.1, .int .i64 r_7.1, .int .u64 r_8.1, .int .u64 r_9.1, .int .u64 r_10.1, .int .u64 r_11.1, .bool (r_12.1 == 1), .slice A_17 f_16.length c_18, .string (bs r_35.1)]⟩, ⟨42, b_5, [.int .i64 r_4.1, .int .i64 r_6.1, .int .i64 r_7.1, .int .u64 r_8.1, .int .u64 r_9.1, .int .u64 r_10.1, .int .u64 r_11.1, .bool (r_12.1 == 1), .slice A_17 f_16.length c_18, .string (bs r_35.1)]⟩]) (ps := [b_5 = b_5, b_2 = b_2]) (by kernel_rfl) (And.intro rfl (And.intro rfl trivial)) ?_
    refine GoO.regionEnd ?_
    refine GoO.retag (t := 45) (u := 0) (j := 0) (hk := [0, 1]) (bk := []) rfl rfl rfl rfl rfl rfl (by kernel_rfl) (by kernel_rfl) ?_
    refine GoO.own2rd (j := 0) rfl ?_
    exact GoO.ret' (h := c32_59e) (hs := [0]) (ps := [b_2 = b_2]) (hk := []) (bk := [0]) Try.func32 (⟨A_17, c_18⟩ : Option Addr × Nat) (by kernel_rfl) (And.intro rfl trivial) (by kernel_rfl) (by kernel_rfl)
theorem tontineref11_Decode_l0_ok (n : Nat) (s_1 : (List UInt8)) (r_4 : Int × T_tontineref03_Reader) (r_6 : Int × T_tontineref03_Reader) (r_7 : Int × T_tontineref03_Reader) (r_8 : Int × T_tontineref03_Reader) (r_9 : Int × T_tontineref03_Reader) (r_10 : Int × T_tontineref03_Reader) (r_11 : Int × T_tontineref03_Reader) (r_12 : Int × T_tontineref03_Reader) (r_13 : Int × T_tontineref03_Reader) (b_2 : Nat) (b_3 : Nat) (b_5 : Nat) (w0 : World) (S0 : Fam) :
    ∀ (k : Nat) (f_14 : (List UInt8)) (f_15 : Bool) (f_16 : (List T_api_Entry)) (i_19 : Int) (A_17 : Option Addr) (c_18 : Nat), GoO (tontineref11_Decode.cx w0 S0) [(0, .string (bs s_1)), (2, .pointer (some ⟨b_2, 0, none⟩)), (4, .pointer (some ⟨b_3, 0, none⟩)), (5, .pointer (some ⟨b_5, 0, none⟩)), (6, .int .i64 r_13.1), (7, .int .i64 i_19)] [⟨40, b_2, [.int .i64 0, .int .i64 0, .int .i64 0, .int .u64 0, .int .u64 0, .int .u64 0, .int .u64 0, .bool false, .slice none ([] : List T_api_Entry).length 0, .string (bs [])]⟩, ⟨41, b_3, [.string (bs f_14), .bool f_15]⟩, ⟨42, b_5, [.int .i64 r_4.1, .int .i64 r_6.1, .int .i64 r_7.1, .int .u64 r_8.1, .int .u64 r_9.1, .int .u64 r_10.1, .int .u64 r_11.1, .bool (r_12.1 == 1), .slice A_17 f_16.length c_18, .string (bs [])]⟩] [Ow 45 kT_api_Entry A_17 c_18 f_16] [.code c32_27, .inLoop c32_27, .inBlock 0, .code c32_45] (tontineref11_Decode.l0 n s_1 r_4 r_6 r_7 r_8 r_9 r_10 r_11 r_12 r_13 k f_14 f_15 f_16 i_19) := by
  intro k
  induction k with
  | zero => intros; rw [tontineref11_Decode.l0.eq_1]; exact GoO.stop
  | succ k ih0 =>
    intro f_14 f_15 f_16 i_19 A_17 c_18
    rw [tontineref11_Decode.l0.eq_2]
    refine GoO.seq' c32_27e ?_
    refine GoO.seq' c32_28e ?_
    refine GoO.region' (is := [0, 1, 2]) c32_29e (by kernel_rfl) ?_
    refine GoO.exec (is := [0, 1, 2]) (hs := [.p, .p, .p]) (rest := []) (ks := [0, 2, 4, 5, 6, 7, 43]) (env' := [(0, .string (bs s_1)), (2, .pointer (some ⟨b_2, 0, none⟩)), (4, .pointer (some ⟨b_3, 0, none⟩)), (5, .pointer (some ⟨b_5, 0, none⟩)), (6, .int .i64 r_13.1), (7, .int .i64 i_19), (43, .bool (decide (i_19 < r_13.1)))]) (H' := [⟨40, b_2, [.int .i64 0, .int .i64 0, .int .i64 0, .int .u64 0, .int .u64 0, .int .u64 0, .int .u64 0, .bool false, .slice none ([] : List T_api_Entry).length 0, .string (bs [])]⟩, ⟨41, b_3, [.string (bs f_14), .bool f_15]⟩, ⟨42, b_5, [.int .i64 r_4.1, .int .i64 r_6.1, .int .i64 r_7.1, .int .u64 r_8.1, .int .u64 r_9.1, .int .u64 r_10.1, .int .u64 r_11.1, .bool (r_12.1 == 1), .slice A_17 f_16.length c_18, .string (bs [])]⟩]) (ps := []) (by kernel_rfl) trivial ?_
    refine GoO.regionEnd ?_
    refine GoO.ite' c32_30e (by kernel_rfl) (fun h20 => ?_) (fun h20 => ?_)
    · refine GoO.skip' c32_31e ?_
      refine GoO.seq' c32_33e ?_
      refine GoO.block' c32_34e ?_
      refine GoO.seq' c32_35e ?_
      refine GoO.region' (is := [0, 1, 2, 3, 4]) c32_36e (by kernel_rfl) ?_
      refine GoO.exec (is := [0]) (hs := [.p]) (rest := [1, 2, 3, 4]) (ks := [0, 2, 4, 5, 6, 7, 46]) (env' := [(0, .string (bs s_1)), (2, .pointer (some ⟨b_2, 0, none⟩)), (4, .pointer (some ⟨b_3, 0, none⟩)), (5, .pointer (some ⟨b_5, 0, none⟩)), (6, .int .i64 r_13.1), (7, .int .i64 i_19), (46, .pointer (some ⟨b_3, 0, none⟩))]) (H' := [⟨40, b_2, [.int .i64 0, .int .i64 0, .int .i64 0, .int .u64 0, .int .u64 0, .int .u64 0, .int .u64 0, .bool false, .slice none ([] : List T_api_Entry).length 0, .string (bs [])]⟩, ⟨41, b_3, [.string (bs f_14), .bool f_15]⟩, ⟨42, b_5, [.int .i64 r_4.1, .int .i64 r_6.1, .int .i64 r_7.1, .int .u64 r_8.1, .int .u64 r_9.1, .int .u64 r_10.1, .int .u64 r_11.1, .bool (r_12.1 == 1), .slice A_17 f_16.length c_18, .string (bs [])]⟩]) (ps := []) (by kernel_rfl) trivial ?_
      refine OpTo.go (GoO.call rfl (by kernel_rfl) (by kernel_rfl) (tontineref03_Reader_Num_ok n (⟨f_14, f_15⟩ : T_tontineref03_Reader) b_3) [[0], [41]] [(41, 1)] [(1, 1)] [] (hks := [0, 2]) (bks := [0]) (by kernel_rfl) (by kernel_rfl) (by kernel_rfl) (.inl rfl) rfl rfl (by kernel_rfl) (by kernel_rfl) _ (fun _ _ => rfl) _ _ (fun _ _ => rfl) (fun _ _ => rfl) (fun _ _ => by kernel_rfl) (fun _ _ => by kernel_rfl) (fun r_21 x_34 => ?_))
      refine GoO.shape (env' := [(0, .string (bs s_1)), (2, .pointer (some ⟨b_2, 0, none⟩)), (4, .pointer (some ⟨b_3, 0, none⟩)), (5, .pointer (some ⟨b_5, 0, none⟩)), (6, .int .i64 r_13.1), (7, .int .i64 i_19), (46, .pointer (some ⟨b_3, 0, none⟩)), (47, .int .u64 r_21.1)]) (H' := [⟨41, b_3, [.string (bs r_21.2.S_), .bool r_21.2.Bad]⟩, ⟨40, b_2, [.int .i64 0, .int .i64 0, .int .i64 0, .int .u64 0, .int .u64 0, .int .u64 0, .int .u64 0, .bool false, .slice none ([] : List T_api_Entry).length 0, .string (bs [])]⟩, ⟨42, b_5, [.int .i64 r_4.1, .int .i64 r_6.1, .int .i64 r_7.1, .int .u64 r_8.1, .int .u64 r_9.1, .int .u64 r_10.1, .int .u64 r_11.1, .bool (r_12.1 == 1), .slice A_17 f_16.length c_18, .string (bs [])]⟩]) (B' := [Ow 45 kT_api_Entry A_17 c_18 f_16]) (ks := [0, 2, 4, 5, 6, 7, 46, 47]) (by kernel_rfl) (by kernel_rfl) (by kernel_rfl) ?_
      refine GoO.exec (is := [2]) (hs := [.p]) (rest := [3, 4]) (ks := [0, 2, 4, 5, 6, 7, 48]) (env' := [(0, .string (bs s_1)), (2, .pointer (some ⟨b_2, 0, none⟩)), (4, .pointer (some ⟨b_3, 0, none⟩)), (5, .pointer (some ⟨b_5, 0, none⟩)), (6, .int .i64 r_13.1), (7, .int .i64 i_19), (48, .agg ⟨[.int .u64 r_21.1, .int .u64 0, .int .i64 0, .string (bs [])]⟩)]) (H' := [⟨41, b_3, [.string (bs r_21.2.S_), .bool r_21.2.Bad]⟩, ⟨40, b_2, [.int .i64 0, .int .i64 0, .int .i64 0, .int .u64 0, .int .u64 0, .int .u64 0, .int .u64 0, .bool false, .slice none ([] : List T_api_Entry).length 0, .string (bs [])]⟩, ⟨42, b_5, [.int .i64 r_4.1, .int .i64 r_6.1, .int .i64 r_7.1, .int .u64 r_8.1, .int .u64 r_9.1, .int .u64 r_10.1, .int .u64 r_11.1, .bool (r_12.1 == 1), .slice A_17 f_16.length c_18, .string (bs [])]⟩]) (ps := []) (by kernel_rfl) trivial ?_
      refine OpTo.go (GoO.new rfl 43 (cs := [.int .u64 0, .int .u64 0, .int .i64 0, .string (bs [])]) (by kernel_rfl) _ (fun _ => rfl) (fun b_22 => ?_))
      refine GoO.exec (is := [4]) (hs := [.b 0]) (rest := []) (ks := [0, 2, 4, 5, 6, 7, 8]) (env' := [(0, .string (bs s_1)), (2, .pointer (some ⟨b_2, 0, none⟩)), (4, .pointer (some ⟨b_3, 0, none⟩)), (5, .pointer (some ⟨b_5, 0, none⟩)), (6, .int .i64 r_13.1), (7, .int .i64 i_19), (8, .pointer (some ⟨b_22, 0, none⟩))]) (H' := [⟨43, b_22, [.int .u64 r_21.1, .int .u64 0, .int .i64 0, .string (bs [])]⟩, ⟨41, b_3, [.string (bs r_21.2.S_), .bool r_21.2.Bad]⟩, ⟨40, b_2, [.int .i64 0, .int .i64 0, .int .i64 0, .int .u64 0, .int .u64 0, .int .u64 0, .int .u64 0, .bool false, .slice none ([] : List T_api_Entry).length 0, .string (bs [])]⟩, ⟨42, b_5, [.int .i64 r_4.1, .int .i64 r_6.1, .int .i64 r_7.1, .int .u64 r_8.1, .int .u64 r_9.1, .int .u64 r_10.1, .int .u64 r_11.1, .bool (r_12.1 == 1), .slice A_17 f_16.length c_18, .string (bs [])]⟩]) (ps := [b_22 = b_22]) (by kernel_rfl) (And.intro rfl trivial) ?_
      refine GoO.regionEnd ?_
      refine GoO.seq' c32_37e ?_
      refine GoO.region' (is := [0, 1, 2, 3]) c32_38e (by kernel_rfl) ?_
      refine GoO.exec (is := [0]) (hs := [.p]) (rest := [1, 2, 3]) (ks := [0, 2, 4, 5, 6, 7, 8, 49]) (env' := [(0, .string (bs s_1)), (2, .pointer (some ⟨b_2, 0, none⟩)), (4, .pointer (some ⟨b_3, 0, none⟩)), (5, .pointer (some ⟨b_5, 0, none⟩)), (6, .int .i64 r_13.1), (7, .int .i64 i_19), (8, .pointer (some ⟨b_22, 0, none⟩)), (49, .pointer (some ⟨b_3, 0, none⟩))]) (H' := [⟨43, b_22, [.int .u64 r_21.1, .int .u64 0, .int .i64 0, .string (bs [])]⟩, ⟨41, b_3, [.string (bs r_21.2.S_), .bool r_21.2.Bad]⟩, ⟨40, b_2, [.int .i64 0, .int .i64 0, .int .i64 0, .int .u64 0, .int .u64 0, .int .u64 0, .int .u64 0, .bool false, .slice none ([] : List T_api_Entry).length 0, .string (bs [])]⟩, ⟨42, b_5, [.int .i64 r_4.1, .int .i64 r_6.1, .int .i64 r_7.1, .int .u64 r_8.1, .int .u64 r_9.1, .int .u64 r_10.1, .int .u64 r_11.1, .bool (r_12.1 == 1), .slice A_17 f_16.length c_18, .string (bs [])]⟩]) (ps := []) (by kernel_rfl) trivial ?_
      refine OpTo.go (GoO.call rfl (by kernel_rfl) (by kernel_rfl) (tontineref03_Reader_Num_ok n r_21.2 b_3) [[0], [41]] [(41, 1)] [(1, 1)] [] (hks := [0, 2, 3]) (bks := [0]) (by kernel_rfl) (by kernel_rfl) (by kernel_rfl) (.inl rfl) rfl rfl (by kernel_rfl) (by kernel_rfl) _ (fun _ _ => rfl) _ _ (fun _ _ => rfl) (fun _ _ => rfl) (fun _ _ => by kernel_rfl) (fun _ _ => by kernel_rfl) (fun r_23 x_33 => ?_))
      refine GoO.shape (env' := [(0, .string (bs s_1)), (2, .pointer (some ⟨b_2, 0, none⟩)), (4, .pointer (some ⟨b_3, 0, none⟩)), (5, .pointer (some ⟨b_5, 0, none⟩)), (6, .int .i64 r_13.1), (7, .int .i64 i_19), (8, .pointer (some ⟨b_22, 0, none⟩)), (49, .pointer (some ⟨b_3, 0, none⟩)), (50, .int .u64 r_23.1)]) (H' := [⟨41, b_3, [.string (bs r_23.2.S_), .bool r_23.2.Bad]⟩, ⟨43, b_22, [.int .u64 r_21.1, .int .u64 0, .int .i64 0, .string (bs [])]⟩, ⟨40, b_2, [.int .i64 0, .int .i64 0, .int .i64 0, .int .u64 0, .int .u64 0, .int .u64 0, .int .u64 0, .bool false, .slice none ([] : List T_api_Entry).length 0, .string (bs [])]⟩, ⟨42, b_5, [.int .i64 r_4.1, .int .i64 r_6.1, .int .i64 r_7.1, .int .u64 r_8.1, .int .u64 r_9.1, .int .u64 r_10.1, .int .u64 r_11.1, .bool (r_12.1 == 1), .slice A_17 f_16.length c_18, .string (bs [])]⟩]) (B' := [Ow 45 kT_api_Entry A_17 c_18 f_16]) (ks := [0, 2, 4, 5, 6, 7, 8, 49, 50]) (by kernel_rfl) (by kernel_rfl) (by kernel_rfl) ?_
      refine GoO.exec (is := [2, 3]) (hs := [.p, .b 1]) (rest := []) (ks := [0, 2, 4, 5, 6, 7, 8]) (env' := [(0, .string (bs s_1)), (2, .pointer (some ⟨b_2, 0, none⟩)), (4, .pointer (some ⟨b_3, 0, none⟩)), (5, .pointer (some ⟨b_5, 0, none⟩)), (6, .int .i64 r_13.1), (7, .int .i64 i_19), (8, .pointer (some ⟨b_22, 0, none⟩))]) (H' := [⟨41, b_3, [.string (bs r_23.2.S_), .bool r_23.2.Bad]⟩, ⟨43, b_22, [.int .u64 r_21.1, .int .u64 r_23.1, .int .i64 0, .string (bs [])]⟩, ⟨40, b_2, [.int .i64 0, .int .i64 0, .int .i64 0, .int .u64 0, .int .u64 0, .int .u64 0, .int .u64 0, .bool false, .slice none ([] : List T_api_Entry).length 0, .string (bs [])]⟩, ⟨42, b_5, [.int .i64 r_4.1, .int .i64 r_6.1, .int .i64 r_7.1, .int .u64 r_8.1, .int .u64 r_9.1, .int .u64 r_10.1, .int .u64 r_11.1, .bool (r_12.1 == 1), .slice A_17 f_16.length c_18, .string (bs [])]⟩]) (ps := [b_22 = b_22]) (by kernel_rfl) (And.intro rfl trivial) ?_
      refine GoO.regionEnd ?_
      refine GoO.seq' c32_39e ?_
      refine GoO.region' (is := [0, 1, 2, 3]) c32_40e (by kernel_rfl) ?_
      refine GoO.exec (is := [0]) (hs := [.p]) (rest := [1, 2, 3]) (ks := [0, 2, 4, 5, 6, 7, 8, 52]) (env' := [(0, .string (bs s_1)), (2, .pointer (some ⟨b_2, 0, none⟩)), (4, .pointer (some ⟨b_3, 0, none⟩)), (5, .pointer (some ⟨b_5, 0, none⟩)), (6, .int .i64 r_13.1), (7, .int .i64 i_19), (8, .pointer (some ⟨b_22, 0, none⟩)), (52, .pointer (some ⟨b_3, 0, none⟩))]) (H' := [⟨41, b_3, [.string (bs r_23.2.S_), .bool r_23.2.Bad]⟩, ⟨43, b_22, [.int .u64 r_21.1, .int .u64 r_23.1, .int .i64 0, .string (bs [])]⟩, ⟨40, b_2, [.int .i64 0, .int .i64 0, .int .i64 0, .int .u64 0, .int .u64 0, .int .u64 0, .int .u64 0, .bool false, .slice none ([] : List T_api_Entry).length 0, .string (bs [])]⟩, ⟨42, b_5, [.int .i64 r_4.1, .int .i64 r_6.1, .int .i64 r_7.1, .int .u64 r_8.1, .int .u64 r_9.1, .int .u64 r_10.1, .int .u64 r_11.1, .bool (r_12.1 == 1), .slice A_17 f_16.length c_18, .string (bs [])]⟩]) (ps := []) (by kernel_rfl) trivial ?_
      refine OpTo.go (GoO.call rfl (by kernel_rfl) (by kernel_rfl) (tontineref03_Reader_Up_ok n r_23.2 2 b_3) [[0], [41]] [(41, 1)] [(1, 0)] [] (hks := [1, 2, 3]) (bks := [0]) (by kernel_rfl) (by kernel_rfl) (by kernel_rfl) (.inl rfl) rfl rfl (by kernel_rfl) (by kernel_rfl) _ (fun _ _ => rfl) _ _ (fun _ _ => rfl) (fun _ _ => rfl) (fun _ _ => by kernel_rfl) (fun _ _ => by kernel_rfl) (fun r_24 x_32 => ?_))
      refine GoO.shape (env' := [(0, .string (bs s_1)), (2, .pointer (some ⟨b_2, 0, none⟩)), (4, .pointer (some ⟨b_3, 0, none⟩)), (5, .pointer (some ⟨b_5, 0, none⟩)), (6, .int .i64 r_13.1), (7, .int .i64 i_19), (8, .pointer (some ⟨b_22, 0, none⟩)), (52, .pointer (some ⟨b_3, 0, none⟩)), (53, .int .i64 r_24.1)]) (H' := [⟨41, b_3, [.string (bs r_24.2.S_), .bool r_24.2.Bad]⟩, ⟨43, b_22, [.int .u64 r_21.1, .int .u64 r_23.1, .int .i64 0, .string (bs [])]⟩, ⟨40, b_2, [.int .i64 0, .int .i64 0, .int .i64 0, .int .u64 0, .int .u64 0, .int .u64 0, .int .u64 0, .bool false, .slice none ([] : List T_api_Entry).length 0, .string (bs [])]⟩, ⟨42, b_5, [.int .i64 r_4.1, .int .i64 r_6.1, .int .i64 r_7.1, .int .u64 r_8.1, .int .u64 r_9.1, .int .u64 r_10.1, .int .u64 r_11.1, .bool (r_12.1 == 1), .slice A_17 f_16.length c_18, .string (bs [])]⟩]) (B' := [Ow 45 kT_api_Entry A_17 c_18 f_16]) (ks := [0, 2, 4, 5, 6, 7, 8, 52, 53]) (by kernel_rfl) (by kernel_rfl) (by kernel_rfl) ?_
      refine GoO.exec (is := [2, 3]) (hs := [.p, .b 1]) (rest := []) (ks := [0, 2, 4, 5, 6, 7, 8]) (env' := [(0, .string (bs s_1)), (2, .pointer (some ⟨b_2, 0, none⟩)), (4, .pointer (some ⟨b_3, 0, none⟩)), (5, .pointer (some ⟨b_5, 0, none⟩)), (6, .int .i64 r_13.1), (7, .int .i64 i_19), (8, .pointer (some ⟨b_22, 0, none⟩))]) (H' := [⟨41, b_3, [.string (bs r_24.2.S_), .bool r_24.2.Bad]⟩, ⟨43, b_22, [.int .u64 r_21.1, .int .u64 r_23.1, .int .i64 r_24.1, .string (bs [])]⟩, ⟨40, b_2, [.int .i64 0, .int .i64 0, .int .i64 0, .int .u64 0, .int .u64 0, .int .u64 0, .int .u64 0, .bool false, .slice none ([] : List T_api_Entry).length 0, .string (bs [])]⟩, ⟨42, b_5, [.int .i64 r_4.1, .int .i64 r_6.1, .int .i64 r_7.1, .int .u64 r_8.1, .int .u64 r_9.1, .int .u64 r_10.1, .int .u64 r_11.1, .bool (r_12.1 == 1), .slice A_17 f_16.length c_18, .string (bs [])]⟩]) (ps := [b_22 = b_22]) (by kernel_rfl) (And.intro rfl trivial) ?_
      refine GoO.regionEnd ?_
      refine GoO.seq' c32_41e ?_
      refine GoO.region' (is := [0, 1, 2, 3]) c32_42e (by kernel_rfl) ?_
      refine GoO.exec (is := [0]) (hs := [.p]) (rest := [1, 2, 3]) (ks := [0, 2, 4, 5, 6, 7, 8, 55]) (env' := [(0, .string (bs s_1)), (2, .pointer (some ⟨b_2, 0, none⟩)), (4, .pointer (some ⟨b_3, 0, none⟩)), (5, .pointer (some ⟨b_5, 0, none⟩)), (6, .int .i64 r_13.1), (7, .int .i64 i_19), (8, .pointer (some ⟨b_22, 0, none⟩)), (55, .pointer (some ⟨b_3, 0, none⟩))]) (H' := [⟨41, b_3, [.string (bs r_24.2.S_), .bool r_24.2.Bad]⟩, ⟨43, b_22, [.int .u64 r_21.1, .int .u64 r_23.1, .int .i64 r_24.1, .string (bs [])]⟩, ⟨40, b_2, [.int .i64 0, .int .i64 0, .int .i64 0, .int .u64 0, .int .u64 0, .int .u64 0, .int .u64 0, .bool false, .slice none ([] : List T_api_Entry).length 0, .string (bs [])]⟩, ⟨42, b_5, [.int .i64 r_4.1, .int .i64 r_6.1, .int .i64 r_7.1, .int .u64 r_8.1, .int .u64 r_9.1, .int .u64 r_10.1, .int .u64 r_11.1, .bool (r_12.1 == 1), .slice A_17 f_16.length c_18, .string (bs [])]⟩]) (ps := []) (by kernel_rfl) trivial ?_
      refine OpTo.go (GoO.call rfl (by kernel_rfl) (by kernel_rfl) (tontineref03_Reader_Text_ok n r_24.2 65536 b_3) [[0], [41]] [(41, 1)] [(1, 0)] [] (hks := [1, 2, 3]) (bks := [0]) (by kernel_rfl) (by kernel_rfl) (by kernel_rfl) (.inl rfl) rfl rfl (by kernel_rfl) (by kernel_rfl) _ (fun _ _ => rfl) _ _ (fun _ _ => rfl) (fun _ _ => rfl) (fun _ _ => by kernel_rfl) (fun _ _ => by kernel_rfl) (fun r_25 x_31 => ?_))
      refine GoO.shape (env' := [(0, .string (bs s_1)), (2, .pointer (some ⟨b_2, 0, none⟩)), (4, .pointer (some ⟨b_3, 0, none⟩)), (5, .pointer (some ⟨b_5, 0, none⟩)), (6, .int .i64 r_13.1), (7, .int .i64 i_19), (8, .pointer (some ⟨b_22, 0, none⟩)), (55, .pointer (some ⟨b_3, 0, none⟩)), (56, .string (bs r_25.1))]) (H' := [⟨41, b_3, [.string (bs r_25.2.S_), .bool r_25.2.Bad]⟩, ⟨43, b_22, [.int .u64 r_21.1, .int .u64 r_23.1, .int .i64 r_24.1, .string (bs [])]⟩, ⟨40, b_2, [.int .i64 0, .int .i64 0, .int .i64 0, .int .u64 0, .int .u64 0, .int .u64 0, .int .u64 0, .bool false, .slice none ([] : List T_api_Entry).length 0, .string (bs [])]⟩, ⟨42, b_5, [.int .i64 r_4.1, .int .i64 r_6.1, .int .i64 r_7.1, .int .u64 r_8.1, .int .u64 r_9.1, .int .u64 r_10.1, .int .u64 r_11.1, .bool (r_12.1 == 1), .slice A_17 f_16.length c_18, .string (bs [])]⟩]) (B' := [Ow 45 kT_api_Entry A_17 c_18 f_16]) (ks := [0, 2, 4, 5, 6, 7, 8, 55, 56]) (by kernel_rfl) (by kernel_rfl) (by kernel_rfl) ?_
      refine GoO.exec (is := [2, 3]) (hs := [.p, .b 1]) (rest := []) (ks := [0, 2, 4, 5, 6, 7, 8]) (env' := [(0, .string (bs s_1)), (2, .pointer (some ⟨b_2, 0, none⟩)), (4, .pointer (some ⟨b_3, 0, none⟩)), (5, .pointer (some ⟨b_5, 0, none⟩)), (6, .int .i64 r_13.1), (7, .int .i64 i_19), (8, .pointer (some ⟨b_22, 0, none⟩))]) (H' := [⟨41, b_3, [.string (bs r_25.2.S_), .bool r_25.2.Bad]⟩, ⟨43, b_22, [.int .u64 r_21.1, .int .u64 r_23.1, .int .i64 r_24.1, .string (bs r_25.1)]⟩, ⟨40, b_2, [.int .i64 0, .int .i64 0, .int .i64 0, .int .u64 0, .int .u64 0, .int .u64 0, .int .u64 0, .bool false, .slice none ([] : List T_api_Entry).length 0, .string (bs [])]⟩, ⟨42, b_5, [.int .i64 r_4.1, .int .i64 r_6.1, .int .i64 r_7.1, .int .u64 r_8.1, .int .u64 r_9.1, .int .u64 r_10.1, .int .u64 r_11.1, .bool (r_12.1 == 1), .slice A_17 f_16.length c_18, .string (bs [])]⟩]) (ps := [b_22 = b_22]) (by kernel_rfl) (And.intro rfl trivial) ?_
      refine GoO.regionEnd ?_
      refine GoO.region' (is := [0, 1, 2, 3, 4, 5, 6]) c32_43e (by kernel_rfl) ?_
      refine GoO.exec (is := [0, 1, 2]) (hs := [.p, .b 3, .b 1]) (rest := [3, 4, 5, 6]) (ks := [0, 2, 4, 5, 6, 7, 59, 60]) (env' := [(0, .string (bs s_1)), (2, .pointer (some ⟨b_2, 0, none⟩)), (4, .pointer (some ⟨b_3, 0, none⟩)), (5, .pointer (some ⟨b_5, 0, none⟩)), (6, .int .i64 r_13.1), (7, .int .i64 i_19), (59, .slice A_17 f_16.length c_18), (60, .agg ⟨[.int .u64 r_21.1, .int .u64 r_23.1, .int .i64 r_24.1, .string (bs r_25.1)]⟩)]) (H' := [⟨41, b_3, [.string (bs r_25.2.S_), .bool r_25.2.Bad]⟩, ⟨43, b_22, [.int .u64 r_21.1, .int .u64 r_23.1, .int .i64 r_24.1, .string (bs r_25.1)]⟩, ⟨40, b_2, [.int .i64 0, .int .i64 0, .int .i64 0, .int .u64 0, .int .u64 0, .int .u64 0, .int .u64 0, .bool false, .slice none ([] : List T_api_Entry).length 0, .string (bs [])]⟩, ⟨42, b_5, [.int .i64 r_4.1, .int .i64 r_6.1, .int .i64 r_7.1, .int .u64 r_8.1, .int .u64 r_9.1, .int .u64 r_10.1, .int .u64 r_11.1, .bool (r_12.1 == 1), .slice A_17 f_16.length c_18, .string (bs [])]⟩]) (ps := [b_5 = b_5, b_22 = b_22]) (by kernel_rfl) (And.intro rfl (And.intro rfl trivial)) ?_
      refine OpTo.go (GoO.lit (e := 93) (K := kT_api_Entry) rfl (by kernel_rfl) (by kernel_rfl) (cs := [.int .u64 r_21.1, .int .u64 r_23.1, .int .i64 r_24.1, .string (bs r_25.1)]) (by kernel_rfl) [(⟨r_21.1, r_23.1, r_24.1, r_25.1⟩ : T_api_Entry)] (by kernel_rfl) (by kernel_rfl) (fun w S hB => ⟨[.int .u64 r_21.1, .int .u64 r_23.1, .int .i64 r_24.1, .string (bs r_25.1)], _, rfl, rfl, rfl⟩) 44 _ (fun _ _ => rfl) (fun A_26 c_27 => ?_))
      refine GoO.guard (fun h28 => ?_)
      refine OpTo.go (GoO.appW (e := 93) (K := kT_api_Entry) (A := A_17) (c := c_18) (tg := 45) (bytes := 40) (zs := [.int .u64 0, .int .u64 0, .int .i64 0, .string (bs [])]) (xs := f_16) (ys := [(⟨r_21.1, r_23.1, r_24.1, r_25.1⟩ : T_api_Entry)]) (xv := .slice A_26 [(⟨r_21.1, r_23.1, r_24.1, r_25.1⟩ : T_api_Entry)].length c_27) (j := 1) (bk := [0]) rfl (by kernel_rfl) (by kernel_rfl) (by kernel_rfl) (by kernel_rfl) rfl (by kernel_rfl) rfl (fun w S hB => SrcIs.row (Reads.own w S (hB _ (List.mem_of_getElem? (i := 0) rfl)))) h28 rfl rfl rfl rfl _ (fun _ _ => rfl) (fun A_29 c_30 => ?_))
      refine GoO.exec (is := [5, 6]) (hs := [.p, .b 3]) (rest := []) (ks := [0, 2, 4, 5, 6, 7]) (env' := [(0, .string (bs s_1)), (2, .pointer (some ⟨b_2, 0, none⟩)), (4, .pointer (some ⟨b_3, 0, none⟩)), (5, .pointer (some ⟨b_5, 0, none⟩)), (6, .int .i64 r_13.1), (7, .int .i64 i_19)]) (H' := [⟨41, b_3, [.string (bs r_25.2.S_), .bool r_25.2.Bad]⟩, ⟨43, b_22, [.int .u64 r_21.1, .int .u64 r_23.1, .int .i64 r_24.1, .string (bs r_25.1)]⟩, ⟨40, b_2, [.int .i64 0, .int .i64 0, .int .i64 0, .int .u64 0, .int .u64 0, .int .u64 0, .int .u64 0, .bool false, .slice none ([] : List T_api_Entry).length 0, .string (bs [])]⟩, ⟨42, b_5, [.int .i64 r_4.1, .int .i64 r_6.1, .int .i64 r_7.1, .int .u64 r_8.1, .int .u64 r_9.1, .int .u64 r_10.1, .int .u64 r_11.1, .bool (r_12.1 == 1), .slice A_29 (f_16 ++ [(⟨r_21.1, r_23.1, r_24.1, r_25.1⟩ : T_api_Entry)]).length c_30, .string (bs [])]⟩]) (ps := [b_5 = b_5]) (by kernel_rfl) (And.intro rfl trivial) ?_
      refine GoO.regionEnd ?_
      refine GoO.inBlock ?_
      refine GoO.region' (is := [0, 1, 2]) c32_44e (by kernel_rfl) ?_
      refine GoO.exec (is := [0, 1, 2]) (hs := [.p, .p, .p]) (rest := []) (ks := [0, 2, 4, 5, 6, 7]) (env' := [(0, .string (bs s_1)), (2, .pointer (some ⟨b_2, 0, none⟩)), (4, .pointer (some ⟨b_3, 0, none⟩)), (5, .pointer (some ⟨b_5, 0, none⟩)), (6, .int .i64 r_13.1), (7, .int .i64 (wi64 (i_19 + 1)))]) (H' := [⟨41, b_3, [.string (bs r_25.2.S_), .bool r_25.2.Bad]⟩, ⟨43, b_22, [.int .u64 r_21.1, .int .u64 r_23.1, .int .i64 r_24.1, .string (bs r_25.1)]⟩, ⟨40, b_2, [.int .i64 0, .int .i64 0, .int .i64 0, .int .u64 0, .int .u64 0, .int .u64 0, .int .u64 0, .bool false, .slice none ([] : List T_api_Entry).length 0, .string (bs [])]⟩, ⟨42, b_5, [.int .i64 r_4.1, .int .i64 r_6.1, .int .i64 r_7.1, .int .u64 r_8.1, .int .u64 r_9.1, .int .u64 r_10.1, .int .u64 r_11.1, .bool (r_12.1 == 1), .slice A_29 (f_16 ++ [(⟨r_21.1, r_23.1, r_24.1, r_25.1⟩ : T_api_Entry)]).length c_30, .string (bs [])]⟩]) (ps := []) (by kernel_rfl) trivial ?_
      refine GoO.regionEnd ?_
      refine GoO.inLoop ?_
      exact GoO.sub (ks := [0, 2, 4, 5, 6, 7]) (hk := [2, 0, 3]) (bk := [0]) (by kernel_rfl) (by kernel_rfl) (by kernel_rfl) (ih0 r_25.2.S_ r_25.2.Bad (f_16 ++ [(⟨r_21.1, r_23.1, r_24.1, r_25.1⟩ : T_api_Entry)]) (wi64 (i_19 + 1)) A_29 c_30)
    · refine GoO.exit' c32_32e rfl ?_
      refine GoO.seq' c32_45e ?_
      refine GoO.region' (is := [0, 1, 2, 3]) c32_46e (by kernel_rfl) ?_
      refine GoO.exec (is := [0]) (hs := [.p]) (rest := [1, 2, 3]) (ks := [0, 2, 4, 5, 64]) (env' := [(0, .string (bs s_1)), (2, .pointer (some ⟨b_2, 0, none⟩)), (4, .pointer (some ⟨b_3, 0, none⟩)), (5, .pointer (some ⟨b_5, 0, none⟩)), (64, .pointer (some ⟨b_3, 0, none⟩))]) (H' := [⟨40, b_2, [.int .i64 0, .int .i64 0, .int .i64 0, .int .u64 0, .int .u64 0, .int .u64 0, .int .u64 0, .bool false, .slice none ([] : List T_api_Entry).length 0, .string (bs [])]⟩, ⟨41, b_3, [.string (bs f_14), .bool f_15]⟩, ⟨42, b_5, [.int .i64 r_4.1, .int .i64 r_6.1, .int .i64 r_7.1, .int .u64 r_8.1, .int .u64 r_9.1, .int .u64 r_10.1, .int .u64 r_11.1, .bool (r_12.1 == 1), .slice A_17 f_16.length c_18, .string (bs [])]⟩]) (ps := []) (by kernel_rfl) trivial ?_
      refine OpTo.go (GoO.call rfl (by kernel_rfl) (by kernel_rfl) (tontineref03_Reader_Text_ok n (⟨f_14, f_15⟩ : T_tontineref03_Reader) 65536 b_3) [[0], [41]] [(41, 1)] [(1, 1)] [] (hks := [0, 2]) (bks := [0]) (by kernel_rfl) (by kernel_rfl) (by kernel_rfl) (.inl rfl) rfl rfl (by kernel_rfl) (by kernel_rfl) _ (fun _ _ => rfl) _ _ (fun _ _ => rfl) (fun _ _ => rfl) (fun _ _ => by kernel_rfl) (fun _ _ => by kernel_rfl) (fun r_35 x_43 => ?_))
      refine GoO.shape (env' := [(0, .string (bs s_1)), (2, .pointer (some ⟨b_2, 0, none⟩)), (4, .pointer (some ⟨b_3, 0, none⟩)), (5, .pointer (some ⟨b_5, 0, none⟩)), (64, .pointer (some ⟨b_3, 0, none⟩)), (65, .string (bs r_35.1))]) (H' := [⟨41, b_3, [.string (bs r_35.2.S_), .bool r_35.2.Bad]⟩, ⟨40, b_2, [.int .i64 0, .int .i64 0, .int .i64 0, .int .u64 0, .int .u64 0, .int .u64 0, .int .u64 0, .bool false, .slice none ([] : List T_api_Entry).length 0, .string (bs [])]⟩, ⟨42, b_5, [.int .i64 r_4.1, .int .i64 r_6.1, .int .i64 r_7.1, .int .u64 r_8.1, .int .u64 r_9.1, .int .u64 r_10.1, .int .u64 r_11.1, .bool (r_12.1 == 1), .slice A_17 f_16.length c_18, .string (bs [])]⟩]) (B' := [Ow 45 kT_api_Entry A_17 c_18 f_16]) (ks := [0, 2, 4, 5, 64, 65]) (by kernel_rfl) (by kernel_rfl) (by kernel_rfl) ?_
      refine GoO.exec (is := [2, 3]) (hs := [.p, .b 2]) (rest := []) (ks := [0, 2, 4, 5]) (env' := [(0, .string (bs s_1)), (2, .pointer (some ⟨b_2, 0, none⟩)), (4, .pointer (some ⟨b_3, 0, none⟩)), (5, .pointer (some ⟨b_5, 0, none⟩))]) (H' := [⟨41, b_3, [.string (bs r_35.2.S_), .bool r_35.2.Bad]⟩, ⟨40, b_2, [.int .i64 0, .int .i64 0, .int .i64 0, .int .u64 0, .int .u64 0, .int .u64 0, .int .u64 0, .bool false, .slice none ([] : List T_api_Entry).length 0, .string (bs [])]⟩, ⟨42, b_5, [.int .i64 r_4.1, .int .i64 r_6.1, .int .i64 r_7.1, .int .u64 r_8.1, .int .u64 r_9.1, .int .u64 r_10.1, .int .u64 r_11.1, .bool (r_12.1 == 1), .slice A_17 f_16.length c_18, .string (bs r_35.1)]⟩]) (ps := [b_5 = b_5]) (by kernel_rfl) (And.intro rfl trivial) ?_
      refine GoO.regionEnd ?_
      refine GoO.seq' c32_47e ?_
      refine GoO.region' (is := [0, 1, 2, 3, 4, 5, 6]) c32_48e (by kernel_rfl) ?_
      refine GoO.exec (is := [0]) (hs := [.b 2]) (rest := [1, 2, 3, 4, 5, 6]) (ks := [0, 2, 4, 5, 68]) (env' := [(0, .string (bs s_1)), (2, .pointer (some ⟨b_2, 0, none⟩)), (4, .pointer (some ⟨b_3, 0, none⟩)), (5, .pointer (some ⟨b_5, 0, none⟩)), (68, .agg ⟨[.int .i64 r_4.1, .int .i64 r_6.1, .int .i64 r_7.1, .int .u64 r_8.1, .int .u64 r_9.1, .int .u64 r_10.1, .int .u64 r_11.1, .bool (r_12.1 == 1), .slice A_17 f_16.length c_18, .string (bs r_35.1)]⟩)]) (H' := [⟨41, b_3, [.string (bs r_35.2.S_), .bool r_35.2.Bad]⟩, ⟨40, b_2, [.int .i64 0, .int .i64 0, .int .i64 0, .int .u64 0, .int .u64 0, .int .u64 0, .int .u64 0, .bool false, .slice none ([] : List T_api_Entry).length 0, .string (bs [])]⟩, ⟨42, b_5, [.int .i64 r_4.1, .int .i64 r_6.1, .int .i64 r_7.1, .int .u64 r_8.1, .int .u64 r_9.1, .int .u64 r_10.1, .int .u64 r_11.1, .bool (r_12.1 == 1), .slice A_17 f_16.length c_18, .string (bs r_35.1)]⟩]) (ps := [b_5 = b_5]) (by kernel_rfl) (And.intro rfl trivial) ?_
      refine GoO.view (j := 0) rfl ?_
      refine OpTo.go (GoO.call rfl (by kernel_rfl) (by kernel_rfl) (tontineref11_Encode_ok n (⟨r_4.1, r_6.1, r_7.1, r_8.1, r_9.1, r_10.1, r_11.1, (r_12.1 == 1), f_16, r_35.1⟩ : T_api_Letter) A_17 c_18) [[0, 45]] [] [] [(0, 1)] (hks := [0, 1, 2]) (bks := [0]) (by kernel_rfl) (by kernel_rfl) (by kernel_rfl) (.inr (fun _ _ => by simp [tontineref11_Encode.R])) rfl rfl (by kernel_rfl) (by kernel_rfl) _ (fun _ _ => rfl) _ _ (fun _ _ => rfl) (fun _ _ => rfl) (fun _ _ => by kernel_rfl) (fun _ _ => by kernel_rfl) (fun r_36 x_42 => ?_))
      refine GoO.shape (env' := [(0, .string (bs s_1)), (2, .pointer (some ⟨b_2, 0, none⟩)), (4, .pointer (some ⟨b_3, 0, none⟩)), (5, .pointer (some ⟨b_5, 0, none⟩)), (68, .agg ⟨[.int .i64 r_4.1, .int .i64 r_6.1, .int .i64 r_7.1, .int .u64 r_8.1, .int .u64 r_9.1, .int .u64 r_10.1, .int .u64 r_11.1, .bool (r_12.1 == 1), .slice A_17 f_16.length c_18, .string (bs r_35.1)]⟩), (69, .tuple ⟨[.string (bs r_36.1), .int .i64 r_36.2]⟩)]) (H' := [⟨41, b_3, [.string (bs r_35.2.S_), .bool r_35.2.Bad]⟩, ⟨40, b_2, [.int .i64 0, .int .i64 0, .int .i64 0, .int .u64 0, .int .u64 0, .int .u64 0, .int .u64 0, .bool false, .slice none ([] : List T_api_Entry).length 0, .string (bs [])]⟩, ⟨42, b_5, [.int .i64 r_4.1, .int .i64 r_6.1, .int .i64 r_7.1, .int .u64 r_8.1, .int .u64 r_9.1, .int .u64 r_10.1, .int .u64 r_11.1, .bool (r_12.1 == 1), .slice A_17 f_16.length c_18, .string (bs r_35.1)]⟩]) (B' := [Ow 45 kT_api_Entry A_17 c_18 f_16]) (ks := [0, 2, 4, 5, 68, 69]) (by kernel_rfl) (by kernel_rfl) (by kernel_rfl) ?_
      refine GoO.exec (is := [2, 3, 4, 5, 6]) (hs := [.p, .p, .p, .p, .p]) (rest := []) (ks := [0, 2, 4, 5, 9, 10]) (env' := [(0, .string (bs s_1)), (2, .pointer (some ⟨b_2, 0, none⟩)), (4, .pointer (some ⟨b_3, 0, none⟩)), (5, .pointer (some ⟨b_5, 0, none⟩)), (9, .string (bs r_36.1)), (10, .int .i64 r_36.2)]) (H' := [⟨41, b_3, [.string (bs r_35.2.S_), .bool r_35.2.Bad]⟩, ⟨40, b_2, [.int .i64 0, .int .i64 0, .int .i64 0, .int .u64 0, .int .u64 0, .int .u64 0, .int .u64 0, .bool false, .slice none ([] : List T_api_Entry).length 0, .string (bs [])]⟩, ⟨42, b_5, [.int .i64 r_4.1, .int .i64 r_6.1, .int .i64 r_7.1, .int .u64 r_8.1, .int .u64 r_9.1, .int .u64 r_10.1, .int .u64 r_11.1, .bool (r_12.1 == 1), .slice A_17 f_16.length c_18, .string (bs r_35.1)]⟩]) (ps := []) (by kernel_rfl) trivial ?_
      refine GoO.regionEnd ?_
      refine GoO.seq' c32_49e ?_
      refine GoO.seq' c32_50e ?_
      refine GoO.region' (is := [0, 1, 2, 3, 4, 5, 6, 7, 8, 9, 10, 11, 12, 13, 14, 15, 16, 17, 18, 19]) c32_51e (by kernel_rfl) ?_
      refine GoO.exec (is := [0, 1, 2, 3, 4]) (hs := [.p, .p, .p, .b 0, .p]) (rest := [5, 6, 7, 8, 9, 10, 11, 12, 13, 14, 15, 16, 17, 18, 19]) (ks := [0, 2, 4, 5, 9, 10, 76]) (env' := [(0, .string (bs s_1)), (2, .pointer (some ⟨b_2, 0, none⟩)), (4, .pointer (some ⟨b_3, 0, none⟩)), (5, .pointer (some ⟨b_5, 0, none⟩)), (9, .string (bs r_36.1)), (10, .int .i64 r_36.2), (76, .bool r_35.2.Bad)]) (H' := [⟨41, b_3, [.string (bs r_35.2.S_), .bool r_35.2.Bad]⟩, ⟨40, b_2, [.int .i64 0, .int .i64 0, .int .i64 0, .int .u64 0, .int .u64 0, .int .u64 0, .int .u64 0, .bool false, .slice none ([] : List T_api_Entry).length 0, .string (bs [])]⟩, ⟨42, b_5, [.int .i64 r_4.1, .int .i64 r_6.1, .int .i64 r_7.1, .int .u64 r_8.1, .int .u64 r_9.1, .int .u64 r_10.1, .int .u64 r_11.1, .bool (r_12.1 == 1), .slice A_17 f_16.length c_18, .string (bs r_35.1)]⟩]) (ps := [b_3 = b_3]) (by kernel_rfl) (And.intro rfl trivial) ?_
      refine GoO.bsplit (t := 76) (by kernel_rfl) (fun h37 => ?_) (fun h37 => ?_)
      · refine GoO.exec (is := [5, 6, 7, 8, 9, 10, 11, 12, 13, 14, 15, 16, 17, 18, 19]) (hs := [.p, .p, .p, .p, .p, .p, .p, .p, .p, .p, .p, .p, .p, .p, .p]) (rest := []) (ks := [2, 5, 91]) (env' := [(2, .pointer (some ⟨b_2, 0, none⟩)), (5, .pointer (some ⟨b_5, 0, none⟩)), (91, .bool true)]) (H' := [⟨41, b_3, [.string (bs r_35.2.S_), .bool r_35.2.Bad]⟩, ⟨40, b_2, [.int .i64 0, .int .i64 0, .int .i64 0, .int .u64 0, .int .u64 0, .int .u64 0, .int .u64 0, .bool false, .slice none ([] : List T_api_Entry).length 0, .string (bs [])]⟩, ⟨42, b_5, [.int .i64 r_4.1, .int .i64 r_6.1, .int .i64 r_7.1, .int .u64 r_8.1, .int .u64 r_9.1, .int .u64 r_10.1, .int .u64 r_11.1, .bool (r_12.1 == 1), .slice A_17 f_16.length c_18, .string (bs r_35.1)]⟩]) (ps := []) (by kernel_rfl) trivial ?_
        refine GoO.regionEnd ?_
        exact GoO.sub (ks := [2, 5, 91]) (hk := [1, 2]) (bk := [0]) (by kernel_rfl) (by kernel_rfl) (by kernel_rfl) (tontineref11_Decode_j0_ok n r_4 r_6 r_7 r_8 r_9 r_10 r_11 r_12 f_16 r_35 b_2 b_5 A_17 c_18 w0 S0 true)
      · refine GoO.exec (is := [5, 6, 7, 8, 9, 10, 11]) (hs := [.p, .p, .p, .b 0, .p, .p, .p]) (rest := [12, 13, 14, 15, 16, 17, 18, 19]) (ks := [0, 2, 5, 9, 10, 83]) (env' := [(0, .string (bs s_1)), (2, .pointer (some ⟨b_2, 0, none⟩)), (5, .pointer (some ⟨b_5, 0, none⟩)), (9, .string (bs r_36.1)), (10, .int .i64 r_36.2), (83, .bool (!(r_35.2.S_ == ([] : List UInt8))))]) (H' := [⟨41, b_3, [.string (bs r_35.2.S_), .bool r_35.2.Bad]⟩, ⟨40, b_2, [.int .i64 0, .int .i64 0, .int .i64 0, .int .u64 0, .int .u64 0, .int .u64 0, .int .u64 0, .bool false, .slice none ([] : List T_api_Entry).length 0, .string (bs [])]⟩, ⟨42, b_5, [.int .i64 r_4.1, .int .i64 r_6.1, .int .i64 r_7.1, .int .u64 r_8.1, .int .u64 r_9.1, .int .u64 r_10.1, .int .u64 r_11.1, .bool (r_12.1 == 1), .slice A_17 f_16.length c_18, .string (bs r_35.1)]⟩]) (ps := [b_3 = b_3]) (by kernel_rfl) (And.intro rfl trivial) ?_
        refine GoO.bsplit (t := 83) (by kernel_rfl) (fun h38 => ?_) (fun h38 => ?_)
        · refine GoO.exec (is := [12, 13, 14, 15, 16, 17, 18, 19]) (hs := [.p, .p, .p, .p, .p, .p, .p, .p]) (rest := []) (ks := [2, 5, 91]) (env' := [(2, .pointer (some ⟨b_2, 0, none⟩)), (5, .pointer (some ⟨b_5, 0, none⟩)), (91, .bool true)]) (H' := [⟨41, b_3, [.string (bs r_35.2.S_), .bool r_35.2.Bad]⟩, ⟨40, b_2, [.int .i64 0, .int .i64 0, .int .i64 0, .int .u64 0, .int .u64 0, .int .u64 0, .int .u64 0, .bool false, .slice none ([] : List T_api_Entry).length 0, .string (bs [])]⟩, ⟨42, b_5, [.int .i64 r_4.1, .int .i64 r_6.1, .int .i64 r_7.1, .int .u64 r_8.1, .int .u64 r_9.1, .int .u64 r_10.1, .int .u64 r_11.1, .bool (r_12.1 == 1), .slice A_17 f_16.length c_18, .string (bs r_35.1)]⟩]) (ps := []) (by kernel_rfl) trivial ?_
          refine GoO.regionEnd ?_
          exact GoO.sub (ks := [2, 5, 91]) (hk := [1, 2]) (bk := [0]) (by kernel_rfl) (by kernel_rfl) (by kernel_rfl) (tontineref11_Decode_j0_ok n r_4 r_6 r_7 r_8 r_9 r_10 r_11 r_12 f_16 r_35 b_2 b_5 A_17 c_18 w0 S0 true)
        · refine GoO.exec (is := [12, 13, 14, 15]) (hs := [.p, .p, .p, .p]) (rest := [16, 17, 18, 19]) (ks := [0, 2, 5, 9, 87]) (env' := [(0, .string (bs s_1)), (2, .pointer (some ⟨b_2, 0, none⟩)), (5, .pointer (some ⟨b_5, 0, none⟩)), (9, .string (bs r_36.1)), (87, .bool (r_36.2 != 0))]) (H' := [⟨41, b_3, [.string (bs r_35.2.S_), .bool r_35.2.Bad]⟩, ⟨40, b_2, [.int .i64 0, .int .i64 0, .int .i64 0, .int .u64 0, .int .u64 0, .int .u64 0, .int .u64 0, .bool false, .slice none ([] : List T_api_Entry).length 0, .string (bs [])]⟩, ⟨42, b_5, [.int .i64 r_4.1, .int .i64 r_6.1, .int .i64 r_7.1, .int .u64 r_8.1, .int .u64 r_9.1, .int .u64 r_10.1, .int .u64 r_11.1, .bool (r_12.1 == 1), .slice A_17 f_16.length c_18, .string (bs r_35.1)]⟩]) (ps := []) (by kernel_rfl) trivial ?_
          refine GoO.bsplit (t := 87) (by kernel_rfl) (fun h39 => ?_) (fun h39 => ?_)
          · refine GoO.exec (is := [16, 17, 18, 19]) (hs := [.p, .p, .p, .p]) (rest := []) (ks := [2, 5, 91]) (env' := [(2, .pointer (some ⟨b_2, 0, none⟩)), (5, .pointer (some ⟨b_5, 0, none⟩)), (91, .bool true)]) (H' := [⟨41, b_3, [.string (bs r_35.2.S_), .bool r_35.2.Bad]⟩, ⟨40, b_2, [.int .i64 0, .int .i64 0, .int .i64 0, .int .u64 0, .int .u64 0, .int .u64 0, .int .u64 0, .bool false, .slice none ([] : List T_api_Entry).length 0, .string (bs [])]⟩, ⟨42, b_5, [.int .i64 r_4.1, .int .i64 r_6.1, .int .i64 r_7.1, .int .u64 r_8.1, .int .u64 r_9.1, .int .u64 r_10.1, .int .u64 r_11.1, .bool (r_12.1 == 1), .slice A_17 f_16.length c_18, .string (bs r_35.1)]⟩]) (ps := []) (by kernel_rfl) trivial ?_
            refine GoO.regionEnd ?_
            exact GoO.sub (ks := [2, 5, 91]) (hk := [1, 2]) (bk := [0]) (by kernel_rfl) (by kernel_rfl) (by kernel_rfl) (tontineref11_Decode_j0_ok n r_4 r_6 r_7 r_8 r_9 r_10 r_11 r_12 f_16 r_35 b_2 b_5 A_17 c_18 w0 S0 true)
          · refine GoO.exec (is := [16, 17, 18, 19]) (hs := [.p, .p, .p, .p]) (rest := []) (ks := [2, 5, 91]) (env' := [(2, .pointer (some ⟨b_2, 0, none⟩)), (5, .pointer (some ⟨b_5, 0, none⟩)), (91, .bool (!(r_36.1 == s_1)))]) (H' := [⟨41, b_3, [.string (bs r_35.2.S_), .bool r_35.2.Bad]⟩, ⟨40, b_2, [.int .i64 0, .int .i64 0, .int .i64 0, .int .u64 0, .int .u64 0, .int .u64 0, .int .u64 0, .bool false, .slice none ([] : List T_api_Entry).length 0, .string (bs [])]⟩, ⟨42, b_5, [.int .i64 r_4.1, .int .i64 r_6.1, .int .i64 r_7.1, .int .u64 r_8.1, .int .u64 r_9.1, .int .u64 r_10.1, .int .u64 r_11.1, .bool (r_12.1 == 1), .slice A_17 f_16.length c_18, .string (bs r_35.1)]⟩]) (ps := []) (by kernel_rfl) trivial ?_
            refine GoO.regionEnd ?_
            exact GoO.sub (ks := [2, 5, 91]) (hk := [1, 2]) (bk := [0]) (by kernel_rfl) (by kernel_rfl) (by kernel_rfl) (tontineref11_Decode_j0_ok n r_4 r_6 r_7 r_8 r_9 r_10 r_11 r_12 f_16 r_35 b_2 b_5 A_17 c_18 w0 S0 (!(r_36.1 == s_1)))
theorem tontineref11_Decode_ok (n : Nat) (s_1 : (List UInt8)) :
    Meets Try.prog 32 [.string (bs s_1)] 0 [] [] [] (tontineref11_Decode.f n s_1) (tontineref11_Decode.R) := by
  refine Meets.of (c := c32_0) (n := 94) Try.func32 (by kernel_rfl) (by kernel_rfl) (by kernel_rfl) fun w0 S0 => ?_
  unfold tontineref11_Decode.f
  show GoO (tontineref11_Decode.cx w0 S0) [(0, .string (bs s_1))] [] [] [.code c32_0] _
  refine GoO.seq' c32_0e ?_
  refine GoO.region' (is := [0, 1]) c32_1e (by kernel_rfl) ?_
  refine OpTo.go (GoO.new rfl 40 (cs := [.int .i64 0, .int .i64 0, .int .i64 0, .int .u64 0, .int .u64 0, .int .u64 0, .int .u64 0, .bool false, .slice none ([] : List T_api_Entry).length 0, .string (bs [])]) (by kernel_rfl) _ (fun _ => rfl) (fun b_2 => ?_))
  refine GoO.exec (is := [1]) (hs := [.p]) (rest := []) (ks := [0, 2]) (env' := [(0, .string (bs s_1)), (2, .pointer (some ⟨b_2, 0, none⟩))]) (H' := [⟨40, b_2, [.int .i64 0, .int .i64 0, .int .i64 0, .int .u64 0, .int .u64 0, .int .u64 0, .int .u64 0, .bool false, .slice none ([] : List T_api_Entry).length 0, .string (bs [])]⟩]) (ps := []) (by kernel_rfl) trivial ?_
  refine GoO.regionEnd ?_
  refine GoO.seq' c32_2e ?_
  refine GoO.region' (is := [0, 1, 2, 3]) c32_3e (by kernel_rfl) ?_
  refine GoO.exec (is := [0, 1]) (hs := [.p, .p]) (rest := [2, 3]) (ks := [0, 2, 12]) (env' := [(0, .string (bs s_1)), (2, .pointer (some ⟨b_2, 0, none⟩)), (12, .agg ⟨[.string (bs s_1), .bool false]⟩)]) (H' := [⟨40, b_2, [.int .i64 0, .int .i64 0, .int .i64 0, .int .u64 0, .int .u64 0, .int .u64 0, .int .u64 0, .bool false, .slice none ([] : List T_api_Entry).length 0, .string (bs [])]⟩]) (ps := []) (by kernel_rfl) trivial ?_
  refine OpTo.go (GoO.new rfl 41 (cs := [.string (bs s_1), .bool false]) (by kernel_rfl) _ (fun _ => rfl) (fun b_3 => ?_))
  refine GoO.exec (is := [3]) (hs := [.p]) (rest := []) (ks := [0, 2, 4]) (env' := [(0, .string (bs s_1)), (2, .pointer (some ⟨b_2, 0, none⟩)), (4, .pointer (some ⟨b_3, 0, none⟩))]) (H' := [⟨41, b_3, [.string (bs s_1), .bool false]⟩, ⟨40, b_2, [.int .i64 0, .int .i64 0, .int .i64 0, .int .u64 0, .int .u64 0, .int .u64 0, .int .u64 0, .bool false, .slice none ([] : List T_api_Entry).length 0, .string (bs [])]⟩]) (ps := []) (by kernel_rfl) trivial ?_
  refine GoO.regionEnd ?_
  refine GoO.seq' c32_4e ?_
  refine GoO.region' (is := [0, 1, 2, 3, 4]) c32_5e (by kernel_rfl) ?_
  refine GoO.exec (is := [0]) (hs := [.p]) (rest := [1, 2, 3, 4]) (ks := [0, 2, 4, 14]) (env' := [(0, .string (bs s_1)), (2, .pointer (some ⟨b_2, 0, none⟩)), (4, .pointer (some ⟨b_3, 0, none⟩)), (14, .pointer (some ⟨b_3, 0, none⟩))]) (H' := [⟨41, b_3, [.string (bs s_1), .bool false]⟩, ⟨40, b_2, [.int .i64 0, .int .i64 0, .int .i64 0, .int .u64 0, .int .u64 0, .int .u64 0, .int .u64 0, .bool false, .slice none ([] : List T_api_Entry).length 0, .string (bs [])]⟩]) (ps := []) (by kernel_rfl) trivial ?_
  refine OpTo.go (GoO.call rfl (by kernel_rfl) (by kernel_rfl) (tontineref03_Reader_Up_ok n (⟨s_1, false⟩ : T_tontineref03_Reader) 9 b_3) [[0], [41]] [(41, 1)] [(1, 0)] [] (hks := [1]) (bks := []) (by kernel_rfl) (by kernel_rfl) (by kernel_rfl) (.inl rfl) rfl rfl (by kernel_rfl) (by kernel_rfl) _ (fun _ _ => rfl) _ _ (fun _ _ => rfl) (fun _ _ => rfl) (fun _ _ => by kernel_rfl) (fun _ _ => by kernel_rfl) (fun r_4 x_52 => ?_))
  refine GoO.shape (env' := [(0, .string (bs s_1)), (2, .pointer (some ⟨b_2, 0, none⟩)), (4, .pointer (some ⟨b_3, 0, none⟩)), (14, .pointer (some ⟨b_3, 0, none⟩)), (15, .int .i64 r_4.1)]) (H' := [⟨41, b_3, [.string (bs r_4.2.S_), .bool r_4.2.Bad]⟩, ⟨40, b_2, [.int .i64 0, .int .i64 0, .int .i64 0, .int .u64 0, .int .u64 0, .int .u64 0, .int .u64 0, .bool false, .slice none ([] : List T_api_Entry).length 0, .string (bs [])]⟩]) (B' := []) (ks := [0, 2, 4, 14, 15]) (by kernel_rfl) (by kernel_rfl) (by kernel_rfl) ?_
  refine GoO.exec (is := [2]) (hs := [.p]) (rest := [3, 4]) (ks := [0, 2, 4, 16]) (env' := [(0, .string (bs s_1)), (2, .pointer (some ⟨b_2, 0, none⟩)), (4, .pointer (some ⟨b_3, 0, none⟩)), (16, .agg ⟨[.int .i64 r_4.1, .int .i64 0, .int .i64 0, .int .u64 0, .int .u64 0, .int .u64 0, .int .u64 0, .bool false, .slice none ([] : List T_api_Entry).length 0, .string (bs [])]⟩)]) (H' := [⟨41, b_3, [.string (bs r_4.2.S_), .bool r_4.2.Bad]⟩, ⟨40, b_2, [.int .i64 0, .int .i64 0, .int .i64 0, .int .u64 0, .int .u64 0, .int .u64 0, .int .u64 0, .bool false, .slice none ([] : List T_api_Entry).length 0, .string (bs [])]⟩]) (ps := []) (by kernel_rfl) trivial ?_
  refine OpTo.go (GoO.new rfl 42 (cs := [.int .i64 0, .int .i64 0, .int .i64 0, .int .u64 0, .int .u64 0, .int .u64 0, .int .u64 0, .bool false, .slice none ([] : List T_api_Entry).length 0, .string (bs [])]) (by kernel_rfl) _ (fun _ => rfl) (fun b_5 => ?_))
  refine GoO.exec (is := [4]) (hs := [.b 0]) (rest := []) (ks := [0, 2, 4, 5]) (env' := [(0, .string (bs s_1)), (2, .pointer (some ⟨b_2, 0, none⟩)), (4, .pointer (some ⟨b_3, 0, none⟩)), (5, .pointer (some ⟨b_5, 0, none⟩))]) (H' := [⟨42, b_5, [.int .i64 r_4.1, .int .i64 0, .int .i64 0, .int .u64 0, .int .u64 0, .int .u64 0, .int .u64 0, .bool false, .slice none ([] : List T_api_Entry).length 0, .string (bs [])]⟩, ⟨41, b_3, [.string (bs r_4.2.S_), .bool r_4.2.Bad]⟩, ⟨40, b_2, [.int .i64 0, .int .i64 0, .int .i64 0, .int .u64 0, .int .u64 0, .int .u64 0, .int .u64 0, .bool false, .slice none ([] : List T_api_Entry).length 0, .string (bs [])]⟩]) (ps := [b_5 = b_5]) (by kernel_rfl) (And.intro rfl trivial) ?_
  refine GoO.regionEnd ?_
  refine GoO.seq' c32_6e ?_
  refine GoO.region' (is := [0, 1, 2, 3]) c32_7e (by kernel_rfl) ?_
  refine GoO.exec (is := [0]) (hs := [.p]) (rest := [1, 2, 3]) (ks := [0, 2, 4, 5, 17]) (env' := [(0, .string (bs s_1)), (2, .pointer (some ⟨b_2, 0, none⟩)), (4, .pointer (some ⟨b_3, 0, none⟩)), (5, .pointer (some ⟨b_5, 0, none⟩)), (17, .pointer (some ⟨b_3, 0, none⟩))]) (H' := [⟨42, b_5, [.int .i64 r_4.1, .int .i64 0, .int .i64 0, .int .u64 0, .int .u64 0, .int .u64 0, .int .u64 0, .bool false, .slice none ([] : List T_api_Entry).length 0, .string (bs [])]⟩, ⟨41, b_3, [.string (bs r_4.2.S_), .bool r_4.2.Bad]⟩, ⟨40, b_2, [.int .i64 0, .int .i64 0, .int .i64 0, .int .u64 0, .int .u64 0, .int .u64 0, .int .u64 0, .bool false, .slice none ([] : List T_api_Entry).length 0, .string (bs [])]⟩]) (ps := []) (by kernel_rfl) trivial ?_
  refine OpTo.go (GoO.call rfl (by kernel_rfl) (by kernel_rfl) (tontineref03_Reader_Up_ok n r_4.2 255 b_3) [[0], [41]] [(41, 1)] [(1, 1)] [] (hks := [0, 2]) (bks := []) (by kernel_rfl) (by kernel_rfl) (by kernel_rfl) (.inl rfl) rfl rfl (by kernel_rfl) (by kernel_rfl) _ (fun _ _ => rfl) _ _ (fun _ _ => rfl) (fun _ _ => rfl) (fun _ _ => by kernel_rfl) (fun _ _ => by kernel_rfl) (fun r_6 x_51 => ?_))
  refine GoO.shape (env' := [(0, .string (bs s_1)), (2, .pointer (some ⟨b_2, 0, none⟩)), (4, .pointer (some ⟨b_3, 0, none⟩)), (5, .pointer (some ⟨b_5, 0, none⟩)), (17, .pointer (some ⟨b_3, 0, none⟩)), (18, .int .i64 r_6.1)]) (H' := [⟨41, b_3, [.string (bs r_6.2.S_), .bool r_6.2.Bad]⟩, ⟨42, b_5, [.int .i64 r_4.1, .int .i64 0, .int .i64 0, .int .u64 0, .int .u64 0, .int .u64 0, .int .u64 0, .bool false, .slice none ([] : List T_api_Entry).length 0, .string (bs [])]⟩, ⟨40, b_2, [.int .i64 0, .int .i64 0, .int .i64 0, .int .u64 0, .int .u64 0, .int .u64 0, .int .u64 0, .bool false, .slice none ([] : List T_api_Entry).length 0, .string (bs [])]⟩]) (B' := []) (ks := [0, 2, 4, 5, 17, 18]) (by kernel_rfl) (by kernel_rfl) (by kernel_rfl) ?_
  refine GoO.exec (is := [2, 3]) (hs := [.p, .b 1]) (rest := []) (ks := [0, 2, 4, 5]) (env' := [(0, .string (bs s_1)), (2, .pointer (some ⟨b_2, 0, none⟩)), (4, .pointer (some ⟨b_3, 0, none⟩)), (5, .pointer (some ⟨b_5, 0, none⟩))]) (H' := [⟨41, b_3, [.string (bs r_6.2.S_), .bool r_6.2.Bad]⟩, ⟨42, b_5, [.int .i64 r_4.1, .int .i64 r_6.1, .int .i64 0, .int .u64 0, .int .u64 0, .int .u64 0, .int .u64 0, .bool false, .slice none ([] : List T_api_Entry).length 0, .string (bs [])]⟩, ⟨40, b_2, [.int .i64 0, .int .i64 0, .int .i64 0, .int .u64 0, .int .u64 0, .int .u64 0, .int .u64 0, .bool false, .slice none ([] : List T_api_Entry).length 0, .string (bs [])]⟩]) (ps := [b_5 = b_5]) (by kernel_rfl) (And.intro rfl trivial) ?_
  refine GoO.regionEnd ?_
  refine GoO.seq' c32_8e ?_
  refine GoO.region' (is := [0, 1, 2, 3]) c32_9e (by kernel_rfl) ?_
  refine GoO.exec (is := [0]) (hs := [.p]) (rest := [1, 2, 3]) (ks := [0, 2, 4, 5, 20]) (env' := [(0, .string (bs s_1)), (2, .pointer (some ⟨b_2, 0, none⟩)), (4, .pointer (some ⟨b_3, 0, none⟩)), (5, .pointer (some ⟨b_5, 0, none⟩)), (20, .pointer (some ⟨b_3, 0, none⟩))]) (H' := [⟨41, b_3, [.string (bs r_6.2.S_), .bool r_6.2.Bad]⟩, ⟨42, b_5, [.int .i64 r_4.1, .int .i64 r_6.1, .int .i64 0, .int .u64 0, .int .u64 0, .int .u64 0, .int .u64 0, .bool false, .slice none ([] : List T_api_Entry).length 0, .string (bs [])]⟩, ⟨40, b_2, [.int .i64 0, .int .i64 0, .int .i64 0, .int .u64 0, .int .u64 0, .int .u64 0, .int .u64 0, .bool false, .slice none ([] : List T_api_Entry).length 0, .string (bs [])]⟩]) (ps := []) (by kernel_rfl) trivial ?_
  refine OpTo.go (GoO.call rfl (by kernel_rfl) (by kernel_rfl) (tontineref03_Reader_Up_ok n r_6.2 255 b_3) [[0], [41]] [(41, 1)] [(1, 0)] [] (hks := [1, 2]) (bks := []) (by kernel_rfl) (by kernel_rfl) (by kernel_rfl) (.inl rfl) rfl rfl (by kernel_rfl) (by kernel_rfl) _ (fun _ _ => rfl) _ _ (fun _ _ => rfl) (fun _ _ => rfl) (fun _ _ => by kernel_rfl) (fun _ _ => by kernel_rfl) (fun r_7 x_50 => ?_))
  refine GoO.shape (env' := [(0, .string (bs s_1)), (2, .pointer (some ⟨b_2, 0, none⟩)), (4, .pointer (some ⟨b_3, 0, none⟩)), (5, .pointer (some ⟨b_5, 0, none⟩)), (20, .pointer (some ⟨b_3, 0, none⟩)), (21, .int .i64 r_7.1)]) (H' := [⟨41, b_3, [.string (bs r_7.2.S_), .bool r_7.2.Bad]⟩, ⟨42, b_5, [.int .i64 r_4.1, .int .i64 r_6.1, .int .i64 0, .int .u64 0, .int .u64 0, .int .u64 0, .int .u64 0, .bool false, .slice none ([] : List T_api_Entry).length 0, .string (bs [])]⟩, ⟨40, b_2, [.int .i64 0, .int .i64 0, .int .i64 0, .int .u64 0, .int .u64 0, .int .u64 0, .int .u64 0, .bool false, .slice none ([] : List T_api_Entry).length 0, .string (bs [])]⟩]) (B' := []) (ks := [0, 2, 4, 5, 20, 21]) (by kernel_rfl) (by kernel_rfl) (by kernel_rfl) ?_
  refine GoO.exec (is := [2, 3]) (hs := [.p, .b 1]) (rest := []) (ks := [0, 2, 4, 5]) (env' := [(0, .string (bs s_1)), (2, .pointer (some ⟨b_2, 0, none⟩)), (4, .pointer (some ⟨b_3, 0, none⟩)), (5, .pointer (some ⟨b_5, 0, none⟩))]) (H' := [⟨41, b_3, [.string (bs r_7.2.S_), .bool r_7.2.Bad]⟩, ⟨42, b_5, [.int .i64 r_4.1, .int .i64 r_6.1, .int .i64 r_7.1, .int .u64 0, .int .u64 0, .int .u64 0, .int .u64 0, .bool false, .slice none ([] : List T_api_Entry).length 0, .string (bs [])]⟩, ⟨40, b_2, [.int .i64 0, .int .i64 0, .int .i64 0, .int .u64 0, .int .u64 0, .int .u64 0, .int .u64 0, .bool false, .slice none ([] : List T_api_Entry).length 0, .string (bs [])]⟩]) (ps := [b_5 = b_5]) (by kernel_rfl) (And.intro rfl trivial) ?_
  refine GoO.regionEnd ?_
  refine GoO.seq' c32_10e ?_
  refine GoO.region' (is := [0, 1, 2, 3]) c32_11e (by kernel_rfl) ?_
  refine GoO.exec (is := [0]) (hs := [.p]) (rest := [1, 2, 3]) (ks := [0, 2, 4, 5, 23]) (env' := [(0, .string (bs s_1)), (2, .pointer (some ⟨b_2, 0, none⟩)), (4, .pointer (some ⟨b_3, 0, none⟩)), (5, .pointer (some ⟨b_5, 0, none⟩)), (23, .pointer (some ⟨b_3, 0, none⟩))]) (H' := [⟨41, b_3, [.string (bs r_7.2.S_), .bool r_7.2.Bad]⟩, ⟨42, b_5, [.int .i64 r_4.1, .int .i64 r_6.1, .int .i64 r_7.1, .int .u64 0, .int .u64 0, .int .u64 0, .int .u64 0, .bool false, .slice none ([] : List T_api_Entry).length 0, .string (bs [])]⟩, ⟨40, b_2, [.int .i64 0, .int .i64 0, .int .i64 0, .int .u64 0, .int .u64 0, .int .u64 0, .int .u64 0, .bool false, .slice none ([] : List T_api_Entry).length 0, .string (bs [])]⟩]) (ps := []) (by kernel_rfl) trivial ?_
  refine OpTo.go (GoO.call rfl (by kernel_rfl) (by kernel_rfl) (tontineref03_Reader_Num_ok n r_7.2 b_3) [[0], [41]] [(41, 1)] [(1, 0)] [] (hks := [1, 2]) (bks := []) (by kernel_rfl) (by kernel_rfl) (by kernel_rfl) (.inl rfl) rfl rfl (by kernel_rfl) (by kernel_rfl) _ (fun _ _ => rfl) _ _ (fun _ _ => rfl) (fun _ _ => rfl) (fun _ _ => by kernel_rfl) (fun _ _ => by kernel_rfl) (fun r_8 x_49 => ?_))
  refine GoO.shape (env' := [(0, .string (bs s_1)), (2, .pointer (some ⟨b_2, 0, none⟩)), (4, .pointer (some ⟨b_3, 0, none⟩)), (5, .pointer (some ⟨b_5, 0, none⟩)), (23, .pointer (some ⟨b_3, 0, none⟩)), (24, .int .u64 r_8.1)]) (H' := [⟨41, b_3, [.string (bs r_8.2.S_), .bool r_8.2.Bad]⟩, ⟨42, b_5, [.int .i64 r_4.1, .int .i64 r_6.1, .int .i64 r_7.1, .int .u64 0, .int .u64 0, .int .u64 0, .int .u64 0, .bool false, .slice none ([] : List T_api_Entry).length 0, .string (bs [])]⟩, ⟨40, b_2, [.int .i64 0, .int .i64 0, .int .i64 0, .int .u64 0, .int .u64 0, .int .u64 0, .int .u64 0, .bool false, .slice none ([] : List T_api_Entry).length 0, .string (bs [])]⟩]) (B' := []) (ks := [0, 2, 4, 5, 23, 24]) (by kernel_rfl) (by kernel_rfl) (by kernel_rfl) ?_
  refine GoO.exec (is := [2, 3]) (hs := [.p, .b 1]) (rest := []) (ks := [0, 2, 4, 5]) (env' := [(0, .string (bs s_1)), (2, .pointer (some ⟨b_2, 0, none⟩)), (4, .pointer (some ⟨b_3, 0, none⟩)), (5, .pointer (some ⟨b_5, 0, none⟩))]) (H' := [⟨41, b_3, [.string (bs r_8.2.S_), .bool r_8.2.Bad]⟩, ⟨42, b_5, [.int .i64 r_4.1, .int .i64 r_6.1, .int .i64 r_7.1, .int .u64 r_8.1, .int .u64 0, .int .u64 0, .int .u64 0, .bool false, .slice none ([] : List T_api_Entry).length 0, .string (bs [])]⟩, ⟨40, b_2, [.int .i64 0, .int .i64 0, .int .i64 0, .int .u64 0, .int .u64 0, .int .u64 0, .int .u64 0, .bool false, .slice none ([] : List T_api_Entry).length 0, .string (bs [])]⟩]) (ps := [b_5 = b_5]) (by kernel_rfl) (And.intro rfl trivial) ?_
  refine GoO.regionEnd ?_
  refine GoO.seq' c32_12e ?_
  refine GoO.region' (is := [0, 1, 2, 3]) c32_13e (by kernel_rfl) ?_
  refine GoO.exec (is := [0]) (hs := [.p]) (rest := [1, 2, 3]) (ks := [0, 2, 4, 5, 26]) (env' := [(0, .string (bs s_1)), (2, .pointer (some ⟨b_2, 0, none⟩)), (4, .pointer (some ⟨b_3, 0, none⟩)), (5, .pointer (some ⟨b_5, 0, none⟩)), (26, .pointer (some ⟨b_3, 0, none⟩))]) (H' := [⟨41, b_3, [.string (bs r_8.2.S_), .bool r_8.2.Bad]⟩, ⟨42, b_5, [.int .i64 r_4.1, .int .i64 r_6.1, .int .i64 r_7.1, .int .u64 r_8.1, .int .u64 0, .int .u64 0, .int .u64 0, .bool false, .slice none ([] : List T_api_Entry).length 0, .string (bs [])]⟩, ⟨40, b_2, [.int .i64 0, .int .i64 0, .int .i64 0, .int .u64 0, .int .u64 0, .int .u64 0, .int .u64 0, .bool false, .slice none ([] : List T_api_Entry).length 0, .string (bs [])]⟩]) (ps := []) (by kernel_rfl) trivial ?_
  refine OpTo.go (GoO.call rfl (by kernel_rfl) (by kernel_rfl) (tontineref03_Reader_Num_ok n r_8.2 b_3) [[0], [41]] [(41, 1)] [(1, 0)] [] (hks := [1, 2]) (bks := []) (by kernel_rfl) (by kernel_rfl) (by kernel_rfl) (.inl rfl) rfl rfl (by kernel_rfl) (by kernel_rfl) _ (fun _ _ => rfl) _ _ (fun _ _ => rfl) (fun _ _ => rfl) (fun _ _ => by kernel_rfl) (fun _ _ => by kernel_rfl) (fun r_9 x_48 => ?_))
  refine GoO.shape (env' := [(0, .string (bs s_1)), (2, .pointer (some ⟨b_2, 0, none⟩)), (4, .pointer (some ⟨b_3, 0, none⟩)), (5, .pointer (some ⟨b_5, 0, none⟩)), (26, .pointer (some ⟨b_3, 0, none⟩)), (27, .int .u64 r_9.1)]) (H' := [⟨41, b_3, [.string (bs r_9.2.S_), .bool r_9.2.Bad]⟩, ⟨42, b_5, [.int .i64 r_4.1, .int .i64 r_6.1, .int .i64 r_7.1, .int .u64 r_8.1, .int .u64 0, .int .u64 0, .int .u64 0, .bool false, .slice none ([] : List T_api_Entry).length 0, .string (bs [])]⟩, ⟨40, b_2, [.int .i64 0, .int .i64 0, .int .i64 0, .int .u64 0, .int .u64 0, .int .u64 0, .int .u64 0, .bool false, .slice none ([] : List T_api_Entry).length 0, .string (bs [])]⟩]) (B' := []) (ks := [0, 2, 4, 5, 26, 27]) (by kernel_rfl) (by kernel_rfl) (by kernel_rfl) ?_
  refine GoO.exec (is := [2, 3]) (hs := [.p, .b 1]) (rest := []) (ks := [0, 2, 4, 5]) (env' := [(0, .string (bs s_1)), (2, .pointer (some ⟨b_2, 0, none⟩)), (4, .pointer (some ⟨b_3, 0, none⟩)), (5, .pointer (some ⟨b_5, 0, none⟩))]) (H' := [⟨41, b_3, [.string (bs r_9.2.S_), .bool r_9.2.Bad]⟩, ⟨42, b_5, [.int .i64 r_4.1, .int .i64 r_6.1, .int .i64 r_7.1, .int .u64 r_8.1, .int .u64 r_9.1, .int .u64 0, .int .u64 0, .bool false, .slice none ([] : List T_api_Entry).length 0, .string (bs [])]⟩, ⟨40, b_2, [.int .i64 0, .int .i64 0, .int .i64 0, .int .u64 0, .int .u64 0, .int .u64 0, .int .u64 0, .bool false, .slice none ([] : List T_api_Entry).length 0, .string (bs [])]⟩]) (ps := [b_5 = b_5]) (by kernel_rfl) (And.intro rfl trivial) ?_
  refine GoO.regionEnd ?_
  refine GoO.seq' c32_14e ?_
  refine GoO.region' (is := [0, 1, 2, 3]) c32_15e (by kernel_rfl) ?_
  refine GoO.exec (is := [0]) (hs := [.p]) (rest := [1, 2, 3]) (ks := [0, 2, 4, 5, 29]) (env' := [(0, .string (bs s_1)), (2, .pointer (some ⟨b_2, 0, none⟩)), (4, .pointer (some ⟨b_3, 0, none⟩)), (5, .pointer (some ⟨b_5, 0, none⟩)), (29, .pointer (some ⟨b_3, 0, none⟩))]) (H' := [⟨41, b_3, [.string (bs r_9.2.S_), .bool r_9.2.Bad]⟩, ⟨42, b_5, [.int .i64 r_4.1, .int .i64 r_6.1, .int .i64 r_7.1, .int .u64 r_8.1, .int .u64 r_9.1, .int .u64 0, .int .u64 0, .bool false, .slice none ([] : List T_api_Entry).length 0, .string (bs [])]⟩, ⟨40, b_2, [.int .i64 0, .int .i64 0, .int .i64 0, .int .u64 0, .int .u64 0, .int .u64 0, .int .u64 0, .bool false, .slice none ([] : List T_api_Entry).length 0, .string (bs [])]⟩]) (ps := []) (by kernel_rfl) trivial ?_
  refine OpTo.go (GoO.call rfl (by kernel_rfl) (by kernel_rfl) (tontineref03_Reader_Num_ok n r_9.2 b_3) [[0], [41]] [(41, 1)] [(1, 0)] [] (hks := [1, 2]) (bks := []) (by kernel_rfl) (by kernel_rfl) (by kernel_rfl) (.inl rfl) rfl rfl (by kernel_rfl) (by kernel_rfl) _ (fun _ _ => rfl) _ _ (fun _ _ => rfl) (fun _ _ => rfl) (fun _ _ => by kernel_rfl) (fun _ _ => by kernel_rfl) (fun r_10 x_47 => ?_))
  refine GoO.shape (env' := [(0, .string (bs s_1)), (2, .pointer (some ⟨b_2, 0, none⟩)), (4, .pointer (some ⟨b_3, 0, none⟩)), (5, .pointer (some ⟨b_5, 0, none⟩)), (29, .pointer (some ⟨b_3, 0, none⟩)), (30, .int .u64 r_10.1)]) (H' := [⟨41, b_3, [.string (bs r_10.2.S_), .bool r_10.2.Bad]⟩, ⟨42, b_5, [.int .i64 r_4.1, .int .i64 r_6.1, .int .i64 r_7.1, .int .u64 r_8.1, .int .u64 r_9.1, .int .u64 0, .int .u64 0, .bool false, .slice none ([] : List T_api_Entry).length 0, .string (bs [])]⟩, ⟨40, b_2, [.int .i64 0, .int .i64 0, .int .i64 0, .int .u64 0, .int .u64 0, .int .u64 0, .int .u64 0, .bool false, .slice none ([] : List T_api_Entry).length 0, .string (bs [])]⟩]) (B' := []) (ks := [0, 2, 4, 5, 29, 30]) (by kernel_rfl) (by kernel_rfl) (by kernel_rfl) ?_
  refine GoO.exec (is := [2, 3]) (hs := [.p, .b 1]) (rest := []) (ks := [0, 2, 4, 5]) (env' := [(0, .string (bs s_1)), (2, .pointer (some ⟨b_2, 0, none⟩)), (4, .pointer (some ⟨b_3, 0, none⟩)), (5, .pointer (some ⟨b_5, 0, none⟩))]) (H' := [⟨41, b_3, [.string (bs r_10.2.S_), .bool r_10.2.Bad]⟩, ⟨42, b_5, [.int .i64 r_4.1, .int .i64 r_6.1, .int .i64 r_7.1, .int .u64 r_8.1, .int .u64 r_9.1, .int .u64 r_10.1, .int .u64 0, .bool false, .slice none ([] : List T_api_Entry).length 0, .string (bs [])]⟩, ⟨40, b_2, [.int .i64 0, .int .i64 0, .int .i64 0, .int .u64 0, .int .u64 0, .int .u64 0, .int .u64 0, .bool false, .slice none ([] : List T_api_Entry).length 0, .string (bs [])]⟩]) (ps := [b_5 = b_5]) (by kernel_rfl) (And.intro rfl trivial) ?_
  refine GoO.regionEnd ?_
  refine GoO.seq' c32_16e ?_
  refine GoO.region' (is := [0, 1, 2, 3]) c32_17e (by kernel_rfl) ?_
  refine GoO.exec (is := [0]) (hs := [.p]) (rest := [1, 2, 3]) (ks := [0, 2, 4, 5, 32]) (env' := [(0, .string (bs s_1)), (2, .pointer (some ⟨b_2, 0, none⟩)), (4, .pointer (some ⟨b_3, 0, none⟩)), (5, .pointer (some ⟨b_5, 0, none⟩)), (32, .pointer (some ⟨b_3, 0, none⟩))]) (H' := [⟨41, b_3, [.string (bs r_10.2.S_), .bool r_10.2.Bad]⟩, ⟨42, b_5, [.int .i64 r_4.1, .int .i64 r_6.1, .int .i64 r_7.1, .int .u64 r_8.1, .int .u64 r_9.1, .int .u64 r_10.1, .int .u64 0, .bool false, .slice none ([] : List T_api_Entry).length 0, .string (bs [])]⟩, ⟨40, b_2, [.int .i64 0, .int .i64 0, .int .i64 0, .int .u64 0, .int .u64 0, .int .u64 0, .int .u64 0, .bool false, .slice none ([] : List T_api_Entry).length 0, .string (bs [])]⟩]) (ps := []) (by kernel_rfl) trivial ?_
  refine OpTo.go (GoO.call rfl (by kernel_rfl) (by kernel_rfl) (tontineref03_Reader_Num_ok n r_10.2 b_3) [[0], [41]] [(41, 1)] [(1, 0)] [] (hks := [1, 2]) (bks := []) (by kernel_rfl) (by kernel_rfl) (by kernel_rfl) (.inl rfl) rfl rfl (by kernel_rfl) (by kernel_rfl) _ (fun _ _ => rfl) _ _ (fun _ _ => rfl) (fun _ _ => rfl) (fun _ _ => by kernel_rfl) (fun _ _ => by kernel_rfl) (fun r_11 x_46 => ?_))
  refine GoO.shape (env' := [(0, .string (bs s_1)), (2, .pointer (some ⟨b_2, 0, none⟩)), (4, .pointer (some ⟨b_3, 0, none⟩)), (5, .pointer (some ⟨b_5, 0, none⟩)), (32, .pointer (some ⟨b_3, 0, none⟩)), (33, .int .u64 r_11.1)]) (H' := [⟨41, b_3, [.string (bs r_11.2.S_), .bool r_11.2.Bad]⟩, ⟨42, b_5, [.int .i64 r_4.1, .int .i64 r_6.1, .int .i64 r_7.1, .int .u64 r_8.1, .int .u64 r_9.1, .int .u64 r_10.1, .int .u64 0, .bool false, .slice none ([] : List T_api_Entry).length 0, .string (bs [])]⟩, ⟨40, b_2, [.int .i64 0, .int .i64 0, .int .i64 0, .int .u64 0, .int .u64 0, .int .u64 0, .int .u64 0, .bool false, .slice none ([] : List T_api_Entry).length 0, .string (bs [])]⟩]) (B' := []) (ks := [0, 2, 4, 5, 32, 33]) (by kernel_rfl) (by kernel_rfl) (by kernel_rfl) ?_
  refine GoO.exec (is := [2, 3]) (hs := [.p, .b 1]) (rest := []) (ks := [0, 2, 4, 5]) (env' := [(0, .string (bs s_1)), (2, .pointer (some ⟨b_2, 0, none⟩)), (4, .pointer (some ⟨b_3, 0, none⟩)), (5, .pointer (some ⟨b_5, 0, none⟩))]) (H' := [⟨41, b_3, [.string (bs r_11.2.S_), .bool r_11.2.Bad]⟩, ⟨42, b_5, [.int .i64 r_4.1, .int .i64 r_6.1, .int .i64 r_7.1, .int .u64 r_8.1, .int .u64 r_9.1, .int .u64 r_10.1, .int .u64 r_11.1, .bool false, .slice none ([] : List T_api_Entry).length 0, .string (bs [])]⟩, ⟨40, b_2, [.int .i64 0, .int .i64 0, .int .i64 0, .int .u64 0, .int .u64 0, .int .u64 0, .int .u64 0, .bool false, .slice none ([] : List T_api_Entry).length 0, .string (bs [])]⟩]) (ps := [b_5 = b_5]) (by kernel_rfl) (And.intro rfl trivial) ?_
  refine GoO.regionEnd ?_
  refine GoO.seq' c32_18e ?_
  refine GoO.region' (is := [0, 1, 2, 3, 4]) c32_19e (by kernel_rfl) ?_
  refine GoO.exec (is := [0]) (hs := [.p]) (rest := [1, 2, 3, 4]) (ks := [0, 2, 4, 5, 35]) (env' := [(0, .string (bs s_1)), (2, .pointer (some ⟨b_2, 0, none⟩)), (4, .pointer (some ⟨b_3, 0, none⟩)), (5, .pointer (some ⟨b_5, 0, none⟩)), (35, .pointer (some ⟨b_3, 0, none⟩))]) (H' := [⟨41, b_3, [.string (bs r_11.2.S_), .bool r_11.2.Bad]⟩, ⟨42, b_5, [.int .i64 r_4.1, .int .i64 r_6.1, .int .i64 r_7.1, .int .u64 r_8.1, .int .u64 r_9.1, .int .u64 r_10.1, .int .u64 r_11.1, .bool false, .slice none ([] : List T_api_Entry).length 0, .string (bs [])]⟩, ⟨40, b_2, [.int .i64 0, .int .i64 0, .int .i64 0, .int .u64 0, .int .u64 0, .int .u64 0, .int .u64 0, .bool false, .slice none ([] : List T_api_Entry).length 0, .string (bs [])]⟩]) (ps := []) (by kernel_rfl) trivial ?_
  refine OpTo.go (GoO.call rfl (by kernel_rfl) (by kernel_rfl) (tontineref03_Reader_Up_ok n r_11.2 1 b_3) [[0], [41]] [(41, 1)] [(1, 0)] [] (hks := [1, 2]) (bks := []) (by kernel_rfl) (by kernel_rfl) (by kernel_rfl) (.inl rfl) rfl rfl (by kernel_rfl) (by kernel_rfl) _ (fun _ _ => rfl) _ _ (fun _ _ => rfl) (fun _ _ => rfl) (fun _ _ => by kernel_rfl) (fun _ _ => by kernel_rfl) (fun r_12 x_45 => ?_))
  refine GoO.shape (env' := [(0, .string (bs s_1)), (2, .pointer (some ⟨b_2, 0, none⟩)), (4, .pointer (some ⟨b_3, 0, none⟩)), (5, .pointer (some ⟨b_5, 0, none⟩)), (35, .pointer (some ⟨b_3, 0, none⟩)), (36, .int .i64 r_12.1)]) (H' := [⟨41, b_3, [.string (bs r_12.2.S_), .bool r_12.2.Bad]⟩, ⟨42, b_5, [.int .i64 r_4.1, .int .i64 r_6.1, .int .i64 r_7.1, .int .u64 r_8.1, .int .u64 r_9.1, .int .u64 r_10.1, .int .u64 r_11.1, .bool false, .slice none ([] : List T_api_Entry).length 0, .string (bs [])]⟩, ⟨40, b_2, [.int .i64 0, .int .i64 0, .int .i64 0, .int .u64 0, .int .u64 0, .int .u64 0, .int .u64 0, .bool false, .slice none ([] : List T_api_Entry).length 0, .string (bs [])]⟩]) (B' := []) (ks := [0, 2, 4, 5, 35, 36]) (by kernel_rfl) (by kernel_rfl) (by kernel_rfl) ?_
  refine GoO.exec (is := [2, 3, 4]) (hs := [.p, .p, .b 1]) (rest := []) (ks := [0, 2, 4, 5]) (env' := [(0, .string (bs s_1)), (2, .pointer (some ⟨b_2, 0, none⟩)), (4, .pointer (some ⟨b_3, 0, none⟩)), (5, .pointer (some ⟨b_5, 0, none⟩))]) (H' := [⟨41, b_3, [.string (bs r_12.2.S_), .bool r_12.2.Bad]⟩, ⟨42, b_5, [.int .i64 r_4.1, .int .i64 r_6.1, .int .i64 r_7.1, .int .u64 r_8.1, .int .u64 r_9.1, .int .u64 r_10.1, .int .u64 r_11.1, .bool (r_12.1 == 1), .slice none ([] : List T_api_Entry).length 0, .string (bs [])]⟩, ⟨40, b_2, [.int .i64 0, .int .i64 0, .int .i64 0, .int .u64 0, .int .u64 0, .int .u64 0, .int .u64 0, .bool false, .slice none ([] : List T_api_Entry).length 0, .string (bs [])]⟩]) (ps := [b_5 = b_5]) (by kernel_rfl) (And.intro rfl trivial) ?_
  refine GoO.regionEnd ?_
  refine GoO.seq' c32_20e ?_
  refine GoO.region' (is := [0, 1, 2]) c32_21e (by kernel_rfl) ?_
  refine GoO.exec (is := [0]) (hs := [.p]) (rest := [1, 2]) (ks := [0, 2, 4, 5, 39]) (env' := [(0, .string (bs s_1)), (2, .pointer (some ⟨b_2, 0, none⟩)), (4, .pointer (some ⟨b_3, 0, none⟩)), (5, .pointer (some ⟨b_5, 0, none⟩)), (39, .pointer (some ⟨b_3, 0, none⟩))]) (H' := [⟨41, b_3, [.string (bs r_12.2.S_), .bool r_12.2.Bad]⟩, ⟨42, b_5, [.int .i64 r_4.1, .int .i64 r_6.1, .int .i64 r_7.1, .int .u64 r_8.1, .int .u64 r_9.1, .int .u64 r_10.1, .int .u64 r_11.1, .bool (r_12.1 == 1), .slice none ([] : List T_api_Entry).length 0, .string (bs [])]⟩, ⟨40, b_2, [.int .i64 0, .int .i64 0, .int .i64 0, .int .u64 0, .int .u64 0, .int .u64 0, .int .u64 0, .bool false, .slice none ([] : List T_api_Entry).length 0, .string (bs [])]⟩]) (ps := []) (by kernel_rfl) trivial ?_
  refine OpTo.go (GoO.call rfl (by kernel_rfl) (by kernel_rfl) (tontineref03_Reader_Up_ok n r_12.2 8 b_3) [[0], [41]] [(41, 1)] [(1, 0)] [] (hks := [1, 2]) (bks := []) (by kernel_rfl) (by kernel_rfl) (by kernel_rfl) (.inl rfl) rfl rfl (by kernel_rfl) (by kernel_rfl) _ (fun _ _ => rfl) _ _ (fun _ _ => rfl) (fun _ _ => rfl) (fun _ _ => by kernel_rfl) (fun _ _ => by kernel_rfl) (fun r_13 x_44 => ?_))
  refine GoO.shape (env' := [(0, .string (bs s_1)), (2, .pointer (some ⟨b_2, 0, none⟩)), (4, .pointer (some ⟨b_3, 0, none⟩)), (5, .pointer (some ⟨b_5, 0, none⟩)), (39, .pointer (some ⟨b_3, 0, none⟩)), (40, .int .i64 r_13.1)]) (H' := [⟨41, b_3, [.string (bs r_13.2.S_), .bool r_13.2.Bad]⟩, ⟨42, b_5, [.int .i64 r_4.1, .int .i64 r_6.1, .int .i64 r_7.1, .int .u64 r_8.1, .int .u64 r_9.1, .int .u64 r_10.1, .int .u64 r_11.1, .bool (r_12.1 == 1), .slice none ([] : List T_api_Entry).length 0, .string (bs [])]⟩, ⟨40, b_2, [.int .i64 0, .int .i64 0, .int .i64 0, .int .u64 0, .int .u64 0, .int .u64 0, .int .u64 0, .bool false, .slice none ([] : List T_api_Entry).length 0, .string (bs [])]⟩]) (B' := []) (ks := [0, 2, 4, 5, 39, 40]) (by kernel_rfl) (by kernel_rfl) (by kernel_rfl) ?_
  refine GoO.exec (is := [2]) (hs := [.p]) (rest := []) (ks := [0, 2, 4, 5, 6]) (env' := [(0, .string (bs s_1)), (2, .pointer (some ⟨b_2, 0, none⟩)), (4, .pointer (some ⟨b_3, 0, none⟩)), (5, .pointer (some ⟨b_5, 0, none⟩)), (6, .int .i64 r_13.1)]) (H' := [⟨41, b_3, [.string (bs r_13.2.S_), .bool r_13.2.Bad]⟩, ⟨42, b_5, [.int .i64 r_4.1, .int .i64 r_6.1, .int .i64 r_7.1, .int .u64 r_8.1, .int .u64 r_9.1, .int .u64 r_10.1, .int .u64 r_11.1, .bool (r_12.1 == 1), .slice none ([] : List T_api_Entry).length 0, .string (bs [])]⟩, ⟨40, b_2, [.int .i64 0, .int .i64 0, .int .i64 0, .int .u64 0, .int .u64 0, .int .u64 0, .int .u64 0, .bool false, .slice none ([] : List T_api_Entry).length 0, .string (bs [])]⟩]) (ps := []) (by kernel_rfl) trivial ?_
  refine GoO.regionEnd ?_
  refine GoO.seq' c32_22e ?_
  refine GoO.seq' c32_23e ?_
  refine GoO.region' (is := [0]) c32_24e (by kernel_rfl) ?_
  refine GoO.exec (is := [0]) (hs := [.p]) (rest := []) (ks := [0, 2, 4, 5, 6, 7]) (env' := [(0, .string (bs s_1)), (2, .pointer (some ⟨b_2, 0, none⟩)), (4, .pointer (some ⟨b_3, 0, none⟩)), (5, .pointer (some ⟨b_5, 0, none⟩)), (6, .int .i64 r_13.1), (7, .int .i64 0)]) (H' := [⟨41, b_3, [.string (bs r_13.2.S_), .bool r_13.2.Bad]⟩, ⟨42, b_5, [.int .i64 r_4.1, .int .i64 r_6.1, .int .i64 r_7.1, .int .u64 r_8.1, .int .u64 r_9.1, .int .u64 r_10.1, .int .u64 r_11.1, .bool (r_12.1 == 1), .slice none ([] : List T_api_Entry).length 0, .string (bs [])]⟩, ⟨40, b_2, [.int .i64 0, .int .i64 0, .int .i64 0, .int .u64 0, .int .u64 0, .int .u64 0, .int .u64 0, .bool false, .slice none ([] : List T_api_Entry).length 0, .string (bs [])]⟩]) (ps := []) (by kernel_rfl) trivial ?_
  refine GoO.regionEnd ?_
  refine GoO.block' c32_25e ?_
  refine GoO.loop' c32_26e ?_
  refine GoO.nilOwn kT_api_Entry 45 ?_
  exact GoO.sub (ks := [0, 2, 4, 5, 6, 7]) (hk := [2, 0, 1]) (bk := [0]) (by kernel_rfl) (by kernel_rfl) (by kernel_rfl) (tontineref11_Decode_l0_ok n s_1 r_4 r_6 r_7 r_8 r_9 r_10 r_11 r_12 r_13 b_2 b_3 b_5 w0 S0 n r_13.2.S_ r_13.2.Bad ([] : List T_api_Entry) 0 none 0)

/-! tontine/tontineref07.Same -/
noncomputable def c56_0 : Code := bodyOf Try.f56
noncomputable def c56_1 : Code := cdL c56_0
noncomputable def c56_2 : Code := cdR c56_0
noncomputable def c56_3 : Code := cdL c56_2
noncomputable def c56_4 : Code := cdL c56_3
noncomputable def c56_5 : Code := cdR c56_3
noncomputable def c56_6 : Code := cdL c56_5
noncomputable def c56_7 : Code := cdL c56_6
noncomputable def c56_8 : Code := cdR c56_6
noncomputable def c56_9 : Code := cdR c56_5
noncomputable def c56_10 : Code := cdR c56_2
noncomputable def c56_11 : Code := cdL c56_10
noncomputable def c56_12 : Code := cdL c56_11
noncomputable def c56_13 : Code := cdR c56_11
noncomputable def c56_14 : Code := cdL c56_13
noncomputable def c56_15 : Code := cdL c56_14
noncomputable def c56_16 : Code := cdL c56_15
noncomputable def c56_17 : Code := cdL c56_16
noncomputable def c56_18 : Code := cdR c56_16
noncomputable def c56_19 : Code := cdL c56_18
noncomputable def c56_20 : Code := cdR c56_18
noncomputable def c56_21 : Code := cdR c56_15
noncomputable def c56_22 : Code := cdL c56_21
noncomputable def c56_23 : Code := cdL c56_22
noncomputable def c56_24 : Code := cdL c56_23
noncomputable def c56_25 : Code := cdR c56_23
noncomputable def c56_26 : Code := cdL c56_25
noncomputable def c56_27 : Code := cdL c56_26
noncomputable def c56_28 : Code := cdR c56_26
noncomputable def c56_29 : Code := cdR c56_25
noncomputable def c56_30 : Code := cdR c56_21
noncomputable def c56_31 : Code := cdR c56_10
noncomputable def c56_32 : Code := cdL c56_31
noncomputable def c56_33 : Code := cdR c56_31
noncomputable def r56_1 : Array Oper := cdO c56_1
noncomputable def r56_4 : Array Oper := cdO c56_4
noncomputable def r56_7 : Array Oper := cdO c56_7
noncomputable def r56_12 : Array Oper := cdO c56_12
noncomputable def r56_17 : Array Oper := cdO c56_17
noncomputable def r56_24 : Array Oper := cdO c56_24
noncomputable def r56_27 : Array Oper := cdO c56_27
noncomputable def r56_30 : Array Oper := cdO c56_30
noncomputable def r56_32 : Array Oper := cdO c56_32
theorem c56_0e : c56_0 = .seq c56_1 c56_2 := by kernel_rfl
theorem c56_1e : c56_1 = .region 0 r56_1 false := by kernel_rfl
theorem c56_2e : c56_2 = .seq c56_3 c56_10 := by kernel_rfl
theorem c56_3e : c56_3 = .seq c56_4 c56_5 := by kernel_rfl
theorem c56_4e : c56_4 = .region 1 r56_4 false := by kernel_rfl
theorem c56_5e : c56_5 = .cond (cdC c56_5) c56_6 c56_9 := by kernel_rfl
theorem c56_6e : c56_6 = .seq c56_7 c56_8 := by kernel_rfl
theorem c56_7e : c56_7 = .region 2 r56_7 false := by kernel_rfl
theorem c56_8e : c56_8 = .ret := by kernel_rfl
theorem c56_9e : c56_9 = .skip := by kernel_rfl
theorem c56_10e : c56_10 = .seq c56_11 c56_31 := by kernel_rfl
theorem c56_11e : c56_11 = .seq c56_12 c56_13 := by kernel_rfl
theorem c56_12e : c56_12 = .region 3 r56_12 false := by kernel_rfl
theorem c56_13e : c56_13 = .block 0 c56_14 := by kernel_rfl
theorem c56_14e : c56_14 = .loop c56_15 := by kernel_rfl
theorem c56_15e : c56_15 = .seq c56_16 c56_21 := by kernel_rfl
theorem c56_16e : c56_16 = .seq c56_17 c56_18 := by kernel_rfl
theorem c56_17e : c56_17 = .region 4 r56_17 false := by kernel_rfl
theorem c56_18e : c56_18 = .cond (cdC c56_18) c56_19 c56_20 := by kernel_rfl
theorem c56_19e : c56_19 = .skip := by kernel_rfl
theorem c56_20e : c56_20 = .exit 0 := by kernel_rfl
theorem c56_21e : c56_21 = .seq c56_22 c56_30 := by kernel_rfl
theorem c56_22e : c56_22 = .block 1 c56_23 := by kernel_rfl
theorem c56_23e : c56_23 = .seq c56_24 c56_25 := by kernel_rfl
theorem c56_24e : c56_24 = .region 6 r56_24 true := by kernel_rfl
theorem c56_25e : c56_25 = .cond (cdC c56_25) c56_26 c56_29 := by kernel_rfl
theorem c56_26e : c56_26 = .seq c56_27 c56_28 := by kernel_rfl
theorem c56_27e : c56_27 = .region 7 r56_27 false := by kernel_rfl
theorem c56_28e : c56_28 = .ret := by kernel_rfl
theorem c56_29e : c56_29 = .skip := by kernel_rfl
theorem c56_30e : c56_30 = .region 5 r56_30 false := by kernel_rfl
theorem c56_31e : c56_31 = .seq c56_32 c56_33 := by kernel_rfl
theorem c56_32e : c56_32 = .region 8 r56_32 false := by kernel_rfl
theorem c56_33e : c56_33 = .ret := by kernel_rfl
noncomputable def tontineref07_Same.R (A_2 : Option Addr) (c_3 : Nat) (A_5 : Option Addr) (c_6 : Nat) : Pst Bool where
  ε := Unit
  v := fun r x => .bool r
  H := fun r x => []
  B := fun r x => []
noncomputable def tontineref07_Same.cx (A_2 : Option Addr) (c_3 : Nat) (A_5 : Option Addr) (c_6 : Nat) (w0 : World) (S0 : Fam) : Cx Bool := ⟨Try.prog, 56, Try.f56, 26, w0, S0, [], 0, tontineref07_Same.R A_2 c_3 A_5 c_6⟩
theorem tontineref07_Same_l0_ok (n : Nat) (a_1 : (List T_api_Entry)) (b_4 : (List T_api_Entry)) (A_2 : Option Addr) (c_3 : Nat) (A_5 : Option Addr) (c_6 : Nat) (w0 : World) (S0 : Fam) :
    ∀ (k : Nat) (i_8 : Int), GoO (tontineref07_Same.cx A_2 c_3 A_5 c_6 w0 S0) [(0, .slice A_2 a_1.length c_3), (1, .slice A_5 b_4.length c_6), (5, .int .i64 i_8)] [] [Rd 0 kT_api_Entry A_2 c_3 a_1, Rd 0 kT_api_Entry A_5 c_6 b_4] [.code c56_15, .inLoop c56_15, .inBlock 0, .code c56_31] (tontineref07_Same.l0 n a_1 b_4 k i_8) := by
  intro k
  induction k with
  | zero => intros; rw [tontineref07_Same.l0.eq_1]; exact GoO.stop
  | succ k ih0 =>
    intro i_8
    rw [tontineref07_Same.l0.eq_2]
    refine GoO.seq' c56_15e ?_
    refine GoO.seq' c56_16e ?_
    refine GoO.region' (is := [0, 1, 2, 3]) c56_17e (by kernel_rfl) ?_
    refine GoO.exec (is := [0, 1, 2, 3]) (hs := [.p, .p, .p, .p]) (rest := []) (ks := [0, 1, 5, 14]) (env' := [(0, .slice A_2 a_1.length c_3), (1, .slice A_5 b_4.length c_6), (5, .int .i64 i_8), (14, .bool (decide (i_8 < (a_1.length : Int))))]) (H' := []) (ps := []) (by kernel_rfl) trivial ?_
    refine GoO.regionEnd ?_
    refine GoO.ite' c56_18e (by kernel_rfl) (fun h9 => ?_) (fun h9 => ?_)
    · refine GoO.skip' c56_19e ?_
      refine GoO.seq' c56_21e ?_
      refine GoO.block' c56_22e ?_
      refine GoO.seq' c56_23e ?_
      refine GoO.draw c56_24e (by kernel_rfl) [] [] [Rd 0 kT_api_Entry A_2 c_3 a_1, Rd 0 kT_api_Entry A_5 c_6 b_4] (n := 9) (by kernel_rfl) ?_
      simp only [List.replicate]
      refine GoF.take [0, 1, 4, 5] [.p, .p, .p, .p] (ks := [0, 1, 5, 17, 18, 21, 22]) (fu := 5) (li := [true, true, false, false, true, true, false, false, false]) (env' := [(0, .slice A_2 a_1.length c_3), (1, .slice A_5 b_4.length c_6), (5, .int .i64 i_8), (17, .slice A_2 a_1.length c_3), (18, .int .i64 i_8), (21, .slice A_5 b_4.length c_6), (22, .int .i64 i_8)]) (ps := []) (hk := []) (bk := [0, 1]) (by kernel_rfl) trivial rfl rfl ?_
      refine GoF.guard (fun h10 => ?_)
      refine GoF.idx (i := 2) (hk := []) (bk := [0, 1]) (kk := .i64) (e := 93) (K := kT_api_Entry) (A := A_2) (c := c_3) (xs := a_1) (iv := i_8) (j := 0) (by kernel_rfl) rfl rfl rfl (by kernel_rfl) (by kernel_rfl) (by kernel_rfl) (by kernel_rfl) rfl Reads.rd rfl h10.1 h10.2 (by decide) rfl ?_
      refine GoF.ldE (i := 3) (hk := []) (bk := [0, 1]) (K := kT_api_Entry) (A := A_2) (c := c_3) (xs := a_1) (iN := i_8.toNat) (off := 0) (j := 0) (v := .agg ⟨[.int .u64 ((rdL a_1 i_8).Term), .int .u64 ((rdL a_1 i_8).Index), .int .i64 ((rdL a_1 i_8).Kind), .string (bs ((rdL a_1 i_8).Data))]⟩) (by kernel_rfl) rfl rfl rfl (hK := rfl) (by kernel_rfl) rfl Reads.rd (idx_lt h10.1 h10.2) (by decide) (by kernel_rfl) rfl ?_
      refine GoF.guard (fun h11 => ?_)
      refine GoF.idx (i := 6) (hk := []) (bk := [0, 1]) (kk := .i64) (e := 93) (K := kT_api_Entry) (A := A_5) (c := c_6) (xs := b_4) (iv := i_8) (j := 1) (by kernel_rfl) rfl rfl rfl (by kernel_rfl) (by kernel_rfl) (by kernel_rfl) (by kernel_rfl) rfl Reads.rd rfl h11.1 h11.2 (by decide) rfl ?_
      refine GoF.ldE (i := 7) (hk := []) (bk := [0, 1]) (K := kT_api_Entry) (A := A_5) (c := c_6) (xs := b_4) (iN := i_8.toNat) (off := 0) (j := 1) (v := .agg ⟨[.int .u64 ((rdL b_4 i_8).Term), .int .u64 ((rdL b_4 i_8).Index), .int .i64 ((rdL b_4 i_8).Kind), .string (bs ((rdL b_4 i_8).Data))]⟩) (by kernel_rfl) rfl rfl rfl (hK := rfl) (by kernel_rfl) rfl Reads.rd (idx_lt h11.1 h11.2) (by decide) (by kernel_rfl) rfl ?_
      refine GoF.take [8] [.p] (ks := [0, 1, 5, 25]) (fu := 0) (li := [true, true, true, true, true, true, true, true, true]) (env' := [(0, .slice A_2 a_1.length c_3), (1, .slice A_5 b_4.length c_6), (5, .int .i64 i_8), (25, .bool (!((((rdL a_1 i_8).Term) == ((rdL b_4 i_8).Term)) && ((((rdL a_1 i_8).Index) == ((rdL b_4 i_8).Index)) && ((((rdL a_1 i_8).Kind) == ((rdL b_4 i_8).Kind)) && ((((rdL a_1 i_8).Data) == ((rdL b_4 i_8).Data)) && true))))))]) (ps := []) (hk := []) (bk := [0, 1]) (by kernel_rfl) trivial rfl rfl ?_
      refine GoF.done (by kernel_rfl) ?_
      refine GoO.ite' c56_25e (by kernel_rfl) (fun h12 => ?_) (fun h12 => ?_)
      · refine GoO.seq' c56_26e ?_
        refine GoO.region' (is := [0]) c56_27e (by kernel_rfl) ?_
        refine GoO.exec (is := [0]) (hs := [.p]) (rest := []) (ks := [4]) (env' := [(4, .bool false)]) (H' := []) (ps := []) (by kernel_rfl) trivial ?_
        refine GoO.regionEnd ?_
        exact GoO.ret' (h := c56_28e) (hs := []) (ps := []) (hk := []) (bk := []) Try.func56 () (by kernel_rfl) trivial (by kernel_rfl) (by kernel_rfl)
      · refine GoO.skip' c56_29e ?_
        refine GoO.inBlock ?_
        refine GoO.region' (is := [0, 1, 2]) c56_30e (by kernel_rfl) ?_
        refine GoO.exec (is := [0, 1, 2]) (hs := [.p, .p, .p]) (rest := []) (ks := [0, 1, 5]) (env' := [(0, .slice A_2 a_1.length c_3), (1, .slice A_5 b_4.length c_6), (5, .int .i64 (wi64 (i_8 + 1)))]) (H' := []) (ps := []) (by kernel_rfl) trivial ?_
        refine GoO.regionEnd ?_
        refine GoO.inLoop ?_
        exact GoO.sub (ks := [0, 1, 5]) (hk := []) (bk := [0, 1]) (by kernel_rfl) (by kernel_rfl) (by kernel_rfl) (ih0 (wi64 (i_8 + 1)))
    · refine GoO.exit' c56_20e rfl ?_
      refine GoO.seq' c56_31e ?_
      refine GoO.region' (is := [0]) c56_32e (by kernel_rfl) ?_
      refine GoO.exec (is := [0]) (hs := [.p]) (rest := []) (ks := [4]) (env' := [(4, .bool true)]) (H' := []) (ps := []) (by kernel_rfl) trivial ?_
      refine GoO.regionEnd ?_
      exact GoO.ret' (h := c56_33e) (hs := []) (ps := []) (hk := []) (bk := []) Try.func56 () (by kernel_rfl) trivial (by kernel_rfl) (by kernel_rfl)
theorem tontineref07_Same_ok (n : Nat) (a_1 : (List T_api_Entry)) (b_4 : (List T_api_Entry)) (A_2 : Option Addr) (c_3 : Nat) (A_5 : Option Addr) (c_6 : Nat) :
    Meets Try.prog 56 [.slice A_2 a_1.length c_3, .slice A_5 b_4.length c_6] 0 [] [] [Rd 0 kT_api_Entry A_2 c_3 a_1, Rd 0 kT_api_Entry A_5 c_6 b_4] (tontineref07_Same.f n a_1 b_4) (tontineref07_Same.R A_2 c_3 A_5 c_6) := by
  refine Meets.of (c := c56_0) (n := 26) Try.func56 (by kernel_rfl) (by kernel_rfl) (by kernel_rfl) fun w0 S0 => ?_
  unfold tontineref07_Same.f
  show GoO (tontineref07_Same.cx A_2 c_3 A_5 c_6 w0 S0) [(0, .slice A_2 a_1.length c_3), (1, .slice A_5 b_4.length c_6)] [] [Rd 0 kT_api_Entry A_2 c_3 a_1, Rd 0 kT_api_Entry A_5 c_6 b_4] [.code c56_0] _
  refine GoO.seq' c56_0e ?_
  refine GoO.region' (is := [0]) c56_1e (by kernel_rfl) ?_
  refine GoO.exec (is := [0]) (hs := [.p]) (rest := []) (ks := [0, 1]) (env' := [(0, .slice A_2 a_1.length c_3), (1, .slice A_5 b_4.length c_6)]) (H' := []) (ps := []) (by kernel_rfl) trivial ?_
  refine GoO.regionEnd ?_
  refine GoO.seq' c56_2e ?_
  refine GoO.seq' c56_3e ?_
  refine GoO.region' (is := [0, 1, 2, 3, 4]) c56_4e (by kernel_rfl) ?_
  refine GoO.exec (is := [0, 1, 2, 3, 4]) (hs := [.p, .p, .p, .p, .p]) (rest := []) (ks := [0, 1, 10]) (env' := [(0, .slice A_2 a_1.length c_3), (1, .slice A_5 b_4.length c_6), (10, .bool ((a_1.length : Int) != (b_4.length : Int)))]) (H' := []) (ps := []) (by kernel_rfl) trivial ?_
  refine GoO.regionEnd ?_
  refine GoO.ite' c56_5e (by kernel_rfl) (fun h7 => ?_) (fun h7 => ?_)
  · refine GoO.seq' c56_6e ?_
    refine GoO.region' (is := [0]) c56_7e (by kernel_rfl) ?_
    refine GoO.exec (is := [0]) (hs := [.p]) (rest := []) (ks := [4]) (env' := [(4, .bool false)]) (H' := []) (ps := []) (by kernel_rfl) trivial ?_
    refine GoO.regionEnd ?_
    exact GoO.ret' (h := c56_8e) (hs := []) (ps := []) (hk := []) (bk := []) Try.func56 () (by kernel_rfl) trivial (by kernel_rfl) (by kernel_rfl)
  · refine GoO.skip' c56_9e ?_
    refine GoO.seq' c56_10e ?_
    refine GoO.seq' c56_11e ?_
    refine GoO.region' (is := [0]) c56_12e (by kernel_rfl) ?_
    refine GoO.exec (is := [0]) (hs := [.p]) (rest := []) (ks := [0, 1, 5]) (env' := [(0, .slice A_2 a_1.length c_3), (1, .slice A_5 b_4.length c_6), (5, .int .i64 0)]) (H' := []) (ps := []) (by kernel_rfl) trivial ?_
    refine GoO.regionEnd ?_
    refine GoO.block' c56_13e ?_
    refine GoO.loop' c56_14e ?_
    exact GoO.sub (ks := [0, 1, 5]) (hk := []) (bk := [0, 1]) (by kernel_rfl) (by kernel_rfl) (by kernel_rfl) (tontineref07_Same_l0_ok n a_1 b_4 A_2 c_3 A_5 c_6 w0 S0 n 0)

/-! tontine/tontineref10.Same -/
noncomputable def c33_0 : Code := bodyOf Try.f33
noncomputable def c33_1 : Code := cdL c33_0
noncomputable def c33_2 : Code := cdR c33_0
noncomputable def c33_3 : Code := cdL c33_2
noncomputable def c33_4 : Code := cdR c33_2
noncomputable def r33_1 : Array Oper := cdO c33_1
noncomputable def r33_3 : Array Oper := cdO c33_3
theorem c33_0e : c33_0 = .seq c33_1 c33_2 := by kernel_rfl
theorem c33_1e : c33_1 = .region 0 r33_1 false := by kernel_rfl
theorem c33_2e : c33_2 = .seq c33_3 c33_4 := by kernel_rfl
theorem c33_3e : c33_3 = .region 1 r33_3 false := by kernel_rfl
theorem c33_4e : c33_4 = .ret := by kernel_rfl
noncomputable def tontineref10_Same.R (A_2 : Option Addr) (c_3 : Nat) (A_5 : Option Addr) (c_6 : Nat) : Pst Bool where
  ε := Unit
  v := fun r x => .bool r
  H := fun r x => []
  B := fun r x => []
noncomputable def tontineref10_Same.cx (A_2 : Option Addr) (c_3 : Nat) (A_5 : Option Addr) (c_6 : Nat) (w0 : World) (S0 : Fam) : Cx Bool := ⟨Try.prog, 33, Try.f33, 73, w0, S0, [], 0, tontineref10_Same.R A_2 c_3 A_5 c_6⟩
theorem tontineref10_Same_ok (n : Nat) (a_1 : T_api_Letter) (b_4 : T_api_Letter) (A_2 : Option Addr) (c_3 : Nat) (A_5 : Option Addr) (c_6 : Nat) :
    Meets Try.prog 33 [.agg ⟨[.int .i64 a_1.Kind, .int .i64 a_1.From, .int .i64 a_1.To, .int .u64 a_1.Term, .int .u64 a_1.Index, .int .u64 a_1.Prev, .int .u64 a_1.Commit, .bool a_1.Ok, .slice A_2 a_1.Entries.length c_3, .string (bs a_1.Data)]⟩, .agg ⟨[.int .i64 b_4.Kind, .int .i64 b_4.From, .int .i64 b_4.To, .int .u64 b_4.Term, .int .u64 b_4.Index, .int .u64 b_4.Prev, .int .u64 b_4.Commit, .bool b_4.Ok, .slice A_5 b_4.Entries.length c_6, .string (bs b_4.Data)]⟩] 0 [] [] [Rd 0 kT_api_Entry A_2 c_3 a_1.Entries, Rd 0 kT_api_Entry A_5 c_6 b_4.Entries] (tontineref10_Same.f n a_1 b_4) (tontineref10_Same.R A_2 c_3 A_5 c_6) := by
  refine Meets.of (c := c33_0) (n := 73) Try.func33 (by kernel_rfl) (by kernel_rfl) (by kernel_rfl) fun w0 S0 => ?_
  unfold tontineref10_Same.f
  show GoO (tontineref10_Same.cx A_2 c_3 A_5 c_6 w0 S0) [(0, .agg ⟨[.int .i64 a_1.Kind, .int .i64 a_1.From, .int .i64 a_1.To, .int .u64 a_1.Term, .int .u64 a_1.Index, .int .u64 a_1.Prev, .int .u64 a_1.Commit, .bool a_1.Ok, .slice A_2 a_1.Entries.length c_3, .string (bs a_1.Data)]⟩), (1, .agg ⟨[.int .i64 b_4.Kind, .int .i64 b_4.From, .int .i64 b_4.To, .int .u64 b_4.Term, .int .u64 b_4.Index, .int .u64 b_4.Prev, .int .u64 b_4.Commit, .bool b_4.Ok, .slice A_5 b_4.Entries.length c_6, .string (bs b_4.Data)]⟩)] [] [Rd 0 kT_api_Entry A_2 c_3 a_1.Entries, Rd 0 kT_api_Entry A_5 c_6 b_4.Entries] [.code c33_0] _
  refine GoO.seq' c33_0e ?_
  refine GoO.region' (is := [0, 1, 2]) c33_1e (by kernel_rfl) ?_
  refine OpTo.go (GoO.new rfl 40 (cs := [.int .i64 a_1.Kind, .int .i64 a_1.From, .int .i64 a_1.To, .int .u64 a_1.Term, .int .u64 a_1.Index, .int .u64 a_1.Prev, .int .u64 a_1.Commit, .bool a_1.Ok, .slice A_2 a_1.Entries.length c_3, .string (bs a_1.Data)]) (by kernel_rfl) _ (fun _ => rfl) (fun b_7 => ?_))
  refine OpTo.go (GoO.new rfl 41 (cs := [.int .i64 b_4.Kind, .int .i64 b_4.From, .int .i64 b_4.To, .int .u64 b_4.Term, .int .u64 b_4.Index, .int .u64 b_4.Prev, .int .u64 b_4.Commit, .bool b_4.Ok, .slice A_5 b_4.Entries.length c_6, .string (bs b_4.Data)]) (by kernel_rfl) _ (fun _ => rfl) (fun b_8 => ?_))
  refine GoO.exec (is := [2]) (hs := [.p]) (rest := []) (ks := [2, 3]) (env' := [(2, .pointer (some ⟨b_7, 0, none⟩)), (3, .pointer (some ⟨b_8, 0, none⟩))]) (H' := [⟨41, b_8, [.int .i64 b_4.Kind, .int .i64 b_4.From, .int .i64 b_4.To, .int .u64 b_4.Term, .int .u64 b_4.Index, .int .u64 b_4.Prev, .int .u64 b_4.Commit, .bool b_4.Ok, .slice A_5 b_4.Entries.length c_6, .string (bs b_4.Data)]⟩, ⟨40, b_7, [.int .i64 a_1.Kind, .int .i64 a_1.From, .int .i64 a_1.To, .int .u64 a_1.Term, .int .u64 a_1.Index, .int .u64 a_1.Prev, .int .u64 a_1.Commit, .bool a_1.Ok, .slice A_2 a_1.Entries.length c_3, .string (bs a_1.Data)]⟩]) (ps := []) (by kernel_rfl) trivial ?_
  refine GoO.regionEnd ?_
  refine GoO.seq' c33_2e ?_
  refine GoO.region' (is := [0, 1, 2, 3, 4, 5, 6, 7, 8, 9, 10, 11, 12, 13, 14, 15, 16, 17, 18, 19, 20, 21, 22, 23, 24, 25, 26, 27, 28, 29, 30, 31, 32, 33, 34, 35, 36, 37, 38, 39, 40, 41, 42, 43, 44, 45, 46, 47, 48, 49, 50, 51, 52, 53, 54, 55, 56, 57, 58, 59, 60, 61, 62, 63, 64, 65, 66, 67, 68]) c33_3e (by kernel_rfl) ?_
  refine GoO.exec (is := [0, 1, 2, 3, 4, 5]) (hs := [.p, .b 1, .p, .b 0, .p, .p]) (rest := [6, 7, 8, 9, 10, 11, 12, 13, 14, 15, 16, 17, 18, 19, 20, 21, 22, 23, 24, 25, 26, 27, 28, 29, 30, 31, 32, 33, 34, 35, 36, 37, 38, 39, 40, 41, 42, 43, 44, 45, 46, 47, 48, 49, 50, 51, 52, 53, 54, 55, 56, 57, 58, 59, 60, 61, 62, 63, 64, 65, 66, 67, 68]) (ks := [2, 3, 10]) (env' := [(2, .pointer (some ⟨b_7, 0, none⟩)), (3, .pointer (some ⟨b_8, 0, none⟩)), (10, .bool (a_1.Kind == b_4.Kind))]) (H' := [⟨41, b_8, [.int .i64 b_4.Kind, .int .i64 b_4.From, .int .i64 b_4.To, .int .u64 b_4.Term, .int .u64 b_4.Index, .int .u64 b_4.Prev, .int .u64 b_4.Commit, .bool b_4.Ok, .slice A_5 b_4.Entries.length c_6, .string (bs b_4.Data)]⟩, ⟨40, b_7, [.int .i64 a_1.Kind, .int .i64 a_1.From, .int .i64 a_1.To, .int .u64 a_1.Term, .int .u64 a_1.Index, .int .u64 a_1.Prev, .int .u64 a_1.Commit, .bool a_1.Ok, .slice A_2 a_1.Entries.length c_3, .string (bs a_1.Data)]⟩]) (ps := [b_7 = b_7, b_8 = b_8]) (by kernel_rfl) (And.intro rfl (And.intro rfl trivial)) ?_
  refine GoO.bsplit (t := 10) (by kernel_rfl) (fun h9 => ?_) (fun h9 => ?_)
  · refine GoO.exec (is := [6, 7, 8, 9, 10, 11, 12]) (hs := [.p, .b 1, .p, .b 0, .p, .p, .p]) (rest := [13, 14, 15, 16, 17, 18, 19, 20, 21, 22, 23, 24, 25, 26, 27, 28, 29, 30, 31, 32, 33, 34, 35, 36, 37, 38, 39, 40, 41, 42, 43, 44, 45, 46, 47, 48, 49, 50, 51, 52, 53, 54, 55, 56, 57, 58, 59, 60, 61, 62, 63, 64, 65, 66, 67, 68]) (ks := [2, 3, 17]) (env' := [(2, .pointer (some ⟨b_7, 0, none⟩)), (3, .pointer (some ⟨b_8, 0, none⟩)), (17, .bool (a_1.From == b_4.From))]) (H' := [⟨41, b_8, [.int .i64 b_4.Kind, .int .i64 b_4.From, .int .i64 b_4.To, .int .u64 b_4.Term, .int .u64 b_4.Index, .int .u64 b_4.Prev, .int .u64 b_4.Commit, .bool b_4.Ok, .slice A_5 b_4.Entries.length c_6, .string (bs b_4.Data)]⟩, ⟨40, b_7, [.int .i64 a_1.Kind, .int .i64 a_1.From, .int .i64 a_1.To, .int .u64 a_1.Term, .int .u64 a_1.Index, .int .u64 a_1.Prev, .int .u64 a_1.Commit, .bool a_1.Ok, .slice A_2 a_1.Entries.length c_3, .string (bs a_1.Data)]⟩]) (ps := [b_7 = b_7, b_8 = b_8]) (by kernel_rfl) (And.intro rfl (And.intro rfl trivial)) ?_
    refine GoO.bsplit (t := 17) (by kernel_rfl) (fun h10 => ?_) (fun h10 => ?_)
    · refine GoO.exec (is := [13, 14, 15, 16, 17, 18, 19]) (hs := [.p, .b 1, .p, .b 0, .p, .p, .p]) (rest := [20, 21, 22, 23, 24, 25, 26, 27, 28, 29, 30, 31, 32, 33, 34, 35, 36, 37, 38, 39, 40, 41, 42, 43, 44, 45, 46, 47, 48, 49, 50, 51, 52, 53, 54, 55, 56, 57, 58, 59, 60, 61, 62, 63, 64, 65, 66, 67, 68]) (ks := [2, 3, 24]) (env' := [(2, .pointer (some ⟨b_7, 0, none⟩)), (3, .pointer (some ⟨b_8, 0, none⟩)), (24, .bool (a_1.To == b_4.To))]) (H' := [⟨41, b_8, [.int .i64 b_4.Kind, .int .i64 b_4.From, .int .i64 b_4.To, .int .u64 b_4.Term, .int .u64 b_4.Index, .int .u64 b_4.Prev, .int .u64 b_4.Commit, .bool b_4.Ok, .slice A_5 b_4.Entries.length c_6, .string (bs b_4.Data)]⟩, ⟨40, b_7, [.int .i64 a_1.Kind, .int .i64 a_1.From, .int .i64 a_1.To, .int .u64 a_1.Term, .int .u64 a_1.Index, .int .u64 a_1.Prev, .int .u64 a_1.Commit, .bool a_1.Ok, .slice A_2 a_1.Entries.length c_3, .string (bs a_1.Data)]⟩]) (ps := [b_7 = b_7, b_8 = b_8]) (by kernel_rfl) (And.intro rfl (And.intro rfl trivial)) ?_
      refine GoO.bsplit (t := 24) (by kernel_rfl) (fun h11 => ?_) (fun h11 => ?_)
      · refine GoO.exec (is := [20, 21, 22, 23, 24, 25, 26]) (hs := [.p, .b 1, .p, .b 0, .p, .p, .p]) (rest := [27, 28, 29, 30, 31, 32, 33, 34, 35, 36, 37, 38, 39, 40, 41, 42, 43, 44, 45, 46, 47, 48, 49, 50, 51, 52, 53, 54, 55, 56, 57, 58, 59, 60, 61, 62, 63, 64, 65, 66, 67, 68]) (ks := [2, 3, 31]) (env' := [(2, .pointer (some ⟨b_7, 0, none⟩)), (3, .pointer (some ⟨b_8, 0, none⟩)), (31, .bool (a_1.Term == b_4.Term))]) (H' := [⟨41, b_8, [.int .i64 b_4.Kind, .int .i64 b_4.From, .int .i64 b_4.To, .int .u64 b_4.Term, .int .u64 b_4.Index, .int .u64 b_4.Prev, .int .u64 b_4.Commit, .bool b_4.Ok, .slice A_5 b_4.Entries.length c_6, .string (bs b_4.Data)]⟩, ⟨40, b_7, [.int .i64 a_1.Kind, .int .i64 a_1.From, .int .i64 a_1.To, .int .u64 a_1.Term, .int .u64 a_1.Index, .int .u64 a_1.Prev, .int .u64 a_1.Commit, .bool a_1.Ok, .slice A_2 a_1.Entries.length c_3, .string (bs a_1.Data)]⟩]) (ps := [b_7 = b_7, b_8 = b_8]) (by kernel_rfl) (And.intro rfl (And.intro rfl trivial)) ?_
        refine GoO.bsplit (t := 31) (by kernel_rfl) (fun h12 => ?_) (fun h12 => ?_)
        · refine GoO.exec (is := [27, 28, 29, 30, 31, 32, 33]) (hs := [.p, .b 1, .p, .b 0, .p, .p, .p]) (rest := [34, 35, 36, 37, 38, 39, 40, 41, 42, 43, 44, 45, 46, 47, 48, 49, 50, 51, 52, 53, 54, 55, 56, 57, 58, 59, 60, 61, 62, 63, 64, 65, 66, 67, 68]) (ks := [2, 3, 38]) (env' := [(2, .pointer (some ⟨b_7, 0, none⟩)), (3, .pointer (some ⟨b_8, 0, none⟩)), (38, .bool (a_1.Index == b_4.Index))]) (H' := [⟨41, b_8, [.int .i64 b_4.Kind, .int .i64 b_4.From, .int .i64 b_4.To, .int .u64 b_4.Term, .int .u64 b_4.Index, .int .u64 b_4.Prev, .int .u64 b_4.Commit, .bool b_4.Ok, .slice A_5 b_4.Entries.length c_6, .string (bs b_4.Data)]⟩, ⟨40, b_7, [.int .i64 a_1.Kind, .int .i64 a_1.From, .int .i64 a_1.To, .int .u64 a_1.Term, .int .u64 a_1.Index, .int .u64 a_1.Prev, .int .u64 a_1.Commit, .bool a_1.Ok, .slice A_2 a_1.Entries.length c_3, .string (bs a_1.Data)]⟩]) (ps := [b_7 = b_7, b_8 = b_8]) (by kernel_rfl) (And.intro rfl (And.intro rfl trivial)) ?_
          refine GoO.bsplit (t := 38) (by kernel_rfl) (fun h13 => ?_) (fun h13 => ?_)
          · refine GoO.exec (is := [34, 35, 36, 37, 38, 39, 40]) (hs := [.p, .b 1, .p, .b 0, .p, .p, .p]) (rest := [41, 42, 43, 44, 45, 46, 47, 48, 49, 50, 51, 52, 53, 54, 55, 56, 57, 58, 59, 60, 61, 62, 63, 64, 65, 66, 67, 68]) (ks := [2, 3, 45]) (env' := [(2, .pointer (some ⟨b_7, 0, none⟩)), (3, .pointer (some ⟨b_8, 0, none⟩)), (45, .bool (a_1.Prev == b_4.Prev))]) (H' := [⟨41, b_8, [.int .i64 b_4.Kind, .int .i64 b_4.From, .int .i64 b_4.To, .int .u64 b_4.Term, .int .u64 b_4.Index, .int .u64 b_4.Prev, .int .u64 b_4.Commit, .bool b_4.Ok, .slice A_5 b_4.Entries.length c_6, .string (bs b_4.Data)]⟩, ⟨40, b_7, [.int .i64 a_1.Kind, .int .i64 a_1.From, .int .i64 a_1.To, .int .u64 a_1.Term, .int .u64 a_1.Index, .int .u64 a_1.Prev, .int .u64 a_1.Commit, .bool a_1.Ok, .slice A_2 a_1.Entries.length c_3, .string (bs a_1.Data)]⟩]) (ps := [b_7 = b_7, b_8 = b_8]) (by kernel_rfl) (And.intro rfl (And.intro rfl trivial)) ?_
            refine GoO.bsplit (t := 45) (by kernel_rfl) (fun h14 => ?_) (fun h14 => ?_)
            · refine GoO.exec (is := [41, 42, 43, 44, 45, 46, 47]) (hs := [.p, .b 1, .p, .b 0, .p, .p, .p]) (rest := [48, 49, 50, 51, 52, 53, 54, 55, 56, 57, 58, 59, 60, 61, 62, 63, 64, 65, 66, 67, 68]) (ks := [2, 3, 52]) (env' := [(2, .pointer (some ⟨b_7, 0, none⟩)), (3, .pointer (some ⟨b_8, 0, none⟩)), (52, .bool (a_1.Commit == b_4.Commit))]) (H' := [⟨41, b_8, [.int .i64 b_4.Kind, .int .i64 b_4.From, .int .i64 b_4.To, .int .u64 b_4.Term, .int .u64 b_4.Index, .int .u64 b_4.Prev, .int .u64 b_4.Commit, .bool b_4.Ok, .slice A_5 b_4.Entries.length c_6, .string (bs b_4.Data)]⟩, ⟨40, b_7, [.int .i64 a_1.Kind, .int .i64 a_1.From, .int .i64 a_1.To, .int .u64 a_1.Term, .int .u64 a_1.Index, .int .u64 a_1.Prev, .int .u64 a_1.Commit, .bool a_1.Ok, .slice A_2 a_1.Entries.length c_3, .string (bs a_1.Data)]⟩]) (ps := [b_7 = b_7, b_8 = b_8]) (by kernel_rfl) (And.intro rfl (And.intro rfl trivial)) ?_
              refine GoO.bsplit (t := 52) (by kernel_rfl) (fun h15 => ?_) (fun h15 => ?_)
              · refine GoO.exec (is := [48, 49, 50, 51, 52, 53, 54]) (hs := [.p, .b 1, .p, .b 0, .p, .p, .p]) (rest := [55, 56, 57, 58, 59, 60, 61, 62, 63, 64, 65, 66, 67, 68]) (ks := [2, 3, 59]) (env' := [(2, .pointer (some ⟨b_7, 0, none⟩)), (3, .pointer (some ⟨b_8, 0, none⟩)), (59, .bool (a_1.Ok == b_4.Ok))]) (H' := [⟨41, b_8, [.int .i64 b_4.Kind, .int .i64 b_4.From, .int .i64 b_4.To, .int .u64 b_4.Term, .int .u64 b_4.Index, .int .u64 b_4.Prev, .int .u64 b_4.Commit, .bool b_4.Ok, .slice A_5 b_4.Entries.length c_6, .string (bs b_4.Data)]⟩, ⟨40, b_7, [.int .i64 a_1.Kind, .int .i64 a_1.From, .int .i64 a_1.To, .int .u64 a_1.Term, .int .u64 a_1.Index, .int .u64 a_1.Prev, .int .u64 a_1.Commit, .bool a_1.Ok, .slice A_2 a_1.Entries.length c_3, .string (bs a_1.Data)]⟩]) (ps := [b_7 = b_7, b_8 = b_8]) (by kernel_rfl) (And.intro rfl (And.intro rfl trivial)) ?_
                refine GoO.bsplit (t := 59) (by kernel_rfl) (fun h16 => ?_) (fun h16 => ?_)
                · refine GoO.exec (is := [55, 56, 57, 58, 59, 60, 61]) (hs := [.p, .b 1, .p, .b 0, .p, .p, .p]) (rest := [62, 63, 64, 65, 66, 67, 68]) (ks := [2, 3, 66]) (env' := [(2, .pointer (some ⟨b_7, 0, none⟩)), (3, .pointer (some ⟨b_8, 0, none⟩)), (66, .bool (a_1.Data == b_4.Data))]) (H' := [⟨41, b_8, [.int .i64 b_4.Kind, .int .i64 b_4.From, .int .i64 b_4.To, .int .u64 b_4.Term, .int .u64 b_4.Index, .int .u64 b_4.Prev, .int .u64 b_4.Commit, .bool b_4.Ok, .slice A_5 b_4.Entries.length c_6, .string (bs b_4.Data)]⟩, ⟨40, b_7, [.int .i64 a_1.Kind, .int .i64 a_1.From, .int .i64 a_1.To, .int .u64 a_1.Term, .int .u64 a_1.Index, .int .u64 a_1.Prev, .int .u64 a_1.Commit, .bool a_1.Ok, .slice A_2 a_1.Entries.length c_3, .string (bs a_1.Data)]⟩]) (ps := [b_7 = b_7, b_8 = b_8]) (by kernel_rfl) (And.intro rfl (And.intro rfl trivial)) ?_
                  refine GoO.bsplit (t := 66) (by kernel_rfl) (fun h17 => ?_) (fun h17 => ?_)
                  · refine GoO.exec (is := [62, 63, 64, 65]) (hs := [.p, .b 1, .p, .b 0]) (rest := [66, 67, 68]) (ks := [66, 68, 70]) (env' := [(66, .bool true), (68, .slice A_2 a_1.Entries.length c_3), (70, .slice A_5 b_4.Entries.length c_6)]) (H' := [⟨41, b_8, [.int .i64 b_4.Kind, .int .i64 b_4.From, .int .i64 b_4.To, .int .u64 b_4.Term, .int .u64 b_4.Index, .int .u64 b_4.Prev, .int .u64 b_4.Commit, .bool b_4.Ok, .slice A_5 b_4.Entries.length c_6, .string (bs b_4.Data)]⟩, ⟨40, b_7, [.int .i64 a_1.Kind, .int .i64 a_1.From, .int .i64 a_1.To, .int .u64 a_1.Term, .int .u64 a_1.Index, .int .u64 a_1.Prev, .int .u64 a_1.Commit, .bool a_1.Ok, .slice A_2 a_1.Entries.length c_3, .string (bs a_1.Data)]⟩]) (ps := [b_7 = b_7, b_8 = b_8]) (by kernel_rfl) (And.intro rfl (And.intro rfl trivial)) ?_
                    refine OpTo.go (GoO.call rfl (by kernel_rfl) (by kernel_rfl) (tontineref07_Same_ok n a_1.Entries b_4.Entries A_2 c_3 A_5 c_6) [[0]] [] [] [(0, 0), (0, 1)] (hks := [0, 1]) (bks := [0, 1]) (by kernel_rfl) (by kernel_rfl) (by kernel_rfl) (.inl rfl) rfl rfl (by kernel_rfl) (by kernel_rfl) _ (fun _ _ => rfl) _ _ (fun _ _ => rfl) (fun _ _ => rfl) (fun _ _ => by kernel_rfl) (fun _ _ => by kernel_rfl) (fun r_18 x_19 => ?_))
                    refine GoO.shape (env' := [(66, .bool true), (68, .slice A_2 a_1.Entries.length c_3), (70, .slice A_5 b_4.Entries.length c_6), (71, .bool r_18)]) (H' := [⟨41, b_8, [.int .i64 b_4.Kind, .int .i64 b_4.From, .int .i64 b_4.To, .int .u64 b_4.Term, .int .u64 b_4.Index, .int .u64 b_4.Prev, .int .u64 b_4.Commit, .bool b_4.Ok, .slice A_5 b_4.Entries.length c_6, .string (bs b_4.Data)]⟩, ⟨40, b_7, [.int .i64 a_1.Kind, .int .i64 a_1.From, .int .i64 a_1.To, .int .u64 a_1.Term, .int .u64 a_1.Index, .int .u64 a_1.Prev, .int .u64 a_1.Commit, .bool a_1.Ok, .slice A_2 a_1.Entries.length c_3, .string (bs a_1.Data)]⟩]) (B' := [Rd 0 kT_api_Entry A_2 c_3 a_1.Entries, Rd 0 kT_api_Entry A_5 c_6 b_4.Entries]) (ks := [66, 68, 70, 71]) (by kernel_rfl) (by kernel_rfl) (by kernel_rfl) ?_
                    refine GoO.exec (is := [67, 68]) (hs := [.p, .p]) (rest := []) (ks := [4]) (env' := [(4, .bool r_18)]) (H' := [⟨41, b_8, [.int .i64 b_4.Kind, .int .i64 b_4.From, .int .i64 b_4.To, .int .u64 b_4.Term, .int .u64 b_4.Index, .int .u64 b_4.Prev, .int .u64 b_4.Commit, .bool b_4.Ok, .slice A_5 b_4.Entries.length c_6, .string (bs b_4.Data)]⟩, ⟨40, b_7, [.int .i64 a_1.Kind, .int .i64 a_1.From, .int .i64 a_1.To, .int .u64 a_1.Term, .int .u64 a_1.Index, .int .u64 a_1.Prev, .int .u64 a_1.Commit, .bool a_1.Ok, .slice A_2 a_1.Entries.length c_3, .string (bs a_1.Data)]⟩]) (ps := []) (by kernel_rfl) trivial ?_
                    refine GoO.regionEnd ?_
                    exact GoO.ret' (h := c33_4e) (hs := []) (ps := []) (hk := []) (bk := []) Try.func33 () (by kernel_rfl) trivial (by kernel_rfl) (by kernel_rfl)
                  · refine GoO.exec (is := [62, 63, 64, 65, 66, 67, 68]) (hs := [.p, .p, .p, .p, .p, .p, .p]) (rest := []) (ks := [4]) (env' := [(4, .bool false)]) (H' := [⟨41, b_8, [.int .i64 b_4.Kind, .int .i64 b_4.From, .int .i64 b_4.To, .int .u64 b_4.Term, .int .u64 b_4.Index, .int .u64 b_4.Prev, .int .u64 b_4.Commit, .bool b_4.Ok, .slice A_5 b_4.Entries.length c_6, .string (bs b_4.Data)]⟩, ⟨40, b_7, [.int .i64 a_1.Kind, .int .i64 a_1.From, .int .i64 a_1.To, .int .u64 a_1.Term, .int .u64 a_1.Index, .int .u64 a_1.Prev, .int .u64 a_1.Commit, .bool a_1.Ok, .slice A_2 a_1.Entries.length c_3, .string (bs a_1.Data)]⟩]) (ps := []) (by kernel_rfl) trivial ?_
                    refine GoO.regionEnd ?_
                    exact GoO.ret' (h := c33_4e) (hs := []) (ps := []) (hk := []) (bk := []) Try.func33 () (by kernel_rfl) trivial (by kernel_rfl) (by kernel_rfl)
                · refine GoO.exec (is := [55, 56, 57, 58, 59, 60, 61, 62, 63, 64, 65, 66, 67, 68]) (hs := [.p, .p, .p, .p, .p, .p, .p, .p, .p, .p, .p, .p, .p, .p]) (rest := []) (ks := [4]) (env' := [(4, .bool false)]) (H' := [⟨41, b_8, [.int .i64 b_4.Kind, .int .i64 b_4.From, .int .i64 b_4.To, .int .u64 b_4.Term, .int .u64 b_4.Index, .int .u64 b_4.Prev, .int .u64 b_4.Commit, .bool b_4.Ok, .slice A_5 b_4.Entries.length c_6, .string (bs b_4.Data)]⟩, ⟨40, b_7, [.int .i64 a_1.Kind, .int .i64 a_1.From, .int .i64 a_1.To, .int .u64 a_1.Term, .int .u64 a_1.Index, .int .u64 a_1.Prev, .int .u64 a_1.Commit, .bool a_1.Ok, .slice A_2 a_1.Entries.length c_3, .string (bs a_1.Data)]⟩]) (ps := []) (by kernel_rfl) trivial ?_
                  refine GoO.regionEnd ?_
                  exact GoO.ret' (h := c33_4e) (hs := []) (ps := []) (hk := []) (bk := []) Try.func33 () (by kernel_rfl) trivial (by kernel_rfl) (by kernel_rfl)
              · refine GoO.exec (is := [48, 49, 50, 51, 52, 53, 54, 55, 56, 57, 58, 59, 60, 61, 62, 63, 64, 65, 66, 67, 68]) (hs := [.p, .p, .p, .p, .p, .p, .p, .p, .p, .p, .p, .p, .p, .p, .p, .p, .p, .p, .p, .p, .p]) (rest := []) (ks := [4]) (env' := [(4, .bool false)]) (H' := [⟨41, b_8, [.int .i64 b_4.Kind, .int .i64 b_4.From, .int .i64 b_4.To, .int .u64 b_4.Term, .int .u64 b_4.Index, .int .u64 b_4.Prev, .int .u64 b_4.Commit, .bool b_4.Ok, .slice A_5 b_4.Entries.length c_6, .string (bs b_4.Data)]⟩, ⟨40, b_7, [.int .i64 a_1.Kind, .int .i64 a_1.From, .int .i64 a_1.To, .int .u64 a_1.Term, .int .u64 a_1.Index, .int .u64 a_1.Prev, .int .u64 a_1.Commit, .bool a_1.Ok, .slice A_2 a_1.Entries.length c_3, .string (bs a_1.Data)]⟩]) (ps := []) (by kernel_rfl) trivial ?_
                refine GoO.regionEnd ?_
                exact GoO.ret' (h := c33_4e) (hs := []) (ps := []) (hk := []) (bk := []) Try.func33 () (by kernel_rfl) trivial (by kernel_rfl) (by kernel_rfl)
            · refine GoO.exec (is := [41, 42, 43, 44, 45, 46, 47, 48, 49, 50, 51, 52, 53, 54, 55, 56, 57, 58, 59, 60, 61, 62, 63, 64, 65, 66, 67, 68]) (hs := [.p, .p, .p, .p, .p, .p, .p, .p, .p, .p, .p, .p, .p, .p, .p, .p, .p, .p, .p, .p, .p, .p, .p, .p, .p, .p, .p, .p]) (rest := []) (ks := [4]) (env' := [(4, .bool false)]) (H' := [⟨41, b_8, [.int .i64 b_4.Kind, .int .i64 b_4.From, .int .i64 b_4.To, .int .u64 b_4.Term, .int .u64 b_4.Index, .int .u64 b_4.Prev, .int .u64 b_4.Commit, .bool b_4.Ok, .slice A_5 b_4.Entries.length c_6, .string (bs b_4.Data)]⟩, ⟨40, b_7, [.int .i64 a_1.Kind, .int .i64 a_1.From, .int .i64 a_1.To, .int .u64 a_1.Term, .int .u64 a_1.Index, .int .u64 a_1.Prev, .int .u64 a_1.Commit, .bool a_1.Ok, .slice A_2 a_1.Entries.length c_3, .string (bs a_1.Data)]⟩]) (ps := []) (by kernel_rfl) trivial ?_
              refine GoO.regionEnd ?_
              exact GoO.ret' (h := c33_4e) (hs := []) (ps := []) (hk := []) (bk := []) Try.func33 () (by kernel_rfl) trivial (by kernel_rfl) (by kernel_rfl)
          · refine GoO.exec (is := [34, 35, 36, 37, 38, 39, 40, 41, 42, 43, 44, 45, 46, 47, 48, 49, 50, 51, 52, 53, 54, 55, 56, 57, 58, 59, 60, 61, 62, 63, 64, 65, 66, 67, 68]) (hs := [.p, .p, .p, .p, .p, .p, .p, .p, .p, .p, .p, .p, .p, .p, .p, .p, .p, .p, .p, .p, .p, .p, .p, .p, .p, .p, .p, .p, .p, .p, .p, .p, .p, .p, .p]) (rest := []) (ks := [4]) (env' := [(4, .bool false)]) (H' := [⟨41, b_8, [.int .i64 b_4.Kind, .int .i64 b_4.From, .int .i64 b_4.To, .int .u64 b_4.Term, .int .u64 b_4.Index, .int .u64 b_4.Prev, .int .u64 b_4.Commit, .bool b_4.Ok, .slice A_5 b_4.Entries.length c_6, .string (bs b_4.Data)]⟩, ⟨40, b_7, [.int .i64 a_1.Kind, .int .i64 a_1.From, .int .i64 a_1.To, .int .u64 a_1.Term, .int .u64 a_1.Index, .int .u64 a_1.Prev, .int .u64 a_1.Commit, .bool a_1.Ok, .slice A_2 a_1.Entries.length c_3, .string (bs a_1.Data)]⟩]) (ps := []) (by kernel_rfl) trivial ?_
            refine GoO.regionEnd ?_
            exact GoO.ret' (h := c33_4e) (hs := []) (ps := []) (hk := []) (bk := []) Try.func33 () (by kernel_rfl) trivial (by kernel_rfl) (by kernel_rfl)
        · refine GoO.exec (is := [27, 28, 29, 30, 31, 32, 33, 34, 35, 36, 37, 38, 39, 40, 41, 42, 43, 44, 45, 46, 47, 48, 49, 50, 51, 52, 53, 54, 55, 56, 57, 58, 59, 60, 61, 62, 63, 64, 65, 66, 67, 68]) (hs := [.p, .p, .p, .p, .p, .p, .p, .p, .p, .p, .p, .p, .p, .p, .p, .p, .p, .p, .p, .p, .p, .p, .p, .p, .p, .p, .p, .p, .p, .p, .p, .p, .p, .p, .p, .p, .p, .p, .p, .p, .p, .p]) (rest := []) (ks := [4]) (env' := [(4, .bool false)]) (H' := [⟨41, b_8, [.int .i64 b_4.Kind, .int .i64 b_4.From, .int .i64 b_4.To, .int .u64 b_4.Term, .int .u64 b_4.Index, .int .u64 b_4.Prev, .int .u64 b_4.Commit, .bool b_4.Ok, .slice A_5 b_4.Entries.length c_6, .string (bs b_4.Data)]⟩, ⟨40, b_7, [.int .i64 a_1.Kind, .int .i64 a_1.From, .int .i64 a_1.To, .int .u64 a_1.Term, .int .u64 a_1.Index, .int .u64 a_1.Prev, .int .u64 a_1.Commit, .bool a_1.Ok, .slice A_2 a_1.Entries.length c_3, .string (bs a_1.Data)]⟩]) (ps := []) (by kernel_rfl) trivial ?_
          refine GoO.regionEnd ?_
          exact GoO.ret' (h := c33_4e) (hs := []) (ps := []) (hk := []) (bk := []) Try.func33 () (by kernel_rfl) trivial (by kernel_rfl) (by kernel_rfl)
      · refine GoO.exec (is := [20, 21, 22, 23, 24, 25, 26, 27, 28, 29, 30, 31, 32, 33, 34, 35, 36, 37, 38, 39, 40, 41, 42, 43, 44, 45, 46, 47, 48, 49, 50, 51, 52, 53, 54, 55, 56, 57, 58, 59, 60, 61, 62, 63, 64, 65, 66, 67, 68]) (hs := [.p, .p, .p, .p, .p, .p, .p, .p, .p, .p, .p, .p, .p, .p, .p, .p, .p, .p, .p, .p, .p, .p, .p, .p, .p, .p, .p, .p, .p, .p, .p, .p, .p, .p, .p, .p, .p, .p, .p, .p, .p, .p, .p, .p, .p, .p, .p, .p, .p]) (rest := []) (ks := [4]) (env' := [(4, .bool false)]) (H' := [⟨41, b_8, [.int .i64 b_4.Kind, .int .i64 b_4.From, .int .i64 b_4.To, .int .u64 b_4.Term, .int .u64 b_4.Index, .int .u64 b_4.Prev, .int .u64 b_4.Commit, .bool b_4.Ok, .slice A_5 b_4.Entries.length c_6, .string (bs b_4.Data)]⟩, ⟨40, b_7, [.int .i64 a_1.Kind, .int .i64 a_1.From, .int .i64 a_1.To, .int .u64 a_1.Term, .int .u64 a_1.Index, .int .u64 a_1.Prev, .int .u64 a_1.Commit, .bool a_1.Ok, .slice A_2 a_1.Entries.length c_3, .string (bs a_1.Data)]⟩]) (ps := []) (by kernel_rfl) trivial ?_
        refine GoO.regionEnd ?_
        exact GoO.ret' (h := c33_4e) (hs := []) (ps := []) (hk := []) (bk := []) Try.func33 () (by kernel_rfl) trivial (by kernel_rfl) (by kernel_rfl)
    · refine GoO.exec (is := [13, 14, 15, 16, 17, 18, 19, 20, 21, 22, 23, 24, 25, 26, 27, 28, 29, 30, 31, 32, 33, 34, 35, 36, 37, 38, 39, 40, 41, 42, 43, 44, 45, 46, 47, 48, 49, 50, 51, 52, 53, 54, 55, 56, 57, 58, 59, 60, 61, 62, 63, 64, 65, 66, 67, 68]) (hs := [.p, .p, .p, .p, .p, .p, .p, .p, .p, .p, .p, .p, .p, .p, .p, .p, .p, .p, .p, .p, .p, .p, .p, .p, .p, .p, .p, .p, .p, .p, .p, .p, .p, .p, .p, .p, .p, .p, .p, .p, .p, .p, .p, .p, .p, .p, .p, .p, .p, .p, .p, .p, .p, .p, .p, .p]) (rest := []) (ks := [4]) (env' := [(4, .bool false)]) (H' := [⟨41, b_8, [.int .i64 b_4.Kind, .int .i64 b_4.From, .int .i64 b_4.To, .int .u64 b_4.Term, .int .u64 b_4.Index, .int .u64 b_4.Prev, .int .u64 b_4.Commit, .bool b_4.Ok, .slice A_5 b_4.Entries.length c_6, .string (bs b_4.Data)]⟩, ⟨40, b_7, [.int .i64 a_1.Kind, .int .i64 a_1.From, .int .i64 a_1.To, .int .u64 a_1.Term, .int .u64 a_1.Index, .int .u64 a_1.Prev, .int .u64 a_1.Commit, .bool a_1.Ok, .slice A_2 a_1.Entries.length c_3, .string (bs a_1.Data)]⟩]) (ps := []) (by kernel_rfl) trivial ?_
      refine GoO.regionEnd ?_
      exact GoO.ret' (h := c33_4e) (hs := []) (ps := []) (hk := []) (bk := []) Try.func33 () (by kernel_rfl) trivial (by kernel_rfl) (by kernel_rfl)
  · refine GoO.exec (is := [6, 7, 8, 9, 10, 11, 12, 13, 14, 15, 16, 17, 18, 19, 20, 21, 22, 23, 24, 25, 26, 27, 28, 29, 30, 31, 32, 33, 34, 35, 36, 37, 38, 39, 40, 41, 42, 43, 44, 45, 46, 47, 48, 49, 50, 51, 52, 53, 54, 55, 56, 57, 58, 59, 60, 61, 62, 63, 64, 65, 66, 67, 68]) (hs := [.p, .p, .p, .p, .p, .p, .p, .p, .p, .p, .p, .p, .p, .p, .p, .p, .p, .p, .p, .p, .p, .p, .p, .p, .p, .p, .p, .p, .p, .p, .p, .p, .p, .p, .p, .p, .p, .p, .p, .p, .p, .p, .p, .p, .p, .p, .p, .p, .p, .p, .p, .p, .p, .p, .p, .p, .p, .p, .p, .p, .p, .p, .p]) (rest := []) (ks := [4]) (env' := [(4, .bool false)]) (H' := [⟨41, b_8, [.int .i64 b_4.Kind, .int .i64 b_4.From, .int .i64 b_4.To, .int .u64 b_4.Term, .int .u64 b_4.Index, .int .u64 b_4.Prev, .int .u64 b_4.Commit, .bool b_4.Ok, .slice A_5 b_4.Entries.length c_6, .string (bs b_4.Data)]⟩, ⟨40, b_7, [.int .i64 a_1.Kind, .int .i64 a_1.From, .int .i64 a_1.To, .int .u64 a_1.Term, .int .u64 a_1.Index, .int .u64 a_1.Prev, .int .u64 a_1.Commit, .bool a_1.Ok, .slice A_2 a_1.Entries.length c_3, .string (bs a_1.Data)]⟩]) (ps := []) (by kernel_rfl) trivial ?_
    refine GoO.regionEnd ?_
    exact GoO.ret' (h := c33_4e) (hs := []) (ps := []) (hk := []) (bk := []) Try.func33 () (by kernel_rfl) trivial (by kernel_rfl) (by kernel_rfl)

/-! tontine/tontinelaw11.LetterDecodes -/
noncomputable def c8_0 : Code := bodyOf Try.f8
noncomputable def c8_1 : Code := cdL c8_0
noncomputable def c8_2 : Code := cdR c8_0
noncomputable def c8_3 : Code := cdL c8_2
noncomputable def c8_4 : Code := cdL c8_3
noncomputable def c8_5 : Code := cdR c8_3
noncomputable def c8_6 : Code := cdL c8_5
noncomputable def c8_7 : Code := cdL c8_6
noncomputable def c8_8 : Code := cdR c8_6
noncomputable def c8_9 : Code := cdR c8_5
noncomputable def c8_10 : Code := cdR c8_2
noncomputable def c8_11 : Code := cdL c8_10
noncomputable def c8_12 : Code := cdL c8_11
noncomputable def c8_13 : Code := cdR c8_11
noncomputable def c8_14 : Code := cdL c8_13
noncomputable def c8_15 : Code := cdL c8_14
noncomputable def c8_16 : Code := cdR c8_14
noncomputable def c8_17 : Code := cdR c8_13
noncomputable def c8_18 : Code := cdR c8_10
noncomputable def c8_19 : Code := cdL c8_18
noncomputable def c8_20 : Code := cdR c8_18
noncomputable def c8_21 : Code := cdL c8_20
noncomputable def c8_22 : Code := cdR c8_20
noncomputable def c8_23 : Code := cdL c8_22
noncomputable def c8_24 : Code := cdR c8_22
noncomputable def r8_1 : Array Oper := cdO c8_1
noncomputable def r8_4 : Array Oper := cdO c8_4
noncomputable def r8_7 : Array Oper := cdO c8_7
noncomputable def r8_12 : Array Oper := cdO c8_12
noncomputable def r8_15 : Array Oper := cdO c8_15
noncomputable def r8_19 : Array Oper := cdO c8_19
noncomputable def r8_21 : Array Oper := cdO c8_21
noncomputable def r8_23 : Array Oper := cdO c8_23
theorem c8_0e : c8_0 = .seq c8_1 c8_2 := by kernel_rfl
theorem c8_1e : c8_1 = .region 0 r8_1 false := by kernel_rfl
theorem c8_2e : c8_2 = .seq c8_3 c8_10 := by kernel_rfl
theorem c8_3e : c8_3 = .seq c8_4 c8_5 := by kernel_rfl
theorem c8_4e : c8_4 = .region 1 r8_4 false := by kernel_rfl
theorem c8_5e : c8_5 = .cond (cdC c8_5) c8_6 c8_9 := by kernel_rfl
theorem c8_6e : c8_6 = .seq c8_7 c8_8 := by kernel_rfl
theorem c8_7e : c8_7 = .region 2 r8_7 false := by kernel_rfl
theorem c8_8e : c8_8 = .ret := by kernel_rfl
theorem c8_9e : c8_9 = .skip := by kernel_rfl
theorem c8_10e : c8_10 = .seq c8_11 c8_18 := by kernel_rfl
theorem c8_11e : c8_11 = .seq c8_12 c8_13 := by kernel_rfl
theorem c8_12e : c8_12 = .region 3 r8_12 false := by kernel_rfl
theorem c8_13e : c8_13 = .cond (cdC c8_13) c8_14 c8_17 := by kernel_rfl
theorem c8_14e : c8_14 = .seq c8_15 c8_16 := by kernel_rfl
theorem c8_15e : c8_15 = .region 4 r8_15 false := by kernel_rfl
theorem c8_16e : c8_16 = .ret := by kernel_rfl
theorem c8_17e : c8_17 = .skip := by kernel_rfl
theorem c8_18e : c8_18 = .seq c8_19 c8_20 := by kernel_rfl
theorem c8_19e : c8_19 = .region 5 r8_19 false := by kernel_rfl
theorem c8_20e : c8_20 = .seq c8_21 c8_22 := by kernel_rfl
theorem c8_21e : c8_21 = .region 6 r8_21 false := by kernel_rfl
theorem c8_22e : c8_22 = .seq c8_23 c8_24 := by kernel_rfl
theorem c8_23e : c8_23 = .region 7 r8_23 false := by kernel_rfl
theorem c8_24e : c8_24 = .ret := by kernel_rfl
noncomputable def tontinelaw11_LetterDecodes.R : Pst Bool where
  ε := Unit
  v := fun r x => .bool r
  H := fun r x => []
  B := fun r x => []
noncomputable def tontinelaw11_LetterDecodes.cx (w0 : World) (S0 : Fam) : Cx Bool := ⟨Try.prog, 8, Try.f8, 30, w0, S0, [], 0, tontinelaw11_LetterDecodes.R⟩
theorem tontinelaw11_LetterDecodes_ok (n : Nat) (s_1 : (List UInt8)) :
    Meets Try.prog 8 [.string (bs s_1)] 0 [] [] [] (tontinelaw11_LetterDecodes.f n s_1) (tontinelaw11_LetterDecodes.R) := by
  refine Meets.of (c := c8_0) (n := 30) Try.func8 (by kernel_rfl) (by kernel_rfl) (by kernel_rfl) fun w0 S0 => ?_
  unfold tontinelaw11_LetterDecodes.f
  show GoO (tontinelaw11_LetterDecodes.cx w0 S0) [(0, .string (bs s_1))] [] [] [.code c8_0] _
  refine GoO.seq' c8_0e ?_
  refine GoO.region' (is := [0]) c8_1e (by kernel_rfl) ?_
  refine GoO.exec (is := [0]) (hs := [.p]) (rest := []) (ks := [0]) (env' := [(0, .string (bs s_1))]) (H' := []) (ps := []) (by kernel_rfl) trivial ?_
  refine GoO.regionEnd ?_
  refine GoO.seq' c8_2e ?_
  refine GoO.seq' c8_3e ?_
  refine GoO.region' (is := [0, 1]) c8_4e (by kernel_rfl) ?_
  refine OpTo.go (GoO.call rfl (by kernel_rfl) (by kernel_rfl) (tontinelaw11_begun_ok n) [[0]] [] [] [] (hks := []) (bks := []) (by kernel_rfl) (by kernel_rfl) (by kernel_rfl) (.inl rfl) rfl rfl (by kernel_rfl) (by kernel_rfl) _ (fun _ _ => rfl) _ _ (fun _ _ => rfl) (fun _ _ => rfl) (fun _ _ => by kernel_rfl) (fun _ _ => by kernel_rfl) (fun r_2 x_18 => ?_))
  refine GoO.shape (env' := [(0, .string (bs s_1)), (7, .bool r_2)]) (H' := []) (B' := []) (ks := [0, 7]) (by kernel_rfl) (by kernel_rfl) (by kernel_rfl) ?_
  refine GoO.exec (is := [1]) (hs := [.p]) (rest := []) (ks := [0, 8]) (env' := [(0, .string (bs s_1)), (8, .bool (!r_2))]) (H' := []) (ps := []) (by kernel_rfl) trivial ?_
  refine GoO.regionEnd ?_
  refine GoO.ite' c8_5e (by kernel_rfl) (fun h3 => ?_) (fun h3 => ?_)
  · refine GoO.seq' c8_6e ?_
    refine GoO.region' (is := [0]) c8_7e (by kernel_rfl) ?_
    refine GoO.exec (is := [0]) (hs := [.p]) (rest := []) (ks := [2]) (env' := [(2, .bool false)]) (H' := []) (ps := []) (by kernel_rfl) trivial ?_
    refine GoO.regionEnd ?_
    exact GoO.ret' (h := c8_8e) (hs := []) (ps := []) (hk := []) (bk := []) Try.func8 () (by kernel_rfl) trivial (by kernel_rfl) (by kernel_rfl)
  · refine GoO.skip' c8_9e ?_
    refine GoO.seq' c8_10e ?_
    refine GoO.seq' c8_11e ?_
    refine GoO.region' (is := [0, 1, 2]) c8_12e (by kernel_rfl) ?_
    refine GoO.exec (is := [0, 1, 2]) (hs := [.p, .p, .p]) (rest := []) (ks := [0, 11]) (env' := [(0, .string (bs s_1)), (11, .bool (decide ((s_1.length : Int) > 100000)))]) (H' := []) (ps := []) (by kernel_rfl) trivial ?_
    refine GoO.regionEnd ?_
    refine GoO.ite' c8_13e (by kernel_rfl) (fun h4 => ?_) (fun h4 => ?_)
    · refine GoO.seq' c8_14e ?_
      refine GoO.region' (is := [0]) c8_15e (by kernel_rfl) ?_
      refine GoO.exec (is := [0]) (hs := [.p]) (rest := []) (ks := [2]) (env' := [(2, .bool true)]) (H' := []) (ps := []) (by kernel_rfl) trivial ?_
      refine GoO.regionEnd ?_
      exact GoO.ret' (h := c8_16e) (hs := []) (ps := []) (hk := []) (bk := []) Try.func8 () (by kernel_rfl) trivial (by kernel_rfl) (by kernel_rfl)
    · refine GoO.skip' c8_17e ?_
      refine GoO.seq' c8_18e ?_
      refine GoO.region' (is := [0, 1, 2, 3, 4, 5, 6, 7]) c8_19e (by kernel_rfl) ?_
      refine GoO.exec (is := [0]) (hs := [.p]) (rest := [1, 2, 3, 4, 5, 6, 7]) (ks := [0, 13]) (env' := [(0, .string (bs s_1)), (13, .string (bs s_1))]) (H' := []) (ps := []) (by kernel_rfl) trivial ?_
      refine OpTo.go (GoO.call rfl (by kernel_rfl) (by kernel_rfl) (letter_Decode_ok n s_1) [[0]] [] [] [] (hks := []) (bks := []) (by kernel_rfl) (by kernel_rfl) (by kernel_rfl) (.inl rfl) rfl rfl (by kernel_rfl) (by kernel_rfl) _ (fun _ _ => rfl) _ _ (fun _ _ => rfl) (fun _ _ => rfl) (fun _ _ => by kernel_rfl) (fun _ _ => by kernel_rfl) (fun r_5 x_17 => ?_))
      obtain ⟨A_6, c_7⟩ := x_17
      refine GoO.shape (env' := [(0, .string (bs s_1)), (13, .string (bs s_1)), (14, .tuple ⟨[.agg ⟨[.int .i64 r_5.1.Kind, .int .i64 r_5.1.From, .int .i64 r_5.1.To, .int .u64 r_5.1.Term, .int .u64 r_5.1.Index, .int .u64 r_5.1.Prev, .int .u64 r_5.1.Commit, .bool r_5.1.Ok, .slice A_6 r_5.1.Entries.length c_7, .string (bs r_5.1.Data)]⟩, .int .i64 r_5.2]⟩)]) (H' := []) (B' := [Rd 0 kT_api_Entry A_6 c_7 r_5.1.Entries]) (ks := [0, 13, 14]) (by kernel_rfl) (by kernel_rfl) (by kernel_rfl) ?_
      refine GoO.exec (is := [2, 3, 4]) (hs := [.p, .p, .p]) (rest := [5, 6, 7]) (ks := [0, 15, 16]) (env' := [(0, .string (bs s_1)), (15, .agg ⟨[.int .i64 r_5.1.Kind, .int .i64 r_5.1.From, .int .i64 r_5.1.To, .int .u64 r_5.1.Term, .int .u64 r_5.1.Index, .int .u64 r_5.1.Prev, .int .u64 r_5.1.Commit, .bool r_5.1.Ok, .slice A_6 r_5.1.Entries.length c_7, .string (bs r_5.1.Data)]⟩), (16, .int .i64 r_5.2)]) (H' := []) (ps := []) (by kernel_rfl) trivial ?_
      refine OpTo.go (GoO.new rfl 40 (cs := [.int .i64 0, .int .i64 0, .int .i64 0, .int .u64 0, .int .u64 0, .int .u64 0, .int .u64 0, .bool false, .slice none ([] : List T_api_Entry).length 0, .string (bs [])]) (by kernel_rfl) _ (fun _ => rfl) (fun b_8 => ?_))
      refine GoO.exec (is := [6, 7]) (hs := [.b 0, .p]) (rest := []) (ks := [0, 3, 4]) (env' := [(0, .string (bs s_1)), (3, .pointer (some ⟨b_8, 0, none⟩)), (4, .int .i64 r_5.2)]) (H' := [⟨40, b_8, [.int .i64 r_5.1.Kind, .int .i64 r_5.1.From, .int .i64 r_5.1.To, .int .u64 r_5.1.Term, .int .u64 r_5.1.Index, .int .u64 r_5.1.Prev, .int .u64 r_5.1.Commit, .bool r_5.1.Ok, .slice A_6 r_5.1.Entries.length c_7, .string (bs r_5.1.Data)]⟩]) (ps := [b_8 = b_8]) (by kernel_rfl) (And.intro rfl trivial) ?_
      refine GoO.regionEnd ?_
      refine GoO.seq' c8_20e ?_
      refine GoO.region' (is := [0, 1, 2, 3, 4, 5, 6, 7]) c8_21e (by kernel_rfl) ?_
      refine GoO.exec (is := [0]) (hs := [.p]) (rest := [1, 2, 3, 4, 5, 6, 7]) (ks := [3, 4, 18]) (env' := [(3, .pointer (some ⟨b_8, 0, none⟩)), (4, .int .i64 r_5.2), (18, .string (bs s_1))]) (H' := [⟨40, b_8, [.int .i64 r_5.1.Kind, .int .i64 r_5.1.From, .int .i64 r_5.1.To, .int .u64 r_5.1.Term, .int .u64 r_5.1.Index, .int .u64 r_5.1.Prev, .int .u64 r_5.1.Commit, .bool r_5.1.Ok, .slice A_6 r_5.1.Entries.length c_7, .string (bs r_5.1.Data)]⟩]) (ps := []) (by kernel_rfl) trivial ?_
      refine OpTo.go (GoO.call rfl (by kernel_rfl) (by kernel_rfl) (tontineref11_Decode_ok n s_1) [[0]] [] [] [] (hks := [0]) (bks := [0]) (by kernel_rfl) (by kernel_rfl) (by kernel_rfl) (.inl rfl) rfl rfl (by kernel_rfl) (by kernel_rfl) _ (fun _ _ => rfl) _ _ (fun _ _ => rfl) (fun _ _ => rfl) (fun _ _ => by kernel_rfl) (fun _ _ => by kernel_rfl) (fun r_9 x_16 => ?_))
      obtain ⟨A_10, c_11⟩ := x_16
      refine GoO.shape (env' := [(3, .pointer (some ⟨b_8, 0, none⟩)), (4, .int .i64 r_5.2), (18, .string (bs s_1)), (19, .tuple ⟨[.agg ⟨[.int .i64 r_9.1.Kind, .int .i64 r_9.1.From, .int .i64 r_9.1.To, .int .u64 r_9.1.Term, .int .u64 r_9.1.Index, .int .u64 r_9.1.Prev, .int .u64 r_9.1.Commit, .bool r_9.1.Ok, .slice A_10 r_9.1.Entries.length c_11, .string (bs r_9.1.Data)]⟩, .int .i64 r_9.2]⟩)]) (H' := [⟨40, b_8, [.int .i64 r_5.1.Kind, .int .i64 r_5.1.From, .int .i64 r_5.1.To, .int .u64 r_5.1.Term, .int .u64 r_5.1.Index, .int .u64 r_5.1.Prev, .int .u64 r_5.1.Commit, .bool r_5.1.Ok, .slice A_6 r_5.1.Entries.length c_7, .string (bs r_5.1.Data)]⟩]) (B' := [Rd 0 kT_api_Entry A_10 c_11 r_9.1.Entries, Rd 0 kT_api_Entry A_6 c_7 r_5.1.Entries]) (ks := [3, 4, 18, 19]) (by kernel_rfl) (by kernel_rfl) (by kernel_rfl) ?_
      refine GoO.exec (is := [2, 3, 4]) (hs := [.p, .p, .p]) (rest := [5, 6, 7]) (ks := [3, 4, 20, 21]) (env' := [(3, .pointer (some ⟨b_8, 0, none⟩)), (4, .int .i64 r_5.2), (20, .agg ⟨[.int .i64 r_9.1.Kind, .int .i64 r_9.1.From, .int .i64 r_9.1.To, .int .u64 r_9.1.Term, .int .u64 r_9.1.Index, .int .u64 r_9.1.Prev, .int .u64 r_9.1.Commit, .bool r_9.1.Ok, .slice A_10 r_9.1.Entries.length c_11, .string (bs r_9.1.Data)]⟩), (21, .int .i64 r_9.2)]) (H' := [⟨40, b_8, [.int .i64 r_5.1.Kind, .int .i64 r_5.1.From, .int .i64 r_5.1.To, .int .u64 r_5.1.Term, .int .u64 r_5.1.Index, .int .u64 r_5.1.Prev, .int .u64 r_5.1.Commit, .bool r_5.1.Ok, .slice A_6 r_5.1.Entries.length c_7, .string (bs r_5.1.Data)]⟩]) (ps := []) (by kernel_rfl) trivial ?_
      refine OpTo.go (GoO.new rfl 41 (cs := [.int .i64 0, .int .i64 0, .int .i64 0, .int .u64 0, .int .u64 0, .int .u64 0, .int .u64 0, .bool false, .slice none ([] : List T_api_Entry).length 0, .string (bs [])]) (by kernel_rfl) _ (fun _ => rfl) (fun b_12 => ?_))
      refine GoO.exec (is := [6, 7]) (hs := [.b 0, .p]) (rest := []) (ks := [3, 4, 5, 6]) (env' := [(3, .pointer (some ⟨b_8, 0, none⟩)), (4, .int .i64 r_5.2), (5, .pointer (some ⟨b_12, 0, none⟩)), (6, .int .i64 r_9.2)]) (H' := [⟨41, b_12, [.int .i64 r_9.1.Kind, .int .i64 r_9.1.From, .int .i64 r_9.1.To, .int .u64 r_9.1.Term, .int .u64 r_9.1.Index, .int .u64 r_9.1.Prev, .int .u64 r_9.1.Commit, .bool r_9.1.Ok, .slice A_10 r_9.1.Entries.length c_11, .string (bs r_9.1.Data)]⟩, ⟨40, b_8, [.int .i64 r_5.1.Kind, .int .i64 r_5.1.From, .int .i64 r_5.1.To, .int .u64 r_5.1.Term, .int .u64 r_5.1.Index, .int .u64 r_5.1.Prev, .int .u64 r_5.1.Commit, .bool r_5.1.Ok, .slice A_6 r_5.1.Entries.length c_7, .string (bs r_5.1.Data)]⟩]) (ps := [b_12 = b_12]) (by kernel_rfl) (And.intro rfl trivial) ?_
      refine GoO.regionEnd ?_
      refine GoO.seq' c8_22e ?_
      refine GoO.region' (is := [0, 1, 2, 3, 4, 5, 6, 7, 8]) c8_23e (by kernel_rfl) ?_
      refine GoO.exec (is := [0, 1, 2, 3]) (hs := [.p, .p, .p, .p]) (rest := [4, 5, 6, 7, 8]) (ks := [3, 5, 25]) (env' := [(3, .pointer (some ⟨b_8, 0, none⟩)), (5, .pointer (some ⟨b_12, 0, none⟩)), (25, .bool (r_5.2 == r_9.2))]) (H' := [⟨41, b_12, [.int .i64 r_9.1.Kind, .int .i64 r_9.1.From, .int .i64 r_9.1.To, .int .u64 r_9.1.Term, .int .u64 r_9.1.Index, .int .u64 r_9.1.Prev, .int .u64 r_9.1.Commit, .bool r_9.1.Ok, .slice A_10 r_9.1.Entries.length c_11, .string (bs r_9.1.Data)]⟩, ⟨40, b_8, [.int .i64 r_5.1.Kind, .int .i64 r_5.1.From, .int .i64 r_5.1.To, .int .u64 r_5.1.Term, .int .u64 r_5.1.Index, .int .u64 r_5.1.Prev, .int .u64 r_5.1.Commit, .bool r_5.1.Ok, .slice A_6 r_5.1.Entries.length c_7, .string (bs r_5.1.Data)]⟩]) (ps := []) (by kernel_rfl) trivial ?_
      refine GoO.bsplit (t := 25) (by kernel_rfl) (fun h13 => ?_) (fun h13 => ?_)
      · refine GoO.exec (is := [4, 5]) (hs := [.b 1, .b 0]) (rest := [6, 7, 8]) (ks := [25, 26, 27]) (env' := [(25, .bool true), (26, .agg ⟨[.int .i64 r_5.1.Kind, .int .i64 r_5.1.From, .int .i64 r_5.1.To, .int .u64 r_5.1.Term, .int .u64 r_5.1.Index, .int .u64 r_5.1.Prev, .int .u64 r_5.1.Commit, .bool r_5.1.Ok, .slice A_6 r_5.1.Entries.length c_7, .string (bs r_5.1.Data)]⟩), (27, .agg ⟨[.int .i64 r_9.1.Kind, .int .i64 r_9.1.From, .int .i64 r_9.1.To, .int .u64 r_9.1.Term, .int .u64 r_9.1.Index, .int .u64 r_9.1.Prev, .int .u64 r_9.1.Commit, .bool r_9.1.Ok, .slice A_10 r_9.1.Entries.length c_11, .string (bs r_9.1.Data)]⟩)]) (H' := [⟨41, b_12, [.int .i64 r_9.1.Kind, .int .i64 r_9.1.From, .int .i64 r_9.1.To, .int .u64 r_9.1.Term, .int .u64 r_9.1.Index, .int .u64 r_9.1.Prev, .int .u64 r_9.1.Commit, .bool r_9.1.Ok, .slice A_10 r_9.1.Entries.length c_11, .string (bs r_9.1.Data)]⟩, ⟨40, b_8, [.int .i64 r_5.1.Kind, .int .i64 r_5.1.From, .int .i64 r_5.1.To, .int .u64 r_5.1.Term, .int .u64 r_5.1.Index, .int .u64 r_5.1.Prev, .int .u64 r_5.1.Commit, .bool r_5.1.Ok, .slice A_6 r_5.1.Entries.length c_7, .string (bs r_5.1.Data)]⟩]) (ps := [b_8 = b_8, b_12 = b_12]) (by kernel_rfl) (And.intro rfl (And.intro rfl trivial)) ?_
        refine OpTo.go (GoO.call rfl (by kernel_rfl) (by kernel_rfl) (tontineref10_Same_ok n r_5.1 r_9.1 A_6 c_7 A_10 c_11) [[0]] [] [] [(0, 1), (0, 0)] (hks := [0, 1]) (bks := [0, 1]) (by kernel_rfl) (by kernel_rfl) (by kernel_rfl) (.inl rfl) rfl rfl (by kernel_rfl) (by kernel_rfl) _ (fun _ _ => rfl) _ _ (fun _ _ => rfl) (fun _ _ => rfl) (fun _ _ => by kernel_rfl) (fun _ _ => by kernel_rfl) (fun r_14 x_15 => ?_))
        refine GoO.shape (env' := [(25, .bool true), (26, .agg ⟨[.int .i64 r_5.1.Kind, .int .i64 r_5.1.From, .int .i64 r_5.1.To, .int .u64 r_5.1.Term, .int .u64 r_5.1.Index, .int .u64 r_5.1.Prev, .int .u64 r_5.1.Commit, .bool r_5.1.Ok, .slice A_6 r_5.1.Entries.length c_7, .string (bs r_5.1.Data)]⟩), (27, .agg ⟨[.int .i64 r_9.1.Kind, .int .i64 r_9.1.From, .int .i64 r_9.1.To, .int .u64 r_9.1.Term, .int .u64 r_9.1.Index, .int .u64 r_9.1.Prev, .int .u64 r_9.1.Commit, .bool r_9.1.Ok, .slice A_10 r_9.1.Entries.length c_11, .string (bs r_9.1.Data)]⟩), (28, .bool r_14)]) (H' := [⟨41, b_12, [.int .i64 r_9.1.Kind, .int .i64 r_9.1.From, .int .i64 r_9.1.To, .int .u64 r_9.1.Term, .int .u64 r_9.1.Index, .int .u64 r_9.1.Prev, .int .u64 r_9.1.Commit, .bool r_9.1.Ok, .slice A_10 r_9.1.Entries.length c_11, .string (bs r_9.1.Data)]⟩, ⟨40, b_8, [.int .i64 r_5.1.Kind, .int .i64 r_5.1.From, .int .i64 r_5.1.To, .int .u64 r_5.1.Term, .int .u64 r_5.1.Index, .int .u64 r_5.1.Prev, .int .u64 r_5.1.Commit, .bool r_5.1.Ok, .slice A_6 r_5.1.Entries.length c_7, .string (bs r_5.1.Data)]⟩]) (B' := [Rd 0 kT_api_Entry A_10 c_11 r_9.1.Entries, Rd 0 kT_api_Entry A_6 c_7 r_5.1.Entries]) (ks := [25, 26, 27, 28]) (by kernel_rfl) (by kernel_rfl) (by kernel_rfl) ?_
        refine GoO.exec (is := [7, 8]) (hs := [.p, .p]) (rest := []) (ks := [2]) (env' := [(2, .bool r_14)]) (H' := [⟨41, b_12, [.int .i64 r_9.1.Kind, .int .i64 r_9.1.From, .int .i64 r_9.1.To, .int .u64 r_9.1.Term, .int .u64 r_9.1.Index, .int .u64 r_9.1.Prev, .int .u64 r_9.1.Commit, .bool r_9.1.Ok, .slice A_10 r_9.1.Entries.length c_11, .string (bs r_9.1.Data)]⟩, ⟨40, b_8, [.int .i64 r_5.1.Kind, .int .i64 r_5.1.From, .int .i64 r_5.1.To, .int .u64 r_5.1.Term, .int .u64 r_5.1.Index, .int .u64 r_5.1.Prev, .int .u64 r_5.1.Commit, .bool r_5.1.Ok, .slice A_6 r_5.1.Entries.length c_7, .string (bs r_5.1.Data)]⟩]) (ps := []) (by kernel_rfl) trivial ?_
        refine GoO.regionEnd ?_
        exact GoO.ret' (h := c8_24e) (hs := []) (ps := []) (hk := []) (bk := []) Try.func8 () (by kernel_rfl) trivial (by kernel_rfl) (by kernel_rfl)
      · refine GoO.exec (is := [4, 5, 6, 7, 8]) (hs := [.p, .p, .p, .p, .p]) (rest := []) (ks := [2]) (env' := [(2, .bool false)]) (H' := [⟨41, b_12, [.int .i64 r_9.1.Kind, .int .i64 r_9.1.From, .int .i64 r_9.1.To, .int .u64 r_9.1.Term, .int .u64 r_9.1.Index, .int .u64 r_9.1.Prev, .int .u64 r_9.1.Commit, .bool r_9.1.Ok, .slice A_10 r_9.1.Entries.length c_11, .string (bs r_9.1.Data)]⟩, ⟨40, b_8, [.int .i64 r_5.1.Kind, .int .i64 r_5.1.From, .int .i64 r_5.1.To, .int .u64 r_5.1.Term, .int .u64 r_5.1.Index, .int .u64 r_5.1.Prev, .int .u64 r_5.1.Commit, .bool r_5.1.Ok, .slice A_6 r_5.1.Entries.length c_7, .string (bs r_5.1.Data)]⟩]) (ps := []) (by kernel_rfl) trivial ?_
        refine GoO.regionEnd ?_
        exact GoO.ret' (h := c8_24e) (hs := []) (ps := []) (hk := []) (bk := []) Try.func8 () (by kernel_rfl) trivial (by kernel_rfl) (by kernel_rfl)
end Go.GL
