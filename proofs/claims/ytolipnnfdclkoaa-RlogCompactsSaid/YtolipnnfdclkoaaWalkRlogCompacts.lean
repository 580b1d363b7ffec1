import Derived.Test.YtolipnnfdclkoaaWalkRlogCompactsP1
import Derived.Test.YtolipnnfdclkoaaKindsT1
import Derived.Test.YtolipnnfdclkoaaProg
set_option linter.unusedVariables false
set_option linter.unusedSimpArgs false
set_option maxRecDepth 100000
namespace Go.GL
open Go Go.Proofs
theorem rlog_Log_MembersAt_l0_ok (n : Nat) (g_1 : T_rlog_Log) (i_5 : Int) (b_2 : Nat) (A_3 : Option Addr) (c_4 : Nat) (w0 : World) (S0 : Fam) :
    ∀ (k : Nat) (k_6 : Int), GoO (rlog_Log_MembersAt.cx b_2 A_3 c_4 w0 S0) [(0, .pointer (some ⟨b_2, 0, none⟩)), (1, .int .u64 i_5), (6, .int .i64 k_6)] [⟨1, b_2, [.int .u64 g_1.snap.Index, .int .u64 g_1.snap.Term, .int .u64 g_1.snap.Config, .string (bs g_1.snap.Data), .slice A_3 g_1.entries.length c_4]⟩] [Ow 2 kT_api_Entry A_3 c_4 g_1.entries] [.code c24_15, .inLoop c24_15, .inBlock 0, .code c24_35] (rlog_Log_MembersAt.l0 n g_1 i_5 k k_6) := by
  intro k
  induction k with
  | zero => intros; rw [rlog_Log_MembersAt.l0.eq_1]; exact GoO.stop
  | succ k ih0 =>
    intro k_6
    rw [rlog_Log_MembersAt.l0.eq_2]
    refine GoO.seq' c24_15e ?_
    refine GoO.seq' c24_16e ?_
    refine GoO.region' (is := [0, 1]) c24_17e (by kernel_rfl) ?_
    refine GoO.exec (is := [0, 1]) (hs := [.p, .p]) (rest := []) (ks := [0, 1, 6, 19]) (env' := [(0, .pointer (some ⟨b_2, 0, none⟩)), (1, .int .u64 i_5), (6, .int .i64 k_6), (19, .bool (decide (k_6 ≥ 0)))]) (H' := [⟨1, b_2, [.int .u64 g_1.snap.Index, .int .u64 g_1.snap.Term, .int .u64 g_1.snap.Config, .string (bs g_1.snap.Data), .slice A_3 g_1.entries.length c_4]⟩]) (ps := []) (by kernel_rfl) trivial ?_
    refine GoO.regionEnd ?_
    refine GoO.ite' c24_18e (by kernel_rfl) (fun h7 => ?_) (fun h7 => ?_)
    · refine GoO.skip' c24_19e ?_
      refine GoO.seq' c24_21e ?_
      refine GoO.block' c24_22e ?_
      refine GoO.seq' c24_23e ?_
      refine GoO.region' (is := [0, 1, 2, 3, 4, 5, 6, 7, 8]) c24_24e (by kernel_rfl) ?_
      refine GoO.exec (is := [0, 1, 2, 3, 4]) (hs := [.p, .p, .p, .b 0, .p]) (rest := [5, 6, 7, 8]) (ks := [0, 1, 6, 25, 26]) (env' := [(0, .pointer (some ⟨b_2, 0, none⟩)), (1, .int .u64 i_5), (6, .int .i64 k_6), (25, .slice A_3 g_1.entries.length c_4), (26, .int .i64 k_6)]) (H' := [⟨1, b_2, [.int .u64 g_1.snap.Index, .int .u64 g_1.snap.Term, .int .u64 g_1.snap.Config, .string (bs g_1.snap.Data), .slice A_3 g_1.entries.length c_4]⟩]) (ps := [b_2 = b_2]) (by kernel_rfl) (And.intro rfl trivial) ?_
      refine GoO.guard (fun h8 => ?_)
      refine OpTo.go (GoO.idx (kk := .i64) (e := 40) (K := kT_api_Entry) (A := A_3) (c := c_4) (xs := g_1.entries) (iv := k_6) (j := 0) rfl (by kernel_rfl) (by kernel_rfl) (by kernel_rfl) (by kernel_rfl) rfl Reads.own rfl h8.1 h8.2 (by decide) rfl ?_)
      refine OpTo.go (GoO.ldE' (K := kT_api_Entry) (A := A_3) (c := c_4) (xs := g_1.entries) (iN := k_6.toNat) (off := 0) (j := 0) rfl (by kernel_rfl) rfl Reads.own (by first | exact idx_lt h8.1 h8.2 | (simp only [List.length_set]; exact idx_lt h8.1 h8.2)) (by decide) (Opn.flat _ _ _ _ _) (v := fun _ => .agg ⟨[.int .u64 ((rdL g_1.entries k_6).Term), .int .u64 ((rdL g_1.entries k_6).Index), .int .i64 ((rdL g_1.entries k_6).Kind), .string (bs ((rdL g_1.entries k_6).Data))]⟩) (fun _ => by kernel_rfl) _ (fun _ => rfl) (fun _ => ?_))
      refine OpTo.go (GoO.new rfl 40 (cs := [.int .u64 0, .int .u64 0, .int .i64 0, .string (bs [])]) (by kernel_rfl) _ (fun _ => rfl) (fun b_9 => ?_))
      refine GoO.exec (is := [8]) (hs := [.b 0]) (rest := []) (ks := [0, 1, 6, 7]) (env' := [(0, .pointer (some ⟨b_2, 0, none⟩)), (1, .int .u64 i_5), (6, .int .i64 k_6), (7, .pointer (some ⟨b_9, 0, none⟩))]) (H' := [⟨40, b_9, [.int .u64 ((rdL g_1.entries k_6).Term), .int .u64 ((rdL g_1.entries k_6).Index), .int .i64 ((rdL g_1.entries k_6).Kind), .string (bs ((rdL g_1.entries k_6).Data))]⟩, ⟨1, b_2, [.int .u64 g_1.snap.Index, .int .u64 g_1.snap.Term, .int .u64 g_1.snap.Config, .string (bs g_1.snap.Data), .slice A_3 g_1.entries.length c_4]⟩]) (ps := [b_9 = b_9]) (by kernel_rfl) (And.intro rfl trivial) ?_
      refine GoO.regionEnd ?_
      refine GoO.seq' c24_25e ?_
      refine GoO.region' (is := [0, 1, 2, 3, 4, 5, 6, 7, 8]) c24_26e (by kernel_rfl) ?_
      refine GoO.exec (is := [0, 1, 2, 3]) (hs := [.p, .b 0, .p, .p]) (rest := [4, 5, 6, 7, 8]) (ks := [0, 1, 6, 7, 32]) (env' := [(0, .pointer (some ⟨b_2, 0, none⟩)), (1, .int .u64 i_5), (6, .int .i64 k_6), (7, .pointer (some ⟨b_9, 0, none⟩)), (32, .bool (((rdL g_1.entries k_6).Kind) == 2))]) (H' := [⟨40, b_9, [.int .u64 ((rdL g_1.entries k_6).Term), .int .u64 ((rdL g_1.entries k_6).Index), .int .i64 ((rdL g_1.entries k_6).Kind), .string (bs ((rdL g_1.entries k_6).Data))]⟩, ⟨1, b_2, [.int .u64 g_1.snap.Index, .int .u64 g_1.snap.Term, .int .u64 g_1.snap.Config, .string (bs g_1.snap.Data), .slice A_3 g_1.entries.length c_4]⟩]) (ps := [b_9 = b_9]) (by kernel_rfl) (And.intro rfl trivial) ?_
      refine GoO.bsplit (t := 32) (by kernel_rfl) (fun h10 => ?_) (fun h10 => ?_)
      · refine GoO.exec (is := [4, 5, 6, 7, 8]) (hs := [.p, .b 0, .p, .p, .p]) (rest := []) (ks := [0, 1, 6, 7, 37]) (env' := [(0, .pointer (some ⟨b_2, 0, none⟩)), (1, .int .u64 i_5), (6, .int .i64 k_6), (7, .pointer (some ⟨b_9, 0, none⟩)), (37, .bool (decide (((rdL g_1.entries k_6).Index) ≤ i_5)))]) (H' := [⟨40, b_9, [.int .u64 ((rdL g_1.entries k_6).Term), .int .u64 ((rdL g_1.entries k_6).Index), .int .i64 ((rdL g_1.entries k_6).Kind), .string (bs ((rdL g_1.entries k_6).Data))]⟩, ⟨1, b_2, [.int .u64 g_1.snap.Index, .int .u64 g_1.snap.Term, .int .u64 g_1.snap.Config, .string (bs g_1.snap.Data), .slice A_3 g_1.entries.length c_4]⟩]) (ps := [b_9 = b_9]) (by kernel_rfl) (And.intro rfl trivial) ?_
        refine GoO.regionEnd ?_
        exact GoO.sub (ks := [0, 1, 6, 7, 37]) (hk := [1, 0]) (bk := [0]) (by kernel_rfl) (by kernel_rfl) (by kernel_rfl) (rlog_Log_MembersAt_j0_ok n (rlog_Log_MembersAt.l0 n g_1 i_5 k) g_1 i_5 k_6 b_2 A_3 c_4 b_9 w0 S0 ih0 (decide (((rdL g_1.entries k_6).Index) ≤ i_5)))
      · refine GoO.exec (is := [4, 5, 6, 7, 8]) (hs := [.p, .p, .p, .p, .p]) (rest := []) (ks := [0, 1, 6, 7, 37]) (env' := [(0, .pointer (some ⟨b_2, 0, none⟩)), (1, .int .u64 i_5), (6, .int .i64 k_6), (7, .pointer (some ⟨b_9, 0, none⟩)), (37, .bool false)]) (H' := [⟨40, b_9, [.int .u64 ((rdL g_1.entries k_6).Term), .int .u64 ((rdL g_1.entries k_6).Index), .int .i64 ((rdL g_1.entries k_6).Kind), .string (bs ((rdL g_1.entries k_6).Data))]⟩, ⟨1, b_2, [.int .u64 g_1.snap.Index, .int .u64 g_1.snap.Term, .int .u64 g_1.snap.Config, .string (bs g_1.snap.Data), .slice A_3 g_1.entries.length c_4]⟩]) (ps := []) (by kernel_rfl) trivial ?_
        refine GoO.regionEnd ?_
        exact GoO.sub (ks := [0, 1, 6, 7, 37]) (hk := [1, 0]) (bk := [0]) (by kernel_rfl) (by kernel_rfl) (by kernel_rfl) (rlog_Log_MembersAt_j0_ok n (rlog_Log_MembersAt.l0 n g_1 i_5 k) g_1 i_5 k_6 b_2 A_3 c_4 b_9 w0 S0 ih0 false)
    · refine GoO.exit' c24_20e rfl ?_
      refine GoO.seq' c24_35e ?_
      refine GoO.draw c24_36e (by kernel_rfl) [11] [⟨1, b_2, [.int .u64 g_1.snap.Index, .int .u64 g_1.snap.Term, .int .u64 g_1.snap.Config, .string (bs g_1.snap.Data), .slice A_3 g_1.entries.length c_4]⟩] [] (n := 12) (by kernel_rfl) ?_
      simp only [List.replicate]
      refine GoF.take [0, 1, 2, 3, 4, 5, 6, 7, 8, 9, 10] [.p, .p, .p, .p, .b 0, .p, .p, .p, .p, .b 0, .p] (ks := [4, 56]) (fu := 1) (li := [true, true, true, true, true, true, true, true, true, true, true, false]) (env' := [(4, .int .u64 g_1.snap.Config), (56, .int .u64 g_1.snap.Index)]) (ps := [b_2 = b_2, b_2 = b_2]) (hk := [0]) (bk := []) (by kernel_rfl) (And.intro rfl (And.intro rfl trivial)) rfl rfl ?_
      refine GoF.fin1 (i := 11) (hint := .p) (ps := []) (hk := []) (bk := []) (by kernel_rfl) rfl trivial (.inl rfl) ?_
      refine GoF.done (by kernel_rfl) ?_
      exact GoO.ret' (h := c24_37e) (hs := []) (ps := []) (hk := []) (bk := []) Try.func24 () (by kernel_rfl) trivial (by kernel_rfl) (by kernel_rfl)
theorem rlog_Log_MembersAt_ok (n : Nat) (g_1 : T_rlog_Log) (i_5 : Int) (b_2 : Nat) (A_3 : Option Addr) (c_4 : Nat) :
    Meets Try.prog 24 [.pointer (some ⟨b_2, 0, none⟩), .int .u64 i_5] 2 [] [⟨1, b_2, [.int .u64 g_1.snap.Index, .int .u64 g_1.snap.Term, .int .u64 g_1.snap.Config, .string (bs g_1.snap.Data), .slice A_3 g_1.entries.length c_4]⟩] [Ow 2 kT_api_Entry A_3 c_4 g_1.entries] (rlog_Log_MembersAt.f n g_1 i_5) (rlog_Log_MembersAt.R b_2 A_3 c_4) := by
  refine Meets.of (c := c24_0) (n := 57) Try.func24 (by kernel_rfl) (by kernel_rfl) (by kernel_rfl) fun w0 S0 => ?_
  unfold rlog_Log_MembersAt.f
  show GoO (rlog_Log_MembersAt.cx b_2 A_3 c_4 w0 S0) [(0, .pointer (some ⟨b_2, 0, none⟩)), (1, .int .u64 i_5)] [⟨1, b_2, [.int .u64 g_1.snap.Index, .int .u64 g_1.snap.Term, .int .u64 g_1.snap.Config, .string (bs g_1.snap.Data), .slice A_3 g_1.entries.length c_4]⟩] [Ow 2 kT_api_Entry A_3 c_4 g_1.entries] [.code c24_0] _
  refine GoO.seq' c24_0e ?_
  refine GoO.region' (is := [0, 1]) c24_1e (by kernel_rfl) ?_
  refine GoO.exec (is := [0, 1]) (hs := [.p, .p]) (rest := []) (ks := [0, 1]) (env' := [(0, .pointer (some ⟨b_2, 0, none⟩)), (1, .int .u64 i_5)]) (H' := [⟨1, b_2, [.int .u64 g_1.snap.Index, .int .u64 g_1.snap.Term, .int .u64 g_1.snap.Config, .string (bs g_1.snap.Data), .slice A_3 g_1.entries.length c_4]⟩]) (ps := []) (by kernel_rfl) trivial ?_
  refine GoO.regionEnd ?_
  refine GoO.seq' c24_2e ?_
  refine GoO.seq' c24_3e ?_
  refine GoO.region' (is := [0, 1]) c24_4e (by kernel_rfl) ?_
  refine GoO.exec (is := [0, 1]) (hs := [.p, .p]) (rest := []) (ks := [0, 1, 11]) (env' := [(0, .pointer (some ⟨b_2, 0, none⟩)), (1, .int .u64 i_5), (11, .bool false)]) (H' := [⟨1, b_2, [.int .u64 g_1.snap.Index, .int .u64 g_1.snap.Term, .int .u64 g_1.snap.Config, .string (bs g_1.snap.Data), .slice A_3 g_1.entries.length c_4]⟩]) (ps := []) (by kernel_rfl) trivial ?_
  refine GoO.regionEnd ?_
  refine GoO.condF c24_5e (by kernel_rfl) ?_
  refine GoO.skip' c24_9e ?_
  refine GoO.seq' c24_10e ?_
  refine GoO.seq' c24_11e ?_
  refine GoO.region' (is := [0, 1, 2, 3, 4, 5, 6]) c24_12e (by kernel_rfl) ?_
  refine GoO.exec (is := [0, 1, 2, 3, 4, 5, 6]) (hs := [.p, .p, .p, .b 0, .p, .p, .p]) (rest := []) (ks := [0, 1, 6]) (env' := [(0, .pointer (some ⟨b_2, 0, none⟩)), (1, .int .u64 i_5), (6, .int .i64 (wi64 ((g_1.entries.length : Int) - 1)))]) (H' := [⟨1, b_2, [.int .u64 g_1.snap.Index, .int .u64 g_1.snap.Term, .int .u64 g_1.snap.Config, .string (bs g_1.snap.Data), .slice A_3 g_1.entries.length c_4]⟩]) (ps := [b_2 = b_2]) (by kernel_rfl) (And.intro rfl trivial) ?_
  refine GoO.regionEnd ?_
  refine GoO.block' c24_13e ?_
  refine GoO.loop' c24_14e ?_
  exact GoO.sub (ks := [0, 1, 6]) (hk := [0]) (bk := [0]) (by kernel_rfl) (by kernel_rfl) (by kernel_rfl) (rlog_Log_MembersAt_l0_ok n g_1 i_5 b_2 A_3 c_4 w0 S0 n (wi64 ((g_1.entries.length : Int) - 1)))

/-! (*tontine/rlog.Log).Members -/
noncomputable def c23_0 : Code := bodyOf Try.f23
noncomputable def c23_1 : Code := cdL c23_0
noncomputable def c23_2 : Code := cdR c23_0
noncomputable def c23_3 : Code := cdL c23_2
noncomputable def c23_4 : Code := cdL c23_3
noncomputable def c23_5 : Code := cdR c23_3
noncomputable def c23_9 : Code := cdR c23_5
noncomputable def c23_10 : Code := cdR c23_2
noncomputable def c23_11 : Code := cdL c23_10
noncomputable def c23_12 : Code := cdR c23_10
noncomputable def c23_6 : Code := cdL c23_5
noncomputable def r23_1 : Array Oper := cdO c23_1
noncomputable def r23_4 : Array Oper := cdO c23_4
noncomputable def r23_11 : Array Oper := cdO c23_11
theorem c23_0e : c23_0 = .seq c23_1 c23_2 := by kernel_rfl
theorem c23_1e : c23_1 = .region 0 r23_1 false := by kernel_rfl
theorem c23_2e : c23_2 = .seq c23_3 c23_10 := by kernel_rfl
theorem c23_3e : c23_3 = .seq c23_4 c23_5 := by kernel_rfl
theorem c23_4e : c23_4 = .region 1 r23_4 false := by kernel_rfl
theorem c23_5e : c23_5 = .cond (cdC c23_5) c23_6 c23_9 := by kernel_rfl
theorem c23_9e : c23_9 = .skip := by kernel_rfl
theorem c23_10e : c23_10 = .seq c23_11 c23_12 := by kernel_rfl
theorem c23_11e : c23_11 = .region 3 r23_11 false := by kernel_rfl
theorem c23_12e : c23_12 = .ret := by kernel_rfl
noncomputable def rlog_Log_Members.R (b_2 : Nat) (A_3 : Option Addr) (c_4 : Nat) : Pst (Int × Int) where
  ε := Unit
  v := fun r x => .tuple ⟨[.int .u64 r.1, .int .u64 r.2]⟩
  H := fun r x => []
  B := fun r x => []
noncomputable def rlog_Log_Members.cx (b_2 : Nat) (A_3 : Option Addr) (c_4 : Nat) (w0 : World) (S0 : Fam) : Cx (Int × Int) := ⟨Try.prog, 23, Try.f23, 10, w0, S0, [], 2, rlog_Log_Members.R b_2 A_3 c_4⟩
theorem rlog_Log_Members_ok (n : Nat) (g_1 : T_rlog_Log) (b_2 : Nat) (A_3 : Option Addr) (c_4 : Nat) :
    Meets Try.prog 23 [.pointer (some ⟨b_2, 0, none⟩)] 2 [] [⟨1, b_2, [.int .u64 g_1.snap.Index, .int .u64 g_1.snap.Term, .int .u64 g_1.snap.Config, .string (bs g_1.snap.Data), .slice A_3 g_1.entries.length c_4]⟩] [Ow 2 kT_api_Entry A_3 c_4 g_1.entries] (rlog_Log_Members.f n g_1) (rlog_Log_Members.R b_2 A_3 c_4) := by
  refine Meets.of (c := c23_0) (n := 10) Try.func23 (by kernel_rfl) (by kernel_rfl) (by kernel_rfl) fun w0 S0 => ?_
  unfold rlog_Log_Members.f
  show GoO (rlog_Log_Members.cx b_2 A_3 c_4 w0 S0) [(0, .pointer (some ⟨b_2, 0, none⟩))] [⟨1, b_2, [.int .u64 g_1.snap.Index, .int .u64 g_1.snap.Term, .int .u64 g_1.snap.Config, .string (bs g_1.snap.Data), .slice A_3 g_1.entries.length c_4]⟩] [Ow 2 kT_api_Entry A_3 c_4 g_1.entries] [.code c23_0] _
  refine GoO.seq' c23_0e ?_
  refine GoO.region' (is := [0, 1]) c23_1e (by kernel_rfl) ?_
  refine GoO.exec (is := [0, 1]) (hs := [.p, .p]) (rest := []) (ks := [0]) (env' := [(0, .pointer (some ⟨b_2, 0, none⟩))]) (H' := [⟨1, b_2, [.int .u64 g_1.snap.Index, .int .u64 g_1.snap.Term, .int .u64 g_1.snap.Config, .string (bs g_1.snap.Data), .slice A_3 g_1.entries.length c_4]⟩]) (ps := []) (by kernel_rfl) trivial ?_
  refine GoO.regionEnd ?_
  refine GoO.seq' c23_2e ?_
  refine GoO.seq' c23_3e ?_
  refine GoO.region' (is := [0, 1]) c23_4e (by kernel_rfl) ?_
  refine GoO.exec (is := [0, 1]) (hs := [.p, .p]) (rest := []) (ks := [0, 5]) (env' := [(0, .pointer (some ⟨b_2, 0, none⟩)), (5, .bool false)]) (H' := [⟨1, b_2, [.int .u64 g_1.snap.Index, .int .u64 g_1.snap.Term, .int .u64 g_1.snap.Config, .string (bs g_1.snap.Data), .slice A_3 g_1.entries.length c_4]⟩]) (ps := []) (by kernel_rfl) trivial ?_
  refine GoO.regionEnd ?_
  refine GoO.condF c23_5e (by kernel_rfl) ?_
  refine GoO.skip' c23_9e ?_
  refine GoO.seq' c23_10e ?_
  refine GoO.region' (is := [0, 1, 2, 3, 4, 5]) c23_11e (by kernel_rfl) ?_
  refine GoO.exec (is := [0]) (hs := [.p]) (rest := [1, 2, 3, 4, 5]) (ks := [6]) (env' := [(6, .pointer (some ⟨b_2, 0, none⟩))]) (H' := [⟨1, b_2, [.int .u64 g_1.snap.Index, .int .u64 g_1.snap.Term, .int .u64 g_1.snap.Config, .string (bs g_1.snap.Data), .slice A_3 g_1.entries.length c_4]⟩]) (ps := []) (by kernel_rfl) trivial ?_
  refine OpTo.go (GoO.call rfl (by kernel_rfl) (by kernel_rfl) (rlog_Log_MembersAt_ok n (⟨(⟨g_1.snap.Index, g_1.snap.Term, g_1.snap.Config, g_1.snap.Data⟩ : T_api_Snapshot), g_1.entries⟩ : T_rlog_Log) 18446744073709551615 b_2 A_3 c_4) [[0], [1], [2]] [] [(1, 0)] [(2, 0)] (hks := [0]) (bks := [0]) (by kernel_rfl) (by kernel_rfl) (by kernel_rfl) (.inl rfl) rfl rfl (by kernel_rfl) (by kernel_rfl) _ (fun _ _ => rfl) _ _ (fun _ _ => rfl) (fun _ _ => rfl) (fun _ _ => by kernel_rfl) (fun _ _ => by kernel_rfl) (fun r_5 x_6 => ?_))
  refine GoO.shape (env' := [(6, .pointer (some ⟨b_2, 0, none⟩)), (7, .tuple ⟨[.int .u64 r_5.1, .int .u64 r_5.2]⟩)]) (H' := [⟨1, b_2, [.int .u64 g_1.snap.Index, .int .u64 g_1.snap.Term, .int .u64 g_1.snap.Config, .string (bs g_1.snap.Data), .slice A_3 g_1.entries.length c_4]⟩]) (B' := [Ow 2 kT_api_Entry A_3 c_4 g_1.entries]) (ks := [6, 7]) (by kernel_rfl) (by kernel_rfl) (by kernel_rfl) ?_
  refine GoO.exec (is := [2, 3, 4, 5]) (hs := [.p, .p, .p, .p]) (rest := []) (ks := [2, 3]) (env' := [(2, .int .u64 r_5.1), (3, .int .u64 r_5.2)]) (H' := [⟨1, b_2, [.int .u64 g_1.snap.Index, .int .u64 g_1.snap.Term, .int .u64 g_1.snap.Config, .string (bs g_1.snap.Data), .slice A_3 g_1.entries.length c_4]⟩]) (ps := []) (by kernel_rfl) trivial ?_
  refine GoO.regionEnd ?_
  exact GoO.ret' (h := c23_12e) (hs := []) (ps := []) (hk := []) (bk := []) Try.func23 () (by kernel_rfl) trivial (by kernel_rfl) (by kernel_rfl)

/-! (*tontine/rlog.Log).Get -/
noncomputable def c17_0 : Code := bodyOf Try.f17
noncomputable def c17_1 : Code := cdL c17_0
noncomputable def c17_2 : Code := cdR c17_0
noncomputable def c17_3 : Code := cdL c17_2
noncomputable def c17_4 : Code := cdR c17_2
noncomputable def c17_5 : Code := cdL c17_4
noncomputable def c17_6 : Code := cdL c17_5
noncomputable def c17_7 : Code := cdR c17_5
noncomputable def c17_8 : Code := cdL c17_7
noncomputable def c17_9 : Code := cdL c17_8
noncomputable def c17_10 : Code := cdR c17_8
noncomputable def c17_11 : Code := cdR c17_7
noncomputable def c17_12 : Code := cdR c17_4
noncomputable def c17_13 : Code := cdL c17_12
noncomputable def c17_14 : Code := cdR c17_12
noncomputable def r17_1 : Array Oper := cdO c17_1
noncomputable def r17_3 : Array Oper := cdO c17_3
noncomputable def r17_6 : Array Oper := cdO c17_6
noncomputable def r17_9 : Array Oper := cdO c17_9
noncomputable def r17_13 : Array Oper := cdO c17_13
theorem c17_0e : c17_0 = .seq c17_1 c17_2 := by kernel_rfl
theorem c17_1e : c17_1 = .region 0 r17_1 false := by kernel_rfl
theorem c17_2e : c17_2 = .seq c17_3 c17_4 := by kernel_rfl
theorem c17_3e : c17_3 = .region 1 r17_3 false := by kernel_rfl
theorem c17_4e : c17_4 = .seq c17_5 c17_12 := by kernel_rfl
theorem c17_5e : c17_5 = .seq c17_6 c17_7 := by kernel_rfl
theorem c17_6e : c17_6 = .region 2 r17_6 false := by kernel_rfl
theorem c17_7e : c17_7 = .cond (cdC c17_7) c17_8 c17_11 := by kernel_rfl
theorem c17_8e : c17_8 = .seq c17_9 c17_10 := by kernel_rfl
theorem c17_9e : c17_9 = .region 3 r17_9 false := by kernel_rfl
theorem c17_10e : c17_10 = .ret := by kernel_rfl
theorem c17_11e : c17_11 = .skip := by kernel_rfl
theorem c17_12e : c17_12 = .seq c17_13 c17_14 := by kernel_rfl
theorem c17_13e : c17_13 = .region 4 r17_13 true := by kernel_rfl
theorem c17_14e : c17_14 = .ret := by kernel_rfl
noncomputable def rlog_Log_Get.R (b_2 : Nat) (A_3 : Option Addr) (c_4 : Nat) : Pst (List T_api_Entry) where
  ε := Option Addr × Nat
  v := fun r x => .slice x.1 r.length x.2
  H := fun r x => []
  B := fun r x => [Ow 3 kT_api_Entry x.1 x.2 r]
noncomputable def rlog_Log_Get.cx (b_2 : Nat) (A_3 : Option Addr) (c_4 : Nat) (w0 : World) (S0 : Fam) : Cx (List T_api_Entry) := ⟨Try.prog, 17, Try.f17, 39, w0, S0, [], 2, rlog_Log_Get.R b_2 A_3 c_4⟩
theorem rlog_Log_Get_j0_ok (n : Nat) (g_1 : T_rlog_Log) (n_6 : Int) (r_7 : Int) (b_2 : Nat) (A_3 : Option Addr) (c_4 : Nat) (w0 : World) (S0 : Fam) (b_9 : Bool) :
    GoO (rlog_Log_Get.cx b_2 A_3 c_4 w0 S0) [(0, .pointer (some ⟨b_2, 0, none⟩)), (2, .int .i64 n_6), (7, .int .i64 r_7), (16, .bool b_9)] [⟨1, b_2, [.int .u64 g_1.snap.Index, .int .u64 g_1.snap.Term, .int .u64 g_1.snap.Config, .string (bs g_1.snap.Data), .slice A_3 g_1.entries.length c_4]⟩] [Ow 2 kT_api_Entry A_3 c_4 g_1.entries] [.code c17_7, .code c17_12] (rlog_Log_Get.j0 n g_1 n_6 r_7 b_9) := by
  unfold rlog_Log_Get.j0
  refine GoO.ite' c17_7e (by kernel_rfl) (fun h10 => ?_) (fun h10 => ?_)
  · refine GoO.seq' c17_8e ?_
    refine GoO.region' (is := [0]) c17_9e (by kernel_rfl) ?_
    refine GoO.exec (is := [0]) (hs := [.p]) (rest := []) (ks := [6]) (env' := [(6, .slice none ([] : List T_api_Entry).length 0)]) (H' := [⟨1, b_2, [.int .u64 g_1.snap.Index, .int .u64 g_1.snap.Term, .int .u64 g_1.snap.Config, .string (bs g_1.snap.Data), .slice A_3 g_1.entries.length c_4]⟩]) (ps := []) (by kernel_rfl) trivial ?_
    refine GoO.regionEnd ?_
    refine GoO.nilOwn kT_api_Entry 3 ?_
    exact GoO.ret' (h := c17_10e) (hs := []) (ps := []) (hk := []) (bk := [0]) Try.func17 (⟨none, 0⟩ : Option Addr × Nat) (by kernel_rfl) trivial (by kernel_rfl) (by kernel_rfl)
  · refine GoO.skip' c17_11e ?_
    refine GoO.seq' c17_12e ?_
    refine GoO.draw c17_13e (by kernel_rfl) [22] [⟨1, b_2, [.int .u64 g_1.snap.Index, .int .u64 g_1.snap.Term, .int .u64 g_1.snap.Config, .string (bs g_1.snap.Data), .slice A_3 g_1.entries.length c_4]⟩] [] (n := 23) (by kernel_rfl) ?_
    simp only [List.replicate]
    refine GoF.take [0, 1, 2, 3, 4, 5, 6, 7, 8, 9, 10, 11, 12, 13, 14, 15, 16, 17, 18, 19] [.p, .p, .p, .b 0, .p, .p, .p, .p, .b 0, .p, .p, .p, .p, .p, .p, .b 0, .p, .p, .p, .p] (ks := [20, 21, 36]) (fu := 3) (li := [true, true, true, true, true, true, true, true, true, true, true, true, true, true, true, true, true, true, true, true, false, false, false]) (env' := [(20, .slice A_3 g_1.entries.length c_4), (21, .int .i64 r_7), (36, .int .i64 (if (wi64 (r_7 + (if (g_1.entries.length : Int) < n_6 then (g_1.entries.length : Int) else n_6))) < (g_1.entries.length : Int) then (wi64 (r_7 + (if (g_1.entries.length : Int) < n_6 then (g_1.entries.length : Int) else n_6))) else (g_1.entries.length : Int)))]) (ps := [b_2 = b_2, b_2 = b_2, b_2 = b_2]) (hk := [0]) (bk := []) (by kernel_rfl) (And.intro rfl (And.intro rfl (And.intro rfl trivial))) rfl rfl ?_
    refine GoF.guard (fun h13 => ?_)
    refine GoF.slc1 (i := 20) (hk := [0]) (bk := []) (e := 40) (K := kT_api_Entry) (A := A_3) (c := c_4) (xs := g_1.entries) (j := 0) (l := r_7) (h := (if (wi64 (r_7 + (if (g_1.entries.length : Int) < n_6 then (g_1.entries.length : Int) else n_6))) < (g_1.entries.length : Int) then (wi64 (r_7 + (if (g_1.entries.length : Int) < n_6 then (g_1.entries.length : Int) else n_6))) else (g_1.entries.length : Int))) (by kernel_rfl) rfl rfl rfl (by kernel_rfl) (by kernel_rfl) (by kernel_rfl) rfl Reads.own rfl (by kernel_rfl) (by kernel_rfl) h13.1 h13.2.1 h13.2.2 _ (fun _ _ => rfl) (fun A_11 c_12 => ?_)
    refine GoF.nilOwn kT_api_Entry 40 ?_
    refine GoF.guard (fun h14 => ?_)
    refine OpTo.goF (i := 21) (by kernel_rfl) (hk := [0]) (bk := []) (GoO.appW (e := 40) (K := kT_api_Entry) (A := none) (c := 0) (tg := 40) (bytes := 40) (zs := [.int .u64 0, .int .u64 0, .int .i64 0, .string (bs [])]) (xs := ([] : List T_api_Entry)) (ys := (g_1.entries.take (if (wi64 (r_7 + (if (g_1.entries.length : Int) < n_6 then (g_1.entries.length : Int) else n_6))) < (g_1.entries.length : Int) then (wi64 (r_7 + (if (g_1.entries.length : Int) < n_6 then (g_1.entries.length : Int) else n_6))) else (g_1.entries.length : Int)).toNat).drop r_7.toNat) (xv := .slice A_11 ((g_1.entries.take (if (wi64 (r_7 + (if (g_1.entries.length : Int) < n_6 then (g_1.entries.length : Int) else n_6))) < (g_1.entries.length : Int) then (wi64 (r_7 + (if (g_1.entries.length : Int) < n_6 then (g_1.entries.length : Int) else n_6))) else (g_1.entries.length : Int)).toNat).drop r_7.toNat).length c_12) (j := 0) (bk := [1, 2]) rfl (by kernel_rfl) (by kernel_rfl) (by kernel_rfl) (by kernel_rfl) rfl (by kernel_rfl) rfl (fun w S hB => SrcIs.row (Reads.rd w S (hB _ (List.mem_of_getElem? (i := 1) rfl)))) h14 rfl rfl rfl rfl _ (fun _ _ => rfl) (fun A_15 c_16 => ⟨rfl, rfl, ?_⟩))
    refine GoF.fin1 (i := 22) (hint := .p) (ps := []) (hk := []) (bk := []) (by kernel_rfl) rfl trivial (.inl rfl) ?_
    refine GoF.done (by kernel_rfl) ?_
    refine GoO.retag (t := 40) (u := 3) (j := 0) (hk := [0]) (bk := [1, 2]) rfl rfl rfl rfl rfl rfl (by kernel_rfl) (by kernel_rfl) ?_
    exact GoO.ret' (h := c17_14e) (hs := []) (ps := []) (hk := []) (bk := [0]) Try.func17 (⟨A_15, c_16⟩ : Option Addr × Nat) (by kernel_rfl) trivial (by kernel_rfl) (by kernel_rfl)
theorem rlog_Log_Get_ok (n : Nat) (g_1 : T_rlog_Log) (i_5 : Int) (n_6 : Int) (b_2 : Nat) (A_3 : Option Addr) (c_4 : Nat) :
    Meets Try.prog 17 [.pointer (some ⟨b_2, 0, none⟩), .int .u64 i_5, .int .i64 n_6] 2 [] [⟨1, b_2, [.int .u64 g_1.snap.Index, .int .u64 g_1.snap.Term, .int .u64 g_1.snap.Config, .string (bs g_1.snap.Data), .slice A_3 g_1.entries.length c_4]⟩] [Ow 2 kT_api_Entry A_3 c_4 g_1.entries] (rlog_Log_Get.f n g_1 i_5 n_6) (rlog_Log_Get.R b_2 A_3 c_4) := by
  refine Meets.of (c := c17_0) (n := 39) Try.func17 (by kernel_rfl) (by kernel_rfl) (by kernel_rfl) fun w0 S0 => ?_
  unfold rlog_Log_Get.f
  show GoO (rlog_Log_Get.cx b_2 A_3 c_4 w0 S0) [(0, .pointer (some ⟨b_2, 0, none⟩)), (1, .int .u64 i_5), (2, .int .i64 n_6)] [⟨1, b_2, [.int .u64 g_1.snap.Index, .int .u64 g_1.snap.Term, .int .u64 g_1.snap.Config, .string (bs g_1.snap.Data), .slice A_3 g_1.entries.length c_4]⟩] [Ow 2 kT_api_Entry A_3 c_4 g_1.entries] [.code c17_0] _
  refine GoO.seq' c17_0e ?_
  refine GoO.region' (is := [0]) c17_1e (by kernel_rfl) ?_
  refine GoO.exec (is := [0]) (hs := [.p]) (rest := []) (ks := [0, 1, 2]) (env' := [(0, .pointer (some ⟨b_2, 0, none⟩)), (1, .int .u64 i_5), (2, .int .i64 n_6)]) (H' := [⟨1, b_2, [.int .u64 g_1.snap.Index, .int .u64 g_1.snap.Term, .int .u64 g_1.snap.Config, .string (bs g_1.snap.Data), .slice A_3 g_1.entries.length c_4]⟩]) (ps := []) (by kernel_rfl) trivial ?_
  refine GoO.regionEnd ?_
  refine GoO.seq' c17_2e ?_
  refine GoO.region' (is := [0, 1, 2, 3]) c17_3e (by kernel_rfl) ?_
  refine GoO.exec (is := [0, 1]) (hs := [.p, .p]) (rest := [2, 3]) (ks := [0, 2, 8, 9]) (env' := [(0, .pointer (some ⟨b_2, 0, none⟩)), (2, .int .i64 n_6), (8, .pointer (some ⟨b_2, 0, none⟩)), (9, .int .u64 i_5)]) (H' := [⟨1, b_2, [.int .u64 g_1.snap.Index, .int .u64 g_1.snap.Term, .int .u64 g_1.snap.Config, .string (bs g_1.snap.Data), .slice A_3 g_1.entries.length c_4]⟩]) (ps := []) (by kernel_rfl) trivial ?_
  refine OpTo.go (GoO.call rfl (by kernel_rfl) (by kernel_rfl) (rlog_Log_at_ok n (⟨(⟨g_1.snap.Index, g_1.snap.Term, g_1.snap.Config, g_1.snap.Data⟩ : T_api_Snapshot), g_1.entries⟩ : T_rlog_Log) i_5 b_2 A_3 c_4) [[0], [1], [2]] [] [(1, 0)] [(2, 0)] (hks := [0]) (bks := [0]) (by kernel_rfl) (by kernel_rfl) (by kernel_rfl) (.inl rfl) rfl rfl (by kernel_rfl) (by kernel_rfl) _ (fun _ _ => rfl) _ _ (fun _ _ => rfl) (fun _ _ => rfl) (fun _ _ => by kernel_rfl) (fun _ _ => by kernel_rfl) (fun r_7 x_17 => ?_))
  refine GoO.shape (env' := [(0, .pointer (some ⟨b_2, 0, none⟩)), (2, .int .i64 n_6), (8, .pointer (some ⟨b_2, 0, none⟩)), (9, .int .u64 i_5), (10, .int .i64 r_7)]) (H' := [⟨1, b_2, [.int .u64 g_1.snap.Index, .int .u64 g_1.snap.Term, .int .u64 g_1.snap.Config, .string (bs g_1.snap.Data), .slice A_3 g_1.entries.length c_4]⟩]) (B' := [Ow 2 kT_api_Entry A_3 c_4 g_1.entries]) (ks := [0, 2, 8, 9, 10]) (by kernel_rfl) (by kernel_rfl) (by kernel_rfl) ?_
  refine GoO.exec (is := [3]) (hs := [.p]) (rest := []) (ks := [0, 2, 7]) (env' := [(0, .pointer (some ⟨b_2, 0, none⟩)), (2, .int .i64 n_6), (7, .int .i64 r_7)]) (H' := [⟨1, b_2, [.int .u64 g_1.snap.Index, .int .u64 g_1.snap.Term, .int .u64 g_1.snap.Config, .string (bs g_1.snap.Data), .slice A_3 g_1.entries.length c_4]⟩]) (ps := []) (by kernel_rfl) trivial ?_
  refine GoO.regionEnd ?_
  refine GoO.seq' c17_4e ?_
  refine GoO.seq' c17_5e ?_
  refine GoO.region' (is := [0, 1, 2, 3, 4, 5]) c17_6e (by kernel_rfl) ?_
  refine GoO.exec (is := [0, 1, 2]) (hs := [.p, .p, .p]) (rest := [3, 4, 5]) (ks := [0, 2, 7, 13]) (env' := [(0, .pointer (some ⟨b_2, 0, none⟩)), (2, .int .i64 n_6), (7, .int .i64 r_7), (13, .bool (decide (r_7 < 0)))]) (H' := [⟨1, b_2, [.int .u64 g_1.snap.Index, .int .u64 g_1.snap.Term, .int .u64 g_1.snap.Config, .string (bs g_1.snap.Data), .slice A_3 g_1.entries.length c_4]⟩]) (ps := []) (by kernel_rfl) trivial ?_
  refine GoO.bsplit (t := 13) (by kernel_rfl) (fun h8 => ?_) (fun h8 => ?_)
  · refine GoO.exec (is := [3, 4, 5]) (hs := [.p, .p, .p]) (rest := []) (ks := [0, 2, 7, 16]) (env' := [(0, .pointer (some ⟨b_2, 0, none⟩)), (2, .int .i64 n_6), (7, .int .i64 r_7), (16, .bool true)]) (H' := [⟨1, b_2, [.int .u64 g_1.snap.Index, .int .u64 g_1.snap.Term, .int .u64 g_1.snap.Config, .string (bs g_1.snap.Data), .slice A_3 g_1.entries.length c_4]⟩]) (ps := []) (by kernel_rfl) trivial ?_
    refine GoO.regionEnd ?_
    exact GoO.sub (ks := [0, 2, 7, 16]) (hk := [0]) (bk := [0]) (by kernel_rfl) (by kernel_rfl) (by kernel_rfl) (rlog_Log_Get_j0_ok n g_1 n_6 r_7 b_2 A_3 c_4 w0 S0 true)
  · refine GoO.exec (is := [3, 4, 5]) (hs := [.p, .p, .p]) (rest := []) (ks := [0, 2, 7, 16]) (env' := [(0, .pointer (some ⟨b_2, 0, none⟩)), (2, .int .i64 n_6), (7, .int .i64 r_7), (16, .bool (decide (n_6 ≤ 0)))]) (H' := [⟨1, b_2, [.int .u64 g_1.snap.Index, .int .u64 g_1.snap.Term, .int .u64 g_1.snap.Config, .string (bs g_1.snap.Data), .slice A_3 g_1.entries.length c_4]⟩]) (ps := []) (by kernel_rfl) trivial ?_
    refine GoO.regionEnd ?_
    exact GoO.sub (ks := [0, 2, 7, 16]) (hk := [0]) (bk := [0]) (by kernel_rfl) (by kernel_rfl) (by kernel_rfl) (rlog_Log_Get_j0_ok n g_1 n_6 r_7 b_2 A_3 c_4 w0 S0 (decide (n_6 ≤ 0)))

/-! (*tontine/rlog.Log).Compact -/
noncomputable def c25_0 : Code := bodyOf Try.f25
noncomputable def c25_1 : Code := cdL c25_0
noncomputable def c25_2 : Code := cdR c25_0
noncomputable def c25_3 : Code := cdL c25_2
noncomputable def c25_4 : Code := cdR c25_2
noncomputable def c25_5 : Code := cdL c25_4
noncomputable def c25_6 : Code := cdL c25_5
noncomputable def c25_7 : Code := cdR c25_5
noncomputable def c25_8 : Code := cdL c25_7
noncomputable def c25_9 : Code := cdL c25_8
noncomputable def c25_10 : Code := cdR c25_8
noncomputable def c25_11 : Code := cdR c25_7
noncomputable def c25_12 : Code := cdR c25_4
noncomputable def c25_13 : Code := cdL c25_12
noncomputable def c25_14 : Code := cdR c25_12
noncomputable def c25_15 : Code := cdL c25_14
noncomputable def c25_16 : Code := cdR c25_14
noncomputable def c25_17 : Code := cdL c25_16
noncomputable def c25_18 : Code := cdR c25_16
noncomputable def c25_19 : Code := cdL c25_18
noncomputable def c25_20 : Code := cdR c25_18
noncomputable def r25_1 : Array Oper := cdO c25_1
noncomputable def r25_3 : Array Oper := cdO c25_3
noncomputable def r25_6 : Array Oper := cdO c25_6
noncomputable def r25_9 : Array Oper := cdO c25_9
noncomputable def r25_13 : Array Oper := cdO c25_13
noncomputable def r25_15 : Array Oper := cdO c25_15
noncomputable def r25_17 : Array Oper := cdO c25_17
noncomputable def r25_19 : Array Oper := cdO c25_19
theorem c25_0e : c25_0 = .seq c25_1 c25_2 := by kernel_rfl
theorem c25_1e : c25_1 = .region 0 r25_1 false := by kernel_rfl
theorem c25_2e : c25_2 = .seq c25_3 c25_4 := by kernel_rfl
theorem c25_3e : c25_3 = .region 1 r25_3 false := by kernel_rfl
theorem c25_4e : c25_4 = .seq c25_5 c25_12 := by kernel_rfl
theorem c25_5e : c25_5 = .seq c25_6 c25_7 := by kernel_rfl
theorem c25_6e : c25_6 = .region 2 r25_6 false := by kernel_rfl
theorem c25_7e : c25_7 = .cond (cdC c25_7) c25_8 c25_11 := by kernel_rfl
theorem c25_8e : c25_8 = .seq c25_9 c25_10 := by kernel_rfl
theorem c25_9e : c25_9 = .region 3 r25_9 false := by kernel_rfl
theorem c25_10e : c25_10 = .ret := by kernel_rfl
theorem c25_11e : c25_11 = .skip := by kernel_rfl
theorem c25_12e : c25_12 = .seq c25_13 c25_14 := by kernel_rfl
theorem c25_13e : c25_13 = .region 4 r25_13 false := by kernel_rfl
theorem c25_14e : c25_14 = .seq c25_15 c25_16 := by kernel_rfl
theorem c25_15e : c25_15 = .region 5 r25_15 false := by kernel_rfl
theorem c25_16e : c25_16 = .seq c25_17 c25_18 := by kernel_rfl
theorem c25_17e : c25_17 = .region 6 r25_17 true := by kernel_rfl
theorem c25_18e : c25_18 = .seq c25_19 c25_20 := by kernel_rfl
theorem c25_19e : c25_19 = .region 7 r25_19 false := by kernel_rfl
theorem c25_20e : c25_20 = .ret := by kernel_rfl
noncomputable def rlog_Log_Compact.R (b_2 : Nat) (A_3 : Option Addr) (c_4 : Nat) : Pst (Int × T_rlog_Log) where
  ε := Option Addr × Nat
  v := fun r x => .int .i64 r.1
  H := fun r x => [⟨1, b_2, [.int .u64 r.2.snap.Index, .int .u64 r.2.snap.Term, .int .u64 r.2.snap.Config, .string (bs r.2.snap.Data), .slice x.1 r.2.entries.length x.2]⟩]
  B := fun r x => [Ow 2 kT_api_Entry x.1 x.2 r.2.entries]
noncomputable def rlog_Log_Compact.cx (b_2 : Nat) (A_3 : Option Addr) (c_4 : Nat) (w0 : World) (S0 : Fam) : Cx (Int × T_rlog_Log) := ⟨Try.prog, 25, Try.f25, 49, w0, S0, [1, 2], 2, rlog_Log_Compact.R b_2 A_3 c_4⟩
theorem rlog_Log_Compact_ok (n : Nat) (g_1 : T_rlog_Log) (i_5 : Int) (data_6 : (List UInt8)) (b_2 : Nat) (A_3 : Option Addr) (c_4 : Nat) :
    Meets Try.prog 25 [.pointer (some ⟨b_2, 0, none⟩), .int .u64 i_5, .string (bs data_6)] 2 [1, 2] [⟨1, b_2, [.int .u64 g_1.snap.Index, .int .u64 g_1.snap.Term, .int .u64 g_1.snap.Config, .string (bs g_1.snap.Data), .slice A_3 g_1.entries.length c_4]⟩] [Ow 2 kT_api_Entry A_3 c_4 g_1.entries] (rlog_Log_Compact.f n g_1 i_5 data_6) (rlog_Log_Compact.R b_2 A_3 c_4) := by
  refine Meets.of (c := c25_0) (n := 49) Try.func25 (by kernel_rfl) (by kernel_rfl) (by kernel_rfl) fun w0 S0 => ?_
  unfold rlog_Log_Compact.f
  show GoO (rlog_Log_Compact.cx b_2 A_3 c_4 w0 S0) [(0, .pointer (some ⟨b_2, 0, none⟩)), (1, .int .u64 i_5), (2, .string (bs data_6))] [⟨1, b_2, [.int .u64 g_1.snap.Index, .int .u64 g_1.snap.Term, .int .u64 g_1.snap.Config, .string (bs g_1.snap.Data), .slice A_3 g_1.entries.length c_4]⟩] [Ow 2 kT_api_Entry A_3 c_4 g_1.entries] [.code c25_0] _
  refine GoO.seq' c25_0e ?_
  refine GoO.region' (is := [0]) c25_1e (by kernel_rfl) ?_
  refine GoO.exec (is := [0]) (hs := [.p]) (rest := []) (ks := [0, 1, 2]) (env' := [(0, .pointer (some ⟨b_2, 0, none⟩)), (1, .int .u64 i_5), (2, .string (bs data_6))]) (H' := [⟨1, b_2, [.int .u64 g_1.snap.Index, .int .u64 g_1.snap.Term, .int .u64 g_1.snap.Config, .string (bs g_1.snap.Data), .slice A_3 g_1.entries.length c_4]⟩]) (ps := []) (by kernel_rfl) trivial ?_
  refine GoO.regionEnd ?_
  refine GoO.seq' c25_2e ?_
  refine GoO.region' (is := [0, 1, 2, 3]) c25_3e (by kernel_rfl) ?_
  refine GoO.exec (is := [0, 1]) (hs := [.p, .p]) (rest := [2, 3]) (ks := [0, 1, 2, 11, 12]) (env' := [(0, .pointer (some ⟨b_2, 0, none⟩)), (1, .int .u64 i_5), (2, .string (bs data_6)), (11, .pointer (some ⟨b_2, 0, none⟩)), (12, .int .u64 i_5)]) (H' := [⟨1, b_2, [.int .u64 g_1.snap.Index, .int .u64 g_1.snap.Term, .int .u64 g_1.snap.Config, .string (bs g_1.snap.Data), .slice A_3 g_1.entries.length c_4]⟩]) (ps := []) (by kernel_rfl) trivial ?_
  refine OpTo.go (GoO.call rfl (by kernel_rfl) (by kernel_rfl) (rlog_Log_at_ok n (⟨(⟨g_1.snap.Index, g_1.snap.Term, g_1.snap.Config, g_1.snap.Data⟩ : T_api_Snapshot), g_1.entries⟩ : T_rlog_Log) i_5 b_2 A_3 c_4) [[0], [1], [2]] [] [(1, 0)] [(2, 0)] (hks := [0]) (bks := [0]) (by kernel_rfl) (by kernel_rfl) (by kernel_rfl) (.inl rfl) rfl rfl (by kernel_rfl) (by kernel_rfl) _ (fun _ _ => rfl) _ _ (fun _ _ => rfl) (fun _ _ => rfl) (fun _ _ => by kernel_rfl) (fun _ _ => by kernel_rfl) (fun r_7 x_19 => ?_))
  refine GoO.shape (env' := [(0, .pointer (some ⟨b_2, 0, none⟩)), (1, .int .u64 i_5), (2, .string (bs data_6)), (11, .pointer (some ⟨b_2, 0, none⟩)), (12, .int .u64 i_5), (13, .int .i64 r_7)]) (H' := [⟨1, b_2, [.int .u64 g_1.snap.Index, .int .u64 g_1.snap.Term, .int .u64 g_1.snap.Config, .string (bs g_1.snap.Data), .slice A_3 g_1.entries.length c_4]⟩]) (B' := [Ow 2 kT_api_Entry A_3 c_4 g_1.entries]) (ks := [0, 1, 2, 11, 12, 13]) (by kernel_rfl) (by kernel_rfl) (by kernel_rfl) ?_
  refine GoO.exec (is := [3]) (hs := [.p]) (rest := []) (ks := [0, 1, 2, 7]) (env' := [(0, .pointer (some ⟨b_2, 0, none⟩)), (1, .int .u64 i_5), (2, .string (bs data_6)), (7, .int .i64 r_7)]) (H' := [⟨1, b_2, [.int .u64 g_1.snap.Index, .int .u64 g_1.snap.Term, .int .u64 g_1.snap.Config, .string (bs g_1.snap.Data), .slice A_3 g_1.entries.length c_4]⟩]) (ps := []) (by kernel_rfl) trivial ?_
  refine GoO.regionEnd ?_
  refine GoO.seq' c25_4e ?_
  refine GoO.seq' c25_5e ?_
  refine GoO.region' (is := [0, 1]) c25_6e (by kernel_rfl) ?_
  refine GoO.exec (is := [0, 1]) (hs := [.p, .p]) (rest := []) (ks := [0, 1, 2, 7, 15]) (env' := [(0, .pointer (some ⟨b_2, 0, none⟩)), (1, .int .u64 i_5), (2, .string (bs data_6)), (7, .int .i64 r_7), (15, .bool (decide (r_7 < 0)))]) (H' := [⟨1, b_2, [.int .u64 g_1.snap.Index, .int .u64 g_1.snap.Term, .int .u64 g_1.snap.Config, .string (bs g_1.snap.Data), .slice A_3 g_1.entries.length c_4]⟩]) (ps := []) (by kernel_rfl) trivial ?_
  refine GoO.regionEnd ?_
  refine GoO.ite' c25_7e (by kernel_rfl) (fun h8 => ?_) (fun h8 => ?_)
  · refine GoO.seq' c25_8e ?_
    refine GoO.region' (is := [0]) c25_9e (by kernel_rfl) ?_
    refine GoO.exec (is := [0]) (hs := [.p]) (rest := []) (ks := [6]) (env' := [(6, .int .i64 20)]) (H' := [⟨1, b_2, [.int .u64 g_1.snap.Index, .int .u64 g_1.snap.Term, .int .u64 g_1.snap.Config, .string (bs g_1.snap.Data), .slice A_3 g_1.entries.length c_4]⟩]) (ps := []) (by kernel_rfl) trivial ?_
    refine GoO.regionEnd ?_
    exact GoO.ret' (h := c25_10e) (hs := []) (ps := []) (hk := [0]) (bk := [0]) Try.func25 (⟨A_3, c_4⟩ : Option Addr × Nat) (by kernel_rfl) trivial (by kernel_rfl) (by kernel_rfl)
  · refine GoO.skip' c25_11e ?_
    refine GoO.seq' c25_12e ?_
    refine GoO.region' (is := [0, 1, 2, 3, 4, 5, 6, 7]) c25_13e (by kernel_rfl) ?_
    refine GoO.exec (is := [0, 1]) (hs := [.p, .p]) (rest := [2, 3, 4, 5, 6, 7]) (ks := [0, 1, 2, 7, 17, 18]) (env' := [(0, .pointer (some ⟨b_2, 0, none⟩)), (1, .int .u64 i_5), (2, .string (bs data_6)), (7, .int .i64 r_7), (17, .pointer (some ⟨b_2, 0, none⟩)), (18, .int .u64 i_5)]) (H' := [⟨1, b_2, [.int .u64 g_1.snap.Index, .int .u64 g_1.snap.Term, .int .u64 g_1.snap.Config, .string (bs g_1.snap.Data), .slice A_3 g_1.entries.length c_4]⟩]) (ps := []) (by kernel_rfl) trivial ?_
    refine OpTo.go (GoO.call rfl (by kernel_rfl) (by kernel_rfl) (rlog_Log_MembersAt_ok n (⟨(⟨g_1.snap.Index, g_1.snap.Term, g_1.snap.Config, g_1.snap.Data⟩ : T_api_Snapshot), g_1.entries⟩ : T_rlog_Log) i_5 b_2 A_3 c_4) [[0], [1], [2]] [] [(1, 0)] [(2, 0)] (hks := [0]) (bks := [0]) (by kernel_rfl) (by kernel_rfl) (by kernel_rfl) (.inl rfl) rfl rfl (by kernel_rfl) (by kernel_rfl) _ (fun _ _ => rfl) _ _ (fun _ _ => rfl) (fun _ _ => rfl) (fun _ _ => by kernel_rfl) (fun _ _ => by kernel_rfl) (fun r_9 x_18 => ?_))
    refine GoO.shape (env' := [(0, .pointer (some ⟨b_2, 0, none⟩)), (1, .int .u64 i_5), (2, .string (bs data_6)), (7, .int .i64 r_7), (17, .pointer (some ⟨b_2, 0, none⟩)), (18, .int .u64 i_5), (19, .tuple ⟨[.int .u64 r_9.1, .int .u64 r_9.2]⟩)]) (H' := [⟨1, b_2, [.int .u64 g_1.snap.Index, .int .u64 g_1.snap.Term, .int .u64 g_1.snap.Config, .string (bs g_1.snap.Data), .slice A_3 g_1.entries.length c_4]⟩]) (B' := [Ow 2 kT_api_Entry A_3 c_4 g_1.entries]) (ks := [0, 1, 2, 7, 17, 18, 19]) (by kernel_rfl) (by kernel_rfl) (by kernel_rfl) ?_
    refine GoO.exec (is := [3, 4, 5, 6, 7]) (hs := [.p, .p, .p, .p, .p]) (rest := []) (ks := [0, 1, 2, 7, 8]) (env' := [(0, .pointer (some ⟨b_2, 0, none⟩)), (1, .int .u64 i_5), (2, .string (bs data_6)), (7, .int .i64 r_7), (8, .int .u64 r_9.1)]) (H' := [⟨1, b_2, [.int .u64 g_1.snap.Index, .int .u64 g_1.snap.Term, .int .u64 g_1.snap.Config, .string (bs g_1.snap.Data), .slice A_3 g_1.entries.length c_4]⟩]) (ps := []) (by kernel_rfl) trivial ?_
    refine GoO.regionEnd ?_
    refine GoO.seq' c25_14e ?_
    refine GoO.region' (is := [0, 1, 2, 3, 4, 5, 6, 7, 8, 9, 10, 11, 12, 13]) c25_15e (by kernel_rfl) ?_
    refine GoO.exec (is := [0, 1, 2, 3, 4, 5]) (hs := [.p, .p, .p, .p, .b 0, .p]) (rest := [6, 7, 8, 9, 10, 11, 12, 13]) (ks := [0, 2, 7, 8, 22, 26, 27]) (env' := [(0, .pointer (some ⟨b_2, 0, none⟩)), (2, .string (bs data_6)), (7, .int .i64 r_7), (8, .int .u64 r_9.1), (22, .int .u64 i_5), (26, .slice A_3 g_1.entries.length c_4), (27, .int .i64 r_7)]) (H' := [⟨1, b_2, [.int .u64 g_1.snap.Index, .int .u64 g_1.snap.Term, .int .u64 g_1.snap.Config, .string (bs g_1.snap.Data), .slice A_3 g_1.entries.length c_4]⟩]) (ps := [b_2 = b_2]) (by kernel_rfl) (And.intro rfl trivial) ?_
    refine GoO.guard (fun h10 => ?_)
    refine OpTo.go (GoO.idx (kk := .i64) (e := 40) (K := kT_api_Entry) (A := A_3) (c := c_4) (xs := g_1.entries) (iv := r_7) (j := 0) rfl (by kernel_rfl) (by kernel_rfl) (by kernel_rfl) (by kernel_rfl) rfl Reads.own rfl h10.1 h10.2 (by decide) rfl ?_)
    refine OpTo.go (GoO.fldE (K := kT_api_Entry) (A := A_3) (c := c_4) (xs := g_1.entries) (iN := r_7.toNat) (off := 0) (n := 0) (j := 0) rfl (by kernel_rfl) (by kernel_rfl) rfl Reads.own (by first | exact idx_lt h10.1 h10.2 | (simp only [List.length_set]; exact idx_lt h10.1 h10.2)) (by decide) rfl ?_)
    refine OpTo.go (GoO.ldE' (K := kT_api_Entry) (A := A_3) (c := c_4) (xs := g_1.entries) (iN := r_7.toNat) (off := 0) (j := 0) rfl (by kernel_rfl) rfl Reads.own (by first | exact idx_lt h10.1 h10.2 | (simp only [List.length_set]; exact idx_lt h10.1 h10.2)) (by decide) (Opn.flat _ _ _ _ _) (v := fun _ => .int .u64 ((rdL g_1.entries r_7).Term)) (fun _ => by kernel_rfl) _ (fun _ => rfl) (fun _ => ?_))
    refine GoO.exec (is := [9, 10, 11]) (hs := [.p, .p, .p]) (rest := [12, 13]) (ks := [0, 7, 33]) (env' := [(0, .pointer (some ⟨b_2, 0, none⟩)), (7, .int .i64 r_7), (33, .agg ⟨[.int .u64 i_5, .int .u64 ((rdL g_1.entries r_7).Term), .int .u64 r_9.1, .string (bs data_6)]⟩)]) (H' := [⟨1, b_2, [.int .u64 g_1.snap.Index, .int .u64 g_1.snap.Term, .int .u64 g_1.snap.Config, .string (bs g_1.snap.Data), .slice A_3 g_1.entries.length c_4]⟩]) (ps := []) (by kernel_rfl) trivial ?_
    refine OpTo.go (GoO.new rfl 40 (cs := [.int .u64 0, .int .u64 0, .int .u64 0, .string (bs [])]) (by kernel_rfl) _ (fun _ => rfl) (fun b_11 => ?_))
    refine GoO.exec (is := [13]) (hs := [.b 0]) (rest := []) (ks := [0, 7, 10]) (env' := [(0, .pointer (some ⟨b_2, 0, none⟩)), (7, .int .i64 r_7), (10, .pointer (some ⟨b_11, 0, none⟩))]) (H' := [⟨40, b_11, [.int .u64 i_5, .int .u64 ((rdL g_1.entries r_7).Term), .int .u64 r_9.1, .string (bs data_6)]⟩, ⟨1, b_2, [.int .u64 g_1.snap.Index, .int .u64 g_1.snap.Term, .int .u64 g_1.snap.Config, .string (bs g_1.snap.Data), .slice A_3 g_1.entries.length c_4]⟩]) (ps := [b_11 = b_11]) (by kernel_rfl) (And.intro rfl trivial) ?_
    refine GoO.regionEnd ?_
    refine GoO.seq' c25_16e ?_
    refine GoO.draw c25_17e (by kernel_rfl) [14, 15, 16] [⟨40, b_11, [.int .u64 i_5, .int .u64 ((rdL g_1.entries r_7).Term), .int .u64 r_9.1, .string (bs data_6)]⟩] [] (n := 17) (by kernel_rfl) ?_
    simp only [List.replicate]
    refine GoF.take [0, 1, 2, 3, 4, 5, 7, 8] [.p, .p, .b 0, .p, .p, .p, .p, .p] (ks := [34, 35, 36, 39, 42]) (fu := 9) (li := [true, true, true, true, true, true, false, true, true, false, false, false, false, false, false, false, false]) (env' := [(34, .pointer (some ⟨b_2, 0, none⟩)), (35, .pointer (some ⟨b_2, 0, none⟩)), (36, .agg ⟨[.int .u64 i_5, .int .u64 ((rdL g_1.entries r_7).Term), .int .u64 r_9.1, .string (bs data_6)]⟩), (39, .pointer (some ⟨b_2, 4, none⟩)), (42, .int .i64 (wi64 (r_7 + 1)))]) (ps := [b_11 = b_11]) (hk := [0]) (bk := []) (by kernel_rfl) (And.intro rfl trivial) rfl rfl ?_
    refine GoF.fin1 (i := 6) (hint := .b 1) (ps := [b_2 = b_2]) (hk := [0]) (bk := []) (by kernel_rfl) rfl (And.intro rfl trivial) (.inr ⟨rfl, rfl⟩) ?_
    refine GoF.guard (fun h14 => ?_)
    refine GoF.slc1 (i := 9) (hk := [0]) (bk := []) (e := 40) (K := kT_api_Entry) (A := A_3) (c := c_4) (xs := g_1.entries) (j := 0) (l := (wi64 (r_7 + 1))) (h := (g_1.entries.length : Int)) (by kernel_rfl) rfl rfl rfl (by kernel_rfl) (by kernel_rfl) (by kernel_rfl) rfl Reads.own rfl (by kernel_rfl) (by kernel_rfl) h14.1 h14.2.1 h14.2.2 _ (fun _ _ => rfl) (fun A_12 c_13 => ?_)
    refine GoF.nilOwn kT_api_Entry 41 ?_
    refine GoF.guard (fun h15 => ?_)
    refine OpTo.goF (i := 10) (by kernel_rfl) (hk := [0]) (bk := []) (GoO.appW (e := 40) (K := kT_api_Entry) (A := none) (c := 0) (tg := 41) (bytes := 40) (zs := [.int .u64 0, .int .u64 0, .int .i64 0, .string (bs [])]) (xs := ([] : List T_api_Entry)) (ys := (g_1.entries.take (g_1.entries.length : Int).toNat).drop (wi64 (r_7 + 1)).toNat) (xv := .slice A_12 ((g_1.entries.take (g_1.entries.length : Int).toNat).drop (wi64 (r_7 + 1)).toNat).length c_13) (j := 0) (bk := [1, 2]) rfl (by kernel_rfl) (by kernel_rfl) (by kernel_rfl) (by kernel_rfl) rfl (by kernel_rfl) rfl (fun w S hB => SrcIs.row (Reads.rd w S (hB _ (List.mem_of_getElem? (i := 1) rfl)))) h15 rfl rfl rfl rfl _ (fun _ _ => rfl) (fun A_16 c_17 => ⟨rfl, rfl, ?_⟩))
    refine GoF.take [11, 12] [.p, .p] (ks := [35, 36, 44, 46]) (fu := 4) (li := [true, true, true, true, true, true, true, true, true, true, true, true, true, false, false, false, false]) (env' := [(35, .pointer (some ⟨b_2, 0, none⟩)), (36, .agg ⟨[.int .u64 i_5, .int .u64 ((rdL g_1.entries r_7).Term), .int .u64 r_9.1, .string (bs data_6)]⟩), (44, .slice A_16 (([] : List T_api_Entry) ++ ((g_1.entries.take (g_1.entries.length : Int).toNat).drop (wi64 (r_7 + 1)).toNat)).length c_17), (46, .pointer (some ⟨b_2, 0, none⟩))]) (ps := []) (hk := [0]) (bk := []) (by kernel_rfl) trivial rfl rfl ?_
    refine GoF.fin1 (i := 13) (hint := .b 1) (ps := [b_2 = b_2]) (hk := [0]) (bk := []) (by kernel_rfl) rfl (And.intro rfl trivial) (.inr ⟨rfl, rfl⟩) ?_
    refine GoF.fin1 (i := 14) (hint := .p) (ps := []) (hk := []) (bk := []) (by kernel_rfl) rfl trivial (.inl rfl) ?_
    refine GoF.fin1 (i := 15) (hint := .p) (ps := []) (hk := []) (bk := []) (by kernel_rfl) rfl trivial (.inl rfl) ?_
    refine GoF.fin1 (i := 16) (hint := .b 1) (ps := [b_2 = b_2]) (hk := []) (bk := []) (by kernel_rfl) rfl (And.intro rfl trivial) (.inl rfl) ?_
    refine GoF.done (by kernel_rfl) ?_
    refine GoO.seq' c25_18e ?_
    refine GoO.region' (is := [0]) c25_19e (by kernel_rfl) ?_
    refine GoO.exec (is := [0]) (hs := [.p]) (rest := []) (ks := [6]) (env' := [(6, .int .i64 0)]) (H' := [⟨40, b_11, [.int .u64 i_5, .int .u64 ((rdL g_1.entries r_7).Term), .int .u64 r_9.1, .string (bs data_6)]⟩, ⟨1, b_2, [.int .u64 i_5, .int .u64 ((rdL g_1.entries r_7).Term), .int .u64 r_9.1, .string (bs data_6), .slice A_16 (([] : List T_api_Entry) ++ ((g_1.entries.take (g_1.entries.length : Int).toNat).drop (wi64 (r_7 + 1)).toNat)).length c_17]⟩]) (ps := []) (by kernel_rfl) trivial ?_
    refine GoO.regionEnd ?_
    refine GoO.sub (ks := [6]) (env' := [(6, .int .i64 0)]) (hk := [0, 1]) (bk := [0]) (by kernel_rfl) rfl rfl ?_
    refine GoO.retag (t := 41) (u := 2) (j := 0) (hk := [0, 1]) (bk := []) rfl rfl rfl rfl rfl rfl (by kernel_rfl) (by kernel_rfl) ?_
    exact GoO.ret' (h := c25_20e) (hs := []) (ps := []) (hk := [1]) (bk := [0]) Try.func25 (⟨A_16, c_17⟩ : Option Addr × Nat) (by kernel_rfl) trivial (by kernel_rfl) (by kernel_rfl)

/-! (*tontine/rlog.Log).First -/
noncomputable def c26_0 : Code := bodyOf Try.f26
noncomputable def c26_1 : Code := cdL c26_0
noncomputable def c26_2 : Code := cdR c26_0
noncomputable def c26_3 : Code := cdL c26_2
noncomputable def c26_4 : Code := cdL c26_3
noncomputable def c26_5 : Code := cdR c26_3
noncomputable def c26_9 : Code := cdR c26_5
noncomputable def c26_10 : Code := cdR c26_2
noncomputable def c26_11 : Code := cdL c26_10
noncomputable def c26_12 : Code := cdR c26_10
noncomputable def c26_6 : Code := cdL c26_5
noncomputable def r26_1 : Array Oper := cdO c26_1
noncomputable def r26_4 : Array Oper := cdO c26_4
noncomputable def r26_11 : Array Oper := cdO c26_11
theorem c26_0e : c26_0 = .seq c26_1 c26_2 := by kernel_rfl
theorem c26_1e : c26_1 = .region 0 r26_1 false := by kernel_rfl
theorem c26_2e : c26_2 = .seq c26_3 c26_10 := by kernel_rfl
theorem c26_3e : c26_3 = .seq c26_4 c26_5 := by kernel_rfl
theorem c26_4e : c26_4 = .region 1 r26_4 false := by kernel_rfl
theorem c26_5e : c26_5 = .cond (cdC c26_5) c26_6 c26_9 := by kernel_rfl
theorem c26_9e : c26_9 = .skip := by kernel_rfl
theorem c26_10e : c26_10 = .seq c26_11 c26_12 := by kernel_rfl
theorem c26_11e : c26_11 = .region 3 r26_11 false := by kernel_rfl
theorem c26_12e : c26_12 = .ret := by kernel_rfl
noncomputable def rlog_Log_First.R (b_2 : Nat) (A_3 : Option Addr) (c_4 : Nat) : Pst T_api_Snapshot where
  ε := Unit
  v := fun r x => .agg ⟨[.int .u64 r.Index, .int .u64 r.Term, .int .u64 r.Config, .string (bs r.Data)]⟩
  H := fun r x => []
  B := fun r x => []
noncomputable def rlog_Log_First.cx (b_2 : Nat) (A_3 : Option Addr) (c_4 : Nat) (w0 : World) (S0 : Fam) : Cx T_api_Snapshot := ⟨Try.prog, 26, Try.f26, 10, w0, S0, [], 2, rlog_Log_First.R b_2 A_3 c_4⟩
theorem rlog_Log_First_ok (n : Nat) (g_1 : T_rlog_Log) (b_2 : Nat) (A_3 : Option Addr) (c_4 : Nat) :
    Meets Try.prog 26 [.pointer (some ⟨b_2, 0, none⟩)] 2 [] [⟨1, b_2, [.int .u64 g_1.snap.Index, .int .u64 g_1.snap.Term, .int .u64 g_1.snap.Config, .string (bs g_1.snap.Data), .slice A_3 g_1.entries.length c_4]⟩] [Ow 2 kT_api_Entry A_3 c_4 g_1.entries] (rlog_Log_First.f n g_1) (rlog_Log_First.R b_2 A_3 c_4) := by
  refine Meets.of (c := c26_0) (n := 10) Try.func26 (by kernel_rfl) (by kernel_rfl) (by kernel_rfl) fun w0 S0 => ?_
  unfold rlog_Log_First.f
  show GoO (rlog_Log_First.cx b_2 A_3 c_4 w0 S0) [(0, .pointer (some ⟨b_2, 0, none⟩))] [⟨1, b_2, [.int .u64 g_1.snap.Index, .int .u64 g_1.snap.Term, .int .u64 g_1.snap.Config, .string (bs g_1.snap.Data), .slice A_3 g_1.entries.length c_4]⟩] [Ow 2 kT_api_Entry A_3 c_4 g_1.entries] [.code c26_0] _
  refine GoO.seq' c26_0e ?_
  refine GoO.region' (is := [0]) c26_1e (by kernel_rfl) ?_
  refine OpTo.go (GoO.new rfl 40 (cs := [.int .u64 0, .int .u64 0, .int .u64 0, .string (bs [])]) (by kernel_rfl) _ (fun _ => rfl) (fun b_5 => ?_))
  refine GoO.regionEnd ?_
  refine GoO.seq' c26_2e ?_
  refine GoO.seq' c26_3e ?_
  refine GoO.region' (is := [0, 1]) c26_4e (by kernel_rfl) ?_
  refine GoO.exec (is := [0, 1]) (hs := [.p, .p]) (rest := []) (ks := [0, 2, 4]) (env' := [(0, .pointer (some ⟨b_2, 0, none⟩)), (2, .pointer (some ⟨b_5, 0, none⟩)), (4, .bool false)]) (H' := [⟨40, b_5, [.int .u64 0, .int .u64 0, .int .u64 0, .string (bs [])]⟩, ⟨1, b_2, [.int .u64 g_1.snap.Index, .int .u64 g_1.snap.Term, .int .u64 g_1.snap.Config, .string (bs g_1.snap.Data), .slice A_3 g_1.entries.length c_4]⟩]) (ps := []) (by kernel_rfl) trivial ?_
  refine GoO.regionEnd ?_
  refine GoO.condF c26_5e (by kernel_rfl) ?_
  refine GoO.skip' c26_9e ?_
  refine GoO.seq' c26_10e ?_
  refine GoO.region' (is := [0, 1, 2, 3, 4]) c26_11e (by kernel_rfl) ?_
  refine GoO.exec (is := [0, 1, 2, 3, 4]) (hs := [.p, .p, .p, .b 1, .b 0]) (rest := []) (ks := [2]) (env' := [(2, .pointer (some ⟨b_5, 0, none⟩))]) (H' := [⟨40, b_5, [.int .u64 g_1.snap.Index, .int .u64 g_1.snap.Term, .int .u64 g_1.snap.Config, .string (bs g_1.snap.Data)]⟩, ⟨1, b_2, [.int .u64 g_1.snap.Index, .int .u64 g_1.snap.Term, .int .u64 g_1.snap.Config, .string (bs g_1.snap.Data), .slice A_3 g_1.entries.length c_4]⟩]) (ps := [b_2 = b_2, b_5 = b_5]) (by kernel_rfl) (And.intro rfl (And.intro rfl trivial)) ?_
  refine GoO.regionEnd ?_
  exact GoO.ret' (h := c26_12e) (hs := [0]) (ps := [b_5 = b_5]) (hk := []) (bk := []) Try.func26 () (by kernel_rfl) (And.intro rfl trivial) (by kernel_rfl) (by kernel_rfl)

/-! tontine/tontineref07.Same -/
noncomputable def c19_0 : Code := bodyOf Try.f19
noncomputable def c19_1 : Code := cdL c19_0
noncomputable def c19_2 : Code := cdR c19_0
noncomputable def c19_3 : Code := cdL c19_2
noncomputable def c19_4 : Code := cdL c19_3
noncomputable def c19_5 : Code := cdR c19_3
noncomputable def c19_6 : Code := cdL c19_5
noncomputable def c19_7 : Code := cdL c19_6
noncomputable def c19_8 : Code := cdR c19_6
noncomputable def c19_9 : Code := cdR c19_5
noncomputable def c19_10 : Code := cdR c19_2
noncomputable def c19_11 : Code := cdL c19_10
noncomputable def c19_12 : Code := cdL c19_11
noncomputable def c19_13 : Code := cdR c19_11
noncomputable def c19_14 : Code := cdL c19_13
noncomputable def c19_15 : Code := cdL c19_14
noncomputable def c19_16 : Code := cdL c19_15
noncomputable def c19_17 : Code := cdL c19_16
noncomputable def c19_18 : Code := cdR c19_16
noncomputable def c19_19 : Code := cdL c19_18
noncomputable def c19_20 : Code := cdR c19_18
noncomputable def c19_21 : Code := cdR c19_15
noncomputable def c19_22 : Code := cdL c19_21
noncomputable def c19_23 : Code := cdL c19_22
noncomputable def c19_24 : Code := cdL c19_23
noncomputable def c19_25 : Code := cdR c19_23
noncomputable def c19_26 : Code := cdL c19_25
noncomputable def c19_27 : Code := cdL c19_26
noncomputable def c19_28 : Code := cdR c19_26
noncomputable def c19_29 : Code := cdR c19_25
noncomputable def c19_30 : Code := cdR c19_21
noncomputable def c19_31 : Code := cdR c19_10
noncomputable def c19_32 : Code := cdL c19_31
noncomputable def c19_33 : Code := cdR c19_31
noncomputable def r19_1 : Array Oper := cdO c19_1
noncomputable def r19_4 : Array Oper := cdO c19_4
noncomputable def r19_7 : Array Oper := cdO c19_7
noncomputable def r19_12 : Array Oper := cdO c19_12
noncomputable def r19_17 : Array Oper := cdO c19_17
noncomputable def r19_24 : Array Oper := cdO c19_24
noncomputable def r19_27 : Array Oper := cdO c19_27
noncomputable def r19_30 : Array Oper := cdO c19_30
noncomputable def r19_32 : Array Oper := cdO c19_32
theorem c19_0e : c19_0 = .seq c19_1 c19_2 := by kernel_rfl
theorem c19_1e : c19_1 = .region 0 r19_1 false := by kernel_rfl
theorem c19_2e : c19_2 = .seq c19_3 c19_10 := by kernel_rfl
theorem c19_3e : c19_3 = .seq c19_4 c19_5 := by kernel_rfl
theorem c19_4e : c19_4 = .region 1 r19_4 false := by kernel_rfl
theorem c19_5e : c19_5 = .cond (cdC c19_5) c19_6 c19_9 := by kernel_rfl
theorem c19_6e : c19_6 = .seq c19_7 c19_8 := by kernel_rfl
theorem c19_7e : c19_7 = .region 2 r19_7 false := by kernel_rfl
theorem c19_8e : c19_8 = .ret := by kernel_rfl
theorem c19_9e : c19_9 = .skip := by kernel_rfl
theorem c19_10e : c19_10 = .seq c19_11 c19_31 := by kernel_rfl
theorem c19_11e : c19_11 = .seq c19_12 c19_13 := by kernel_rfl
theorem c19_12e : c19_12 = .region 3 r19_12 false := by kernel_rfl
theorem c19_13e : c19_13 = .block 0 c19_14 := by kernel_rfl
theorem c19_14e : c19_14 = .loop c19_15 := by kernel_rfl
theorem c19_15e : c19_15 = .seq c19_16 c19_21 := by kernel_rfl
theorem c19_16e : c19_16 = .seq c19_17 c19_18 := by kernel_rfl
theorem c19_17e : c19_17 = .region 4 r19_17 false := by kernel_rfl
theorem c19_18e : c19_18 = .cond (cdC c19_18) c19_19 c19_20 := by kernel_rfl
theorem c19_19e : c19_19 = .skip := by kernel_rfl
theorem c19_20e : c19_20 = .exit 0 := by kernel_rfl
theorem c19_21e : c19_21 = .seq c19_22 c19_30 := by kernel_rfl
theorem c19_22e : c19_22 = .block 1 c19_23 := by kernel_rfl
theorem c19_23e : c19_23 = .seq c19_24 c19_25 := by kernel_rfl
theorem c19_24e : c19_24 = .region 6 r19_24 true := by kernel_rfl
theorem c19_25e : c19_25 = .cond (cdC c19_25) c19_26 c19_29 := by kernel_rfl
theorem c19_26e : c19_26 = .seq c19_27 c19_28 := by kernel_rfl
theorem c19_27e : c19_27 = .region 7 r19_27 false := by kernel_rfl
theorem c19_28e : c19_28 = .ret := by kernel_rfl
theorem c19_29e : c19_29 = .skip := by kernel_rfl
theorem c19_30e : c19_30 = .region 5 r19_30 false := by kernel_rfl
theorem c19_31e : c19_31 = .seq c19_32 c19_33 := by kernel_rfl
theorem c19_32e : c19_32 = .region 8 r19_32 false := by kernel_rfl
theorem c19_33e : c19_33 = .ret := by kernel_rfl
noncomputable def tontineref07_Same.R (A_2 : Option Addr) (c_3 : Nat) (A_5 : Option Addr) (c_6 : Nat) : Pst Bool where
  ε := Unit
  v := fun r x => .bool r
  H := fun r x => []
  B := fun r x => []
noncomputable def tontineref07_Same.cx (A_2 : Option Addr) (c_3 : Nat) (A_5 : Option Addr) (c_6 : Nat) (w0 : World) (S0 : Fam) : Cx Bool := ⟨Try.prog, 19, Try.f19, 26, w0, S0, [], 0, tontineref07_Same.R A_2 c_3 A_5 c_6⟩
theorem tontineref07_Same_l0_ok (n : Nat) (a_1 : (List T_api_Entry)) (b_4 : (List T_api_Entry)) (A_2 : Option Addr) (c_3 : Nat) (A_5 : Option Addr) (c_6 : Nat) (w0 : World) (S0 : Fam) :
    ∀ (k : Nat) (i_8 : Int), GoO (tontineref07_Same.cx A_2 c_3 A_5 c_6 w0 S0) [(0, .slice A_2 a_1.length c_3), (1, .slice A_5 b_4.length c_6), (5, .int .i64 i_8)] [] [Rd 0 kT_api_Entry A_2 c_3 a_1, Rd 0 kT_api_Entry A_5 c_6 b_4] [.code c19_15, .inLoop c19_15, .inBlock 0, .code c19_31] (tontineref07_Same.l0 n a_1 b_4 k i_8) := by
  intro k
  induction k with
  | zero => intros; rw [tontineref07_Same.l0.eq_1]; exact GoO.stop
  | succ k ih0 =>
    intro i_8
    rw [tontineref07_Same.l0.eq_2]
    refine GoO.seq' c19_15e ?_
    refine GoO.seq' c19_16e ?_
    refine GoO.region' (is := [0, 1, 2, 3]) c19_17e (by kernel_rfl) ?_
    refine GoO.exec (is := [0, 1, 2, 3]) (hs := [.p, .p, .p, .p]) (rest := []) (ks := [0, 1, 5, 14]) (env' := [(0, .slice A_2 a_1.length c_3), (1, .slice A_5 b_4.length c_6), (5, .int .i64 i_8), (14, .bool (decide (i_8 < (a_1.length : Int))))]) (H' := []) (ps := []) (by kernel_rfl) trivial ?_
    refine GoO.regionEnd ?_
    refine GoO.ite' c19_18e (by kernel_rfl) (fun h9 => ?_) (fun h9 => ?_)
    · refine GoO.skip' c19_19e ?_
      refine GoO.seq' c19_21e ?_
      refine GoO.block' c19_22e ?_
      refine GoO.seq' c19_23e ?_
      refine GoO.draw c19_24e (by kernel_rfl) [] [] [Rd 0 kT_api_Entry A_2 c_3 a_1, Rd 0 kT_api_Entry A_5 c_6 b_4] (n := 9) (by kernel_rfl) ?_
      simp only [List.replicate]
      refine GoF.take [0, 1, 4, 5] [.p, .p, .p, .p] (ks := [0, 1, 5, 17, 18, 21, 22]) (fu := 5) (li := [true, true, false, false, true, true, false, false, false]) (env' := [(0, .slice A_2 a_1.length c_3), (1, .slice A_5 b_4.length c_6), (5, .int .i64 i_8), (17, .slice A_2 a_1.length c_3), (18, .int .i64 i_8), (21, .slice A_5 b_4.length c_6), (22, .int .i64 i_8)]) (ps := []) (hk := []) (bk := [0, 1]) (by kernel_rfl) trivial rfl rfl ?_
      refine GoF.guard (fun h10 => ?_)
      refine GoF.idx (i := 2) (hk := []) (bk := [0, 1]) (kk := .i64) (e := 40) (K := kT_api_Entry) (A := A_2) (c := c_3) (xs := a_1) (iv := i_8) (j := 0) (by kernel_rfl) rfl rfl rfl (by kernel_rfl) (by kernel_rfl) (by kernel_rfl) (by kernel_rfl) rfl Reads.rd rfl h10.1 h10.2 (by decide) rfl ?_
      refine GoF.ldE (i := 3) (hk := []) (bk := [0, 1]) (K := kT_api_Entry) (A := A_2) (c := c_3) (xs := a_1) (iN := i_8.toNat) (off := 0) (j := 0) (v := .agg ⟨[.int .u64 ((rdL a_1 i_8).Term), .int .u64 ((rdL a_1 i_8).Index), .int .i64 ((rdL a_1 i_8).Kind), .string (bs ((rdL a_1 i_8).Data))]⟩) (by kernel_rfl) rfl rfl rfl (hK := rfl) (by kernel_rfl) rfl Reads.rd (by first | exact idx_lt h10.1 h10.2 | (simp only [List.length_set]; exact idx_lt h10.1 h10.2)) (by decide) (by kernel_rfl) rfl ?_
      refine GoF.guard (fun h11 => ?_)
      refine GoF.idx (i := 6) (hk := []) (bk := [0, 1]) (kk := .i64) (e := 40) (K := kT_api_Entry) (A := A_5) (c := c_6) (xs := b_4) (iv := i_8) (j := 1) (by kernel_rfl) rfl rfl rfl (by kernel_rfl) (by kernel_rfl) (by kernel_rfl) (by kernel_rfl) rfl Reads.rd rfl h11.1 h11.2 (by decide) rfl ?_
      refine GoF.ldE (i := 7) (hk := []) (bk := [0, 1]) (K := kT_api_Entry) (A := A_5) (c := c_6) (xs := b_4) (iN := i_8.toNat) (off := 0) (j := 1) (v := .agg ⟨[.int .u64 ((rdL b_4 i_8).Term), .int .u64 ((rdL b_4 i_8).Index), .int .i64 ((rdL b_4 i_8).Kind), .string (bs ((rdL b_4 i_8).Data))]⟩) (by kernel_rfl) rfl rfl rfl (hK := rfl) (by kernel_rfl) rfl Reads.rd (by first | exact idx_lt h11.1 h11.2 | (simp only [List.length_set]; exact idx_lt h11.1 h11.2)) (by decide) (by kernel_rfl) rfl ?_
      refine GoF.take [8] [.p] (ks := [0, 1, 5, 25]) (fu := 0) (li := [true, true, true, true, true, true, true, true, true]) (env' := [(0, .slice A_2 a_1.length c_3), (1, .slice A_5 b_4.length c_6), (5, .int .i64 i_8), (25, .bool (!((((rdL a_1 i_8).Term) == ((rdL b_4 i_8).Term)) && ((((rdL a_1 i_8).Index) == ((rdL b_4 i_8).Index)) && ((((rdL a_1 i_8).Kind) == ((rdL b_4 i_8).Kind)) && ((((rdL a_1 i_8).Data) == ((rdL b_4 i_8).Data)) && true))))))]) (ps := []) (hk := []) (bk := [0, 1]) (by kernel_rfl) trivial rfl rfl ?_
      refine GoF.done (by kernel_rfl) ?_
      refine GoO.ite' c19_25e (by kernel_rfl) (fun h12 => ?_) (fun h12 => ?_)
      · refine GoO.seq' c19_26e ?_
        refine GoO.region' (is := [0]) c19_27e (by kernel_rfl) ?_
        refine GoO.exec (is := [0]) (hs := [.p]) (rest := []) (ks := [4]) (env' := [(4, .bool false)]) (H' := []) (ps := []) (by kernel_rfl) trivial ?_
        refine GoO.regionEnd ?_
        exact GoO.ret' (h := c19_28e) (hs := []) (ps := []) (hk := []) (bk := []) Try.func19 () (by kernel_rfl) trivial (by kernel_rfl) (by kernel_rfl)
      · refine GoO.skip' c19_29e ?_
        refine GoO.inBlock ?_
        refine GoO.region' (is := [0, 1, 2]) c19_30e (by kernel_rfl) ?_
        refine GoO.exec (is := [0, 1, 2]) (hs := [.p, .p, .p]) (rest := []) (ks := [0, 1, 5]) (env' := [(0, .slice A_2 a_1.length c_3), (1, .slice A_5 b_4.length c_6), (5, .int .i64 (wi64 (i_8 + 1)))]) (H' := []) (ps := []) (by kernel_rfl) trivial ?_
        refine GoO.regionEnd ?_
        refine GoO.inLoop ?_
        exact GoO.sub (ks := [0, 1, 5]) (hk := []) (bk := [0, 1]) (by kernel_rfl) (by kernel_rfl) (by kernel_rfl) (ih0 (wi64 (i_8 + 1)))
    · refine GoO.exit' c19_20e rfl ?_
      refine GoO.seq' c19_31e ?_
      refine GoO.region' (is := [0]) c19_32e (by kernel_rfl) ?_
      refine GoO.exec (is := [0]) (hs := [.p]) (rest := []) (ks := [4]) (env' := [(4, .bool true)]) (H' := []) (ps := []) (by kernel_rfl) trivial ?_
      refine GoO.regionEnd ?_
      exact GoO.ret' (h := c19_33e) (hs := []) (ps := []) (hk := []) (bk := []) Try.func19 () (by kernel_rfl) trivial (by kernel_rfl) (by kernel_rfl)
theorem tontineref07_Same_ok (n : Nat) (a_1 : (List T_api_Entry)) (b_4 : (List T_api_Entry)) (A_2 : Option Addr) (c_3 : Nat) (A_5 : Option Addr) (c_6 : Nat) :
    Meets Try.prog 19 [.slice A_2 a_1.length c_3, .slice A_5 b_4.length c_6] 0 [] [] [Rd 0 kT_api_Entry A_2 c_3 a_1, Rd 0 kT_api_Entry A_5 c_6 b_4] (tontineref07_Same.f n a_1 b_4) (tontineref07_Same.R A_2 c_3 A_5 c_6) := by
  refine Meets.of (c := c19_0) (n := 26) Try.func19 (by kernel_rfl) (by kernel_rfl) (by kernel_rfl) fun w0 S0 => ?_
  unfold tontineref07_Same.f
  show GoO (tontineref07_Same.cx A_2 c_3 A_5 c_6 w0 S0) [(0, .slice A_2 a_1.length c_3), (1, .slice A_5 b_4.length c_6)] [] [Rd 0 kT_api_Entry A_2 c_3 a_1, Rd 0 kT_api_Entry A_5 c_6 b_4] [.code c19_0] _
  refine GoO.seq' c19_0e ?_
  refine GoO.region' (is := [0]) c19_1e (by kernel_rfl) ?_
  refine GoO.exec (is := [0]) (hs := [.p]) (rest := []) (ks := [0, 1]) (env' := [(0, .slice A_2 a_1.length c_3), (1, .slice A_5 b_4.length c_6)]) (H' := []) (ps := []) (by kernel_rfl) trivial ?_
  refine GoO.regionEnd ?_
  refine GoO.seq' c19_2e ?_
  refine GoO.seq' c19_3e ?_
  refine GoO.region' (is := [0, 1, 2, 3, 4]) c19_4e (by kernel_rfl) ?_
  refine GoO.exec (is := [0, 1, 2, 3, 4]) (hs := [.p, .p, .p, .p, .p]) (rest := []) (ks := [0, 1, 10]) (env' := [(0, .slice A_2 a_1.length c_3), (1, .slice A_5 b_4.length c_6), (10, .bool ((a_1.length : Int) != (b_4.length : Int)))]) (H' := []) (ps := []) (by kernel_rfl) trivial ?_
  refine GoO.regionEnd ?_
  refine GoO.ite' c19_5e (by kernel_rfl) (fun h7 => ?_) (fun h7 => ?_)
  · refine GoO.seq' c19_6e ?_
    refine GoO.region' (is := [0]) c19_7e (by kernel_rfl) ?_
    refine GoO.exec (is := [0]) (hs := [.p]) (rest := []) (ks := [4]) (env' := [(4, .bool false)]) (H' := []) (ps := []) (by kernel_rfl) trivial ?_
    refine GoO.regionEnd ?_
    exact GoO.ret' (h := c19_8e) (hs := []) (ps := []) (hk := []) (bk := []) Try.func19 () (by kernel_rfl) trivial (by kernel_rfl) (by kernel_rfl)
  · refine GoO.skip' c19_9e ?_
    refine GoO.seq' c19_10e ?_
    refine GoO.seq' c19_11e ?_
    refine GoO.region' (is := [0]) c19_12e (by kernel_rfl) ?_
    refine GoO.exec (is := [0]) (hs := [.p]) (rest := []) (ks := [0, 1, 5]) (env' := [(0, .slice A_2 a_1.length c_3), (1, .slice A_5 b_4.length c_6), (5, .int .i64 0)]) (H' := []) (ps := []) (by kernel_rfl) trivial ?_
    refine GoO.regionEnd ?_
    refine GoO.block' c19_13e ?_
    refine GoO.loop' c19_14e ?_
    exact GoO.sub (ks := [0, 1, 5]) (hk := []) (bk := [0, 1]) (by kernel_rfl) (by kernel_rfl) (by kernel_rfl) (tontineref07_Same_l0_ok n a_1 b_4 A_2 c_3 A_5 c_6 w0 S0 n 0)

/-! tontine/tontinelaw07.RlogCompacts -/
noncomputable def c5_0 : Code := bodyOf Try.f5
noncomputable def c5_1 : Code := cdL c5_0
noncomputable def c5_2 : Code := cdR c5_0
noncomputable def c5_3 : Code := cdL c5_2
noncomputable def c5_4 : Code := cdL c5_3
noncomputable def c5_5 : Code := cdR c5_3
noncomputable def c5_6 : Code := cdL c5_5
noncomputable def c5_7 : Code := cdL c5_6
noncomputable def c5_8 : Code := cdR c5_6
noncomputable def c5_9 : Code := cdR c5_5
noncomputable def c5_10 : Code := cdR c5_2
noncomputable def c5_11 : Code := cdL c5_10
noncomputable def c5_12 : Code := cdR c5_10
noncomputable def c5_13 : Code := cdL c5_12
noncomputable def c5_14 : Code := cdL c5_13
noncomputable def c5_15 : Code := cdR c5_13
noncomputable def c5_16 : Code := cdL c5_15
noncomputable def c5_17 : Code := cdL c5_16
noncomputable def c5_18 : Code := cdR c5_16
noncomputable def c5_19 : Code := cdR c5_15
noncomputable def c5_20 : Code := cdR c5_12
noncomputable def c5_21 : Code := cdL c5_20
noncomputable def c5_22 : Code := cdR c5_20
noncomputable def c5_23 : Code := cdL c5_22
noncomputable def c5_24 : Code := cdR c5_22
noncomputable def c5_25 : Code := cdL c5_24
noncomputable def c5_26 : Code := cdR c5_24
noncomputable def c5_27 : Code := cdL c5_26
noncomputable def c5_28 : Code := cdR c5_26
noncomputable def c5_29 : Code := cdL c5_28
noncomputable def c5_30 : Code := cdR c5_28
noncomputable def c5_31 : Code := cdL c5_30
noncomputable def c5_32 : Code := cdR c5_30
noncomputable def c5_33 : Code := cdL c5_32
noncomputable def c5_34 : Code := cdL c5_33
noncomputable def c5_35 : Code := cdR c5_33
noncomputable def c5_36 : Code := cdL c5_35
noncomputable def c5_37 : Code := cdL c5_36
noncomputable def c5_38 : Code := cdR c5_36
noncomputable def c5_39 : Code := cdR c5_35
noncomputable def c5_40 : Code := cdR c5_32
noncomputable def c5_41 : Code := cdL c5_40
noncomputable def c5_42 : Code := cdR c5_40
noncomputable def c5_43 : Code := cdL c5_42
noncomputable def c5_44 : Code := cdR c5_42
noncomputable def c5_45 : Code := cdL c5_44
noncomputable def c5_46 : Code := cdR c5_44
noncomputable def c5_47 : Code := cdL c5_46
noncomputable def c5_48 : Code := cdR c5_46
noncomputable def r5_1 : Array Oper := cdO c5_1
noncomputable def r5_4 : Array Oper := cdO c5_4
noncomputable def r5_7 : Array Oper := cdO c5_7
noncomputable def r5_11 : Array Oper := cdO c5_11
noncomputable def r5_14 : Array Oper := cdO c5_14
noncomputable def r5_17 : Array Oper := cdO c5_17
noncomputable def r5_21 : Array Oper := cdO c5_21
noncomputable def r5_23 : Array Oper := cdO c5_23
noncomputable def r5_25 : Array Oper := cdO c5_25
noncomputable def r5_27 : Array Oper := cdO c5_27
noncomputable def r5_29 : Array Oper := cdO c5_29
noncomputable def r5_31 : Array Oper := cdO c5_31
noncomputable def r5_34 : Array Oper := cdO c5_34
noncomputable def r5_37 : Array Oper := cdO c5_37
noncomputable def r5_41 : Array Oper := cdO c5_41
noncomputable def r5_43 : Array Oper := cdO c5_43
noncomputable def r5_45 : Array Oper := cdO c5_45
noncomputable def r5_47 : Array Oper := cdO c5_47
theorem c5_0e : c5_0 = .seq c5_1 c5_2 := by kernel_rfl
theorem c5_1e : c5_1 = .region 0 r5_1 false := by kernel_rfl
theorem c5_2e : c5_2 = .seq c5_3 c5_10 := by kernel_rfl
theorem c5_3e : c5_3 = .seq c5_4 c5_5 := by kernel_rfl
theorem c5_4e : c5_4 = .region 1 r5_4 false := by kernel_rfl
theorem c5_5e : c5_5 = .cond (cdC c5_5) c5_6 c5_9 := by kernel_rfl
theorem c5_6e : c5_6 = .seq c5_7 c5_8 := by kernel_rfl
theorem c5_7e : c5_7 = .region 2 r5_7 false := by kernel_rfl
theorem c5_8e : c5_8 = .ret := by kernel_rfl
theorem c5_9e : c5_9 = .skip := by kernel_rfl
theorem c5_10e : c5_10 = .seq c5_11 c5_12 := by kernel_rfl
theorem c5_11e : c5_11 = .region 3 r5_11 false := by kernel_rfl
theorem c5_12e : c5_12 = .seq c5_13 c5_20 := by kernel_rfl
theorem c5_13e : c5_13 = .seq c5_14 c5_15 := by kernel_rfl
theorem c5_14e : c5_14 = .region 4 r5_14 false := by kernel_rfl
theorem c5_15e : c5_15 = .cond (cdC c5_15) c5_16 c5_19 := by kernel_rfl
theorem c5_16e : c5_16 = .seq c5_17 c5_18 := by kernel_rfl
theorem c5_17e : c5_17 = .region 5 r5_17 false := by kernel_rfl
theorem c5_18e : c5_18 = .ret := by kernel_rfl
theorem c5_19e : c5_19 = .skip := by kernel_rfl
theorem c5_20e : c5_20 = .seq c5_21 c5_22 := by kernel_rfl
theorem c5_21e : c5_21 = .region 6 r5_21 false := by kernel_rfl
theorem c5_22e : c5_22 = .seq c5_23 c5_24 := by kernel_rfl
theorem c5_23e : c5_23 = .region 7 r5_23 false := by kernel_rfl
theorem c5_24e : c5_24 = .seq c5_25 c5_26 := by kernel_rfl
theorem c5_25e : c5_25 = .region 8 r5_25 false := by kernel_rfl
theorem c5_26e : c5_26 = .seq c5_27 c5_28 := by kernel_rfl
theorem c5_27e : c5_27 = .region 9 r5_27 false := by kernel_rfl
theorem c5_28e : c5_28 = .seq c5_29 c5_30 := by kernel_rfl
theorem c5_29e : c5_29 = .region 10 r5_29 false := by kernel_rfl
theorem c5_30e : c5_30 = .seq c5_31 c5_32 := by kernel_rfl
theorem c5_31e : c5_31 = .region 11 r5_31 false := by kernel_rfl
theorem c5_32e : c5_32 = .seq c5_33 c5_40 := by kernel_rfl
theorem c5_33e : c5_33 = .seq c5_34 c5_35 := by kernel_rfl
theorem c5_34e : c5_34 = .region 12 r5_34 false := by kernel_rfl
theorem c5_35e : c5_35 = .cond (cdC c5_35) c5_36 c5_39 := by kernel_rfl
theorem c5_36e : c5_36 = .seq c5_37 c5_38 := by kernel_rfl
theorem c5_37e : c5_37 = .region 13 r5_37 false := by kernel_rfl
theorem c5_38e : c5_38 = .ret := by kernel_rfl
theorem c5_39e : c5_39 = .skip := by kernel_rfl
theorem c5_40e : c5_40 = .seq c5_41 c5_42 := by kernel_rfl
theorem c5_41e : c5_41 = .region 14 r5_41 false := by kernel_rfl
theorem c5_42e : c5_42 = .seq c5_43 c5_44 := by kernel_rfl
theorem c5_43e : c5_43 = .region 15 r5_43 false := by kernel_rfl
theorem c5_44e : c5_44 = .seq c5_45 c5_46 := by kernel_rfl
theorem c5_45e : c5_45 = .region 16 r5_45 false := by kernel_rfl
theorem c5_46e : c5_46 = .seq c5_47 c5_48 := by kernel_rfl
theorem c5_47e : c5_47 = .region 17 r5_47 false := by kernel_rfl
theorem c5_48e : c5_48 = .ret := by kernel_rfl
noncomputable def tontinelaw07_RlogCompacts.R (A_3 : Option Addr) (c_4 : Nat) : Pst Bool where
  ε := Unit
  v := fun r x => .bool r
  H := fun r x => []
  B := fun r x => []
noncomputable def tontinelaw07_RlogCompacts.cx (A_3 : Option Addr) (c_4 : Nat) (w0 : World) (S0 : Fam) : Cx Bool := ⟨Try.prog, 5, Try.f5, 165, w0, S0, [], 0, tontinelaw07_RlogCompacts.R A_3 c_4⟩
theorem tontinelaw07_RlogCompacts_j0_ok (n : Nat) (l_2 : (List T_api_Entry)) (at_5 : Int) (A_3 : Option Addr) (c_4 : Nat) (w0 : World) (S0 : Fam) (b_17 : Bool) :
    GoO (tontinelaw07_RlogCompacts.cx A_3 c_4 w0 S0) [(1, .slice A_3 l_2.length c_4), (2, .int .i64 at_5), (7, .pointer none), (44, .bool b_17)] [] [Rd 0 kT_api_Entry A_3 c_4 l_2] [.code c5_15, .code c5_20] (tontinelaw07_RlogCompacts.j0 n l_2 at_5 b_17) := by
  unfold tontinelaw07_RlogCompacts.j0
  refine GoO.ite' c5_15e (by kernel_rfl) (fun h18 => ?_) (fun h18 => ?_)
  · refine GoO.seq' c5_16e ?_
    refine GoO.region' (is := [0]) c5_17e (by kernel_rfl) ?_
    refine GoO.exec (is := [0]) (hs := [.p]) (rest := []) (ks := [6]) (env' := [(6, .bool true)]) (H' := []) (ps := []) (by kernel_rfl) trivial ?_
    refine GoO.regionEnd ?_
    exact GoO.ret' (h := c5_18e) (hs := []) (ps := []) (hk := []) (bk := []) Try.func5 () (by kernel_rfl) trivial (by kernel_rfl) (by kernel_rfl)
  · refine GoO.skip' c5_19e ?_
    refine GoO.seq' c5_20e ?_
    refine GoO.region' (is := [0, 1, 2, 3, 4, 5, 6, 7, 8, 9, 10, 11, 12, 13, 14]) c5_21e (by kernel_rfl) ?_
    refine GoO.guard (fun h19 => ?_)
    refine GoO.exec (is := [0, 1, 2, 3, 4, 5, 6, 7, 8, 9, 10]) (hs := [.p, .p, .p, .p, .p, .p, .p, .p, .p, .p, .p]) (rest := [11, 12, 13, 14]) (ks := [7, 45, 55]) (env' := [(7, .pointer none), (45, .slice A_3 l_2.length c_4), (55, .int .i64 ((wi64 ((at_5.tmod (l_2.length : Int)) + (l_2.length : Int))).tmod (l_2.length : Int)))]) (H' := []) (ps := [(l_2.length : Int) ≠ 0, (l_2.length : Int) ≠ 0]) (by kernel_rfl) (And.intro h19 (And.intro h19 trivial)) ?_
    refine GoO.guard (fun h20 => ?_)
    refine OpTo.go (GoO.idx (kk := .i64) (e := 40) (K := kT_api_Entry) (A := A_3) (c := c_4) (xs := l_2) (iv := (wi64 ((at_5.tmod (l_2.length : Int)) + (l_2.length : Int))).tmod (l_2.length : Int)) (j := 0) rfl (by kernel_rfl) (by kernel_rfl) (by kernel_rfl) (by kernel_rfl) rfl Reads.rd rfl h20.1 h20.2 (by decide) rfl ?_)
    refine OpTo.go (GoO.fldE (K := kT_api_Entry) (A := A_3) (c := c_4) (xs := l_2) (iN := ((wi64 ((at_5.tmod (l_2.length : Int)) + (l_2.length : Int))).tmod (l_2.length : Int)).toNat) (off := 0) (n := 1) (j := 0) rfl (by kernel_rfl) (by kernel_rfl) rfl Reads.rd (by first | exact idx_lt h20.1 h20.2 | (simp only [List.length_set]; exact idx_lt h20.1 h20.2)) (by decide) rfl ?_)
    refine OpTo.go (GoO.ldE' (K := kT_api_Entry) (A := A_3) (c := c_4) (xs := l_2) (iN := ((wi64 ((at_5.tmod (l_2.length : Int)) + (l_2.length : Int))).tmod (l_2.length : Int)).toNat) (off := 1) (j := 0) rfl (by kernel_rfl) rfl Reads.rd (by first | exact idx_lt h20.1 h20.2 | (simp only [List.length_set]; exact idx_lt h20.1 h20.2)) (by decide) (Opn.flat _ _ _ _ _) (v := fun _ => .int .u64 ((rdL l_2 ((wi64 ((at_5.tmod (l_2.length : Int)) + (l_2.length : Int))).tmod (l_2.length : Int))).Index)) (fun _ => by kernel_rfl) _ (fun _ => rfl) (fun _ => ?_))
    refine GoO.exec (is := [14]) (hs := [.p]) (rest := []) (ks := [7, 9]) (env' := [(7, .pointer none), (9, .int .u64 ((rdL l_2 ((wi64 ((at_5.tmod (l_2.length : Int)) + (l_2.length : Int))).tmod (l_2.length : Int))).Index))]) (H' := []) (ps := []) (by kernel_rfl) trivial ?_
    refine GoO.regionEnd ?_
    refine GoO.seq' c5_22e ?_
    refine GoO.region' (is := [0, 1, 2, 3, 4, 5, 6]) c5_23e (by kernel_rfl) ?_
    refine GoO.exec (is := [0]) (hs := [.p]) (rest := [1, 2, 3, 4, 5, 6]) (ks := [7, 9, 60]) (env' := [(7, .pointer none), (9, .int .u64 ((rdL l_2 ((wi64 ((at_5.tmod (l_2.length : Int)) + (l_2.length : Int))).tmod (l_2.length : Int))).Index)), (60, .pointer none)]) (H' := []) (ps := []) (by kernel_rfl) trivial ?_
    exact GoO.stop
theorem tontinelaw07_RlogCompacts_j2_ok (n : Nat) (l_2 : (List T_api_Entry)) (at_5 : Int) (r_28 : Int × Int) (r_29 : Int × Int) (r_30 : Int × Int) (r_31 : (List T_api_Entry)) (r_34 : Int × Int) (c_10 : Nat) (A_32 : Option Addr) (c_33 : Nat) (A_3 : Option Addr) (c_4 : Nat) (w0 : World) (S0 : Fam) (f_42 : Int) (f_43 : Int) (f_44 : Int) (f_45 : (List UInt8)) (f_46 : (List T_api_Entry)) (b_49 : Bool) (A_47 : Option Addr) (c_48 : Nat) :
    GoO (tontinelaw07_RlogCompacts.cx A_3 c_4 w0 S0) [(7, .pointer (some ⟨c_10, 0, none⟩)), (9, .int .u64 ((rdL l_2 ((wi64 ((at_5.tmod (l_2.length : Int)) + (l_2.length : Int))).tmod (l_2.length : Int))).Index)), (10, .int .u64 r_28.1), (11, .int .u64 r_28.2), (12, .int .u64 r_29.1), (13, .int .u64 r_29.2), (14, .int .u64 r_30.1), (16, .slice A_32 r_31.length c_33), (17, .int .u64 r_34.1), (94, .bool b_49)] [⟨41, c_10, [.int .u64 f_42, .int .u64 f_43, .int .u64 f_44, .string (bs f_45), .slice A_47 f_46.length c_48]⟩] [Ow 42 kT_api_Entry A_47 c_48 f_46, Ow 43 kT_api_Entry A_32 c_33 r_31] [.code c5_35, .code c5_40] (tontinelaw07_RlogCompacts.j2 n l_2 at_5 r_28 r_29 r_30 r_31 r_34 f_42 f_43 f_44 f_45 f_46 b_49) := by
  unfold tontinelaw07_RlogCompacts.j2
  refine GoO.ite' c5_35e (by kernel_rfl) (fun h50 => ?_) (fun h50 => ?_)
  · refine GoO.seq' c5_36e ?_
    refine GoO.region' (is := [0]) c5_37e (by kernel_rfl) ?_
    refine GoO.exec (is := [0]) (hs := [.p]) (rest := []) (ks := [6]) (env' := [(6, .bool false)]) (H' := [⟨41, c_10, [.int .u64 f_42, .int .u64 f_43, .int .u64 f_44, .string (bs f_45), .slice A_47 f_46.length c_48]⟩]) (ps := []) (by kernel_rfl) trivial ?_
    refine GoO.regionEnd ?_
    exact GoO.ret' (h := c5_38e) (hs := []) (ps := []) (hk := []) (bk := []) Try.func5 () (by kernel_rfl) trivial (by kernel_rfl) (by kernel_rfl)
  · refine GoO.skip' c5_39e ?_
    refine GoO.seq' c5_40e ?_
    refine GoO.region' (is := [0, 1, 2, 3, 4, 5, 6]) c5_41e (by kernel_rfl) ?_
    refine GoO.exec (is := [0]) (hs := [.p]) (rest := [1, 2, 3, 4, 5, 6]) (ks := [7, 9, 10, 11, 12, 13, 14, 16, 17, 96]) (env' := [(7, .pointer (some ⟨c_10, 0, none⟩)), (9, .int .u64 ((rdL l_2 ((wi64 ((at_5.tmod (l_2.length : Int)) + (l_2.length : Int))).tmod (l_2.length : Int))).Index)), (10, .int .u64 r_28.1), (11, .int .u64 r_28.2), (12, .int .u64 r_29.1), (13, .int .u64 r_29.2), (14, .int .u64 r_30.1), (16, .slice A_32 r_31.length c_33), (17, .int .u64 r_34.1), (96, .pointer (some ⟨c_10, 0, none⟩))]) (H' := [⟨41, c_10, [.int .u64 f_42, .int .u64 f_43, .int .u64 f_44, .string (bs f_45), .slice A_47 f_46.length c_48]⟩]) (ps := []) (by kernel_rfl) trivial ?_
    refine OpTo.go (GoO.call rfl (by kernel_rfl) (by kernel_rfl) (rlog_Log_Last_ok n (⟨(⟨f_42, f_43, f_44, f_45⟩ : T_api_Snapshot), f_46⟩ : T_rlog_Log) c_10 A_47 c_48) [[0], [41], [42]] [] [(1, 0)] [(2, 0)] (hks := [0]) (bks := [0, 1]) (by kernel_rfl) (by kernel_rfl) (by kernel_rfl) (.inl rfl) rfl rfl (by kernel_rfl) (by kernel_rfl) _ (fun _ _ => rfl) _ _ (fun _ _ => rfl) (fun _ _ => rfl) (fun _ _ => by kernel_rfl) (fun _ _ => by kernel_rfl) (fun r_51 x_84 => ?_))
    refine GoO.shape (env' := [(7, .pointer (some ⟨c_10, 0, none⟩)), (9, .int .u64 ((rdL l_2 ((wi64 ((at_5.tmod (l_2.length : Int)) + (l_2.length : Int))).tmod (l_2.length : Int))).Index)), (10, .int .u64 r_28.1), (11, .int .u64 r_28.2), (12, .int .u64 r_29.1), (13, .int .u64 r_29.2), (14, .int .u64 r_30.1), (16, .slice A_32 r_31.length c_33), (17, .int .u64 r_34.1), (96, .pointer (some ⟨c_10, 0, none⟩)), (97, .tuple ⟨[.int .u64 r_51.1, .int .u64 r_51.2]⟩)]) (H' := [⟨41, c_10, [.int .u64 f_42, .int .u64 f_43, .int .u64 f_44, .string (bs f_45), .slice A_47 f_46.length c_48]⟩]) (B' := [Ow 42 kT_api_Entry A_47 c_48 f_46, Ow 43 kT_api_Entry A_32 c_33 r_31]) (ks := [7, 9, 10, 11, 12, 13, 14, 16, 17, 96, 97]) (by kernel_rfl) (by kernel_rfl) (by kernel_rfl) ?_
    refine GoO.exec (is := [2, 3, 4, 5, 6]) (hs := [.p, .p, .p, .p, .p]) (rest := []) (ks := [7, 9, 10, 11, 12, 13, 14, 16, 17, 19, 20]) (env' := [(7, .pointer (some ⟨c_10, 0, none⟩)), (9, .int .u64 ((rdL l_2 ((wi64 ((at_5.tmod (l_2.length : Int)) + (l_2.length : Int))).tmod (l_2.length : Int))).Index)), (10, .int .u64 r_28.1), (11, .int .u64 r_28.2), (12, .int .u64 r_29.1), (13, .int .u64 r_29.2), (14, .int .u64 r_30.1), (16, .slice A_32 r_31.length c_33), (17, .int .u64 r_34.1), (19, .int .u64 r_51.1), (20, .int .u64 r_51.2)]) (H' := [⟨41, c_10, [.int .u64 f_42, .int .u64 f_43, .int .u64 f_44, .string (bs f_45), .slice A_47 f_46.length c_48]⟩]) (ps := []) (by kernel_rfl) trivial ?_
    refine GoO.regionEnd ?_
    refine GoO.seq' c5_42e ?_
    refine GoO.region' (is := [0, 1, 2, 3, 4, 5, 6]) c5_43e (by kernel_rfl) ?_
    refine GoO.exec (is := [0]) (hs := [.p]) (rest := [1, 2, 3, 4, 5, 6]) (ks := [7, 9, 10, 11, 12, 13, 14, 16, 17, 19, 20, 101]) (env' := [(7, .pointer (some ⟨c_10, 0, none⟩)), (9, .int .u64 ((rdL l_2 ((wi64 ((at_5.tmod (l_2.length : Int)) + (l_2.length : Int))).tmod (l_2.length : Int))).Index)), (10, .int .u64 r_28.1), (11, .int .u64 r_28.2), (12, .int .u64 r_29.1), (13, .int .u64 r_29.2), (14, .int .u64 r_30.1), (16, .slice A_32 r_31.length c_33), (17, .int .u64 r_34.1), (19, .int .u64 r_51.1), (20, .int .u64 r_51.2), (101, .pointer (some ⟨c_10, 0, none⟩))]) (H' := [⟨41, c_10, [.int .u64 f_42, .int .u64 f_43, .int .u64 f_44, .string (bs f_45), .slice A_47 f_46.length c_48]⟩]) (ps := []) (by kernel_rfl) trivial ?_
    refine OpTo.go (GoO.call rfl (by kernel_rfl) (by kernel_rfl) (rlog_Log_Members_ok n (⟨(⟨f_42, f_43, f_44, f_45⟩ : T_api_Snapshot), f_46⟩ : T_rlog_Log) c_10 A_47 c_48) [[0], [41], [42]] [] [(1, 0)] [(2, 0)] (hks := [0]) (bks := [0, 1]) (by kernel_rfl) (by kernel_rfl) (by kernel_rfl) (.inl rfl) rfl rfl (by kernel_rfl) (by kernel_rfl) _ (fun _ _ => rfl) _ _ (fun _ _ => rfl) (fun _ _ => rfl) (fun _ _ => by kernel_rfl) (fun _ _ => by kernel_rfl) (fun r_52 x_83 => ?_))
    refine GoO.shape (env' := [(7, .pointer (some ⟨c_10, 0, none⟩)), (9, .int .u64 ((rdL l_2 ((wi64 ((at_5.tmod (l_2.length : Int)) + (l_2.length : Int))).tmod (l_2.length : Int))).Index)), (10, .int .u64 r_28.1), (11, .int .u64 r_28.2), (12, .int .u64 r_29.1), (13, .int .u64 r_29.2), (14, .int .u64 r_30.1), (16, .slice A_32 r_31.length c_33), (17, .int .u64 r_34.1), (19, .int .u64 r_51.1), (20, .int .u64 r_51.2), (101, .pointer (some ⟨c_10, 0, none⟩)), (102, .tuple ⟨[.int .u64 r_52.1, .int .u64 r_52.2]⟩)]) (H' := [⟨41, c_10, [.int .u64 f_42, .int .u64 f_43, .int .u64 f_44, .string (bs f_45), .slice A_47 f_46.length c_48]⟩]) (B' := [Ow 42 kT_api_Entry A_47 c_48 f_46, Ow 43 kT_api_Entry A_32 c_33 r_31]) (ks := [7, 9, 10, 11, 12, 13, 14, 16, 17, 19, 20, 101, 102]) (by kernel_rfl) (by kernel_rfl) (by kernel_rfl) ?_
    refine GoO.exec (is := [2, 3, 4, 5, 6]) (hs := [.p, .p, .p, .p, .p]) (rest := []) (ks := [7, 9, 10, 11, 12, 13, 14, 16, 17, 19, 20, 21, 22]) (env' := [(7, .pointer (some ⟨c_10, 0, none⟩)), (9, .int .u64 ((rdL l_2 ((wi64 ((at_5.tmod (l_2.length : Int)) + (l_2.length : Int))).tmod (l_2.length : Int))).Index)), (10, .int .u64 r_28.1), (11, .int .u64 r_28.2), (12, .int .u64 r_29.1), (13, .int .u64 r_29.2), (14, .int .u64 r_30.1), (16, .slice A_32 r_31.length c_33), (17, .int .u64 r_34.1), (19, .int .u64 r_51.1), (20, .int .u64 r_51.2), (21, .int .u64 r_52.1), (22, .int .u64 r_52.2)]) (H' := [⟨41, c_10, [.int .u64 f_42, .int .u64 f_43, .int .u64 f_44, .string (bs f_45), .slice A_47 f_46.length c_48]⟩]) (ps := []) (by kernel_rfl) trivial ?_
    refine GoO.regionEnd ?_
    refine GoO.seq' c5_44e ?_
    refine GoO.region' (is := [0, 1, 2, 3, 4, 5, 6, 7]) c5_45e (by kernel_rfl) ?_
    refine GoO.exec (is := [0, 1]) (hs := [.p, .p]) (rest := [2, 3, 4, 5, 6, 7]) (ks := [7, 9, 10, 11, 12, 13, 14, 16, 17, 19, 20, 21, 22, 106, 107]) (env' := [(7, .pointer (some ⟨c_10, 0, none⟩)), (9, .int .u64 ((rdL l_2 ((wi64 ((at_5.tmod (l_2.length : Int)) + (l_2.length : Int))).tmod (l_2.length : Int))).Index)), (10, .int .u64 r_28.1), (11, .int .u64 r_28.2), (12, .int .u64 r_29.1), (13, .int .u64 r_29.2), (14, .int .u64 r_30.1), (16, .slice A_32 r_31.length c_33), (17, .int .u64 r_34.1), (19, .int .u64 r_51.1), (20, .int .u64 r_51.2), (21, .int .u64 r_52.1), (22, .int .u64 r_52.2), (106, .pointer (some ⟨c_10, 0, none⟩)), (107, .int .u64 ((rdL l_2 ((wi64 ((at_5.tmod (l_2.length : Int)) + (l_2.length : Int))).tmod (l_2.length : Int))).Index))]) (H' := [⟨41, c_10, [.int .u64 f_42, .int .u64 f_43, .int .u64 f_44, .string (bs f_45), .slice A_47 f_46.length c_48]⟩]) (ps := []) (by kernel_rfl) trivial ?_
    refine OpTo.go (GoO.call rfl (by kernel_rfl) (by kernel_rfl) (rlog_Log_Term_ok n (⟨(⟨f_42, f_43, f_44, f_45⟩ : T_api_Snapshot), f_46⟩ : T_rlog_Log) ((rdL l_2 ((wi64 ((at_5.tmod (l_2.length : Int)) + (l_2.length : Int))).tmod (l_2.length : Int))).Index) c_10 A_47 c_48) [[0], [41], [42]] [] [(1, 0)] [(2, 0)] (hks := [0]) (bks := [0, 1]) (by kernel_rfl) (by kernel_rfl) (by kernel_rfl) (.inl rfl) rfl rfl (by kernel_rfl) (by kernel_rfl) _ (fun _ _ => rfl) _ _ (fun _ _ => rfl) (fun _ _ => rfl) (fun _ _ => by kernel_rfl) (fun _ _ => by kernel_rfl) (fun r_53 x_82 => ?_))
    refine GoO.shape (env' := [(7, .pointer (some ⟨c_10, 0, none⟩)), (9, .int .u64 ((rdL l_2 ((wi64 ((at_5.tmod (l_2.length : Int)) + (l_2.length : Int))).tmod (l_2.length : Int))).Index)), (10, .int .u64 r_28.1), (11, .int .u64 r_28.2), (12, .int .u64 r_29.1), (13, .int .u64 r_29.2), (14, .int .u64 r_30.1), (16, .slice A_32 r_31.length c_33), (17, .int .u64 r_34.1), (19, .int .u64 r_51.1), (20, .int .u64 r_51.2), (21, .int .u64 r_52.1), (22, .int .u64 r_52.2), (106, .pointer (some ⟨c_10, 0, none⟩)), (107, .int .u64 ((rdL l_2 ((wi64 ((at_5.tmod (l_2.length : Int)) + (l_2.length : Int))).tmod (l_2.length : Int))).Index)), (108, .tuple ⟨[.int .u64 r_53.1, .int .i64 r_53.2]⟩)]) (H' := [⟨41, c_10, [.int .u64 f_42, .int .u64 f_43, .int .u64 f_44, .string (bs f_45), .slice A_47 f_46.length c_48]⟩]) (B' := [Ow 42 kT_api_Entry A_47 c_48 f_46, Ow 43 kT_api_Entry A_32 c_33 r_31]) (ks := [7, 9, 10, 11, 12, 13, 14, 16, 17, 19, 20, 21, 22, 106, 107, 108]) (by kernel_rfl) (by kernel_rfl) (by kernel_rfl) ?_
    refine GoO.exec (is := [3, 4, 5, 6, 7]) (hs := [.p, .p, .p, .p, .p]) (rest := []) (ks := [7, 9, 10, 11, 12, 13, 14, 16, 17, 19, 20, 21, 22, 23, 24]) (env' := [(7, .pointer (some ⟨c_10, 0, none⟩)), (9, .int .u64 ((rdL l_2 ((wi64 ((at_5.tmod (l_2.length : Int)) + (l_2.length : Int))).tmod (l_2.length : Int))).Index)), (10, .int .u64 r_28.1), (11, .int .u64 r_28.2), (12, .int .u64 r_29.1), (13, .int .u64 r_29.2), (14, .int .u64 r_30.1), (16, .slice A_32 r_31.length c_33), (17, .int .u64 r_34.1), (19, .int .u64 r_51.1), (20, .int .u64 r_51.2), (21, .int .u64 r_52.1), (22, .int .u64 r_52.2), (23, .int .u64 r_53.1), (24, .int .i64 r_53.2)]) (H' := [⟨41, c_10, [.int .u64 f_42, .int .u64 f_43, .int .u64 f_44, .string (bs f_45), .slice A_47 f_46.length c_48]⟩]) (ps := []) (by kernel_rfl) trivial ?_
    refine GoO.regionEnd ?_
    refine GoO.seq' c5_46e ?_
    refine GoO.region' (is := [0, 1, 2, 3, 4, 5, 6, 7, 8, 9, 10, 11, 12, 13, 14, 15, 16, 17, 18, 19, 20, 21, 22, 23, 24, 25, 26, 27, 28, 29, 30, 31, 32, 33, 34, 35, 36, 37, 38, 39, 40, 41, 42, 43, 44, 45, 46, 47, 48, 49, 50, 51, 52, 53, 54]) c5_47e (by kernel_rfl) ?_
    refine GoO.exec (is := [0, 1, 2, 3]) (hs := [.p, .p, .p, .p]) (rest := [4, 5, 6, 7, 8, 9, 10, 11, 12, 13, 14, 15, 16, 17, 18, 19, 20, 21, 22, 23, 24, 25, 26, 27, 28, 29, 30, 31, 32, 33, 34, 35, 36, 37, 38, 39, 40, 41, 42, 43, 44, 45, 46, 47, 48, 49, 50, 51, 52, 53, 54]) (ks := [7, 9, 11, 12, 13, 14, 16, 17, 20, 21, 22, 23, 24, 114]) (env' := [(7, .pointer (some ⟨c_10, 0, none⟩)), (9, .int .u64 ((rdL l_2 ((wi64 ((at_5.tmod (l_2.length : Int)) + (l_2.length : Int))).tmod (l_2.length : Int))).Index)), (11, .int .u64 r_28.2), (12, .int .u64 r_29.1), (13, .int .u64 r_29.2), (14, .int .u64 r_30.1), (16, .slice A_32 r_31.length c_33), (17, .int .u64 r_34.1), (20, .int .u64 r_51.2), (21, .int .u64 r_52.1), (22, .int .u64 r_52.2), (23, .int .u64 r_53.1), (24, .int .i64 r_53.2), (114, .bool (r_51.1 == r_28.1))]) (H' := [⟨41, c_10, [.int .u64 f_42, .int .u64 f_43, .int .u64 f_44, .string (bs f_45), .slice A_47 f_46.length c_48]⟩]) (ps := []) (by kernel_rfl) trivial ?_
    refine GoO.bsplit (t := 114) (by kernel_rfl) (fun h54 => ?_) (fun h54 => ?_)
    · refine GoO.exec (is := [4, 5, 6, 7, 8]) (hs := [.p, .p, .p, .p, .p]) (rest := [9, 10, 11, 12, 13, 14, 15, 16, 17, 18, 19, 20, 21, 22, 23, 24, 25, 26, 27, 28, 29, 30, 31, 32, 33, 34, 35, 36, 37, 38, 39, 40, 41, 42, 43, 44, 45, 46, 47, 48, 49, 50, 51, 52, 53, 54]) (ks := [7, 9, 12, 13, 14, 16, 17, 21, 22, 23, 24, 119]) (env' := [(7, .pointer (some ⟨c_10, 0, none⟩)), (9, .int .u64 ((rdL l_2 ((wi64 ((at_5.tmod (l_2.length : Int)) + (l_2.length : Int))).tmod (l_2.length : Int))).Index)), (12, .int .u64 r_29.1), (13, .int .u64 r_29.2), (14, .int .u64 r_30.1), (16, .slice A_32 r_31.length c_33), (17, .int .u64 r_34.1), (21, .int .u64 r_52.1), (22, .int .u64 r_52.2), (23, .int .u64 r_53.1), (24, .int .i64 r_53.2), (119, .bool (r_51.2 == r_28.2))]) (H' := [⟨41, c_10, [.int .u64 f_42, .int .u64 f_43, .int .u64 f_44, .string (bs f_45), .slice A_47 f_46.length c_48]⟩]) (ps := []) (by kernel_rfl) trivial ?_
      refine GoO.bsplit (t := 119) (by kernel_rfl) (fun h55 => ?_) (fun h55 => ?_)
      · refine GoO.exec (is := [9, 10, 11, 12, 13]) (hs := [.p, .p, .p, .p, .p]) (rest := [14, 15, 16, 17, 18, 19, 20, 21, 22, 23, 24, 25, 26, 27, 28, 29, 30, 31, 32, 33, 34, 35, 36, 37, 38, 39, 40, 41, 42, 43, 44, 45, 46, 47, 48, 49, 50, 51, 52, 53, 54]) (ks := [7, 9, 13, 14, 16, 17, 22, 23, 24, 124]) (env' := [(7, .pointer (some ⟨c_10, 0, none⟩)), (9, .int .u64 ((rdL l_2 ((wi64 ((at_5.tmod (l_2.length : Int)) + (l_2.length : Int))).tmod (l_2.length : Int))).Index)), (13, .int .u64 r_29.2), (14, .int .u64 r_30.1), (16, .slice A_32 r_31.length c_33), (17, .int .u64 r_34.1), (22, .int .u64 r_52.2), (23, .int .u64 r_53.1), (24, .int .i64 r_53.2), (124, .bool (r_52.1 == r_29.1))]) (H' := [⟨41, c_10, [.int .u64 f_42, .int .u64 f_43, .int .u64 f_44, .string (bs f_45), .slice A_47 f_46.length c_48]⟩]) (ps := []) (by kernel_rfl) trivial ?_
        refine GoO.bsplit (t := 124) (by kernel_rfl) (fun h56 => ?_) (fun h56 => ?_)
        · refine GoO.exec (is := [14, 15, 16, 17]) (hs := [.p, .p, .p, .p]) (rest := [18, 19, 20, 21, 22, 23, 24, 25, 26, 27, 28, 29, 30, 31, 32, 33, 34, 35, 36, 37, 38, 39, 40, 41, 42, 43, 44, 45, 46, 47, 48, 49, 50, 51, 52, 53, 54]) (ks := [7, 9, 13, 14, 16, 17, 22, 23, 24, 124, 128]) (env' := [(7, .pointer (some ⟨c_10, 0, none⟩)), (9, .int .u64 ((rdL l_2 ((wi64 ((at_5.tmod (l_2.length : Int)) + (l_2.length : Int))).tmod (l_2.length : Int))).Index)), (13, .int .u64 r_29.2), (14, .int .u64 r_30.1), (16, .slice A_32 r_31.length c_33), (17, .int .u64 r_34.1), (22, .int .u64 r_52.2), (23, .int .u64 r_53.1), (24, .int .i64 r_53.2), (124, .bool true), (128, .bool (r_52.2 == r_29.2))]) (H' := [⟨41, c_10, [.int .u64 f_42, .int .u64 f_43, .int .u64 f_44, .string (bs f_45), .slice A_47 f_46.length c_48]⟩]) (ps := []) (by kernel_rfl) trivial ?_
          refine GoO.bsplit (t := 128) (by kernel_rfl) (fun h57 => ?_) (fun h57 => ?_)
          · refine GoO.exec (is := [18, 19, 20, 21, 22, 23, 24, 25, 26, 27, 28, 29, 30, 31, 32, 33]) (hs := [.p, .p, .p, .p, .p, .p, .p, .p, .p, .p, .p, .p, .p, .p, .p, .p]) (rest := [34, 35, 36, 37, 38, 39, 40, 41, 42, 43, 44, 45, 46, 47, 48, 49, 50, 51, 52, 53, 54]) (ks := [7, 9, 14, 16, 17, 24, 144]) (env' := [(7, .pointer (some ⟨c_10, 0, none⟩)), (9, .int .u64 ((rdL l_2 ((wi64 ((at_5.tmod (l_2.length : Int)) + (l_2.length : Int))).tmod (l_2.length : Int))).Index)), (14, .int .u64 r_30.1), (16, .slice A_32 r_31.length c_33), (17, .int .u64 r_34.1), (24, .int .i64 r_53.2), (144, .bool (r_53.1 == r_34.1))]) (H' := [⟨41, c_10, [.int .u64 f_42, .int .u64 f_43, .int .u64 f_44, .string (bs f_45), .slice A_47 f_46.length c_48]⟩]) (ps := []) (by kernel_rfl) trivial ?_
            refine GoO.bsplit (t := 144) (by kernel_rfl) (fun h58 => ?_) (fun h58 => ?_)
            · refine GoO.exec (is := [34, 35, 36, 37]) (hs := [.p, .p, .p, .p]) (rest := [38, 39, 40, 41, 42, 43, 44, 45, 46, 47, 48, 49, 50, 51, 52, 53, 54]) (ks := [7, 9, 14, 16, 17, 148]) (env' := [(7, .pointer (some ⟨c_10, 0, none⟩)), (9, .int .u64 ((rdL l_2 ((wi64 ((at_5.tmod (l_2.length : Int)) + (l_2.length : Int))).tmod (l_2.length : Int))).Index)), (14, .int .u64 r_30.1), (16, .slice A_32 r_31.length c_33), (17, .int .u64 r_34.1), (148, .bool (r_53.2 == 0))]) (H' := [⟨41, c_10, [.int .u64 f_42, .int .u64 f_43, .int .u64 f_44, .string (bs f_45), .slice A_47 f_46.length c_48]⟩]) (ps := []) (by kernel_rfl) trivial ?_
              refine GoO.bsplit (t := 148) (by kernel_rfl) (fun h59 => ?_) (fun h59 => ?_)
              · refine GoO.exec (is := [38]) (hs := [.p]) (rest := [39, 40, 41, 42, 43, 44, 45, 46, 47, 48, 49, 50, 51, 52, 53, 54]) (ks := [7, 9, 14, 16, 17, 148, 149]) (env' := [(7, .pointer (some ⟨c_10, 0, none⟩)), (9, .int .u64 ((rdL l_2 ((wi64 ((at_5.tmod (l_2.length : Int)) + (l_2.length : Int))).tmod (l_2.length : Int))).Index)), (14, .int .u64 r_30.1), (16, .slice A_32 r_31.length c_33), (17, .int .u64 r_34.1), (148, .bool true), (149, .pointer (some ⟨c_10, 0, none⟩))]) (H' := [⟨41, c_10, [.int .u64 f_42, .int .u64 f_43, .int .u64 f_44, .string (bs f_45), .slice A_47 f_46.length c_48]⟩]) (ps := []) (by kernel_rfl) trivial ?_
                refine OpTo.go (GoO.call rfl (by kernel_rfl) (by kernel_rfl) (rlog_Log_First_ok n (⟨(⟨f_42, f_43, f_44, f_45⟩ : T_api_Snapshot), f_46⟩ : T_rlog_Log) c_10 A_47 c_48) [[0], [41], [42]] [] [(1, 0)] [(2, 0)] (hks := [0]) (bks := [0, 1]) (by kernel_rfl) (by kernel_rfl) (by kernel_rfl) (.inl rfl) rfl rfl (by kernel_rfl) (by kernel_rfl) _ (fun _ _ => rfl) _ _ (fun _ _ => rfl) (fun _ _ => rfl) (fun _ _ => by kernel_rfl) (fun _ _ => by kernel_rfl) (fun r_60 x_68 => ?_))
                refine GoO.shape (env' := [(7, .pointer (some ⟨c_10, 0, none⟩)), (9, .int .u64 ((rdL l_2 ((wi64 ((at_5.tmod (l_2.length : Int)) + (l_2.length : Int))).tmod (l_2.length : Int))).Index)), (14, .int .u64 r_30.1), (16, .slice A_32 r_31.length c_33), (17, .int .u64 r_34.1), (148, .bool true), (149, .pointer (some ⟨c_10, 0, none⟩)), (150, .agg ⟨[.int .u64 r_60.Index, .int .u64 r_60.Term, .int .u64 r_60.Config, .string (bs r_60.Data)]⟩)]) (H' := [⟨41, c_10, [.int .u64 f_42, .int .u64 f_43, .int .u64 f_44, .string (bs f_45), .slice A_47 f_46.length c_48]⟩]) (B' := [Ow 42 kT_api_Entry A_47 c_48 f_46, Ow 43 kT_api_Entry A_32 c_33 r_31]) (ks := [7, 9, 14, 16, 17, 148, 149, 150]) (by kernel_rfl) (by kernel_rfl) (by kernel_rfl) ?_
                refine GoO.exec (is := [40, 41, 42, 43, 44, 45, 46]) (hs := [.p, .p, .p, .p, .p, .p, .p]) (rest := [47, 48, 49, 50, 51, 52, 53, 54]) (ks := [7, 9, 16, 157]) (env' := [(7, .pointer (some ⟨c_10, 0, none⟩)), (9, .int .u64 ((rdL l_2 ((wi64 ((at_5.tmod (l_2.length : Int)) + (l_2.length : Int))).tmod (l_2.length : Int))).Index)), (16, .slice A_32 r_31.length c_33), (157, .bool ((r_60.Index == ((rdL l_2 ((wi64 ((at_5.tmod (l_2.length : Int)) + (l_2.length : Int))).tmod (l_2.length : Int))).Index)) && ((r_60.Term == r_34.1) && ((r_60.Config == r_30.1) && ((r_60.Data == ([100, 97, 116, 97] : List UInt8)) && true)))))]) (H' := [⟨41, c_10, [.int .u64 f_42, .int .u64 f_43, .int .u64 f_44, .string (bs f_45), .slice A_47 f_46.length c_48]⟩]) (ps := []) (by kernel_rfl) trivial ?_
                refine GoO.bsplit (t := 157) (by kernel_rfl) (fun h61 => ?_) (fun h61 => ?_)
                · refine GoO.exec (is := [47, 48, 49]) (hs := [.p, .p, .p]) (rest := [50, 51, 52, 53, 54]) (ks := [16, 157, 158, 160]) (env' := [(16, .slice A_32 r_31.length c_33), (157, .bool true), (158, .pointer (some ⟨c_10, 0, none⟩)), (160, .int .u64 (wu64 (((rdL l_2 ((wi64 ((at_5.tmod (l_2.length : Int)) + (l_2.length : Int))).tmod (l_2.length : Int))).Index) + 1)))]) (H' := [⟨41, c_10, [.int .u64 f_42, .int .u64 f_43, .int .u64 f_44, .string (bs f_45), .slice A_47 f_46.length c_48]⟩]) (ps := []) (by kernel_rfl) trivial ?_
                  refine OpTo.go (GoO.call rfl (by kernel_rfl) (by kernel_rfl) (rlog_Log_Get_ok n (⟨(⟨f_42, f_43, f_44, f_45⟩ : T_api_Snapshot), f_46⟩ : T_rlog_Log) (wu64 (((rdL l_2 ((wi64 ((at_5.tmod (l_2.length : Int)) + (l_2.length : Int))).tmod (l_2.length : Int))).Index) + 1)) 2000 c_10 A_47 c_48) [[0], [41], [42]] [(44, 3)] [(1, 0)] [(2, 0)] (hks := [0]) (bks := [0, 1]) (by kernel_rfl) (by kernel_rfl) (by kernel_rfl) (.inl rfl) rfl rfl (by kernel_rfl) (by kernel_rfl) _ (fun _ _ => rfl) _ _ (fun _ _ => rfl) (fun _ _ => rfl) (fun _ _ => by kernel_rfl) (fun _ _ => by kernel_rfl) (fun r_62 x_67 => ?_))
                  obtain ⟨A_63, c_64⟩ := x_67
                  refine GoO.shape (env' := [(16, .slice A_32 r_31.length c_33), (157, .bool true), (158, .pointer (some ⟨c_10, 0, none⟩)), (160, .int .u64 (wu64 (((rdL l_2 ((wi64 ((at_5.tmod (l_2.length : Int)) + (l_2.length : Int))).tmod (l_2.length : Int))).Index) + 1))), (161, .slice A_63 r_62.length c_64)]) (H' := [⟨41, c_10, [.int .u64 f_42, .int .u64 f_43, .int .u64 f_44, .string (bs f_45), .slice A_47 f_46.length c_48]⟩]) (B' := [Ow 44 kT_api_Entry A_63 c_64 r_62, Ow 42 kT_api_Entry A_47 c_48 f_46, Ow 43 kT_api_Entry A_32 c_33 r_31]) (ks := [16, 157, 158, 160, 161]) (by kernel_rfl) (by kernel_rfl) (by kernel_rfl) ?_
                  refine GoO.exec (is := [51]) (hs := [.p]) (rest := [52, 53, 54]) (ks := [157, 161, 162]) (env' := [(157, .bool true), (161, .slice A_63 r_62.length c_64), (162, .slice A_32 r_31.length c_33)]) (H' := [⟨41, c_10, [.int .u64 f_42, .int .u64 f_43, .int .u64 f_44, .string (bs f_45), .slice A_47 f_46.length c_48]⟩]) (ps := []) (by kernel_rfl) trivial ?_
                  refine GoO.view (j := 0) rfl ?_
                  refine GoO.view (j := 2) rfl ?_
                  refine OpTo.go (GoO.call rfl (by kernel_rfl) (by kernel_rfl) (tontineref07_Same_ok n r_62 r_31 A_63 c_64 A_32 c_33) [[0, 44, 43]] [] [] [(0, 3), (0, 4)] (hks := [0]) (bks := [0, 1, 2]) (by kernel_rfl) (by kernel_rfl) (by kernel_rfl) (.inr (fun _ _ => by simp [tontineref07_Same.R])) rfl rfl (by kernel_rfl) (by kernel_rfl) _ (fun _ _ => rfl) _ _ (fun _ _ => rfl) (fun _ _ => rfl) (fun _ _ => by kernel_rfl) (fun _ _ => by kernel_rfl) (fun r_65 x_66 => ?_))
                  refine GoO.shape (env' := [(157, .bool true), (161, .slice A_63 r_62.length c_64), (162, .slice A_32 r_31.length c_33), (163, .bool r_65)]) (H' := [⟨41, c_10, [.int .u64 f_42, .int .u64 f_43, .int .u64 f_44, .string (bs f_45), .slice A_47 f_46.length c_48]⟩]) (B' := [Ow 44 kT_api_Entry A_63 c_64 r_62, Ow 42 kT_api_Entry A_47 c_48 f_46, Ow 43 kT_api_Entry A_32 c_33 r_31]) (ks := [157, 161, 162, 163]) (by kernel_rfl) (by kernel_rfl) (by kernel_rfl) ?_
                  refine GoO.exec (is := [53, 54]) (hs := [.p, .p]) (rest := []) (ks := [6]) (env' := [(6, .bool r_65)]) (H' := [⟨41, c_10, [.int .u64 f_42, .int .u64 f_43, .int .u64 f_44, .string (bs f_45), .slice A_47 f_46.length c_48]⟩]) (ps := []) (by kernel_rfl) trivial ?_
                  refine GoO.regionEnd ?_
                  exact GoO.ret' (h := c5_48e) (hs := []) (ps := []) (hk := []) (bk := []) Try.func5 () (by kernel_rfl) trivial (by kernel_rfl) (by kernel_rfl)
                · refine GoO.exec (is := [47, 48, 49, 50, 51, 52, 53, 54]) (hs := [.p, .p, .p, .p, .p, .p, .p, .p]) (rest := []) (ks := [6]) (env' := [(6, .bool false)]) (H' := [⟨41, c_10, [.int .u64 f_42, .int .u64 f_43, .int .u64 f_44, .string (bs f_45), .slice A_47 f_46.length c_48]⟩]) (ps := []) (by kernel_rfl) trivial ?_
                  refine GoO.regionEnd ?_
                  exact GoO.ret' (h := c5_48e) (hs := []) (ps := []) (hk := []) (bk := []) Try.func5 () (by kernel_rfl) trivial (by kernel_rfl) (by kernel_rfl)
              · refine GoO.exec (is := [38, 39, 40, 41, 42, 43, 44, 45, 46, 47, 48, 49, 50, 51, 52, 53, 54]) (hs := [.p, .p, .p, .p, .p, .p, .p, .p, .p, .p, .p, .p, .p, .p, .p, .p, .p]) (rest := []) (ks := [6]) (env' := [(6, .bool false)]) (H' := [⟨41, c_10, [.int .u64 f_42, .int .u64 f_43, .int .u64 f_44, .string (bs f_45), .slice A_47 f_46.length c_48]⟩]) (ps := []) (by kernel_rfl) trivial ?_
                refine GoO.regionEnd ?_
                exact GoO.ret' (h := c5_48e) (hs := []) (ps := []) (hk := []) (bk := []) Try.func5 () (by kernel_rfl) trivial (by kernel_rfl) (by kernel_rfl)
            · refine GoO.exec (is := [34, 35, 36, 37, 38, 39, 40, 41, 42, 43, 44, 45, 46, 47, 48, 49, 50, 51, 52, 53, 54]) (hs := [.p, .p, .p, .p, .p, .p, .p, .p, .p, .p, .p, .p, .p, .p, .p, .p, .p, .p, .p, .p, .p]) (rest := []) (ks := [6]) (env' := [(6, .bool false)]) (H' := [⟨41, c_10, [.int .u64 f_42, .int .u64 f_43, .int .u64 f_44, .string (bs f_45), .slice A_47 f_46.length c_48]⟩]) (ps := []) (by kernel_rfl) trivial ?_
              refine GoO.regionEnd ?_
              exact GoO.ret' (h := c5_48e) (hs := []) (ps := []) (hk := []) (bk := []) Try.func5 () (by kernel_rfl) trivial (by kernel_rfl) (by kernel_rfl)
          · refine GoO.exec (is := [18, 19, 20, 21]) (hs := [.p, .p, .p, .p]) (rest := [22, 23, 24, 25, 26, 27, 28, 29, 30, 31, 32, 33, 34, 35, 36, 37, 38, 39, 40, 41, 42, 43, 44, 45, 46, 47, 48, 49, 50, 51, 52, 53, 54]) (ks := [7, 9, 14, 16, 17, 22, 23, 24, 124, 128, 132]) (env' := [(7, .pointer (some ⟨c_10, 0, none⟩)), (9, .int .u64 ((rdL l_2 ((wi64 ((at_5.tmod (l_2.length : Int)) + (l_2.length : Int))).tmod (l_2.length : Int))).Index)), (14, .int .u64 r_30.1), (16, .slice A_32 r_31.length c_33), (17, .int .u64 r_34.1), (22, .int .u64 r_52.2), (23, .int .u64 r_53.1), (24, .int .i64 r_53.2), (124, .bool true), (128, .bool false), (132, .bool (decide (r_29.2 ≤ ((rdL l_2 ((wi64 ((at_5.tmod (l_2.length : Int)) + (l_2.length : Int))).tmod (l_2.length : Int))).Index))))]) (H' := [⟨41, c_10, [.int .u64 f_42, .int .u64 f_43, .int .u64 f_44, .string (bs f_45), .slice A_47 f_46.length c_48]⟩]) (ps := []) (by kernel_rfl) trivial ?_
            refine GoO.bsplit (t := 132) (by kernel_rfl) (fun h69 => ?_) (fun h69 => ?_)
            · refine GoO.exec (is := [22, 23, 24, 25, 26, 27, 28]) (hs := [.p, .p, .p, .p, .p, .p, .p]) (rest := [29, 30, 31, 32, 33, 34, 35, 36, 37, 38, 39, 40, 41, 42, 43, 44, 45, 46, 47, 48, 49, 50, 51, 52, 53, 54]) (ks := [7, 9, 14, 16, 17, 23, 24, 139]) (env' := [(7, .pointer (some ⟨c_10, 0, none⟩)), (9, .int .u64 ((rdL l_2 ((wi64 ((at_5.tmod (l_2.length : Int)) + (l_2.length : Int))).tmod (l_2.length : Int))).Index)), (14, .int .u64 r_30.1), (16, .slice A_32 r_31.length c_33), (17, .int .u64 r_34.1), (23, .int .u64 r_53.1), (24, .int .i64 r_53.2), (139, .bool (r_52.2 == ((rdL l_2 ((wi64 ((at_5.tmod (l_2.length : Int)) + (l_2.length : Int))).tmod (l_2.length : Int))).Index)))]) (H' := [⟨41, c_10, [.int .u64 f_42, .int .u64 f_43, .int .u64 f_44, .string (bs f_45), .slice A_47 f_46.length c_48]⟩]) (ps := []) (by kernel_rfl) trivial ?_
              refine GoO.bsplit (t := 139) (by kernel_rfl) (fun h70 => ?_) (fun h70 => ?_)
              · refine GoO.exec (is := [29, 30, 31, 32, 33]) (hs := [.p, .p, .p, .p, .p]) (rest := [34, 35, 36, 37, 38, 39, 40, 41, 42, 43, 44, 45, 46, 47, 48, 49, 50, 51, 52, 53, 54]) (ks := [7, 9, 14, 16, 17, 24, 144]) (env' := [(7, .pointer (some ⟨c_10, 0, none⟩)), (9, .int .u64 ((rdL l_2 ((wi64 ((at_5.tmod (l_2.length : Int)) + (l_2.length : Int))).tmod (l_2.length : Int))).Index)), (14, .int .u64 r_30.1), (16, .slice A_32 r_31.length c_33), (17, .int .u64 r_34.1), (24, .int .i64 r_53.2), (144, .bool (r_53.1 == r_34.1))]) (H' := [⟨41, c_10, [.int .u64 f_42, .int .u64 f_43, .int .u64 f_44, .string (bs f_45), .slice A_47 f_46.length c_48]⟩]) (ps := []) (by kernel_rfl) trivial ?_
                refine GoO.bsplit (t := 144) (by kernel_rfl) (fun h71 => ?_) (fun h71 => ?_)
                · refine GoO.exec (is := [34, 35, 36, 37]) (hs := [.p, .p, .p, .p]) (rest := [38, 39, 40, 41, 42, 43, 44, 45, 46, 47, 48, 49, 50, 51, 52, 53, 54]) (ks := [7, 9, 14, 16, 17, 148]) (env' := [(7, .pointer (some ⟨c_10, 0, none⟩)), (9, .int .u64 ((rdL l_2 ((wi64 ((at_5.tmod (l_2.length : Int)) + (l_2.length : Int))).tmod (l_2.length : Int))).Index)), (14, .int .u64 r_30.1), (16, .slice A_32 r_31.length c_33), (17, .int .u64 r_34.1), (148, .bool (r_53.2 == 0))]) (H' := [⟨41, c_10, [.int .u64 f_42, .int .u64 f_43, .int .u64 f_44, .string (bs f_45), .slice A_47 f_46.length c_48]⟩]) (ps := []) (by kernel_rfl) trivial ?_
                  refine GoO.bsplit (t := 148) (by kernel_rfl) (fun h72 => ?_) (fun h72 => ?_)
                  · refine GoO.exec (is := [38]) (hs := [.p]) (rest := [39, 40, 41, 42, 43, 44, 45, 46, 47, 48, 49, 50, 51, 52, 53, 54]) (ks := [7, 9, 14, 16, 17, 148, 149]) (env' := [(7, .pointer (some ⟨c_10, 0, none⟩)), (9, .int .u64 ((rdL l_2 ((wi64 ((at_5.tmod (l_2.length : Int)) + (l_2.length : Int))).tmod (l_2.length : Int))).Index)), (14, .int .u64 r_30.1), (16, .slice A_32 r_31.length c_33), (17, .int .u64 r_34.1), (148, .bool true), (149, .pointer (some ⟨c_10, 0, none⟩))]) (H' := [⟨41, c_10, [.int .u64 f_42, .int .u64 f_43, .int .u64 f_44, .string (bs f_45), .slice A_47 f_46.length c_48]⟩]) (ps := []) (by kernel_rfl) trivial ?_
                    refine OpTo.go (GoO.call rfl (by kernel_rfl) (by kernel_rfl) (rlog_Log_First_ok n (⟨(⟨f_42, f_43, f_44, f_45⟩ : T_api_Snapshot), f_46⟩ : T_rlog_Log) c_10 A_47 c_48) [[0], [41], [42]] [] [(1, 0)] [(2, 0)] (hks := [0]) (bks := [0, 1]) (by kernel_rfl) (by kernel_rfl) (by kernel_rfl) (.inl rfl) rfl rfl (by kernel_rfl) (by kernel_rfl) _ (fun _ _ => rfl) _ _ (fun _ _ => rfl) (fun _ _ => rfl) (fun _ _ => by kernel_rfl) (fun _ _ => by kernel_rfl) (fun r_73 x_81 => ?_))
                    refine GoO.shape (env' := [(7, .pointer (some ⟨c_10, 0, none⟩)), (9, .int .u64 ((rdL l_2 ((wi64 ((at_5.tmod (l_2.length : Int)) + (l_2.length : Int))).tmod (l_2.length : Int))).Index)), (14, .int .u64 r_30.1), (16, .slice A_32 r_31.length c_33), (17, .int .u64 r_34.1), (148, .bool true), (149, .pointer (some ⟨c_10, 0, none⟩)), (150, .agg ⟨[.int .u64 r_73.Index, .int .u64 r_73.Term, .int .u64 r_73.Config, .string (bs r_73.Data)]⟩)]) (H' := [⟨41, c_10, [.int .u64 f_42, .int .u64 f_43, .int .u64 f_44, .string (bs f_45), .slice A_47 f_46.length c_48]⟩]) (B' := [Ow 42 kT_api_Entry A_47 c_48 f_46, Ow 43 kT_api_Entry A_32 c_33 r_31]) (ks := [7, 9, 14, 16, 17, 148, 149, 150]) (by kernel_rfl) (by kernel_rfl) (by kernel_rfl) ?_
                    refine GoO.exec (is := [40, 41, 42, 43, 44, 45, 46]) (hs := [.p, .p, .p, .p, .p, .p, .p]) (rest := [47, 48, 49, 50, 51, 52, 53, 54]) (ks := [7, 9, 16, 157]) (env' := [(7, .pointer (some ⟨c_10, 0, none⟩)), (9, .int .u64 ((rdL l_2 ((wi64 ((at_5.tmod (l_2.length : Int)) + (l_2.length : Int))).tmod (l_2.length : Int))).Index)), (16, .slice A_32 r_31.length c_33), (157, .bool ((r_73.Index == ((rdL l_2 ((wi64 ((at_5.tmod (l_2.length : Int)) + (l_2.length : Int))).tmod (l_2.length : Int))).Index)) && ((r_73.Term == r_34.1) && ((r_73.Config == r_30.1) && ((r_73.Data == ([100, 97, 116, 97] : List UInt8)) && true)))))]) (H' := [⟨41, c_10, [.int .u64 f_42, .int .u64 f_43, .int .u64 f_44, .string (bs f_45), .slice A_47 f_46.length c_48]⟩]) (ps := []) (by kernel_rfl) trivial ?_
                    refine GoO.bsplit (t := 157) (by kernel_rfl) (fun h74 => ?_) (fun h74 => ?_)
                    · refine GoO.exec (is := [47, 48, 49]) (hs := [.p, .p, .p]) (rest := [50, 51, 52, 53, 54]) (ks := [16, 157, 158, 160]) (env' := [(16, .slice A_32 r_31.length c_33), (157, .bool true), (158, .pointer (some ⟨c_10, 0, none⟩)), (160, .int .u64 (wu64 (((rdL l_2 ((wi64 ((at_5.tmod (l_2.length : Int)) + (l_2.length : Int))).tmod (l_2.length : Int))).Index) + 1)))]) (H' := [⟨41, c_10, [.int .u64 f_42, .int .u64 f_43, .int .u64 f_44, .string (bs f_45), .slice A_47 f_46.length c_48]⟩]) (ps := []) (by kernel_rfl) trivial ?_
                      refine OpTo.go (GoO.call rfl (by kernel_rfl) (by kernel_rfl) (rlog_Log_Get_ok n (⟨(⟨f_42, f_43, f_44, f_45⟩ : T_api_Snapshot), f_46⟩ : T_rlog_Log) (wu64 (((rdL l_2 ((wi64 ((at_5.tmod (l_2.length : Int)) + (l_2.length : Int))).tmod (l_2.length : Int))).Index) + 1)) 2000 c_10 A_47 c_48) [[0], [41], [42]] [(44, 3)] [(1, 0)] [(2, 0)] (hks := [0]) (bks := [0, 1]) (by kernel_rfl) (by kernel_rfl) (by kernel_rfl) (.inl rfl) rfl rfl (by kernel_rfl) (by kernel_rfl) _ (fun _ _ => rfl) _ _ (fun _ _ => rfl) (fun _ _ => rfl) (fun _ _ => by kernel_rfl) (fun _ _ => by kernel_rfl) (fun r_75 x_80 => ?_))
                      obtain ⟨A_76, c_77⟩ := x_80
                      refine GoO.shape (env' := [(16, .slice A_32 r_31.length c_33), (157, .bool true), (158, .pointer (some ⟨c_10, 0, none⟩)), (160, .int .u64 (wu64 (((rdL l_2 ((wi64 ((at_5.tmod (l_2.length : Int)) + (l_2.length : Int))).tmod (l_2.length : Int))).Index) + 1))), (161, .slice A_76 r_75.length c_77)]) (H' := [⟨41, c_10, [.int .u64 f_42, .int .u64 f_43, .int .u64 f_44, .string (bs f_45), .slice A_47 f_46.length c_48]⟩]) (B' := [Ow 44 kT_api_Entry A_76 c_77 r_75, Ow 42 kT_api_Entry A_47 c_48 f_46, Ow 43 kT_api_Entry A_32 c_33 r_31]) (ks := [16, 157, 158, 160, 161]) (by kernel_rfl) (by kernel_rfl) (by kernel_rfl) ?_
                      refine GoO.exec (is := [51]) (hs := [.p]) (rest := [52, 53, 54]) (ks := [157, 161, 162]) (env' := [(157, .bool true), (161, .slice A_76 r_75.length c_77), (162, .slice A_32 r_31.length c_33)]) (H' := [⟨41, c_10, [.int .u64 f_42, .int .u64 f_43, .int .u64 f_44, .string (bs f_45), .slice A_47 f_46.length c_48]⟩]) (ps := []) (by kernel_rfl) trivial ?_
                      refine GoO.view (j := 0) rfl ?_
                      refine GoO.view (j := 2) rfl ?_
                      refine OpTo.go (GoO.call rfl (by kernel_rfl) (by kernel_rfl) (tontineref07_Same_ok n r_75 r_31 A_76 c_77 A_32 c_33) [[0, 44, 43]] [] [] [(0, 3), (0, 4)] (hks := [0]) (bks := [0, 1, 2]) (by kernel_rfl) (by kernel_rfl) (by kernel_rfl) (.inr (fun _ _ => by simp [tontineref07_Same.R])) rfl rfl (by kernel_rfl) (by kernel_rfl) _ (fun _ _ => rfl) _ _ (fun _ _ => rfl) (fun _ _ => rfl) (fun _ _ => by kernel_rfl) (fun _ _ => by kernel_rfl) (fun r_78 x_79 => ?_))
                      refine GoO.shape (env' := [(157, .bool true), (161, .slice A_76 r_75.length c_77), (162, .slice A_32 r_31.length c_33), (163, .bool r_78)]) (H' := [⟨41, c_10, [.int .u64 f_42, .int .u64 f_43, .int .u64 f_44, .string (bs f_45), .slice A_47 f_46.length c_48]⟩]) (B' := [Ow 44 kT_api_Entry A_76 c_77 r_75, Ow 42 kT_api_Entry A_47 c_48 f_46, Ow 43 kT_api_Entry A_32 c_33 r_31]) (ks := [157, 161, 162, 163]) (by kernel_rfl) (by kernel_rfl) (by kernel_rfl) ?_
                      refine GoO.exec (is := [53, 54]) (hs := [.p, .p]) (rest := []) (ks := [6]) (env' := [(6, .bool r_78)]) (H' := [⟨41, c_10, [.int .u64 f_42, .int .u64 f_43, .int .u64 f_44, .string (bs f_45), .slice A_47 f_46.length c_48]⟩]) (ps := []) (by kernel_rfl) trivial ?_
                      refine GoO.regionEnd ?_
                      exact GoO.ret' (h := c5_48e) (hs := []) (ps := []) (hk := []) (bk := []) Try.func5 () (by kernel_rfl) trivial (by kernel_rfl) (by kernel_rfl)
                    · refine GoO.exec (is := [47, 48, 49, 50, 51, 52, 53, 54]) (hs := [.p, .p, .p, .p, .p, .p, .p, .p]) (rest := []) (ks := [6]) (env' := [(6, .bool false)]) (H' := [⟨41, c_10, [.int .u64 f_42, .int .u64 f_43, .int .u64 f_44, .string (bs f_45), .slice A_47 f_46.length c_48]⟩]) (ps := []) (by kernel_rfl) trivial ?_
                      refine GoO.regionEnd ?_
                      exact GoO.ret' (h := c5_48e) (hs := []) (ps := []) (hk := []) (bk := []) Try.func5 () (by kernel_rfl) trivial (by kernel_rfl) (by kernel_rfl)
                  · refine GoO.exec (is := [38, 39, 40, 41, 42, 43, 44, 45, 46, 47, 48, 49, 50, 51, 52, 53, 54]) (hs := [.p, .p, .p, .p, .p, .p, .p, .p, .p, .p, .p, .p, .p, .p, .p, .p, .p]) (rest := []) (ks := [6]) (env' := [(6, .bool false)]) (H' := [⟨41, c_10, [.int .u64 f_42, .int .u64 f_43, .int .u64 f_44, .string (bs f_45), .slice A_47 f_46.length c_48]⟩]) (ps := []) (by kernel_rfl) trivial ?_
                    refine GoO.regionEnd ?_
                    exact GoO.ret' (h := c5_48e) (hs := []) (ps := []) (hk := []) (bk := []) Try.func5 () (by kernel_rfl) trivial (by kernel_rfl) (by kernel_rfl)
                · refine GoO.exec (is := [34, 35, 36, 37, 38, 39, 40, 41, 42, 43, 44, 45, 46, 47, 48, 49, 50, 51, 52, 53, 54]) (hs := [.p, .p, .p, .p, .p, .p, .p, .p, .p, .p, .p, .p, .p, .p, .p, .p, .p, .p, .p, .p, .p]) (rest := []) (ks := [6]) (env' := [(6, .bool false)]) (H' := [⟨41, c_10, [.int .u64 f_42, .int .u64 f_43, .int .u64 f_44, .string (bs f_45), .slice A_47 f_46.length c_48]⟩]) (ps := []) (by kernel_rfl) trivial ?_
                  refine GoO.regionEnd ?_
                  exact GoO.ret' (h := c5_48e) (hs := []) (ps := []) (hk := []) (bk := []) Try.func5 () (by kernel_rfl) trivial (by kernel_rfl) (by kernel_rfl)
              · refine GoO.exec (is := [29, 30, 31, 32, 33, 34, 35, 36, 37, 38, 39, 40, 41, 42, 43, 44, 45, 46, 47, 48, 49, 50, 51, 52, 53, 54]) (hs := [.p, .p, .p, .p, .p, .p, .p, .p, .p, .p, .p, .p, .p, .p, .p, .p, .p, .p, .p, .p, .p, .p, .p, .p, .p, .p]) (rest := []) (ks := [6]) (env' := [(6, .bool false)]) (H' := [⟨41, c_10, [.int .u64 f_42, .int .u64 f_43, .int .u64 f_44, .string (bs f_45), .slice A_47 f_46.length c_48]⟩]) (ps := []) (by kernel_rfl) trivial ?_
                refine GoO.regionEnd ?_
                exact GoO.ret' (h := c5_48e) (hs := []) (ps := []) (hk := []) (bk := []) Try.func5 () (by kernel_rfl) trivial (by kernel_rfl) (by kernel_rfl)
            · refine GoO.exec (is := [22, 23, 24, 25, 26, 27, 28, 29, 30, 31, 32, 33, 34, 35, 36, 37, 38, 39, 40, 41, 42, 43, 44, 45, 46, 47, 48, 49, 50, 51, 52, 53, 54]) (hs := [.p, .p, .p, .p, .p, .p, .p, .p, .p, .p, .p, .p, .p, .p, .p, .p, .p, .p, .p, .p, .p, .p, .p, .p, .p, .p, .p, .p, .p, .p, .p, .p, .p]) (rest := []) (ks := [6]) (env' := [(6, .bool false)]) (H' := [⟨41, c_10, [.int .u64 f_42, .int .u64 f_43, .int .u64 f_44, .string (bs f_45), .slice A_47 f_46.length c_48]⟩]) (ps := []) (by kernel_rfl) trivial ?_
              refine GoO.regionEnd ?_
              exact GoO.ret' (h := c5_48e) (hs := []) (ps := []) (hk := []) (bk := []) Try.func5 () (by kernel_rfl) trivial (by kernel_rfl) (by kernel_rfl)
        · refine GoO.exec (is := [14, 15, 16, 17, 18, 19, 20, 21, 22, 23, 24, 25, 26, 27, 28, 29, 30, 31, 32, 33, 34, 35, 36, 37, 38, 39, 40, 41, 42, 43, 44, 45, 46, 47, 48, 49, 50, 51, 52, 53, 54]) (hs := [.p, .p, .p, .p, .p, .p, .p, .p, .p, .p, .p, .p, .p, .p, .p, .p, .p, .p, .p, .p, .p, .p, .p, .p, .p, .p, .p, .p, .p, .p, .p, .p, .p, .p, .p, .p, .p, .p, .p, .p, .p]) (rest := []) (ks := [6]) (env' := [(6, .bool false)]) (H' := [⟨41, c_10, [.int .u64 f_42, .int .u64 f_43, .int .u64 f_44, .string (bs f_45), .slice A_47 f_46.length c_48]⟩]) (ps := []) (by kernel_rfl) trivial ?_
          refine GoO.regionEnd ?_
          exact GoO.ret' (h := c5_48e) (hs := []) (ps := []) (hk := []) (bk := []) Try.func5 () (by kernel_rfl) trivial (by kernel_rfl) (by kernel_rfl)
      · refine GoO.exec (is := [9, 10, 11, 12, 13, 14, 15, 16, 17, 18, 19, 20, 21, 22, 23, 24, 25, 26, 27, 28, 29, 30, 31, 32, 33, 34, 35, 36, 37, 38, 39, 40, 41, 42, 43, 44, 45, 46, 47, 48, 49, 50, 51, 52, 53, 54]) (hs := [.p, .p, .p, .p, .p, .p, .p, .p, .p, .p, .p, .p, .p, .p, .p, .p, .p, .p, .p, .p, .p, .p, .p, .p, .p, .p, .p, .p, .p, .p, .p, .p, .p, .p, .p, .p, .p, .p, .p, .p, .p, .p, .p, .p, .p, .p]) (rest := []) (ks := [6]) (env' := [(6, .bool false)]) (H' := [⟨41, c_10, [.int .u64 f_42, .int .u64 f_43, .int .u64 f_44, .string (bs f_45), .slice A_47 f_46.length c_48]⟩]) (ps := []) (by kernel_rfl) trivial ?_
        refine GoO.regionEnd ?_
        exact GoO.ret' (h := c5_48e) (hs := []) (ps := []) (hk := []) (bk := []) Try.func5 () (by kernel_rfl) trivial (by kernel_rfl) (by kernel_rfl)
    · refine GoO.exec (is := [4, 5, 6, 7, 8, 9, 10, 11, 12, 13, 14, 15, 16, 17, 18, 19, 20, 21, 22, 23, 24, 25, 26, 27, 28, 29, 30, 31, 32, 33, 34, 35, 36, 37, 38, 39, 40, 41, 42, 43, 44, 45, 46, 47, 48, 49, 50, 51, 52, 53, 54]) (hs := [.p, .p, .p, .p, .p, .p, .p, .p, .p, .p, .p, .p, .p, .p, .p, .p, .p, .p, .p, .p, .p, .p, .p, .p, .p, .p, .p, .p, .p, .p, .p, .p, .p, .p, .p, .p, .p, .p, .p, .p, .p, .p, .p, .p, .p, .p, .p, .p, .p, .p, .p]) (rest := []) (ks := [6]) (env' := [(6, .bool false)]) (H' := [⟨41, c_10, [.int .u64 f_42, .int .u64 f_43, .int .u64 f_44, .string (bs f_45), .slice A_47 f_46.length c_48]⟩]) (ps := []) (by kernel_rfl) trivial ?_
      refine GoO.regionEnd ?_
      exact GoO.ret' (h := c5_48e) (hs := []) (ps := []) (hk := []) (bk := []) Try.func5 () (by kernel_rfl) trivial (by kernel_rfl) (by kernel_rfl)
theorem tontinelaw07_RlogCompacts_j1_ok (n : Nat) (l_2 : (List T_api_Entry)) (at_5 : Int) (o_13 : T_rlog_Log) (A_3 : Option Addr) (c_4 : Nat) (c_10 : Nat) (A_11 : Option Addr) (c_12 : Nat) (w0 : World) (S0 : Fam) (b_24 : Bool) :
    GoO (tontinelaw07_RlogCompacts.cx A_3 c_4 w0 S0) [(1, .slice A_3 l_2.length c_4), (2, .int .i64 at_5), (7, .pointer (some ⟨c_10, 0, none⟩)), (44, .bool b_24)] [⟨41, c_10, [.int .u64 o_13.snap.Index, .int .u64 o_13.snap.Term, .int .u64 o_13.snap.Config, .string (bs o_13.snap.Data), .slice A_11 o_13.entries.length c_12]⟩] [Rd 0 kT_api_Entry A_3 c_4 l_2, Ow 42 kT_api_Entry A_11 c_12 o_13.entries] [.code c5_15, .code c5_20] (tontinelaw07_RlogCompacts.j1 n l_2 at_5 o_13 b_24) := by
  unfold tontinelaw07_RlogCompacts.j1
  refine GoO.ite' c5_15e (by kernel_rfl) (fun h25 => ?_) (fun h25 => ?_)
  · refine GoO.seq' c5_16e ?_
    refine GoO.region' (is := [0]) c5_17e (by kernel_rfl) ?_
    refine GoO.exec (is := [0]) (hs := [.p]) (rest := []) (ks := [6]) (env' := [(6, .bool true)]) (H' := [⟨41, c_10, [.int .u64 o_13.snap.Index, .int .u64 o_13.snap.Term, .int .u64 o_13.snap.Config, .string (bs o_13.snap.Data), .slice A_11 o_13.entries.length c_12]⟩]) (ps := []) (by kernel_rfl) trivial ?_
    refine GoO.regionEnd ?_
    exact GoO.ret' (h := c5_18e) (hs := []) (ps := []) (hk := []) (bk := []) Try.func5 () (by kernel_rfl) trivial (by kernel_rfl) (by kernel_rfl)
  · refine GoO.skip' c5_19e ?_
    refine GoO.seq' c5_20e ?_
    refine GoO.region' (is := [0, 1, 2, 3, 4, 5, 6, 7, 8, 9, 10, 11, 12, 13, 14]) c5_21e (by kernel_rfl) ?_
    refine GoO.guard (fun h26 => ?_)
    refine GoO.exec (is := [0, 1, 2, 3, 4, 5, 6, 7, 8, 9, 10]) (hs := [.p, .p, .p, .p, .p, .p, .p, .p, .p, .p, .p]) (rest := [11, 12, 13, 14]) (ks := [7, 45, 55]) (env' := [(7, .pointer (some ⟨c_10, 0, none⟩)), (45, .slice A_3 l_2.length c_4), (55, .int .i64 ((wi64 ((at_5.tmod (l_2.length : Int)) + (l_2.length : Int))).tmod (l_2.length : Int)))]) (H' := [⟨41, c_10, [.int .u64 o_13.snap.Index, .int .u64 o_13.snap.Term, .int .u64 o_13.snap.Config, .string (bs o_13.snap.Data), .slice A_11 o_13.entries.length c_12]⟩]) (ps := [(l_2.length : Int) ≠ 0, (l_2.length : Int) ≠ 0]) (by kernel_rfl) (And.intro h26 (And.intro h26 trivial)) ?_
    refine GoO.guard (fun h27 => ?_)
    refine OpTo.go (GoO.idx (kk := .i64) (e := 40) (K := kT_api_Entry) (A := A_3) (c := c_4) (xs := l_2) (iv := (wi64 ((at_5.tmod (l_2.length : Int)) + (l_2.length : Int))).tmod (l_2.length : Int)) (j := 0) rfl (by kernel_rfl) (by kernel_rfl) (by kernel_rfl) (by kernel_rfl) rfl Reads.rd rfl h27.1 h27.2 (by decide) rfl ?_)
    refine OpTo.go (GoO.fldE (K := kT_api_Entry) (A := A_3) (c := c_4) (xs := l_2) (iN := ((wi64 ((at_5.tmod (l_2.length : Int)) + (l_2.length : Int))).tmod (l_2.length : Int)).toNat) (off := 0) (n := 1) (j := 0) rfl (by kernel_rfl) (by kernel_rfl) rfl Reads.rd (by first | exact idx_lt h27.1 h27.2 | (simp only [List.length_set]; exact idx_lt h27.1 h27.2)) (by decide) rfl ?_)
    refine OpTo.go (GoO.ldE' (K := kT_api_Entry) (A := A_3) (c := c_4) (xs := l_2) (iN := ((wi64 ((at_5.tmod (l_2.length : Int)) + (l_2.length : Int))).tmod (l_2.length : Int)).toNat) (off := 1) (j := 0) rfl (by kernel_rfl) rfl Reads.rd (by first | exact idx_lt h27.1 h27.2 | (simp only [List.length_set]; exact idx_lt h27.1 h27.2)) (by decide) (Opn.flat _ _ _ _ _) (v := fun _ => .int .u64 ((rdL l_2 ((wi64 ((at_5.tmod (l_2.length : Int)) + (l_2.length : Int))).tmod (l_2.length : Int))).Index)) (fun _ => by kernel_rfl) _ (fun _ => rfl) (fun _ => ?_))
    refine GoO.exec (is := [14]) (hs := [.p]) (rest := []) (ks := [7, 9]) (env' := [(7, .pointer (some ⟨c_10, 0, none⟩)), (9, .int .u64 ((rdL l_2 ((wi64 ((at_5.tmod (l_2.length : Int)) + (l_2.length : Int))).tmod (l_2.length : Int))).Index))]) (H' := [⟨41, c_10, [.int .u64 o_13.snap.Index, .int .u64 o_13.snap.Term, .int .u64 o_13.snap.Config, .string (bs o_13.snap.Data), .slice A_11 o_13.entries.length c_12]⟩]) (ps := []) (by kernel_rfl) trivial ?_
    refine GoO.regionEnd ?_
    refine GoO.seq' c5_22e ?_
    refine GoO.region' (is := [0, 1, 2, 3, 4, 5, 6]) c5_23e (by kernel_rfl) ?_
    refine GoO.exec (is := [0]) (hs := [.p]) (rest := [1, 2, 3, 4, 5, 6]) (ks := [7, 9, 60]) (env' := [(7, .pointer (some ⟨c_10, 0, none⟩)), (9, .int .u64 ((rdL l_2 ((wi64 ((at_5.tmod (l_2.length : Int)) + (l_2.length : Int))).tmod (l_2.length : Int))).Index)), (60, .pointer (some ⟨c_10, 0, none⟩))]) (H' := [⟨41, c_10, [.int .u64 o_13.snap.Index, .int .u64 o_13.snap.Term, .int .u64 o_13.snap.Config, .string (bs o_13.snap.Data), .slice A_11 o_13.entries.length c_12]⟩]) (ps := []) (by kernel_rfl) trivial ?_
    refine OpTo.go (GoO.call rfl (by kernel_rfl) (by kernel_rfl) (rlog_Log_Last_ok n (⟨(⟨o_13.snap.Index, o_13.snap.Term, o_13.snap.Config, o_13.snap.Data⟩ : T_api_Snapshot), o_13.entries⟩ : T_rlog_Log) c_10 A_11 c_12) [[0], [41], [42]] [] [(1, 0)] [(2, 1)] (hks := [0]) (bks := [0, 1]) (by kernel_rfl) (by kernel_rfl) (by kernel_rfl) (.inl rfl) rfl rfl (by kernel_rfl) (by kernel_rfl) _ (fun _ _ => rfl) _ _ (fun _ _ => rfl) (fun _ _ => rfl) (fun _ _ => by kernel_rfl) (fun _ _ => by kernel_rfl) (fun r_28 x_89 => ?_))
    refine GoO.shape (env' := [(7, .pointer (some ⟨c_10, 0, none⟩)), (9, .int .u64 ((rdL l_2 ((wi64 ((at_5.tmod (l_2.length : Int)) + (l_2.length : Int))).tmod (l_2.length : Int))).Index)), (60, .pointer (some ⟨c_10, 0, none⟩)), (61, .tuple ⟨[.int .u64 r_28.1, .int .u64 r_28.2]⟩)]) (H' := [⟨41, c_10, [.int .u64 o_13.snap.Index, .int .u64 o_13.snap.Term, .int .u64 o_13.snap.Config, .string (bs o_13.snap.Data), .slice A_11 o_13.entries.length c_12]⟩]) (B' := [Rd 0 kT_api_Entry A_3 c_4 l_2, Ow 42 kT_api_Entry A_11 c_12 o_13.entries]) (ks := [7, 9, 60, 61]) (by kernel_rfl) (by kernel_rfl) (by kernel_rfl) ?_
    refine GoO.exec (is := [2, 3, 4, 5, 6]) (hs := [.p, .p, .p, .p, .p]) (rest := []) (ks := [7, 9, 10, 11]) (env' := [(7, .pointer (some ⟨c_10, 0, none⟩)), (9, .int .u64 ((rdL l_2 ((wi64 ((at_5.tmod (l_2.length : Int)) + (l_2.length : Int))).tmod (l_2.length : Int))).Index)), (10, .int .u64 r_28.1), (11, .int .u64 r_28.2)]) (H' := [⟨41, c_10, [.int .u64 o_13.snap.Index, .int .u64 o_13.snap.Term, .int .u64 o_13.snap.Config, .string (bs o_13.snap.Data), .slice A_11 o_13.entries.length c_12]⟩]) (ps := []) (by kernel_rfl) trivial ?_
    refine GoO.regionEnd ?_
    refine GoO.seq' c5_24e ?_
    refine GoO.region' (is := [0, 1, 2, 3, 4, 5, 6]) c5_25e (by kernel_rfl) ?_
    refine GoO.exec (is := [0]) (hs := [.p]) (rest := [1, 2, 3, 4, 5, 6]) (ks := [7, 9, 10, 11, 65]) (env' := [(7, .pointer (some ⟨c_10, 0, none⟩)), (9, .int .u64 ((rdL l_2 ((wi64 ((at_5.tmod (l_2.length : Int)) + (l_2.length : Int))).tmod (l_2.length : Int))).Index)), (10, .int .u64 r_28.1), (11, .int .u64 r_28.2), (65, .pointer (some ⟨c_10, 0, none⟩))]) (H' := [⟨41, c_10, [.int .u64 o_13.snap.Index, .int .u64 o_13.snap.Term, .int .u64 o_13.snap.Config, .string (bs o_13.snap.Data), .slice A_11 o_13.entries.length c_12]⟩]) (ps := []) (by kernel_rfl) trivial ?_
    refine OpTo.go (GoO.call rfl (by kernel_rfl) (by kernel_rfl) (rlog_Log_Members_ok n (⟨(⟨o_13.snap.Index, o_13.snap.Term, o_13.snap.Config, o_13.snap.Data⟩ : T_api_Snapshot), o_13.entries⟩ : T_rlog_Log) c_10 A_11 c_12) [[0], [41], [42]] [] [(1, 0)] [(2, 1)] (hks := [0]) (bks := [0, 1]) (by kernel_rfl) (by kernel_rfl) (by kernel_rfl) (.inl rfl) rfl rfl (by kernel_rfl) (by kernel_rfl) _ (fun _ _ => rfl) _ _ (fun _ _ => rfl) (fun _ _ => rfl) (fun _ _ => by kernel_rfl) (fun _ _ => by kernel_rfl) (fun r_29 x_88 => ?_))
    refine GoO.shape (env' := [(7, .pointer (some ⟨c_10, 0, none⟩)), (9, .int .u64 ((rdL l_2 ((wi64 ((at_5.tmod (l_2.length : Int)) + (l_2.length : Int))).tmod (l_2.length : Int))).Index)), (10, .int .u64 r_28.1), (11, .int .u64 r_28.2), (65, .pointer (some ⟨c_10, 0, none⟩)), (66, .tuple ⟨[.int .u64 r_29.1, .int .u64 r_29.2]⟩)]) (H' := [⟨41, c_10, [.int .u64 o_13.snap.Index, .int .u64 o_13.snap.Term, .int .u64 o_13.snap.Config, .string (bs o_13.snap.Data), .slice A_11 o_13.entries.length c_12]⟩]) (B' := [Rd 0 kT_api_Entry A_3 c_4 l_2, Ow 42 kT_api_Entry A_11 c_12 o_13.entries]) (ks := [7, 9, 10, 11, 65, 66]) (by kernel_rfl) (by kernel_rfl) (by kernel_rfl) ?_
    refine GoO.exec (is := [2, 3, 4, 5, 6]) (hs := [.p, .p, .p, .p, .p]) (rest := []) (ks := [7, 9, 10, 11, 12, 13]) (env' := [(7, .pointer (some ⟨c_10, 0, none⟩)), (9, .int .u64 ((rdL l_2 ((wi64 ((at_5.tmod (l_2.length : Int)) + (l_2.length : Int))).tmod (l_2.length : Int))).Index)), (10, .int .u64 r_28.1), (11, .int .u64 r_28.2), (12, .int .u64 r_29.1), (13, .int .u64 r_29.2)]) (H' := [⟨41, c_10, [.int .u64 o_13.snap.Index, .int .u64 o_13.snap.Term, .int .u64 o_13.snap.Config, .string (bs o_13.snap.Data), .slice A_11 o_13.entries.length c_12]⟩]) (ps := []) (by kernel_rfl) trivial ?_
    refine GoO.regionEnd ?_
    refine GoO.seq' c5_26e ?_
    refine GoO.region' (is := [0, 1, 2, 3, 4, 5, 6, 7]) c5_27e (by kernel_rfl) ?_
    refine GoO.exec (is := [0, 1]) (hs := [.p, .p]) (rest := [2, 3, 4, 5, 6, 7]) (ks := [7, 9, 10, 11, 12, 13, 70, 71]) (env' := [(7, .pointer (some ⟨c_10, 0, none⟩)), (9, .int .u64 ((rdL l_2 ((wi64 ((at_5.tmod (l_2.length : Int)) + (l_2.length : Int))).tmod (l_2.length : Int))).Index)), (10, .int .u64 r_28.1), (11, .int .u64 r_28.2), (12, .int .u64 r_29.1), (13, .int .u64 r_29.2), (70, .pointer (some ⟨c_10, 0, none⟩)), (71, .int .u64 ((rdL l_2 ((wi64 ((at_5.tmod (l_2.length : Int)) + (l_2.length : Int))).tmod (l_2.length : Int))).Index))]) (H' := [⟨41, c_10, [.int .u64 o_13.snap.Index, .int .u64 o_13.snap.Term, .int .u64 o_13.snap.Config, .string (bs o_13.snap.Data), .slice A_11 o_13.entries.length c_12]⟩]) (ps := []) (by kernel_rfl) trivial ?_
    refine OpTo.go (GoO.call rfl (by kernel_rfl) (by kernel_rfl) (rlog_Log_MembersAt_ok n (⟨(⟨o_13.snap.Index, o_13.snap.Term, o_13.snap.Config, o_13.snap.Data⟩ : T_api_Snapshot), o_13.entries⟩ : T_rlog_Log) ((rdL l_2 ((wi64 ((at_5.tmod (l_2.length : Int)) + (l_2.length : Int))).tmod (l_2.length : Int))).Index) c_10 A_11 c_12) [[0], [41], [42]] [] [(1, 0)] [(2, 1)] (hks := [0]) (bks := [0, 1]) (by kernel_rfl) (by kernel_rfl) (by kernel_rfl) (.inl rfl) rfl rfl (by kernel_rfl) (by kernel_rfl) _ (fun _ _ => rfl) _ _ (fun _ _ => rfl) (fun _ _ => rfl) (fun _ _ => by kernel_rfl) (fun _ _ => by kernel_rfl) (fun r_30 x_87 => ?_))
    refine GoO.shape (env' := [(7, .pointer (some ⟨c_10, 0, none⟩)), (9, .int .u64 ((rdL l_2 ((wi64 ((at_5.tmod (l_2.length : Int)) + (l_2.length : Int))).tmod (l_2.length : Int))).Index)), (10, .int .u64 r_28.1), (11, .int .u64 r_28.2), (12, .int .u64 r_29.1), (13, .int .u64 r_29.2), (70, .pointer (some ⟨c_10, 0, none⟩)), (71, .int .u64 ((rdL l_2 ((wi64 ((at_5.tmod (l_2.length : Int)) + (l_2.length : Int))).tmod (l_2.length : Int))).Index)), (72, .tuple ⟨[.int .u64 r_30.1, .int .u64 r_30.2]⟩)]) (H' := [⟨41, c_10, [.int .u64 o_13.snap.Index, .int .u64 o_13.snap.Term, .int .u64 o_13.snap.Config, .string (bs o_13.snap.Data), .slice A_11 o_13.entries.length c_12]⟩]) (B' := [Rd 0 kT_api_Entry A_3 c_4 l_2, Ow 42 kT_api_Entry A_11 c_12 o_13.entries]) (ks := [7, 9, 10, 11, 12, 13, 70, 71, 72]) (by kernel_rfl) (by kernel_rfl) (by kernel_rfl) ?_
    refine GoO.exec (is := [3, 4, 5, 6, 7]) (hs := [.p, .p, .p, .p, .p]) (rest := []) (ks := [7, 9, 10, 11, 12, 13, 14]) (env' := [(7, .pointer (some ⟨c_10, 0, none⟩)), (9, .int .u64 ((rdL l_2 ((wi64 ((at_5.tmod (l_2.length : Int)) + (l_2.length : Int))).tmod (l_2.length : Int))).Index)), (10, .int .u64 r_28.1), (11, .int .u64 r_28.2), (12, .int .u64 r_29.1), (13, .int .u64 r_29.2), (14, .int .u64 r_30.1)]) (H' := [⟨41, c_10, [.int .u64 o_13.snap.Index, .int .u64 o_13.snap.Term, .int .u64 o_13.snap.Config, .string (bs o_13.snap.Data), .slice A_11 o_13.entries.length c_12]⟩]) (ps := []) (by kernel_rfl) trivial ?_
    refine GoO.regionEnd ?_
    refine GoO.seq' c5_28e ?_
    refine GoO.region' (is := [0, 1, 2, 3, 4]) c5_29e (by kernel_rfl) ?_
    refine GoO.exec (is := [0, 1, 2]) (hs := [.p, .p, .p]) (rest := [3, 4]) (ks := [7, 9, 10, 11, 12, 13, 14, 75, 77]) (env' := [(7, .pointer (some ⟨c_10, 0, none⟩)), (9, .int .u64 ((rdL l_2 ((wi64 ((at_5.tmod (l_2.length : Int)) + (l_2.length : Int))).tmod (l_2.length : Int))).Index)), (10, .int .u64 r_28.1), (11, .int .u64 r_28.2), (12, .int .u64 r_29.1), (13, .int .u64 r_29.2), (14, .int .u64 r_30.1), (75, .pointer (some ⟨c_10, 0, none⟩)), (77, .int .u64 (wu64 (((rdL l_2 ((wi64 ((at_5.tmod (l_2.length : Int)) + (l_2.length : Int))).tmod (l_2.length : Int))).Index) + 1)))]) (H' := [⟨41, c_10, [.int .u64 o_13.snap.Index, .int .u64 o_13.snap.Term, .int .u64 o_13.snap.Config, .string (bs o_13.snap.Data), .slice A_11 o_13.entries.length c_12]⟩]) (ps := []) (by kernel_rfl) trivial ?_
    refine OpTo.go (GoO.call rfl (by kernel_rfl) (by kernel_rfl) (rlog_Log_Get_ok n (⟨(⟨o_13.snap.Index, o_13.snap.Term, o_13.snap.Config, o_13.snap.Data⟩ : T_api_Snapshot), o_13.entries⟩ : T_rlog_Log) (wu64 (((rdL l_2 ((wi64 ((at_5.tmod (l_2.length : Int)) + (l_2.length : Int))).tmod (l_2.length : Int))).Index) + 1)) 2000 c_10 A_11 c_12) [[0], [41], [42]] [(43, 3)] [(1, 0)] [(2, 1)] (hks := [0]) (bks := [0, 1]) (by kernel_rfl) (by kernel_rfl) (by kernel_rfl) (.inl rfl) rfl rfl (by kernel_rfl) (by kernel_rfl) _ (fun _ _ => rfl) _ _ (fun _ _ => rfl) (fun _ _ => rfl) (fun _ _ => by kernel_rfl) (fun _ _ => by kernel_rfl) (fun r_31 x_86 => ?_))
    obtain ⟨A_32, c_33⟩ := x_86
    refine GoO.shape (env' := [(7, .pointer (some ⟨c_10, 0, none⟩)), (9, .int .u64 ((rdL l_2 ((wi64 ((at_5.tmod (l_2.length : Int)) + (l_2.length : Int))).tmod (l_2.length : Int))).Index)), (10, .int .u64 r_28.1), (11, .int .u64 r_28.2), (12, .int .u64 r_29.1), (13, .int .u64 r_29.2), (14, .int .u64 r_30.1), (75, .pointer (some ⟨c_10, 0, none⟩)), (77, .int .u64 (wu64 (((rdL l_2 ((wi64 ((at_5.tmod (l_2.length : Int)) + (l_2.length : Int))).tmod (l_2.length : Int))).Index) + 1))), (78, .slice A_32 r_31.length c_33)]) (H' := [⟨41, c_10, [.int .u64 o_13.snap.Index, .int .u64 o_13.snap.Term, .int .u64 o_13.snap.Config, .string (bs o_13.snap.Data), .slice A_11 o_13.entries.length c_12]⟩]) (B' := [Ow 43 kT_api_Entry A_32 c_33 r_31, Rd 0 kT_api_Entry A_3 c_4 l_2, Ow 42 kT_api_Entry A_11 c_12 o_13.entries]) (ks := [7, 9, 10, 11, 12, 13, 14, 75, 77, 78]) (by kernel_rfl) (by kernel_rfl) (by kernel_rfl) ?_
    refine GoO.exec (is := [4]) (hs := [.p]) (rest := []) (ks := [7, 9, 10, 11, 12, 13, 14, 16]) (env' := [(7, .pointer (some ⟨c_10, 0, none⟩)), (9, .int .u64 ((rdL l_2 ((wi64 ((at_5.tmod (l_2.length : Int)) + (l_2.length : Int))).tmod (l_2.length : Int))).Index)), (10, .int .u64 r_28.1), (11, .int .u64 r_28.2), (12, .int .u64 r_29.1), (13, .int .u64 r_29.2), (14, .int .u64 r_30.1), (16, .slice A_32 r_31.length c_33)]) (H' := [⟨41, c_10, [.int .u64 o_13.snap.Index, .int .u64 o_13.snap.Term, .int .u64 o_13.snap.Config, .string (bs o_13.snap.Data), .slice A_11 o_13.entries.length c_12]⟩]) (ps := []) (by kernel_rfl) trivial ?_
    refine GoO.regionEnd ?_
    refine GoO.seq' c5_30e ?_
    refine GoO.region' (is := [0, 1, 2, 3, 4, 5, 6, 7]) c5_31e (by kernel_rfl) ?_
    refine GoO.exec (is := [0, 1]) (hs := [.p, .p]) (rest := [2, 3, 4, 5, 6, 7]) (ks := [7, 9, 10, 11, 12, 13, 14, 16, 80, 81]) (env' := [(7, .pointer (some ⟨c_10, 0, none⟩)), (9, .int .u64 ((rdL l_2 ((wi64 ((at_5.tmod (l_2.length : Int)) + (l_2.length : Int))).tmod (l_2.length : Int))).Index)), (10, .int .u64 r_28.1), (11, .int .u64 r_28.2), (12, .int .u64 r_29.1), (13, .int .u64 r_29.2), (14, .int .u64 r_30.1), (16, .slice A_32 r_31.length c_33), (80, .pointer (some ⟨c_10, 0, none⟩)), (81, .int .u64 ((rdL l_2 ((wi64 ((at_5.tmod (l_2.length : Int)) + (l_2.length : Int))).tmod (l_2.length : Int))).Index))]) (H' := [⟨41, c_10, [.int .u64 o_13.snap.Index, .int .u64 o_13.snap.Term, .int .u64 o_13.snap.Config, .string (bs o_13.snap.Data), .slice A_11 o_13.entries.length c_12]⟩]) (ps := []) (by kernel_rfl) trivial ?_
    refine OpTo.go (GoO.call rfl (by kernel_rfl) (by kernel_rfl) (rlog_Log_Term_ok n (⟨(⟨o_13.snap.Index, o_13.snap.Term, o_13.snap.Config, o_13.snap.Data⟩ : T_api_Snapshot), o_13.entries⟩ : T_rlog_Log) ((rdL l_2 ((wi64 ((at_5.tmod (l_2.length : Int)) + (l_2.length : Int))).tmod (l_2.length : Int))).Index) c_10 A_11 c_12) [[0], [41], [42]] [] [(1, 0)] [(2, 2)] (hks := [0]) (bks := [0, 1, 2]) (by kernel_rfl) (by kernel_rfl) (by kernel_rfl) (.inl rfl) rfl rfl (by kernel_rfl) (by kernel_rfl) _ (fun _ _ => rfl) _ _ (fun _ _ => rfl) (fun _ _ => rfl) (fun _ _ => by kernel_rfl) (fun _ _ => by kernel_rfl) (fun r_34 x_85 => ?_))
    refine GoO.shape (env' := [(7, .pointer (some ⟨c_10, 0, none⟩)), (9, .int .u64 ((rdL l_2 ((wi64 ((at_5.tmod (l_2.length : Int)) + (l_2.length : Int))).tmod (l_2.length : Int))).Index)), (10, .int .u64 r_28.1), (11, .int .u64 r_28.2), (12, .int .u64 r_29.1), (13, .int .u64 r_29.2), (14, .int .u64 r_30.1), (16, .slice A_32 r_31.length c_33), (80, .pointer (some ⟨c_10, 0, none⟩)), (81, .int .u64 ((rdL l_2 ((wi64 ((at_5.tmod (l_2.length : Int)) + (l_2.length : Int))).tmod (l_2.length : Int))).Index)), (82, .tuple ⟨[.int .u64 r_34.1, .int .i64 r_34.2]⟩)]) (H' := [⟨41, c_10, [.int .u64 o_13.snap.Index, .int .u64 o_13.snap.Term, .int .u64 o_13.snap.Config, .string (bs o_13.snap.Data), .slice A_11 o_13.entries.length c_12]⟩]) (B' := [Ow 43 kT_api_Entry A_32 c_33 r_31, Rd 0 kT_api_Entry A_3 c_4 l_2, Ow 42 kT_api_Entry A_11 c_12 o_13.entries]) (ks := [7, 9, 10, 11, 12, 13, 14, 16, 80, 81, 82]) (by kernel_rfl) (by kernel_rfl) (by kernel_rfl) ?_
    refine GoO.exec (is := [3, 4, 5, 6, 7]) (hs := [.p, .p, .p, .p, .p]) (rest := []) (ks := [7, 9, 10, 11, 12, 13, 14, 16, 17]) (env' := [(7, .pointer (some ⟨c_10, 0, none⟩)), (9, .int .u64 ((rdL l_2 ((wi64 ((at_5.tmod (l_2.length : Int)) + (l_2.length : Int))).tmod (l_2.length : Int))).Index)), (10, .int .u64 r_28.1), (11, .int .u64 r_28.2), (12, .int .u64 r_29.1), (13, .int .u64 r_29.2), (14, .int .u64 r_30.1), (16, .slice A_32 r_31.length c_33), (17, .int .u64 r_34.1)]) (H' := [⟨41, c_10, [.int .u64 o_13.snap.Index, .int .u64 o_13.snap.Term, .int .u64 o_13.snap.Config, .string (bs o_13.snap.Data), .slice A_11 o_13.entries.length c_12]⟩]) (ps := []) (by kernel_rfl) trivial ?_
    refine GoO.regionEnd ?_
    refine GoO.seq' c5_32e ?_
    refine GoO.seq' c5_33e ?_
    refine GoO.region' (is := [0, 1, 2, 3, 4, 5, 6, 7, 8, 9]) c5_34e (by kernel_rfl) ?_
    refine GoO.exec (is := [0, 1]) (hs := [.p, .p]) (rest := [2, 3, 4, 5, 6, 7, 8, 9]) (ks := [7, 9, 10, 11, 12, 13, 14, 16, 17, 85, 86]) (env' := [(7, .pointer (some ⟨c_10, 0, none⟩)), (9, .int .u64 ((rdL l_2 ((wi64 ((at_5.tmod (l_2.length : Int)) + (l_2.length : Int))).tmod (l_2.length : Int))).Index)), (10, .int .u64 r_28.1), (11, .int .u64 r_28.2), (12, .int .u64 r_29.1), (13, .int .u64 r_29.2), (14, .int .u64 r_30.1), (16, .slice A_32 r_31.length c_33), (17, .int .u64 r_34.1), (85, .pointer (some ⟨c_10, 0, none⟩)), (86, .int .u64 ((rdL l_2 ((wi64 ((at_5.tmod (l_2.length : Int)) + (l_2.length : Int))).tmod (l_2.length : Int))).Index))]) (H' := [⟨41, c_10, [.int .u64 o_13.snap.Index, .int .u64 o_13.snap.Term, .int .u64 o_13.snap.Config, .string (bs o_13.snap.Data), .slice A_11 o_13.entries.length c_12]⟩]) (ps := []) (by kernel_rfl) trivial ?_
    refine OpTo.go (GoO.call rfl (by kernel_rfl) (by kernel_rfl) (rlog_Log_Compact_ok n (⟨(⟨o_13.snap.Index, o_13.snap.Term, o_13.snap.Config, o_13.snap.Data⟩ : T_api_Snapshot), o_13.entries⟩ : T_rlog_Log) ((rdL l_2 ((wi64 ((at_5.tmod (l_2.length : Int)) + (l_2.length : Int))).tmod (l_2.length : Int))).Index) [100, 97, 116, 97] c_10 A_11 c_12) [[0], [41], [42]] [(41, 1), (42, 2)] [(1, 0)] [(2, 2)] (hks := []) (bks := [0, 1]) (by kernel_rfl) (by kernel_rfl) (by kernel_rfl) (.inl rfl) rfl rfl (by kernel_rfl) (by kernel_rfl) _ (fun _ _ => rfl) _ _ (fun _ _ => rfl) (fun _ _ => rfl) (fun _ _ => by kernel_rfl) (fun _ _ => by kernel_rfl) (fun r_35 x_43 => ?_))
    obtain ⟨A_36, c_37⟩ := x_43
    refine GoO.shape (env' := [(7, .pointer (some ⟨c_10, 0, none⟩)), (9, .int .u64 ((rdL l_2 ((wi64 ((at_5.tmod (l_2.length : Int)) + (l_2.length : Int))).tmod (l_2.length : Int))).Index)), (10, .int .u64 r_28.1), (11, .int .u64 r_28.2), (12, .int .u64 r_29.1), (13, .int .u64 r_29.2), (14, .int .u64 r_30.1), (16, .slice A_32 r_31.length c_33), (17, .int .u64 r_34.1), (85, .pointer (some ⟨c_10, 0, none⟩)), (86, .int .u64 ((rdL l_2 ((wi64 ((at_5.tmod (l_2.length : Int)) + (l_2.length : Int))).tmod (l_2.length : Int))).Index)), (87, .int .i64 r_35.1)]) (H' := [⟨41, c_10, [.int .u64 r_35.2.snap.Index, .int .u64 r_35.2.snap.Term, .int .u64 r_35.2.snap.Config, .string (bs r_35.2.snap.Data), .slice A_36 r_35.2.entries.length c_37]⟩]) (B' := [Ow 42 kT_api_Entry A_36 c_37 r_35.2.entries, Ow 43 kT_api_Entry A_32 c_33 r_31, Rd 0 kT_api_Entry A_3 c_4 l_2]) (ks := [7, 9, 10, 11, 12, 13, 14, 16, 17, 85, 86, 87]) (by kernel_rfl) (by kernel_rfl) (by kernel_rfl) ?_
    refine GoO.exec (is := [3, 4]) (hs := [.p, .p]) (rest := [5, 6, 7, 8, 9]) (ks := [7, 9, 10, 11, 12, 13, 14, 16, 17, 89]) (env' := [(7, .pointer (some ⟨c_10, 0, none⟩)), (9, .int .u64 ((rdL l_2 ((wi64 ((at_5.tmod (l_2.length : Int)) + (l_2.length : Int))).tmod (l_2.length : Int))).Index)), (10, .int .u64 r_28.1), (11, .int .u64 r_28.2), (12, .int .u64 r_29.1), (13, .int .u64 r_29.2), (14, .int .u64 r_30.1), (16, .slice A_32 r_31.length c_33), (17, .int .u64 r_34.1), (89, .bool (r_35.1 != 0))]) (H' := [⟨41, c_10, [.int .u64 r_35.2.snap.Index, .int .u64 r_35.2.snap.Term, .int .u64 r_35.2.snap.Config, .string (bs r_35.2.snap.Data), .slice A_36 r_35.2.entries.length c_37]⟩]) (ps := []) (by kernel_rfl) trivial ?_
    refine GoO.bsplit (t := 89) (by kernel_rfl) (fun h38 => ?_) (fun h38 => ?_)
    · refine GoO.exec (is := [5, 6, 7, 8, 9]) (hs := [.p, .p, .p, .p, .p]) (rest := []) (ks := [7, 9, 10, 11, 12, 13, 14, 16, 17, 94]) (env' := [(7, .pointer (some ⟨c_10, 0, none⟩)), (9, .int .u64 ((rdL l_2 ((wi64 ((at_5.tmod (l_2.length : Int)) + (l_2.length : Int))).tmod (l_2.length : Int))).Index)), (10, .int .u64 r_28.1), (11, .int .u64 r_28.2), (12, .int .u64 r_29.1), (13, .int .u64 r_29.2), (14, .int .u64 r_30.1), (16, .slice A_32 r_31.length c_33), (17, .int .u64 r_34.1), (94, .bool true)]) (H' := [⟨41, c_10, [.int .u64 r_35.2.snap.Index, .int .u64 r_35.2.snap.Term, .int .u64 r_35.2.snap.Config, .string (bs r_35.2.snap.Data), .slice A_36 r_35.2.entries.length c_37]⟩]) (ps := []) (by kernel_rfl) trivial ?_
      refine GoO.regionEnd ?_
      exact GoO.sub (ks := [7, 9, 10, 11, 12, 13, 14, 16, 17, 94]) (hk := [0]) (bk := [0, 1]) (by kernel_rfl) (by kernel_rfl) (by kernel_rfl) (tontinelaw07_RlogCompacts_j2_ok n l_2 at_5 r_28 r_29 r_30 r_31 r_34 c_10 A_32 c_33 A_3 c_4 w0 S0 r_35.2.snap.Index r_35.2.snap.Term r_35.2.snap.Config r_35.2.snap.Data r_35.2.entries true A_36 c_37)
    · refine GoO.exec (is := [5, 6]) (hs := [.p, .p]) (rest := [7, 8, 9]) (ks := [7, 9, 10, 11, 12, 13, 14, 16, 17, 89, 90, 91]) (env' := [(7, .pointer (some ⟨c_10, 0, none⟩)), (9, .int .u64 ((rdL l_2 ((wi64 ((at_5.tmod (l_2.length : Int)) + (l_2.length : Int))).tmod (l_2.length : Int))).Index)), (10, .int .u64 r_28.1), (11, .int .u64 r_28.2), (12, .int .u64 r_29.1), (13, .int .u64 r_29.2), (14, .int .u64 r_30.1), (16, .slice A_32 r_31.length c_33), (17, .int .u64 r_34.1), (89, .bool false), (90, .pointer (some ⟨c_10, 0, none⟩)), (91, .int .u64 ((rdL l_2 ((wi64 ((at_5.tmod (l_2.length : Int)) + (l_2.length : Int))).tmod (l_2.length : Int))).Index))]) (H' := [⟨41, c_10, [.int .u64 r_35.2.snap.Index, .int .u64 r_35.2.snap.Term, .int .u64 r_35.2.snap.Config, .string (bs r_35.2.snap.Data), .slice A_36 r_35.2.entries.length c_37]⟩]) (ps := []) (by kernel_rfl) trivial ?_
      refine OpTo.go (GoO.call rfl (by kernel_rfl) (by kernel_rfl) (rlog_Log_Compact_ok n (⟨(⟨r_35.2.snap.Index, r_35.2.snap.Term, r_35.2.snap.Config, r_35.2.snap.Data⟩ : T_api_Snapshot), r_35.2.entries⟩ : T_rlog_Log) ((rdL l_2 ((wi64 ((at_5.tmod (l_2.length : Int)) + (l_2.length : Int))).tmod (l_2.length : Int))).Index) [97, 103, 97, 105, 110] c_10 A_36 c_37) [[0], [41], [42]] [(41, 1), (42, 2)] [(1, 0)] [(2, 0)] (hks := []) (bks := [1, 2]) (by kernel_rfl) (by kernel_rfl) (by kernel_rfl) (.inl rfl) rfl rfl (by kernel_rfl) (by kernel_rfl) _ (fun _ _ => rfl) _ _ (fun _ _ => rfl) (fun _ _ => rfl) (fun _ _ => by kernel_rfl) (fun _ _ => by kernel_rfl) (fun r_39 x_42 => ?_))
      obtain ⟨A_40, c_41⟩ := x_42
      refine GoO.shape (env' := [(7, .pointer (some ⟨c_10, 0, none⟩)), (9, .int .u64 ((rdL l_2 ((wi64 ((at_5.tmod (l_2.length : Int)) + (l_2.length : Int))).tmod (l_2.length : Int))).Index)), (10, .int .u64 r_28.1), (11, .int .u64 r_28.2), (12, .int .u64 r_29.1), (13, .int .u64 r_29.2), (14, .int .u64 r_30.1), (16, .slice A_32 r_31.length c_33), (17, .int .u64 r_34.1), (89, .bool false), (90, .pointer (some ⟨c_10, 0, none⟩)), (91, .int .u64 ((rdL l_2 ((wi64 ((at_5.tmod (l_2.length : Int)) + (l_2.length : Int))).tmod (l_2.length : Int))).Index)), (92, .int .i64 r_39.1)]) (H' := [⟨41, c_10, [.int .u64 r_39.2.snap.Index, .int .u64 r_39.2.snap.Term, .int .u64 r_39.2.snap.Config, .string (bs r_39.2.snap.Data), .slice A_40 r_39.2.entries.length c_41]⟩]) (B' := [Ow 42 kT_api_Entry A_40 c_41 r_39.2.entries, Ow 43 kT_api_Entry A_32 c_33 r_31, Rd 0 kT_api_Entry A_3 c_4 l_2]) (ks := [7, 9, 10, 11, 12, 13, 14, 16, 17, 89, 90, 91, 92]) (by kernel_rfl) (by kernel_rfl) (by kernel_rfl) ?_
      refine GoO.exec (is := [8, 9]) (hs := [.p, .p]) (rest := []) (ks := [7, 9, 10, 11, 12, 13, 14, 16, 17, 94]) (env' := [(7, .pointer (some ⟨c_10, 0, none⟩)), (9, .int .u64 ((rdL l_2 ((wi64 ((at_5.tmod (l_2.length : Int)) + (l_2.length : Int))).tmod (l_2.length : Int))).Index)), (10, .int .u64 r_28.1), (11, .int .u64 r_28.2), (12, .int .u64 r_29.1), (13, .int .u64 r_29.2), (14, .int .u64 r_30.1), (16, .slice A_32 r_31.length c_33), (17, .int .u64 r_34.1), (94, .bool (r_39.1 != 20))]) (H' := [⟨41, c_10, [.int .u64 r_39.2.snap.Index, .int .u64 r_39.2.snap.Term, .int .u64 r_39.2.snap.Config, .string (bs r_39.2.snap.Data), .slice A_40 r_39.2.entries.length c_41]⟩]) (ps := []) (by kernel_rfl) trivial ?_
      refine GoO.regionEnd ?_
      exact GoO.sub (ks := [7, 9, 10, 11, 12, 13, 14, 16, 17, 94]) (hk := [0]) (bk := [0, 1]) (by kernel_rfl) (by kernel_rfl) (by kernel_rfl) (tontinelaw07_RlogCompacts_j2_ok n l_2 at_5 r_28 r_29 r_30 r_31 r_34 c_10 A_32 c_33 A_3 c_4 w0 S0 r_39.2.snap.Index r_39.2.snap.Term r_39.2.snap.Config r_39.2.snap.Data r_39.2.entries (r_39.1 != 20) A_40 c_41)
theorem tontinelaw07_RlogCompacts_ok (n : Nat) (s_1 : T_api_Snapshot) (l_2 : (List T_api_Entry)) (at_5 : Int) (A_3 : Option Addr) (c_4 : Nat) :
    Meets Try.prog 5 [.agg ⟨[.int .u64 s_1.Index, .int .u64 s_1.Term, .int .u64 s_1.Config, .string (bs s_1.Data)]⟩, .slice A_3 l_2.length c_4, .int .i64 at_5] 0 [] [] [Rd 0 kT_api_Entry A_3 c_4 l_2] (tontinelaw07_RlogCompacts.f n s_1 l_2 at_5) (tontinelaw07_RlogCompacts.R A_3 c_4) := by
  refine Meets.of (c := c5_0) (n := 165) Try.func5 (by kernel_rfl) (by kernel_rfl) (by kernel_rfl) fun w0 S0 => ?_
  unfold tontinelaw07_RlogCompacts.f
  show GoO (tontinelaw07_RlogCompacts.cx A_3 c_4 w0 S0) [(0, .agg ⟨[.int .u64 s_1.Index, .int .u64 s_1.Term, .int .u64 s_1.Config, .string (bs s_1.Data)]⟩), (1, .slice A_3 l_2.length c_4), (2, .int .i64 at_5)] [] [Rd 0 kT_api_Entry A_3 c_4 l_2] [.code c5_0] _
  refine GoO.seq' c5_0e ?_
  refine GoO.region' (is := [0, 1]) c5_1e (by kernel_rfl) ?_
  refine OpTo.go (GoO.new rfl 40 (cs := [.int .u64 s_1.Index, .int .u64 s_1.Term, .int .u64 s_1.Config, .string (bs s_1.Data)]) (by kernel_rfl) _ (fun _ => rfl) (fun b_6 => ?_))
  refine GoO.exec (is := [1]) (hs := [.p]) (rest := []) (ks := [1, 2, 3]) (env' := [(1, .slice A_3 l_2.length c_4), (2, .int .i64 at_5), (3, .pointer (some ⟨b_6, 0, none⟩))]) (H' := [⟨40, b_6, [.int .u64 s_1.Index, .int .u64 s_1.Term, .int .u64 s_1.Config, .string (bs s_1.Data)]⟩]) (ps := []) (by kernel_rfl) trivial ?_
  refine GoO.regionEnd ?_
  refine GoO.seq' c5_2e ?_
  refine GoO.seq' c5_3e ?_
  refine GoO.region' (is := [0, 1]) c5_4e (by kernel_rfl) ?_
  refine OpTo.go (GoO.call rfl (by kernel_rfl) (by kernel_rfl) (tontinelaw07_begun_ok n) [[0]] [] [] [] (hks := [0]) (bks := [0]) (by kernel_rfl) (by kernel_rfl) (by kernel_rfl) (.inl rfl) rfl rfl (by kernel_rfl) (by kernel_rfl) _ (fun _ _ => rfl) _ _ (fun _ _ => rfl) (fun _ _ => rfl) (fun _ _ => by kernel_rfl) (fun _ _ => by kernel_rfl) (fun r_7 x_91 => ?_))
  refine GoO.shape (env' := [(1, .slice A_3 l_2.length c_4), (2, .int .i64 at_5), (3, .pointer (some ⟨b_6, 0, none⟩)), (25, .bool r_7)]) (H' := [⟨40, b_6, [.int .u64 s_1.Index, .int .u64 s_1.Term, .int .u64 s_1.Config, .string (bs s_1.Data)]⟩]) (B' := [Rd 0 kT_api_Entry A_3 c_4 l_2]) (ks := [1, 2, 3, 25]) (by kernel_rfl) (by kernel_rfl) (by kernel_rfl) ?_
  refine GoO.exec (is := [1]) (hs := [.p]) (rest := []) (ks := [1, 2, 3, 26]) (env' := [(1, .slice A_3 l_2.length c_4), (2, .int .i64 at_5), (3, .pointer (some ⟨b_6, 0, none⟩)), (26, .bool (!r_7))]) (H' := [⟨40, b_6, [.int .u64 s_1.Index, .int .u64 s_1.Term, .int .u64 s_1.Config, .string (bs s_1.Data)]⟩]) (ps := []) (by kernel_rfl) trivial ?_
  refine GoO.regionEnd ?_
  refine GoO.ite' c5_5e (by kernel_rfl) (fun h8 => ?_) (fun h8 => ?_)
  · refine GoO.seq' c5_6e ?_
    refine GoO.region' (is := [0]) c5_7e (by kernel_rfl) ?_
    refine GoO.exec (is := [0]) (hs := [.p]) (rest := []) (ks := [6]) (env' := [(6, .bool false)]) (H' := [⟨40, b_6, [.int .u64 s_1.Index, .int .u64 s_1.Term, .int .u64 s_1.Config, .string (bs s_1.Data)]⟩]) (ps := []) (by kernel_rfl) trivial ?_
    refine GoO.regionEnd ?_
    exact GoO.ret' (h := c5_8e) (hs := []) (ps := []) (hk := []) (bk := []) Try.func5 () (by kernel_rfl) trivial (by kernel_rfl) (by kernel_rfl)
  · refine GoO.skip' c5_9e ?_
    refine GoO.seq' c5_10e ?_
    refine GoO.region' (is := [0, 1, 2, 3, 4, 5, 6, 7]) c5_11e (by kernel_rfl) ?_
    refine GoO.exec (is := [0, 1]) (hs := [.b 0, .p]) (rest := [2, 3, 4, 5, 6, 7]) (ks := [1, 2, 28, 29]) (env' := [(1, .slice A_3 l_2.length c_4), (2, .int .i64 at_5), (28, .agg ⟨[.int .u64 s_1.Index, .int .u64 s_1.Term, .int .u64 s_1.Config, .string (bs s_1.Data)]⟩), (29, .slice A_3 l_2.length c_4)]) (H' := [⟨40, b_6, [.int .u64 s_1.Index, .int .u64 s_1.Term, .int .u64 s_1.Config, .string (bs s_1.Data)]⟩]) (ps := [b_6 = b_6]) (by kernel_rfl) (And.intro rfl trivial) ?_
    refine OpTo.go (GoO.call rfl (by kernel_rfl) (by kernel_rfl) (rlog_New_ok n s_1 l_2 A_3 c_4) [[0]] [(41, 1), (42, 2)] [] [(0, 0)] (hks := [0]) (bks := [0]) (by kernel_rfl) (by kernel_rfl) (by kernel_rfl) (.inl rfl) rfl rfl (by kernel_rfl) (by kernel_rfl) _ (fun _ _ => rfl) _ _ (fun _ _ => rfl) (fun _ _ => rfl) (fun rr _ => by dsimp only [rlog_New.R]; cases rr.1 <;> kernel_rfl) (fun rr _ => by dsimp only [rlog_New.R]; cases rr.1 <;> kernel_rfl) (fun r_9 x_90 => ?_))
    obtain ⟨c_10, A_11, c_12⟩ := x_90
    rcases r_9 with ⟨(_ | o_13), r_9_q1⟩
    · refine GoO.shape (env' := [(1, .slice A_3 l_2.length c_4), (2, .int .i64 at_5), (28, .agg ⟨[.int .u64 s_1.Index, .int .u64 s_1.Term, .int .u64 s_1.Config, .string (bs s_1.Data)]⟩), (29, .slice A_3 l_2.length c_4), (30, .tuple ⟨[.pointer none, .int .i64 ((none, r_9_q1) : Option T_rlog_Log × Int).2]⟩)]) (H' := [⟨40, b_6, [.int .u64 s_1.Index, .int .u64 s_1.Term, .int .u64 s_1.Config, .string (bs s_1.Data)]⟩]) (B' := [Rd 0 kT_api_Entry A_3 c_4 l_2]) (ks := [1, 2, 28, 29, 30]) (by kernel_rfl) (by kernel_rfl) (by kernel_rfl) ?_
      refine GoO.exec (is := [3, 4, 5, 6, 7]) (hs := [.p, .p, .p, .p, .p]) (rest := []) (ks := [1, 2, 7, 8]) (env' := [(1, .slice A_3 l_2.length c_4), (2, .int .i64 at_5), (7, .pointer none), (8, .int .i64 ((none, r_9_q1) : Option T_rlog_Log × Int).2)]) (H' := [⟨40, b_6, [.int .u64 s_1.Index, .int .u64 s_1.Term, .int .u64 s_1.Config, .string (bs s_1.Data)]⟩]) (ps := []) (by kernel_rfl) trivial ?_
      refine GoO.regionEnd ?_
      refine GoO.seq' c5_12e ?_
      refine GoO.seq' c5_13e ?_
      refine GoO.region' (is := [0, 1, 2, 3, 4, 5, 6, 7, 8, 9, 10, 11]) c5_14e (by kernel_rfl) ?_
      refine GoO.exec (is := [0, 1, 2]) (hs := [.p, .p, .p]) (rest := [3, 4, 5, 6, 7, 8, 9, 10, 11]) (ks := [1, 2, 7, 35]) (env' := [(1, .slice A_3 l_2.length c_4), (2, .int .i64 at_5), (7, .pointer none), (35, .bool (((none, r_9_q1) : Option T_rlog_Log × Int).2 != 0))]) (H' := [⟨40, b_6, [.int .u64 s_1.Index, .int .u64 s_1.Term, .int .u64 s_1.Config, .string (bs s_1.Data)]⟩]) (ps := []) (by kernel_rfl) trivial ?_
      refine GoO.bsplit (t := 35) (by kernel_rfl) (fun h14 => ?_) (fun h14 => ?_)
      · refine GoO.exec (is := [3, 4, 5, 6, 7, 8, 9, 10, 11]) (hs := [.p, .p, .p, .p, .p, .p, .p, .p, .p]) (rest := []) (ks := [1, 2, 7, 44]) (env' := [(1, .slice A_3 l_2.length c_4), (2, .int .i64 at_5), (7, .pointer none), (44, .bool true)]) (H' := [⟨40, b_6, [.int .u64 s_1.Index, .int .u64 s_1.Term, .int .u64 s_1.Config, .string (bs s_1.Data)]⟩]) (ps := []) (by kernel_rfl) trivial ?_
        refine GoO.regionEnd ?_
        exact GoO.sub (ks := [1, 2, 7, 44]) (hk := []) (bk := [0]) (by kernel_rfl) (by kernel_rfl) (by kernel_rfl) (tontinelaw07_RlogCompacts_j0_ok n l_2 at_5 A_3 c_4 w0 S0 true)
      · refine GoO.exec (is := [3]) (hs := [.p]) (rest := [4, 5, 6, 7, 8, 9, 10, 11]) (ks := [1, 2, 7, 35, 36]) (env' := [(1, .slice A_3 l_2.length c_4), (2, .int .i64 at_5), (7, .pointer none), (35, .bool false), (36, .slice A_3 l_2.length c_4)]) (H' := [⟨40, b_6, [.int .u64 s_1.Index, .int .u64 s_1.Term, .int .u64 s_1.Config, .string (bs s_1.Data)]⟩]) (ps := []) (by kernel_rfl) trivial ?_
        refine GoO.nilRd kT_tontinelaw07_Call ?_
        refine OpTo.go (GoO.call rfl (by kernel_rfl) (by kernel_rfl) (tontinelaw07_light_ok n l_2 ([] : List T_tontinelaw07_Call) A_3 c_4 none 0) [[0]] [] [] [(0, 1), (0, 0)] (hks := [0]) (bks := [0, 1]) (by kernel_rfl) (by kernel_rfl) (by kernel_rfl) (.inl rfl) rfl rfl (by kernel_rfl) (by kernel_rfl) _ (fun _ _ => rfl) _ _ (fun _ _ => rfl) (fun _ _ => rfl) (fun _ _ => by kernel_rfl) (fun _ _ => by kernel_rfl) (fun r_15 x_17 => ?_))
        refine GoO.shape (env' := [(1, .slice A_3 l_2.length c_4), (2, .int .i64 at_5), (7, .pointer none), (35, .bool false), (36, .slice A_3 l_2.length c_4), (37, .bool r_15)]) (H' := [⟨40, b_6, [.int .u64 s_1.Index, .int .u64 s_1.Term, .int .u64 s_1.Config, .string (bs s_1.Data)]⟩]) (B' := [Rd 0 kT_tontinelaw07_Call none 0 ([] : List T_tontinelaw07_Call), Rd 0 kT_api_Entry A_3 c_4 l_2]) (ks := [1, 2, 7, 35, 36, 37]) (by kernel_rfl) (by kernel_rfl) (by kernel_rfl) ?_
        refine GoO.exec (is := [5, 6, 7]) (hs := [.p, .p, .p]) (rest := [8, 9, 10, 11]) (ks := [1, 2, 7, 40]) (env' := [(1, .slice A_3 l_2.length c_4), (2, .int .i64 at_5), (7, .pointer none), (40, .bool (!r_15))]) (H' := [⟨40, b_6, [.int .u64 s_1.Index, .int .u64 s_1.Term, .int .u64 s_1.Config, .string (bs s_1.Data)]⟩]) (ps := []) (by kernel_rfl) trivial ?_
        refine GoO.bsplit (t := 40) (by kernel_rfl) (fun h16 => ?_) (fun h16 => ?_)
        · refine GoO.exec (is := [8, 9, 10, 11]) (hs := [.p, .p, .p, .p]) (rest := []) (ks := [1, 2, 7, 44]) (env' := [(1, .slice A_3 l_2.length c_4), (2, .int .i64 at_5), (7, .pointer none), (44, .bool true)]) (H' := [⟨40, b_6, [.int .u64 s_1.Index, .int .u64 s_1.Term, .int .u64 s_1.Config, .string (bs s_1.Data)]⟩]) (ps := []) (by kernel_rfl) trivial ?_
          refine GoO.regionEnd ?_
          exact GoO.sub (ks := [1, 2, 7, 44]) (hk := []) (bk := [1]) (by kernel_rfl) (by kernel_rfl) (by kernel_rfl) (tontinelaw07_RlogCompacts_j0_ok n l_2 at_5 A_3 c_4 w0 S0 true)
        · refine GoO.exec (is := [8, 9, 10, 11]) (hs := [.p, .p, .p, .p]) (rest := []) (ks := [1, 2, 7, 44]) (env' := [(1, .slice A_3 l_2.length c_4), (2, .int .i64 at_5), (7, .pointer none), (44, .bool ((l_2.length : Int) == 0))]) (H' := [⟨40, b_6, [.int .u64 s_1.Index, .int .u64 s_1.Term, .int .u64 s_1.Config, .string (bs s_1.Data)]⟩]) (ps := []) (by kernel_rfl) trivial ?_
          refine GoO.regionEnd ?_
          exact GoO.sub (ks := [1, 2, 7, 44]) (hk := []) (bk := [1]) (by kernel_rfl) (by kernel_rfl) (by kernel_rfl) (tontinelaw07_RlogCompacts_j0_ok n l_2 at_5 A_3 c_4 w0 S0 ((l_2.length : Int) == 0))
    · refine GoO.shape (env' := [(1, .slice A_3 l_2.length c_4), (2, .int .i64 at_5), (28, .agg ⟨[.int .u64 s_1.Index, .int .u64 s_1.Term, .int .u64 s_1.Config, .string (bs s_1.Data)]⟩), (29, .slice A_3 l_2.length c_4), (30, .tuple ⟨[.pointer (some ⟨c_10, 0, none⟩), .int .i64 ((some o_13, r_9_q1) : Option T_rlog_Log × Int).2]⟩)]) (H' := [⟨41, c_10, [.int .u64 o_13.snap.Index, .int .u64 o_13.snap.Term, .int .u64 o_13.snap.Config, .string (bs o_13.snap.Data), .slice A_11 o_13.entries.length c_12]⟩, ⟨40, b_6, [.int .u64 s_1.Index, .int .u64 s_1.Term, .int .u64 s_1.Config, .string (bs s_1.Data)]⟩]) (B' := [Ow 42 kT_api_Entry A_11 c_12 o_13.entries, Rd 0 kT_api_Entry A_3 c_4 l_2]) (ks := [1, 2, 28, 29, 30]) (by kernel_rfl) (by kernel_rfl) (by kernel_rfl) ?_
      refine GoO.exec (is := [3, 4, 5, 6, 7]) (hs := [.p, .p, .p, .p, .p]) (rest := []) (ks := [1, 2, 7, 8]) (env' := [(1, .slice A_3 l_2.length c_4), (2, .int .i64 at_5), (7, .pointer (some ⟨c_10, 0, none⟩)), (8, .int .i64 ((some o_13, r_9_q1) : Option T_rlog_Log × Int).2)]) (H' := [⟨41, c_10, [.int .u64 o_13.snap.Index, .int .u64 o_13.snap.Term, .int .u64 o_13.snap.Config, .string (bs o_13.snap.Data), .slice A_11 o_13.entries.length c_12]⟩, ⟨40, b_6, [.int .u64 s_1.Index, .int .u64 s_1.Term, .int .u64 s_1.Config, .string (bs s_1.Data)]⟩]) (ps := []) (by kernel_rfl) trivial ?_
      refine GoO.regionEnd ?_
      refine GoO.seq' c5_12e ?_
      refine GoO.seq' c5_13e ?_
      refine GoO.region' (is := [0, 1, 2, 3, 4, 5, 6, 7, 8, 9, 10, 11]) c5_14e (by kernel_rfl) ?_
      refine GoO.exec (is := [0, 1, 2]) (hs := [.p, .p, .p]) (rest := [3, 4, 5, 6, 7, 8, 9, 10, 11]) (ks := [1, 2, 7, 35]) (env' := [(1, .slice A_3 l_2.length c_4), (2, .int .i64 at_5), (7, .pointer (some ⟨c_10, 0, none⟩)), (35, .bool (((some o_13, r_9_q1) : Option T_rlog_Log × Int).2 != 0))]) (H' := [⟨41, c_10, [.int .u64 o_13.snap.Index, .int .u64 o_13.snap.Term, .int .u64 o_13.snap.Config, .string (bs o_13.snap.Data), .slice A_11 o_13.entries.length c_12]⟩, ⟨40, b_6, [.int .u64 s_1.Index, .int .u64 s_1.Term, .int .u64 s_1.Config, .string (bs s_1.Data)]⟩]) (ps := []) (by kernel_rfl) trivial ?_
      refine GoO.bsplit (t := 35) (by kernel_rfl) (fun h21 => ?_) (fun h21 => ?_)
      · refine GoO.exec (is := [3, 4, 5, 6, 7, 8, 9, 10, 11]) (hs := [.p, .p, .p, .p, .p, .p, .p, .p, .p]) (rest := []) (ks := [1, 2, 7, 44]) (env' := [(1, .slice A_3 l_2.length c_4), (2, .int .i64 at_5), (7, .pointer (some ⟨c_10, 0, none⟩)), (44, .bool true)]) (H' := [⟨41, c_10, [.int .u64 o_13.snap.Index, .int .u64 o_13.snap.Term, .int .u64 o_13.snap.Config, .string (bs o_13.snap.Data), .slice A_11 o_13.entries.length c_12]⟩, ⟨40, b_6, [.int .u64 s_1.Index, .int .u64 s_1.Term, .int .u64 s_1.Config, .string (bs s_1.Data)]⟩]) (ps := []) (by kernel_rfl) trivial ?_
        refine GoO.regionEnd ?_
        exact GoO.sub (ks := [1, 2, 7, 44]) (hk := [0]) (bk := [1, 0]) (by kernel_rfl) (by kernel_rfl) (by kernel_rfl) (tontinelaw07_RlogCompacts_j1_ok n l_2 at_5 o_13 A_3 c_4 c_10 A_11 c_12 w0 S0 true)
      · refine GoO.exec (is := [3]) (hs := [.p]) (rest := [4, 5, 6, 7, 8, 9, 10, 11]) (ks := [1, 2, 7, 35, 36]) (env' := [(1, .slice A_3 l_2.length c_4), (2, .int .i64 at_5), (7, .pointer (some ⟨c_10, 0, none⟩)), (35, .bool false), (36, .slice A_3 l_2.length c_4)]) (H' := [⟨41, c_10, [.int .u64 o_13.snap.Index, .int .u64 o_13.snap.Term, .int .u64 o_13.snap.Config, .string (bs o_13.snap.Data), .slice A_11 o_13.entries.length c_12]⟩, ⟨40, b_6, [.int .u64 s_1.Index, .int .u64 s_1.Term, .int .u64 s_1.Config, .string (bs s_1.Data)]⟩]) (ps := []) (by kernel_rfl) trivial ?_
        refine GoO.nilRd kT_tontinelaw07_Call ?_
        refine OpTo.go (GoO.call rfl (by kernel_rfl) (by kernel_rfl) (tontinelaw07_light_ok n l_2 ([] : List T_tontinelaw07_Call) A_3 c_4 none 0) [[0]] [] [] [(0, 2), (0, 0)] (hks := [0, 1]) (bks := [0, 1, 2]) (by kernel_rfl) (by kernel_rfl) (by kernel_rfl) (.inl rfl) rfl rfl (by kernel_rfl) (by kernel_rfl) _ (fun _ _ => rfl) _ _ (fun _ _ => rfl) (fun _ _ => rfl) (fun _ _ => by kernel_rfl) (fun _ _ => by kernel_rfl) (fun r_22 x_24 => ?_))
        refine GoO.shape (env' := [(1, .slice A_3 l_2.length c_4), (2, .int .i64 at_5), (7, .pointer (some ⟨c_10, 0, none⟩)), (35, .bool false), (36, .slice A_3 l_2.length c_4), (37, .bool r_22)]) (H' := [⟨41, c_10, [.int .u64 o_13.snap.Index, .int .u64 o_13.snap.Term, .int .u64 o_13.snap.Config, .string (bs o_13.snap.Data), .slice A_11 o_13.entries.length c_12]⟩, ⟨40, b_6, [.int .u64 s_1.Index, .int .u64 s_1.Term, .int .u64 s_1.Config, .string (bs s_1.Data)]⟩]) (B' := [Rd 0 kT_tontinelaw07_Call none 0 ([] : List T_tontinelaw07_Call), Ow 42 kT_api_Entry A_11 c_12 o_13.entries, Rd 0 kT_api_Entry A_3 c_4 l_2]) (ks := [1, 2, 7, 35, 36, 37]) (by kernel_rfl) (by kernel_rfl) (by kernel_rfl) ?_
        refine GoO.exec (is := [5, 6, 7]) (hs := [.p, .p, .p]) (rest := [8, 9, 10, 11]) (ks := [1, 2, 7, 40]) (env' := [(1, .slice A_3 l_2.length c_4), (2, .int .i64 at_5), (7, .pointer (some ⟨c_10, 0, none⟩)), (40, .bool (!r_22))]) (H' := [⟨41, c_10, [.int .u64 o_13.snap.Index, .int .u64 o_13.snap.Term, .int .u64 o_13.snap.Config, .string (bs o_13.snap.Data), .slice A_11 o_13.entries.length c_12]⟩, ⟨40, b_6, [.int .u64 s_1.Index, .int .u64 s_1.Term, .int .u64 s_1.Config, .string (bs s_1.Data)]⟩]) (ps := []) (by kernel_rfl) trivial ?_
        refine GoO.bsplit (t := 40) (by kernel_rfl) (fun h23 => ?_) (fun h23 => ?_)
        · refine GoO.exec (is := [8, 9, 10, 11]) (hs := [.p, .p, .p, .p]) (rest := []) (ks := [1, 2, 7, 44]) (env' := [(1, .slice A_3 l_2.length c_4), (2, .int .i64 at_5), (7, .pointer (some ⟨c_10, 0, none⟩)), (44, .bool true)]) (H' := [⟨41, c_10, [.int .u64 o_13.snap.Index, .int .u64 o_13.snap.Term, .int .u64 o_13.snap.Config, .string (bs o_13.snap.Data), .slice A_11 o_13.entries.length c_12]⟩, ⟨40, b_6, [.int .u64 s_1.Index, .int .u64 s_1.Term, .int .u64 s_1.Config, .string (bs s_1.Data)]⟩]) (ps := []) (by kernel_rfl) trivial ?_
          refine GoO.regionEnd ?_
          exact GoO.sub (ks := [1, 2, 7, 44]) (hk := [0]) (bk := [2, 1]) (by kernel_rfl) (by kernel_rfl) (by kernel_rfl) (tontinelaw07_RlogCompacts_j1_ok n l_2 at_5 o_13 A_3 c_4 c_10 A_11 c_12 w0 S0 true)
        · refine GoO.exec (is := [8, 9, 10, 11]) (hs := [.p, .p, .p, .p]) (rest := []) (ks := [1, 2, 7, 44]) (env' := [(1, .slice A_3 l_2.length c_4), (2, .int .i64 at_5), (7, .pointer (some ⟨c_10, 0, none⟩)), (44, .bool ((l_2.length : Int) == 0))]) (H' := [⟨41, c_10, [.int .u64 o_13.snap.Index, .int .u64 o_13.snap.Term, .int .u64 o_13.snap.Config, .string (bs o_13.snap.Data), .slice A_11 o_13.entries.length c_12]⟩, ⟨40, b_6, [.int .u64 s_1.Index, .int .u64 s_1.Term, .int .u64 s_1.Config, .string (bs s_1.Data)]⟩]) (ps := []) (by kernel_rfl) trivial ?_
          refine GoO.regionEnd ?_
          exact GoO.sub (ks := [1, 2, 7, 44]) (hk := [0]) (bk := [2, 1]) (by kernel_rfl) (by kernel_rfl) (by kernel_rfl) (tontinelaw07_RlogCompacts_j1_ok n l_2 at_5 o_13 A_3 c_4 c_10 A_11 c_12 w0 S0 ((l_2.length : Int) == 0))
end Go.GL
