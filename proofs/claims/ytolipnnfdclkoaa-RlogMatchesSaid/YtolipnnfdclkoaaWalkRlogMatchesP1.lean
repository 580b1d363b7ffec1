import Derived.Test.YtolipnnfdclkoaaKindsT1
import Derived.Test.YtolipnnfdclkoaaProg
set_option linter.unusedVariables false
set_option linter.unusedSimpArgs false
set_option maxRecDepth 100000
namespace Go.GL
open Go Go.Proofs


/-! tontine/quorum.Sound -/
noncomputable def c52_0 : Code := bodyOf Try.f52
noncomputable def c52_1 : Code := cdL c52_0
noncomputable def c52_2 : Code := cdR c52_0
noncomputable def c52_3 : Code := cdL c52_2
noncomputable def c52_4 : Code := cdR c52_2
noncomputable def r52_1 : Array Oper := cdO c52_1
noncomputable def r52_3 : Array Oper := cdO c52_3
theorem c52_0e : c52_0 = .seq c52_1 c52_2 := by kernel_rfl
theorem c52_1e : c52_1 = .region 0 r52_1 false := by kernel_rfl
theorem c52_2e : c52_2 = .seq c52_3 c52_4 := by kernel_rfl
theorem c52_3e : c52_3 = .region 1 r52_3 false := by kernel_rfl
theorem c52_4e : c52_4 = .ret := by kernel_rfl
noncomputable def quorum_Sound.R : Pst Bool where
  ε := Unit
  v := fun r x => .bool r
  H := fun r x => []
  B := fun r x => []
noncomputable def quorum_Sound.cx (w0 : World) (S0 : Fam) : Cx Bool := ⟨Try.prog, 52, Try.f52, 10, w0, S0, [], 0, quorum_Sound.R⟩
theorem quorum_Sound_ok (n : Nat) (c_1 : Int) :
    Meets Try.prog 52 [.int .u64 c_1] 0 [] [] [] (quorum_Sound.f n c_1) (quorum_Sound.R) := by
  refine Meets.of (c := c52_0) (n := 10) Try.func52 (by kernel_rfl) (by kernel_rfl) (by kernel_rfl) fun w0 S0 => ?_
  unfold quorum_Sound.f
  show GoO (quorum_Sound.cx w0 S0) [(0, .int .u64 c_1)] [] [] [.code c52_0] _
  refine GoO.seq' c52_0e ?_
  refine GoO.region' (is := [0]) c52_1e (by kernel_rfl) ?_
  refine GoO.exec (is := [0]) (hs := [.p]) (rest := []) (ks := [0]) (env' := [(0, .int .u64 c_1)]) (H' := []) (ps := []) (by kernel_rfl) trivial ?_
  refine GoO.regionEnd ?_
  refine GoO.seq' c52_2e ?_
  refine GoO.region' (is := [0, 1, 2, 3, 4, 5, 6, 7]) c52_3e (by kernel_rfl) ?_
  refine GoO.exec (is := [0, 1, 2]) (hs := [.p, .p, .p]) (rest := [3, 4, 5, 6, 7]) (ks := [0, 5]) (env' := [(0, .int .u64 c_1), (5, .bool (c_1 != 0))]) (H' := []) (ps := []) (by kernel_rfl) trivial ?_
  refine GoO.bsplit (t := 5) (by kernel_rfl) (fun h2 => ?_) (fun h2 => ?_)
  · refine GoO.exec (is := [3, 4, 5, 6, 7]) (hs := [.p, .p, .p, .p, .p]) (rest := []) (ks := [2]) (env' := [(2, .bool ((bAndNot .u64 c_1 127) == 0))]) (H' := []) (ps := []) (by kernel_rfl) trivial ?_
    refine GoO.regionEnd ?_
    exact GoO.ret' (h := c52_4e) (hs := []) (ps := []) (hk := []) (bk := []) Try.func52 () (by kernel_rfl) trivial (by kernel_rfl) (by kernel_rfl)
  · refine GoO.exec (is := [3, 4, 5, 6, 7]) (hs := [.p, .p, .p, .p, .p]) (rest := []) (ks := [2]) (env' := [(2, .bool false)]) (H' := []) (ps := []) (by kernel_rfl) trivial ?_
    refine GoO.regionEnd ?_
    exact GoO.ret' (h := c52_4e) (hs := []) (ps := []) (hk := []) (bk := []) Try.func52 () (by kernel_rfl) trivial (by kernel_rfl) (by kernel_rfl)

/-! (*tontine/rlog.Log).Last -/
noncomputable def c22_0 : Code := bodyOf Try.f22
noncomputable def c22_1 : Code := cdL c22_0
noncomputable def c22_2 : Code := cdR c22_0
noncomputable def c22_3 : Code := cdL c22_2
noncomputable def c22_4 : Code := cdL c22_3
noncomputable def c22_5 : Code := cdR c22_3
noncomputable def c22_9 : Code := cdR c22_5
noncomputable def c22_10 : Code := cdR c22_2
noncomputable def c22_11 : Code := cdL c22_10
noncomputable def c22_12 : Code := cdL c22_11
noncomputable def c22_13 : Code := cdR c22_11
noncomputable def c22_14 : Code := cdL c22_13
noncomputable def c22_15 : Code := cdR c22_13
noncomputable def c22_16 : Code := cdL c22_15
noncomputable def c22_17 : Code := cdL c22_16
noncomputable def c22_18 : Code := cdR c22_16
noncomputable def c22_19 : Code := cdR c22_15
noncomputable def c22_20 : Code := cdR c22_10
noncomputable def c22_21 : Code := cdL c22_20
noncomputable def c22_22 : Code := cdR c22_20
noncomputable def c22_6 : Code := cdL c22_5
noncomputable def r22_1 : Array Oper := cdO c22_1
noncomputable def r22_4 : Array Oper := cdO c22_4
noncomputable def r22_12 : Array Oper := cdO c22_12
noncomputable def r22_14 : Array Oper := cdO c22_14
noncomputable def r22_17 : Array Oper := cdO c22_17
noncomputable def r22_21 : Array Oper := cdO c22_21
theorem c22_0e : c22_0 = .seq c22_1 c22_2 := by kernel_rfl
theorem c22_1e : c22_1 = .region 0 r22_1 false := by kernel_rfl
theorem c22_2e : c22_2 = .seq c22_3 c22_10 := by kernel_rfl
theorem c22_3e : c22_3 = .seq c22_4 c22_5 := by kernel_rfl
theorem c22_4e : c22_4 = .region 1 r22_4 false := by kernel_rfl
theorem c22_5e : c22_5 = .cond (cdC c22_5) c22_6 c22_9 := by kernel_rfl
theorem c22_9e : c22_9 = .skip := by kernel_rfl
theorem c22_10e : c22_10 = .seq c22_11 c22_20 := by kernel_rfl
theorem c22_11e : c22_11 = .seq c22_12 c22_13 := by kernel_rfl
theorem c22_12e : c22_12 = .region 3 r22_12 false := by kernel_rfl
theorem c22_13e : c22_13 = .seq c22_14 c22_15 := by kernel_rfl
theorem c22_14e : c22_14 = .region 4 r22_14 false := by kernel_rfl
theorem c22_15e : c22_15 = .cond (cdC c22_15) c22_16 c22_19 := by kernel_rfl
theorem c22_16e : c22_16 = .seq c22_17 c22_18 := by kernel_rfl
theorem c22_17e : c22_17 = .region 5 r22_17 true := by kernel_rfl
theorem c22_18e : c22_18 = .ret := by kernel_rfl
theorem c22_19e : c22_19 = .skip := by kernel_rfl
theorem c22_20e : c22_20 = .seq c22_21 c22_22 := by kernel_rfl
theorem c22_21e : c22_21 = .region 6 r22_21 true := by kernel_rfl
theorem c22_22e : c22_22 = .ret := by kernel_rfl
noncomputable def rlog_Log_Last.R (b_2 : Nat) (A_3 : Option Addr) (c_4 : Nat) : Pst (Int × Int) where
  ε := Unit
  v := fun r x => .tuple ⟨[.int .u64 r.1, .int .u64 r.2]⟩
  H := fun r x => []
  B := fun r x => []
noncomputable def rlog_Log_Last.cx (b_2 : Nat) (A_3 : Option Addr) (c_4 : Nat) (w0 : World) (S0 : Fam) : Cx (Int × Int) := ⟨Try.prog, 22, Try.f22, 42, w0, S0, [], 2, rlog_Log_Last.R b_2 A_3 c_4⟩
theorem rlog_Log_Last_ok (n : Nat) (g_1 : T_rlog_Log) (b_2 : Nat) (A_3 : Option Addr) (c_4 : Nat) :
    Meets Try.prog 22 [.pointer (some ⟨b_2, 0, none⟩)] 2 [] [⟨1, b_2, [.int .u64 g_1.snap.Index, .int .u64 g_1.snap.Term, .int .u64 g_1.snap.Config, .string (bs g_1.snap.Data), .slice A_3 g_1.entries.length c_4]⟩] [Ow 2 kT_api_Entry A_3 c_4 g_1.entries] (rlog_Log_Last.f n g_1) (rlog_Log_Last.R b_2 A_3 c_4) := by
  refine Meets.of (c := c22_0) (n := 42) Try.func22 (by kernel_rfl) (by kernel_rfl) (by kernel_rfl) fun w0 S0 => ?_
  unfold rlog_Log_Last.f
  show GoO (rlog_Log_Last.cx b_2 A_3 c_4 w0 S0) [(0, .pointer (some ⟨b_2, 0, none⟩))] [⟨1, b_2, [.int .u64 g_1.snap.Index, .int .u64 g_1.snap.Term, .int .u64 g_1.snap.Config, .string (bs g_1.snap.Data), .slice A_3 g_1.entries.length c_4]⟩] [Ow 2 kT_api_Entry A_3 c_4 g_1.entries] [.code c22_0] _
  refine GoO.seq' c22_0e ?_
  refine GoO.region' (is := [0, 1]) c22_1e (by kernel_rfl) ?_
  refine GoO.exec (is := [0, 1]) (hs := [.p, .p]) (rest := []) (ks := [0]) (env' := [(0, .pointer (some ⟨b_2, 0, none⟩))]) (H' := [⟨1, b_2, [.int .u64 g_1.snap.Index, .int .u64 g_1.snap.Term, .int .u64 g_1.snap.Config, .string (bs g_1.snap.Data), .slice A_3 g_1.entries.length c_4]⟩]) (ps := []) (by kernel_rfl) trivial ?_
  refine GoO.regionEnd ?_
  refine GoO.seq' c22_2e ?_
  refine GoO.seq' c22_3e ?_
  refine GoO.region' (is := [0, 1]) c22_4e (by kernel_rfl) ?_
  refine GoO.exec (is := [0, 1]) (hs := [.p, .p]) (rest := []) (ks := [0, 6]) (env' := [(0, .pointer (some ⟨b_2, 0, none⟩)), (6, .bool false)]) (H' := [⟨1, b_2, [.int .u64 g_1.snap.Index, .int .u64 g_1.snap.Term, .int .u64 g_1.snap.Config, .string (bs g_1.snap.Data), .slice A_3 g_1.entries.length c_4]⟩]) (ps := []) (by kernel_rfl) trivial ?_
  refine GoO.regionEnd ?_
  refine GoO.condF c22_5e (by kernel_rfl) ?_
  refine GoO.skip' c22_9e ?_
  refine GoO.seq' c22_10e ?_
  refine GoO.seq' c22_11e ?_
  refine GoO.region' (is := [0, 1, 2, 3, 4, 5]) c22_12e (by kernel_rfl) ?_
  refine GoO.exec (is := [0, 1, 2, 3, 4, 5]) (hs := [.p, .p, .p, .b 0, .p, .p]) (rest := []) (ks := [0, 4]) (env' := [(0, .pointer (some ⟨b_2, 0, none⟩)), (4, .int .i64 (g_1.entries.length : Int))]) (H' := [⟨1, b_2, [.int .u64 g_1.snap.Index, .int .u64 g_1.snap.Term, .int .u64 g_1.snap.Config, .string (bs g_1.snap.Data), .slice A_3 g_1.entries.length c_4]⟩]) (ps := [b_2 = b_2]) (by kernel_rfl) (And.intro rfl trivial) ?_
  refine GoO.regionEnd ?_
  refine GoO.seq' c22_13e ?_
  refine GoO.region' (is := [0, 1]) c22_14e (by kernel_rfl) ?_
  refine GoO.exec (is := [0, 1]) (hs := [.p, .p]) (rest := []) (ks := [0, 4, 13]) (env' := [(0, .pointer (some ⟨b_2, 0, none⟩)), (4, .int .i64 (g_1.entries.length : Int)), (13, .bool (decide ((g_1.entries.length : Int) > 0)))]) (H' := [⟨1, b_2, [.int .u64 g_1.snap.Index, .int .u64 g_1.snap.Term, .int .u64 g_1.snap.Config, .string (bs g_1.snap.Data), .slice A_3 g_1.entries.length c_4]⟩]) (ps := []) (by kernel_rfl) trivial ?_
  refine GoO.regionEnd ?_
  refine GoO.ite' c22_15e (by kernel_rfl) (fun h5 => ?_) (fun h5 => ?_)
  · refine GoO.seq' c22_16e ?_
    refine GoO.draw c22_17e (by kernel_rfl) [19] [⟨1, b_2, [.int .u64 g_1.snap.Index, .int .u64 g_1.snap.Term, .int .u64 g_1.snap.Config, .string (bs g_1.snap.Data), .slice A_3 g_1.entries.length c_4]⟩] [Ow 2 kT_api_Entry A_3 c_4 g_1.entries] (n := 20) (by kernel_rfl) ?_
    simp only [List.replicate]
    refine GoF.take [0, 1, 2, 3, 4, 5, 9, 10, 11, 12, 13, 14] [.p, .p, .p, .b 0, .p, .p, .p, .p, .p, .b 0, .p, .p] (ks := [17, 19, 26, 28]) (fu := 8) (li := [true, true, true, true, true, true, false, false, false, true, true, true, true, true, true, false, false, false, false, false]) (env' := [(17, .slice A_3 g_1.entries.length c_4), (19, .int .i64 (wi64 ((g_1.entries.length : Int) - 1))), (26, .slice A_3 g_1.entries.length c_4), (28, .int .i64 (wi64 ((g_1.entries.length : Int) - 1)))]) (ps := [b_2 = b_2, b_2 = b_2]) (hk := [0]) (bk := [0]) (by kernel_rfl) (And.intro rfl (And.intro rfl trivial)) rfl rfl ?_
    refine GoF.guard (fun h6 => ?_)
    refine GoF.idx (i := 6) (hk := [0]) (bk := [0]) (kk := .i64) (e := 40) (K := kT_api_Entry) (A := A_3) (c := c_4) (xs := g_1.entries) (iv := wi64 ((g_1.entries.length : Int) - 1)) (j := 0) (by kernel_rfl) rfl rfl rfl (by kernel_rfl) (by kernel_rfl) (by kernel_rfl) (by kernel_rfl) rfl Reads.own rfl h6.1 h6.2 (by decide) rfl ?_
    refine GoF.fldE (i := 7) (hk := [0]) (bk := [0]) (K := kT_api_Entry) (A := A_3) (c := c_4) (xs := g_1.entries) (iN := (wi64 ((g_1.entries.length : Int) - 1)).toNat) (off := 0) (n := 1) (j := 0) (by kernel_rfl) rfl rfl rfl (by kernel_rfl) (by kernel_rfl) rfl Reads.own (by first | exact idx_lt h6.1 h6.2 | (simp only [List.length_set]; exact idx_lt h6.1 h6.2)) (by decide) rfl ?_
    refine GoF.ldE (i := 8) (hk := [0]) (bk := [0]) (K := kT_api_Entry) (A := A_3) (c := c_4) (xs := g_1.entries) (iN := (wi64 ((g_1.entries.length : Int) - 1)).toNat) (off := 1) (j := 0) (v := .int .u64 ((rdL g_1.entries (wi64 ((g_1.entries.length : Int) - 1))).Index)) (by kernel_rfl) rfl rfl rfl (hK := rfl) (by kernel_rfl) rfl Reads.own (by first | exact idx_lt h6.1 h6.2 | (simp only [List.length_set]; exact idx_lt h6.1 h6.2)) (by decide) (by kernel_rfl) rfl ?_
    refine GoF.take [18] [.p] (ks := [2, 26, 28]) (fu := 4) (li := [true, true, true, true, true, true, true, true, true, true, true, true, true, true, true, false, false, false, true, false]) (env' := [(2, .int .u64 ((rdL g_1.entries (wi64 ((g_1.entries.length : Int) - 1))).Index)), (26, .slice A_3 g_1.entries.length c_4), (28, .int .i64 (wi64 ((g_1.entries.length : Int) - 1)))]) (ps := []) (hk := [0]) (bk := [0]) (by kernel_rfl) trivial rfl rfl ?_
    refine GoF.guard (fun h7 => ?_)
    refine GoF.idx (i := 15) (hk := [0]) (bk := [0]) (kk := .i64) (e := 40) (K := kT_api_Entry) (A := A_3) (c := c_4) (xs := g_1.entries) (iv := wi64 ((g_1.entries.length : Int) - 1)) (j := 0) (by kernel_rfl) rfl rfl rfl (by kernel_rfl) (by kernel_rfl) (by kernel_rfl) (by kernel_rfl) rfl Reads.own rfl h7.1 h7.2 (by decide) rfl ?_
    refine GoF.fldE (i := 16) (hk := [0]) (bk := [0]) (K := kT_api_Entry) (A := A_3) (c := c_4) (xs := g_1.entries) (iN := (wi64 ((g_1.entries.length : Int) - 1)).toNat) (off := 0) (n := 0) (j := 0) (by kernel_rfl) rfl rfl rfl (by kernel_rfl) (by kernel_rfl) rfl Reads.own (by first | exact idx_lt h7.1 h7.2 | (simp only [List.length_set]; exact idx_lt h7.1 h7.2)) (by decide) rfl ?_
    refine GoF.ldE (i := 17) (hk := [0]) (bk := [0]) (K := kT_api_Entry) (A := A_3) (c := c_4) (xs := g_1.entries) (iN := (wi64 ((g_1.entries.length : Int) - 1)).toNat) (off := 0) (j := 0) (v := .int .u64 ((rdL g_1.entries (wi64 ((g_1.entries.length : Int) - 1))).Term)) (by kernel_rfl) rfl rfl rfl (hK := rfl) (by kernel_rfl) rfl Reads.own (by first | exact idx_lt h7.1 h7.2 | (simp only [List.length_set]; exact idx_lt h7.1 h7.2)) (by decide) (by kernel_rfl) rfl ?_
    refine GoF.fin1 (i := 19) (hint := .p) (ps := []) (hk := []) (bk := []) (by kernel_rfl) rfl trivial (.inl rfl) ?_
    refine GoF.done (by kernel_rfl) ?_
    exact GoO.ret' (h := c22_18e) (hs := []) (ps := []) (hk := []) (bk := []) Try.func22 () (by kernel_rfl) trivial (by kernel_rfl) (by kernel_rfl)
  · refine GoO.skip' c22_19e ?_
    refine GoO.seq' c22_20e ?_
    refine GoO.draw c22_21e (by kernel_rfl) [11] [⟨1, b_2, [.int .u64 g_1.snap.Index, .int .u64 g_1.snap.Term, .int .u64 g_1.snap.Config, .string (bs g_1.snap.Data), .slice A_3 g_1.entries.length c_4]⟩] [] (n := 12) (by kernel_rfl) ?_
    simp only [List.replicate]
    refine GoF.take [0, 1, 2, 3, 4, 5, 6, 7, 8, 9, 10] [.p, .p, .p, .p, .b 0, .p, .p, .p, .p, .b 0, .p] (ks := [2, 41]) (fu := 1) (li := [true, true, true, true, true, true, true, true, true, true, true, false]) (env' := [(2, .int .u64 g_1.snap.Index), (41, .int .u64 g_1.snap.Term)]) (ps := [b_2 = b_2, b_2 = b_2]) (hk := [0]) (bk := []) (by kernel_rfl) (And.intro rfl (And.intro rfl trivial)) rfl rfl ?_
    refine GoF.fin1 (i := 11) (hint := .p) (ps := []) (hk := []) (bk := []) (by kernel_rfl) rfl trivial (.inl rfl) ?_
    refine GoF.done (by kernel_rfl) ?_
    exact GoO.ret' (h := c22_22e) (hs := []) (ps := []) (hk := []) (bk := []) Try.func22 () (by kernel_rfl) trivial (by kernel_rfl) (by kernel_rfl)

/-! tontine/pack.From -/
noncomputable def c80_0 : Code := bodyOf Try.f80
noncomputable def c80_1 : Code := cdL c80_0
noncomputable def c80_2 : Code := cdR c80_0
noncomputable def c80_3 : Code := cdL c80_2
noncomputable def c80_4 : Code := cdR c80_2
noncomputable def r80_1 : Array Oper := cdO c80_1
noncomputable def r80_3 : Array Oper := cdO c80_3
theorem c80_0e : c80_0 = .seq c80_1 c80_2 := by kernel_rfl
theorem c80_1e : c80_1 = .region 0 r80_1 false := by kernel_rfl
theorem c80_2e : c80_2 = .seq c80_3 c80_4 := by kernel_rfl
theorem c80_3e : c80_3 = .region 1 r80_3 false := by kernel_rfl
theorem c80_4e : c80_4 = .ret := by kernel_rfl
noncomputable def pack_From.R : Pst T_pack_Reader where
  ε := Nat
  v := fun r x => .pointer (some ⟨x, 0, none⟩)
  H := fun r x => [⟨1, x, [.string (bs r.s), .bool r.bad]⟩]
  B := fun r x => []
noncomputable def pack_From.cx (w0 : World) (S0 : Fam) : Cx T_pack_Reader := ⟨Try.prog, 80, Try.f80, 6, w0, S0, [], 0, pack_From.R⟩
theorem pack_From_ok (n : Nat) (s_1 : (List UInt8)) :
    Meets Try.prog 80 [.string (bs s_1)] 0 [] [] [] (pack_From.f n s_1) (pack_From.R) := by
  refine Meets.of (c := c80_0) (n := 6) Try.func80 (by kernel_rfl) (by kernel_rfl) (by kernel_rfl) fun w0 S0 => ?_
  unfold pack_From.f
  show GoO (pack_From.cx w0 S0) [(0, .string (bs s_1))] [] [] [.code c80_0] _
  refine GoO.seq' c80_0e ?_
  refine GoO.region' (is := [0]) c80_1e (by kernel_rfl) ?_
  refine GoO.exec (is := [0]) (hs := [.p]) (rest := []) (ks := [0]) (env' := [(0, .string (bs s_1))]) (H' := []) (ps := []) (by kernel_rfl) trivial ?_
  refine GoO.regionEnd ?_
  refine GoO.seq' c80_2e ?_
  refine GoO.region' (is := [0, 1, 2, 3]) c80_3e (by kernel_rfl) ?_
  refine GoO.exec (is := [0, 1]) (hs := [.p, .p]) (rest := [2, 3]) (ks := [4]) (env' := [(4, .agg ⟨[.string (bs s_1), .bool false]⟩)]) (H' := []) (ps := []) (by kernel_rfl) trivial ?_
  refine OpTo.go (GoO.new rfl 40 (cs := [.string (bs s_1), .bool false]) (by kernel_rfl) _ (fun _ => rfl) (fun b_2 => ?_))
  refine GoO.exec (is := [3]) (hs := [.p]) (rest := []) (ks := [2]) (env' := [(2, .pointer (some ⟨b_2, 0, none⟩))]) (H' := [⟨40, b_2, [.string (bs s_1), .bool false]⟩]) (ps := []) (by kernel_rfl) trivial ?_
  refine GoO.regionEnd ?_
  refine GoO.retagB (t := 40) (u := 1) (j := 0) (hk := []) (bk := []) rfl rfl rfl rfl rfl rfl (by kernel_rfl) (by kernel_rfl) ?_
  exact GoO.ret' (h := c80_4e) (hs := []) (ps := []) (hk := [0]) (bk := []) Try.func80 b_2 (by kernel_rfl) trivial (by kernel_rfl) (by kernel_rfl)

/-! (*tontine/pack.Reader).fail -/
noncomputable def c96_0 : Code := bodyOf Try.f96
noncomputable def c96_1 : Code := cdL c96_0
noncomputable def c96_2 : Code := cdR c96_0
noncomputable def c96_3 : Code := cdL c96_2
noncomputable def c96_4 : Code := cdL c96_3
noncomputable def c96_5 : Code := cdR c96_3
noncomputable def c96_6 : Code := cdL c96_5
noncomputable def c96_8 : Code := cdR c96_2
noncomputable def c96_9 : Code := cdL c96_8
noncomputable def c96_10 : Code := cdR c96_8
noncomputable def c96_7 : Code := cdR c96_5
noncomputable def r96_1 : Array Oper := cdO c96_1
noncomputable def r96_4 : Array Oper := cdO c96_4
noncomputable def r96_6 : Array Oper := cdO c96_6
noncomputable def r96_9 : Array Oper := cdO c96_9
theorem c96_0e : c96_0 = .seq c96_1 c96_2 := by kernel_rfl
theorem c96_1e : c96_1 = .region 0 r96_1 false := by kernel_rfl
theorem c96_2e : c96_2 = .seq c96_3 c96_8 := by kernel_rfl
theorem c96_3e : c96_3 = .seq c96_4 c96_5 := by kernel_rfl
theorem c96_4e : c96_4 = .region 1 r96_4 false := by kernel_rfl
theorem c96_5e : c96_5 = .cond (cdC c96_5) c96_6 c96_7 := by kernel_rfl
theorem c96_6e : c96_6 = .region 2 r96_6 false := by kernel_rfl
theorem c96_8e : c96_8 = .seq c96_9 c96_10 := by kernel_rfl
theorem c96_9e : c96_9 = .region 3 r96_9 false := by kernel_rfl
theorem c96_10e : c96_10 = .ret := by kernel_rfl
theorem c96_7e : c96_7 = .skip := by kernel_rfl
noncomputable def pack_Reader_fail.R (b_2 : Nat) : Pst (Int × T_pack_Reader) where
  ε := Unit
  v := fun r x => .int .u64 r.1
  H := fun r x => [⟨1, b_2, [.string (bs r.2.s), .bool r.2.bad]⟩]
  B := fun r x => []
noncomputable def pack_Reader_fail.cx (b_2 : Nat) (w0 : World) (S0 : Fam) : Cx (Int × T_pack_Reader) := ⟨Try.prog, 96, Try.f96, 11, w0, S0, [1], 1, pack_Reader_fail.R b_2⟩
theorem pack_Reader_fail_ok (n : Nat) (r_1 : T_pack_Reader) (b_2 : Nat) :
    Meets Try.prog 96 [.pointer (some ⟨b_2, 0, none⟩)] 1 [1] [⟨1, b_2, [.string (bs r_1.s), .bool r_1.bad]⟩] [] (pack_Reader_fail.f n r_1) (pack_Reader_fail.R b_2) := by
  refine Meets.of (c := c96_0) (n := 11) Try.func96 (by kernel_rfl) (by kernel_rfl) (by kernel_rfl) fun w0 S0 => ?_
  unfold pack_Reader_fail.f
  show GoO (pack_Reader_fail.cx b_2 w0 S0) [(0, .pointer (some ⟨b_2, 0, none⟩))] [⟨1, b_2, [.string (bs r_1.s), .bool r_1.bad]⟩] [] [.code c96_0] _
  refine GoO.seq' c96_0e ?_
  refine GoO.region' (is := [0]) c96_1e (by kernel_rfl) ?_
  refine GoO.exec (is := [0]) (hs := [.p]) (rest := []) (ks := [0]) (env' := [(0, .pointer (some ⟨b_2, 0, none⟩))]) (H' := [⟨1, b_2, [.string (bs r_1.s), .bool r_1.bad]⟩]) (ps := []) (by kernel_rfl) trivial ?_
  refine GoO.regionEnd ?_
  refine GoO.seq' c96_2e ?_
  refine GoO.seq' c96_3e ?_
  refine GoO.region' (is := [0, 1]) c96_4e (by kernel_rfl) ?_
  refine GoO.exec (is := [0, 1]) (hs := [.p, .p]) (rest := []) (ks := [0, 4]) (env' := [(0, .pointer (some ⟨b_2, 0, none⟩)), (4, .bool true)]) (H' := [⟨1, b_2, [.string (bs r_1.s), .bool r_1.bad]⟩]) (ps := []) (by kernel_rfl) trivial ?_
  refine GoO.regionEnd ?_
  refine GoO.condT c96_5e (by kernel_rfl) ?_
  refine GoO.region' (is := [0, 1, 2, 3, 4, 5, 6, 7]) c96_6e (by kernel_rfl) ?_
  refine GoO.exec (is := [0, 1, 2, 3, 4, 5, 6, 7]) (hs := [.p, .p, .p, .p, .b 0, .p, .p, .b 0]) (rest := []) (ks := []) (env' := []) (H' := [⟨1, b_2, [.string (bs []), .bool true]⟩]) (ps := [b_2 = b_2, b_2 = b_2]) (by kernel_rfl) (And.intro rfl (And.intro rfl trivial)) ?_
  refine GoO.regionEnd ?_
  refine GoO.seq' c96_8e ?_
  refine GoO.region' (is := [0]) c96_9e (by kernel_rfl) ?_
  refine GoO.exec (is := [0]) (hs := [.p]) (rest := []) (ks := [2]) (env' := [(2, .int .u64 0)]) (H' := [⟨1, b_2, [.string (bs []), .bool true]⟩]) (ps := []) (by kernel_rfl) trivial ?_
  refine GoO.regionEnd ?_
  exact GoO.ret' (h := c96_10e) (hs := []) (ps := []) (hk := [0]) (bk := []) Try.func96 () (by kernel_rfl) trivial (by kernel_rfl) (by kernel_rfl)

/-! (*tontine/pack.Reader).Num -/
noncomputable def c81_0 : Code := bodyOf Try.f81
noncomputable def c81_1 : Code := cdL c81_0
noncomputable def c81_2 : Code := cdR c81_0
noncomputable def c81_3 : Code := cdL c81_2
noncomputable def c81_4 : Code := cdL c81_3
noncomputable def c81_5 : Code := cdR c81_3
noncomputable def c81_6 : Code := cdL c81_5
noncomputable def c81_7 : Code := cdL c81_6
noncomputable def c81_8 : Code := cdR c81_6
noncomputable def c81_9 : Code := cdR c81_5
noncomputable def c81_10 : Code := cdR c81_2
noncomputable def c81_11 : Code := cdL c81_10
noncomputable def c81_12 : Code := cdR c81_10
noncomputable def c81_13 : Code := cdL c81_12
noncomputable def c81_14 : Code := cdL c81_13
noncomputable def c81_15 : Code := cdR c81_13
noncomputable def c81_16 : Code := cdL c81_15
noncomputable def c81_17 : Code := cdL c81_16
noncomputable def c81_18 : Code := cdR c81_16
noncomputable def c81_19 : Code := cdR c81_15
noncomputable def c81_20 : Code := cdR c81_12
noncomputable def c81_21 : Code := cdL c81_20
noncomputable def c81_22 : Code := cdR c81_20
noncomputable def c81_23 : Code := cdL c81_22
noncomputable def c81_24 : Code := cdL c81_23
noncomputable def c81_25 : Code := cdR c81_23
noncomputable def c81_26 : Code := cdL c81_25
noncomputable def c81_27 : Code := cdL c81_26
noncomputable def c81_28 : Code := cdL c81_27
noncomputable def c81_29 : Code := cdL c81_28
noncomputable def c81_30 : Code := cdR c81_28
noncomputable def c81_31 : Code := cdL c81_30
noncomputable def c81_32 : Code := cdR c81_30
noncomputable def c81_33 : Code := cdR c81_27
noncomputable def c81_34 : Code := cdL c81_33
noncomputable def c81_35 : Code := cdL c81_34
noncomputable def c81_36 : Code := cdR c81_33
noncomputable def c81_37 : Code := cdR c81_22
noncomputable def c81_38 : Code := cdL c81_37
noncomputable def c81_39 : Code := cdR c81_37
noncomputable def c81_40 : Code := cdL c81_39
noncomputable def c81_41 : Code := cdR c81_39
noncomputable def r81_1 : Array Oper := cdO c81_1
noncomputable def r81_4 : Array Oper := cdO c81_4
noncomputable def r81_7 : Array Oper := cdO c81_7
noncomputable def r81_11 : Array Oper := cdO c81_11
noncomputable def r81_14 : Array Oper := cdO c81_14
noncomputable def r81_17 : Array Oper := cdO c81_17
noncomputable def r81_21 : Array Oper := cdO c81_21
noncomputable def r81_24 : Array Oper := cdO c81_24
noncomputable def r81_29 : Array Oper := cdO c81_29
noncomputable def r81_35 : Array Oper := cdO c81_35
noncomputable def r81_36 : Array Oper := cdO c81_36
noncomputable def r81_38 : Array Oper := cdO c81_38
noncomputable def r81_40 : Array Oper := cdO c81_40
theorem c81_0e : c81_0 = .seq c81_1 c81_2 := by kernel_rfl
theorem c81_1e : c81_1 = .region 0 r81_1 false := by kernel_rfl
theorem c81_2e : c81_2 = .seq c81_3 c81_10 := by kernel_rfl
theorem c81_3e : c81_3 = .seq c81_4 c81_5 := by kernel_rfl
theorem c81_4e : c81_4 = .region 1 r81_4 false := by kernel_rfl
theorem c81_5e : c81_5 = .cond (cdC c81_5) c81_6 c81_9 := by kernel_rfl
theorem c81_6e : c81_6 = .seq c81_7 c81_8 := by kernel_rfl
theorem c81_7e : c81_7 = .region 2 r81_7 false := by kernel_rfl
theorem c81_8e : c81_8 = .ret := by kernel_rfl
theorem c81_9e : c81_9 = .skip := by kernel_rfl
theorem c81_10e : c81_10 = .seq c81_11 c81_12 := by kernel_rfl
theorem c81_11e : c81_11 = .region 3 r81_11 false := by kernel_rfl
theorem c81_12e : c81_12 = .seq c81_13 c81_20 := by kernel_rfl
theorem c81_13e : c81_13 = .seq c81_14 c81_15 := by kernel_rfl
theorem c81_14e : c81_14 = .region 4 r81_14 false := by kernel_rfl
theorem c81_15e : c81_15 = .cond (cdC c81_15) c81_16 c81_19 := by kernel_rfl
theorem c81_16e : c81_16 = .seq c81_17 c81_18 := by kernel_rfl
theorem c81_17e : c81_17 = .region 5 r81_17 false := by kernel_rfl
theorem c81_18e : c81_18 = .ret := by kernel_rfl
theorem c81_19e : c81_19 = .skip := by kernel_rfl
theorem c81_20e : c81_20 = .seq c81_21 c81_22 := by kernel_rfl
theorem c81_21e : c81_21 = .region 6 r81_21 false := by kernel_rfl
theorem c81_22e : c81_22 = .seq c81_23 c81_37 := by kernel_rfl
theorem c81_23e : c81_23 = .seq c81_24 c81_25 := by kernel_rfl
theorem c81_24e : c81_24 = .region 7 r81_24 false := by kernel_rfl
theorem c81_25e : c81_25 = .block 0 c81_26 := by kernel_rfl
theorem c81_26e : c81_26 = .loop c81_27 := by kernel_rfl
theorem c81_27e : c81_27 = .seq c81_28 c81_33 := by kernel_rfl
theorem c81_28e : c81_28 = .seq c81_29 c81_30 := by kernel_rfl
theorem c81_29e : c81_29 = .region 8 r81_29 false := by kernel_rfl
theorem c81_30e : c81_30 = .cond (cdC c81_30) c81_31 c81_32 := by kernel_rfl
theorem c81_31e : c81_31 = .skip := by kernel_rfl
theorem c81_32e : c81_32 = .exit 0 := by kernel_rfl
theorem c81_33e : c81_33 = .seq c81_34 c81_36 := by kernel_rfl
theorem c81_34e : c81_34 = .block 1 c81_35 := by kernel_rfl
theorem c81_35e : c81_35 = .region 10 r81_35 false := by kernel_rfl
theorem c81_36e : c81_36 = .region 9 r81_36 false := by kernel_rfl
theorem c81_37e : c81_37 = .seq c81_38 c81_39 := by kernel_rfl
theorem c81_38e : c81_38 = .region 11 r81_38 false := by kernel_rfl
theorem c81_39e : c81_39 = .seq c81_40 c81_41 := by kernel_rfl
theorem c81_40e : c81_40 = .region 12 r81_40 false := by kernel_rfl
theorem c81_41e : c81_41 = .ret := by kernel_rfl
noncomputable def pack_Reader_Num.R (b_2 : Nat) : Pst (Int × T_pack_Reader) where
  ε := Unit
  v := fun r x => .int .u64 r.1
  H := fun r x => [⟨1, b_2, [.string (bs r.2.s), .bool r.2.bad]⟩]
  B := fun r x => []
noncomputable def pack_Reader_Num.cx (b_2 : Nat) (w0 : World) (S0 : Fam) : Cx (Int × T_pack_Reader) := ⟨Try.prog, 81, Try.f81, 75, w0, S0, [1], 1, pack_Reader_Num.R b_2⟩
theorem pack_Reader_Num_l0_ok (n : Nat) (r_1 : T_pack_Reader) (b_2 : Nat) (w0 : World) (S0 : Fam) :
    ∀ (k : Nat) (x_15 : Int) (i_16 : Int), GoO (pack_Reader_Num.cx b_2 w0 S0) [(0, .pointer (some ⟨b_2, 0, none⟩)), (3, .int .i64 (wi64 ((rdB r_1.s 0).toNat : Int))), (4, .int .u64 x_15), (5, .int .i64 i_16)] [⟨1, b_2, [.string (bs r_1.s), .bool r_1.bad]⟩] [] [.code c81_27, .inLoop c81_27, .inBlock 0, .code c81_37] (pack_Reader_Num.l0 n r_1 k x_15 i_16) := by
  intro k
  induction k with
  | zero => intros; rw [pack_Reader_Num.l0.eq_1]; exact GoO.stop
  | succ k ih0 =>
    intro x_15 i_16
    rw [pack_Reader_Num.l0.eq_2]
    refine GoO.seq' c81_27e ?_
    refine GoO.seq' c81_28e ?_
    refine GoO.region' (is := [0, 1, 2]) c81_29e (by kernel_rfl) ?_
    refine GoO.exec (is := [0, 1, 2]) (hs := [.p, .p, .p]) (rest := []) (ks := [0, 3, 4, 5, 51]) (env' := [(0, .pointer (some ⟨b_2, 0, none⟩)), (3, .int .i64 (wi64 ((rdB r_1.s 0).toNat : Int))), (4, .int .u64 x_15), (5, .int .i64 i_16), (51, .bool (decide (i_16 ≤ (wi64 ((rdB r_1.s 0).toNat : Int)))))]) (H' := [⟨1, b_2, [.string (bs r_1.s), .bool r_1.bad]⟩]) (ps := []) (by kernel_rfl) trivial ?_
    refine GoO.regionEnd ?_
    refine GoO.ite' c81_30e (by kernel_rfl) (fun h17 => ?_) (fun h17 => ?_)
    · refine GoO.skip' c81_31e ?_
      refine GoO.seq' c81_33e ?_
      refine GoO.block' c81_34e ?_
      refine GoO.region' (is := [0, 1, 2, 3, 4, 5, 6, 7, 8, 9, 10]) c81_35e (by kernel_rfl) ?_
      refine GoO.guard (fun h18 => ?_)
      refine GoO.exec (is := [0, 1, 2, 3, 4, 5, 6, 7, 8, 9, 10]) (hs := [.p, .p, .p, .p, .p, .b 0, .p, .p, .p, .p, .p]) (rest := []) (ks := [0, 3, 4, 5]) (env' := [(0, .pointer (some ⟨b_2, 0, none⟩)), (3, .int .i64 (wi64 ((rdB r_1.s 0).toNat : Int))), (4, .int .u64 (bOr .u64 (shL .u64 x_15 8) (wu64 ((rdB r_1.s i_16).toNat : Int)))), (5, .int .i64 i_16)]) (H' := [⟨1, b_2, [.string (bs r_1.s), .bool r_1.bad]⟩]) (ps := [(0 : Int) ≤ 8, b_2 = b_2, (0 : Int) ≤ i_16, i_16 < (r_1.s.length : Int)]) (by kernel_rfl) (And.intro (by decide) (And.intro rfl (And.intro h18.1 (And.intro h18.2 trivial)))) ?_
      refine GoO.regionEnd ?_
      refine GoO.inBlock ?_
      refine GoO.region' (is := [0, 1, 2]) c81_36e (by kernel_rfl) ?_
      refine GoO.exec (is := [0, 1, 2]) (hs := [.p, .p, .p]) (rest := []) (ks := [0, 3, 4, 5]) (env' := [(0, .pointer (some ⟨b_2, 0, none⟩)), (3, .int .i64 (wi64 ((rdB r_1.s 0).toNat : Int))), (4, .int .u64 (bOr .u64 (shL .u64 x_15 8) (wu64 ((rdB r_1.s i_16).toNat : Int)))), (5, .int .i64 (wi64 (i_16 + 1)))]) (H' := [⟨1, b_2, [.string (bs r_1.s), .bool r_1.bad]⟩]) (ps := []) (by kernel_rfl) trivial ?_
      refine GoO.regionEnd ?_
      refine GoO.inLoop ?_
      exact GoO.sub (ks := [0, 3, 4, 5]) (hk := [0]) (bk := []) (by kernel_rfl) (by kernel_rfl) (by kernel_rfl) (ih0 (bOr .u64 (shL .u64 x_15 8) (wu64 ((rdB r_1.s i_16).toNat : Int))) (wi64 (i_16 + 1)))
    · refine GoO.exit' c81_32e rfl ?_
      refine GoO.seq' c81_37e ?_
      refine GoO.region' (is := [0, 1, 2, 3, 4, 5, 6, 7, 8, 9, 10]) c81_38e (by kernel_rfl) ?_
      refine GoO.guard (fun h19 => ?_)
      refine GoO.exec (is := [0, 1, 2, 3, 4, 5, 6, 7, 8, 9, 10]) (hs := [.p, .p, .p, .p, .b 0, .p, .p, .p, .p, .p, .b 0]) (rest := []) (ks := [4]) (env' := [(4, .int .u64 x_15)]) (H' := [⟨1, b_2, [.string (bs (r_1.s.drop (wi64 ((wi64 ((rdB r_1.s 0).toNat : Int)) + 1)).toNat)), .bool r_1.bad]⟩]) (ps := [b_2 = b_2, (0 : Int) ≤ (wi64 ((wi64 ((rdB r_1.s 0).toNat : Int)) + 1)), (wi64 ((wi64 ((rdB r_1.s 0).toNat : Int)) + 1)) ≤ (r_1.s.length : Int), b_2 = b_2]) (by kernel_rfl) (And.intro rfl (And.intro h19.1 (And.intro h19.2 (And.intro rfl trivial)))) ?_
      refine GoO.regionEnd ?_
      refine GoO.seq' c81_39e ?_
      refine GoO.region' (is := [0, 1]) c81_40e (by kernel_rfl) ?_
      refine GoO.exec (is := [0, 1]) (hs := [.p, .p]) (rest := []) (ks := [2]) (env' := [(2, .int .u64 x_15)]) (H' := [⟨1, b_2, [.string (bs (r_1.s.drop (wi64 ((wi64 ((rdB r_1.s 0).toNat : Int)) + 1)).toNat)), .bool r_1.bad]⟩]) (ps := []) (by kernel_rfl) trivial ?_
      refine GoO.regionEnd ?_
      exact GoO.ret' (h := c81_41e) (hs := []) (ps := []) (hk := [0]) (bk := []) Try.func81 () (by kernel_rfl) trivial (by kernel_rfl) (by kernel_rfl)
theorem pack_Reader_Num_j0_ok (n : Nat) (r_1 : T_pack_Reader) (b_2 : Nat) (w0 : World) (S0 : Fam) (b_11 : Bool) :
    GoO (pack_Reader_Num.cx b_2 w0 S0) [(0, .pointer (some ⟨b_2, 0, none⟩)), (3, .int .i64 (wi64 ((rdB r_1.s 0).toNat : Int))), (46, .bool b_11)] [⟨1, b_2, [.string (bs r_1.s), .bool r_1.bad]⟩] [] [.code c81_15, .code c81_20] (pack_Reader_Num.j0 n r_1 b_11) := by
  unfold pack_Reader_Num.j0
  refine GoO.ite' c81_15e (by kernel_rfl) (fun h12 => ?_) (fun h12 => ?_)
  · refine GoO.seq' c81_16e ?_
    refine GoO.region' (is := [0, 1, 2]) c81_17e (by kernel_rfl) ?_
    refine GoO.exec (is := [0]) (hs := [.p]) (rest := [1, 2]) (ks := [47]) (env' := [(47, .pointer (some ⟨b_2, 0, none⟩))]) (H' := [⟨1, b_2, [.string (bs r_1.s), .bool r_1.bad]⟩]) (ps := []) (by kernel_rfl) trivial ?_
    refine OpTo.go (GoO.call rfl (by kernel_rfl) (by kernel_rfl) (pack_Reader_fail_ok n r_1 b_2) [[0], [1]] [(1, 1)] [(1, 0)] [] (hks := []) (bks := []) (by kernel_rfl) (by kernel_rfl) (by kernel_rfl) (.inl rfl) rfl rfl (by kernel_rfl) (by kernel_rfl) _ (fun _ _ => rfl) _ _ (fun _ _ => rfl) (fun _ _ => rfl) (fun _ _ => by kernel_rfl) (fun _ _ => by kernel_rfl) (fun r_13 x_14 => ?_))
    refine GoO.shape (env' := [(47, .pointer (some ⟨b_2, 0, none⟩)), (48, .int .u64 r_13.1)]) (H' := [⟨1, b_2, [.string (bs r_13.2.s), .bool r_13.2.bad]⟩]) (B' := []) (ks := [47, 48]) (by kernel_rfl) (by kernel_rfl) (by kernel_rfl) ?_
    refine GoO.exec (is := [2]) (hs := [.p]) (rest := []) (ks := [2]) (env' := [(2, .int .u64 r_13.1)]) (H' := [⟨1, b_2, [.string (bs r_13.2.s), .bool r_13.2.bad]⟩]) (ps := []) (by kernel_rfl) trivial ?_
    refine GoO.regionEnd ?_
    exact GoO.ret' (h := c81_18e) (hs := []) (ps := []) (hk := [0]) (bk := []) Try.func81 () (by kernel_rfl) trivial (by kernel_rfl) (by kernel_rfl)
  · refine GoO.skip' c81_19e ?_
    refine GoO.seq' c81_20e ?_
    refine GoO.region' (is := [0]) c81_21e (by kernel_rfl) ?_
    refine GoO.exec (is := [0]) (hs := [.p]) (rest := []) (ks := [0, 3, 4]) (env' := [(0, .pointer (some ⟨b_2, 0, none⟩)), (3, .int .i64 (wi64 ((rdB r_1.s 0).toNat : Int))), (4, .int .u64 0)]) (H' := [⟨1, b_2, [.string (bs r_1.s), .bool r_1.bad]⟩]) (ps := []) (by kernel_rfl) trivial ?_
    refine GoO.regionEnd ?_
    refine GoO.seq' c81_22e ?_
    refine GoO.seq' c81_23e ?_
    refine GoO.region' (is := [0]) c81_24e (by kernel_rfl) ?_
    refine GoO.exec (is := [0]) (hs := [.p]) (rest := []) (ks := [0, 3, 4, 5]) (env' := [(0, .pointer (some ⟨b_2, 0, none⟩)), (3, .int .i64 (wi64 ((rdB r_1.s 0).toNat : Int))), (4, .int .u64 0), (5, .int .i64 1)]) (H' := [⟨1, b_2, [.string (bs r_1.s), .bool r_1.bad]⟩]) (ps := []) (by kernel_rfl) trivial ?_
    refine GoO.regionEnd ?_
    refine GoO.block' c81_25e ?_
    refine GoO.loop' c81_26e ?_
    exact GoO.sub (ks := [0, 3, 4, 5]) (hk := [0]) (bk := []) (by kernel_rfl) (by kernel_rfl) (by kernel_rfl) (pack_Reader_Num_l0_ok n r_1 b_2 w0 S0 n 0 1)
theorem pack_Reader_Num_ok (n : Nat) (r_1 : T_pack_Reader) (b_2 : Nat) :
    Meets Try.prog 81 [.pointer (some ⟨b_2, 0, none⟩)] 1 [1] [⟨1, b_2, [.string (bs r_1.s), .bool r_1.bad]⟩] [] (pack_Reader_Num.f n r_1) (pack_Reader_Num.R b_2) := by
  refine Meets.of (c := c81_0) (n := 75) Try.func81 (by kernel_rfl) (by kernel_rfl) (by kernel_rfl) fun w0 S0 => ?_
  unfold pack_Reader_Num.f
  show GoO (pack_Reader_Num.cx b_2 w0 S0) [(0, .pointer (some ⟨b_2, 0, none⟩))] [⟨1, b_2, [.string (bs r_1.s), .bool r_1.bad]⟩] [] [.code c81_0] _
  refine GoO.seq' c81_0e ?_
  refine GoO.region' (is := [0]) c81_1e (by kernel_rfl) ?_
  refine GoO.exec (is := [0]) (hs := [.p]) (rest := []) (ks := [0]) (env' := [(0, .pointer (some ⟨b_2, 0, none⟩))]) (H' := [⟨1, b_2, [.string (bs r_1.s), .bool r_1.bad]⟩]) (ps := []) (by kernel_rfl) trivial ?_
  refine GoO.regionEnd ?_
  refine GoO.seq' c81_2e ?_
  refine GoO.seq' c81_3e ?_
  refine GoO.region' (is := [0, 1, 2, 3, 4, 5, 6, 7, 8]) c81_4e (by kernel_rfl) ?_
  refine GoO.exec (is := [0, 1, 2, 3, 4, 5, 6, 7, 8]) (hs := [.p, .p, .p, .p, .p, .p, .b 0, .p, .p]) (rest := []) (ks := [0, 14]) (env' := [(0, .pointer (some ⟨b_2, 0, none⟩)), (14, .bool (r_1.s == ([] : List UInt8)))]) (H' := [⟨1, b_2, [.string (bs r_1.s), .bool r_1.bad]⟩]) (ps := [b_2 = b_2]) (by kernel_rfl) (And.intro rfl trivial) ?_
  refine GoO.regionEnd ?_
  refine GoO.ite' c81_5e (by kernel_rfl) (fun h3 => ?_) (fun h3 => ?_)
  · refine GoO.seq' c81_6e ?_
    refine GoO.region' (is := [0, 1, 2]) c81_7e (by kernel_rfl) ?_
    refine GoO.exec (is := [0]) (hs := [.p]) (rest := [1, 2]) (ks := [15]) (env' := [(15, .pointer (some ⟨b_2, 0, none⟩))]) (H' := [⟨1, b_2, [.string (bs r_1.s), .bool r_1.bad]⟩]) (ps := []) (by kernel_rfl) trivial ?_
    refine OpTo.go (GoO.call rfl (by kernel_rfl) (by kernel_rfl) (pack_Reader_fail_ok n r_1 b_2) [[0], [1]] [(1, 1)] [(1, 0)] [] (hks := []) (bks := []) (by kernel_rfl) (by kernel_rfl) (by kernel_rfl) (.inl rfl) rfl rfl (by kernel_rfl) (by kernel_rfl) _ (fun _ _ => rfl) _ _ (fun _ _ => rfl) (fun _ _ => rfl) (fun _ _ => by kernel_rfl) (fun _ _ => by kernel_rfl) (fun r_4 x_5 => ?_))
    refine GoO.shape (env' := [(15, .pointer (some ⟨b_2, 0, none⟩)), (16, .int .u64 r_4.1)]) (H' := [⟨1, b_2, [.string (bs r_4.2.s), .bool r_4.2.bad]⟩]) (B' := []) (ks := [15, 16]) (by kernel_rfl) (by kernel_rfl) (by kernel_rfl) ?_
    refine GoO.exec (is := [2]) (hs := [.p]) (rest := []) (ks := [2]) (env' := [(2, .int .u64 r_4.1)]) (H' := [⟨1, b_2, [.string (bs r_4.2.s), .bool r_4.2.bad]⟩]) (ps := []) (by kernel_rfl) trivial ?_
    refine GoO.regionEnd ?_
    exact GoO.ret' (h := c81_8e) (hs := []) (ps := []) (hk := [0]) (bk := []) Try.func81 () (by kernel_rfl) trivial (by kernel_rfl) (by kernel_rfl)
  · refine GoO.skip' c81_9e ?_
    refine GoO.seq' c81_10e ?_
    refine GoO.region' (is := [0, 1, 2, 3, 4, 5, 6]) c81_11e (by kernel_rfl) ?_
    refine GoO.guard (fun h6 => ?_)
    refine GoO.exec (is := [0, 1, 2, 3, 4, 5, 6]) (hs := [.p, .p, .p, .b 0, .p, .p, .p]) (rest := []) (ks := [0, 3]) (env' := [(0, .pointer (some ⟨b_2, 0, none⟩)), (3, .int .i64 (wi64 ((rdB r_1.s 0).toNat : Int)))]) (H' := [⟨1, b_2, [.string (bs r_1.s), .bool r_1.bad]⟩]) (ps := [b_2 = b_2, (0 : Int) ≤ 0, 0 < (r_1.s.length : Int)]) (by kernel_rfl) (And.intro rfl (And.intro h6.1 (And.intro h6.2 trivial))) ?_
    refine GoO.regionEnd ?_
    refine GoO.seq' c81_12e ?_
    refine GoO.seq' c81_13e ?_
    refine GoO.region' (is := [0, 1, 2, 3, 4, 5, 6, 7, 8, 9, 10, 11, 12, 13, 14, 15, 16, 17, 18, 19, 20, 21, 22, 23]) c81_14e (by kernel_rfl) ?_
    refine GoO.exec (is := [0, 1, 2]) (hs := [.p, .p, .p]) (rest := [3, 4, 5, 6, 7, 8, 9, 10, 11, 12, 13, 14, 15, 16, 17, 18, 19, 20, 21, 22, 23]) (ks := [0, 3, 25]) (env' := [(0, .pointer (some ⟨b_2, 0, none⟩)), (3, .int .i64 (wi64 ((rdB r_1.s 0).toNat : Int))), (25, .bool (decide ((wi64 ((rdB r_1.s 0).toNat : Int)) > 8)))]) (H' := [⟨1, b_2, [.string (bs r_1.s), .bool r_1.bad]⟩]) (ps := []) (by kernel_rfl) trivial ?_
    refine GoO.bsplit (t := 25) (by kernel_rfl) (fun h7 => ?_) (fun h7 => ?_)
    · refine GoO.exec (is := [3, 4, 5, 6, 7, 8, 9, 10, 11, 12, 13, 14, 15, 16, 17, 18, 19, 20, 21, 22, 23]) (hs := [.p, .p, .p, .p, .p, .p, .p, .p, .p, .p, .p, .p, .p, .p, .p, .p, .p, .p, .p, .p, .p]) (rest := []) (ks := [0, 3, 46]) (env' := [(0, .pointer (some ⟨b_2, 0, none⟩)), (3, .int .i64 (wi64 ((rdB r_1.s 0).toNat : Int))), (46, .bool true)]) (H' := [⟨1, b_2, [.string (bs r_1.s), .bool r_1.bad]⟩]) (ps := []) (by kernel_rfl) trivial ?_
      refine GoO.regionEnd ?_
      exact GoO.sub (ks := [0, 3, 46]) (hk := [0]) (bk := []) (by kernel_rfl) (by kernel_rfl) (by kernel_rfl) (pack_Reader_Num_j0_ok n r_1 b_2 w0 S0 true)
    · refine GoO.exec (is := [3, 4, 5, 6, 7, 8, 9, 10, 11, 12]) (hs := [.p, .p, .p, .p, .b 0, .p, .p, .p, .p, .p]) (rest := [13, 14, 15, 16, 17, 18, 19, 20, 21, 22, 23]) (ks := [0, 3, 35]) (env' := [(0, .pointer (some ⟨b_2, 0, none⟩)), (3, .int .i64 (wi64 ((rdB r_1.s 0).toNat : Int))), (35, .bool (decide ((wi64 ((rdB r_1.s 0).toNat : Int)) > (wi64 ((r_1.s.length : Int) - 1)))))]) (H' := [⟨1, b_2, [.string (bs r_1.s), .bool r_1.bad]⟩]) (ps := [b_2 = b_2]) (by kernel_rfl) (And.intro rfl trivial) ?_
      refine GoO.bsplit (t := 35) (by kernel_rfl) (fun h8 => ?_) (fun h8 => ?_)
      · refine GoO.exec (is := [13, 14, 15, 16, 17, 18, 19, 20, 21, 22, 23]) (hs := [.p, .p, .p, .p, .p, .p, .p, .p, .p, .p, .p]) (rest := []) (ks := [0, 3, 46]) (env' := [(0, .pointer (some ⟨b_2, 0, none⟩)), (3, .int .i64 (wi64 ((rdB r_1.s 0).toNat : Int))), (46, .bool true)]) (H' := [⟨1, b_2, [.string (bs r_1.s), .bool r_1.bad]⟩]) (ps := []) (by kernel_rfl) trivial ?_
        refine GoO.regionEnd ?_
        exact GoO.sub (ks := [0, 3, 46]) (hk := [0]) (bk := []) (by kernel_rfl) (by kernel_rfl) (by kernel_rfl) (pack_Reader_Num_j0_ok n r_1 b_2 w0 S0 true)
      · refine GoO.exec (is := [13, 14, 15]) (hs := [.p, .p, .p]) (rest := [16, 17, 18, 19, 20, 21, 22, 23]) (ks := [0, 3, 35, 38]) (env' := [(0, .pointer (some ⟨b_2, 0, none⟩)), (3, .int .i64 (wi64 ((rdB r_1.s 0).toNat : Int))), (35, .bool false), (38, .bool (decide ((wi64 ((rdB r_1.s 0).toNat : Int)) > 0)))]) (H' := [⟨1, b_2, [.string (bs r_1.s), .bool r_1.bad]⟩]) (ps := []) (by kernel_rfl) trivial ?_
        refine GoO.bsplit (t := 38) (by kernel_rfl) (fun h9 => ?_) (fun h9 => ?_)
        · refine GoO.guard (fun h10 => ?_)
          refine GoO.exec (is := [16, 17, 18, 19, 20, 21, 22, 23]) (hs := [.p, .p, .p, .b 0, .p, .p, .p, .p]) (rest := []) (ks := [0, 3, 46]) (env' := [(0, .pointer (some ⟨b_2, 0, none⟩)), (3, .int .i64 (wi64 ((rdB r_1.s 0).toNat : Int))), (46, .bool (((rdB r_1.s 1).toNat : Int) == 0))]) (H' := [⟨1, b_2, [.string (bs r_1.s), .bool r_1.bad]⟩]) (ps := [b_2 = b_2, (0 : Int) ≤ 1, 1 < (r_1.s.length : Int)]) (by kernel_rfl) (And.intro rfl (And.intro h10.1 (And.intro h10.2 trivial))) ?_
          refine GoO.regionEnd ?_
          exact GoO.sub (ks := [0, 3, 46]) (hk := [0]) (bk := []) (by kernel_rfl) (by kernel_rfl) (by kernel_rfl) (pack_Reader_Num_j0_ok n r_1 b_2 w0 S0 (((rdB r_1.s 1).toNat : Int) == 0))
        · refine GoO.exec (is := [16, 17, 18, 19, 20, 21, 22, 23]) (hs := [.p, .p, .p, .p, .p, .p, .p, .p]) (rest := []) (ks := [0, 3, 46]) (env' := [(0, .pointer (some ⟨b_2, 0, none⟩)), (3, .int .i64 (wi64 ((rdB r_1.s 0).toNat : Int))), (46, .bool false)]) (H' := [⟨1, b_2, [.string (bs r_1.s), .bool r_1.bad]⟩]) (ps := []) (by kernel_rfl) trivial ?_
          refine GoO.regionEnd ?_
          exact GoO.sub (ks := [0, 3, 46]) (hk := [0]) (bk := []) (by kernel_rfl) (by kernel_rfl) (by kernel_rfl) (pack_Reader_Num_j0_ok n r_1 b_2 w0 S0 false)

/-! (*tontine/pack.Reader).Left -/
noncomputable def c97_0 : Code := bodyOf Try.f97
noncomputable def c97_1 : Code := cdL c97_0
noncomputable def c97_2 : Code := cdR c97_0
noncomputable def c97_3 : Code := cdL c97_2
noncomputable def c97_4 : Code := cdL c97_3
noncomputable def c97_5 : Code := cdR c97_3
noncomputable def c97_9 : Code := cdR c97_5
noncomputable def c97_10 : Code := cdR c97_2
noncomputable def c97_11 : Code := cdL c97_10
noncomputable def c97_12 : Code := cdR c97_10
noncomputable def c97_6 : Code := cdL c97_5
noncomputable def r97_1 : Array Oper := cdO c97_1
noncomputable def r97_4 : Array Oper := cdO c97_4
noncomputable def r97_11 : Array Oper := cdO c97_11
theorem c97_0e : c97_0 = .seq c97_1 c97_2 := by kernel_rfl
theorem c97_1e : c97_1 = .region 0 r97_1 false := by kernel_rfl
theorem c97_2e : c97_2 = .seq c97_3 c97_10 := by kernel_rfl
theorem c97_3e : c97_3 = .seq c97_4 c97_5 := by kernel_rfl
theorem c97_4e : c97_4 = .region 1 r97_4 false := by kernel_rfl
theorem c97_5e : c97_5 = .cond (cdC c97_5) c97_6 c97_9 := by kernel_rfl
theorem c97_9e : c97_9 = .skip := by kernel_rfl
theorem c97_10e : c97_10 = .seq c97_11 c97_12 := by kernel_rfl
theorem c97_11e : c97_11 = .region 3 r97_11 true := by kernel_rfl
theorem c97_12e : c97_12 = .ret := by kernel_rfl
noncomputable def pack_Reader_Left.R (b_2 : Nat) : Pst (Int × Bool) where
  ε := Unit
  v := fun r x => .tuple ⟨[.int .i64 r.1, .bool r.2]⟩
  H := fun r x => []
  B := fun r x => []
noncomputable def pack_Reader_Left.cx (b_2 : Nat) (w0 : World) (S0 : Fam) : Cx (Int × Bool) := ⟨Try.prog, 97, Try.f97, 16, w0, S0, [], 1, pack_Reader_Left.R b_2⟩
theorem pack_Reader_Left_ok (n : Nat) (r_1 : T_pack_Reader) (b_2 : Nat) :
    Meets Try.prog 97 [.pointer (some ⟨b_2, 0, none⟩)] 1 [] [⟨1, b_2, [.string (bs r_1.s), .bool r_1.bad]⟩] [] (pack_Reader_Left.f n r_1) (pack_Reader_Left.R b_2) := by
  refine Meets.of (c := c97_0) (n := 16) Try.func97 (by kernel_rfl) (by kernel_rfl) (by kernel_rfl) fun w0 S0 => ?_
  unfold pack_Reader_Left.f
  show GoO (pack_Reader_Left.cx b_2 w0 S0) [(0, .pointer (some ⟨b_2, 0, none⟩))] [⟨1, b_2, [.string (bs r_1.s), .bool r_1.bad]⟩] [] [.code c97_0] _
  refine GoO.seq' c97_0e ?_
  refine GoO.region' (is := [0, 1]) c97_1e (by kernel_rfl) ?_
  refine GoO.exec (is := [0, 1]) (hs := [.p, .p]) (rest := []) (ks := [0]) (env' := [(0, .pointer (some ⟨b_2, 0, none⟩))]) (H' := [⟨1, b_2, [.string (bs r_1.s), .bool r_1.bad]⟩]) (ps := []) (by kernel_rfl) trivial ?_
  refine GoO.regionEnd ?_
  refine GoO.seq' c97_2e ?_
  refine GoO.seq' c97_3e ?_
  refine GoO.region' (is := [0, 1]) c97_4e (by kernel_rfl) ?_
  refine GoO.exec (is := [0, 1]) (hs := [.p, .p]) (rest := []) (ks := [0, 5]) (env' := [(0, .pointer (some ⟨b_2, 0, none⟩)), (5, .bool false)]) (H' := [⟨1, b_2, [.string (bs r_1.s), .bool r_1.bad]⟩]) (ps := []) (by kernel_rfl) trivial ?_
  refine GoO.regionEnd ?_
  refine GoO.condF c97_5e (by kernel_rfl) ?_
  refine GoO.skip' c97_9e ?_
  refine GoO.seq' c97_10e ?_
  refine GoO.draw c97_11e (by kernel_rfl) [11] [⟨1, b_2, [.string (bs r_1.s), .bool r_1.bad]⟩] [] (n := 12) (by kernel_rfl) ?_
  simp only [List.replicate]
  refine GoF.take [0, 1, 2, 3, 4, 5, 6, 7, 8, 9, 10] [.p, .p, .p, .b 0, .p, .p, .p, .p, .b 0, .p, .p] (ks := [2, 15]) (fu := 1) (li := [true, true, true, true, true, true, true, true, true, true, true, false]) (env' := [(2, .int .i64 (r_1.s.length : Int)), (15, .bool (!r_1.bad))]) (ps := [b_2 = b_2, b_2 = b_2]) (hk := [0]) (bk := []) (by kernel_rfl) (And.intro rfl (And.intro rfl trivial)) rfl rfl ?_
  refine GoF.fin1 (i := 11) (hint := .p) (ps := []) (hk := []) (bk := []) (by kernel_rfl) rfl trivial (.inl rfl) ?_
  refine GoF.done (by kernel_rfl) ?_
  exact GoO.ret' (h := c97_12e) (hs := []) (ps := []) (hk := []) (bk := []) Try.func97 () (by kernel_rfl) trivial (by kernel_rfl) (by kernel_rfl)

/-! (*tontine/pack.Reader).Done -/
noncomputable def c82_0 : Code := bodyOf Try.f82
noncomputable def c82_1 : Code := cdL c82_0
noncomputable def c82_2 : Code := cdR c82_0
noncomputable def c82_3 : Code := cdL c82_2
noncomputable def c82_4 : Code := cdR c82_2
noncomputable def c82_5 : Code := cdL c82_4
noncomputable def c82_6 : Code := cdR c82_4
noncomputable def r82_1 : Array Oper := cdO c82_1
noncomputable def r82_3 : Array Oper := cdO c82_3
noncomputable def r82_5 : Array Oper := cdO c82_5
theorem c82_0e : c82_0 = .seq c82_1 c82_2 := by kernel_rfl
theorem c82_1e : c82_1 = .region 0 r82_1 false := by kernel_rfl
theorem c82_2e : c82_2 = .seq c82_3 c82_4 := by kernel_rfl
theorem c82_3e : c82_3 = .region 1 r82_3 false := by kernel_rfl
theorem c82_4e : c82_4 = .seq c82_5 c82_6 := by kernel_rfl
theorem c82_5e : c82_5 = .region 2 r82_5 false := by kernel_rfl
theorem c82_6e : c82_6 = .ret := by kernel_rfl
noncomputable def pack_Reader_Done.R (b_2 : Nat) : Pst Bool where
  ε := Unit
  v := fun r x => .bool r
  H := fun r x => []
  B := fun r x => []
noncomputable def pack_Reader_Done.cx (b_2 : Nat) (w0 : World) (S0 : Fam) : Cx Bool := ⟨Try.prog, 82, Try.f82, 15, w0, S0, [], 1, pack_Reader_Done.R b_2⟩
theorem pack_Reader_Done_ok (n : Nat) (r_1 : T_pack_Reader) (b_2 : Nat) :
    Meets Try.prog 82 [.pointer (some ⟨b_2, 0, none⟩)] 1 [] [⟨1, b_2, [.string (bs r_1.s), .bool r_1.bad]⟩] [] (pack_Reader_Done.f n r_1) (pack_Reader_Done.R b_2) := by
  refine Meets.of (c := c82_0) (n := 15) Try.func82 (by kernel_rfl) (by kernel_rfl) (by kernel_rfl) fun w0 S0 => ?_
  unfold pack_Reader_Done.f
  show GoO (pack_Reader_Done.cx b_2 w0 S0) [(0, .pointer (some ⟨b_2, 0, none⟩))] [⟨1, b_2, [.string (bs r_1.s), .bool r_1.bad]⟩] [] [.code c82_0] _
  refine GoO.seq' c82_0e ?_
  refine GoO.region' (is := [0]) c82_1e (by kernel_rfl) ?_
  refine GoO.exec (is := [0]) (hs := [.p]) (rest := []) (ks := [0]) (env' := [(0, .pointer (some ⟨b_2, 0, none⟩))]) (H' := [⟨1, b_2, [.string (bs r_1.s), .bool r_1.bad]⟩]) (ps := []) (by kernel_rfl) trivial ?_
  refine GoO.regionEnd ?_
  refine GoO.seq' c82_2e ?_
  refine GoO.region' (is := [0, 1, 2, 3, 4, 5, 6]) c82_3e (by kernel_rfl) ?_
  refine GoO.exec (is := [0]) (hs := [.p]) (rest := [1, 2, 3, 4, 5, 6]) (ks := [6]) (env' := [(6, .pointer (some ⟨b_2, 0, none⟩))]) (H' := [⟨1, b_2, [.string (bs r_1.s), .bool r_1.bad]⟩]) (ps := []) (by kernel_rfl) trivial ?_
  refine OpTo.go (GoO.call rfl (by kernel_rfl) (by kernel_rfl) (pack_Reader_Left_ok n r_1 b_2) [[0], [1]] [] [(1, 0)] [] (hks := [0]) (bks := []) (by kernel_rfl) (by kernel_rfl) (by kernel_rfl) (.inl rfl) rfl rfl (by kernel_rfl) (by kernel_rfl) _ (fun _ _ => rfl) _ _ (fun _ _ => rfl) (fun _ _ => rfl) (fun _ _ => by kernel_rfl) (fun _ _ => by kernel_rfl) (fun r_3 x_5 => ?_))
  refine GoO.shape (env' := [(6, .pointer (some ⟨b_2, 0, none⟩)), (7, .tuple ⟨[.int .i64 r_3.1, .bool r_3.2]⟩)]) (H' := [⟨1, b_2, [.string (bs r_1.s), .bool r_1.bad]⟩]) (B' := []) (ks := [6, 7]) (by kernel_rfl) (by kernel_rfl) (by kernel_rfl) ?_
  refine GoO.exec (is := [2, 3, 4, 5, 6]) (hs := [.p, .p, .p, .p, .p]) (rest := []) (ks := [3, 4]) (env' := [(3, .int .i64 r_3.1), (4, .bool r_3.2)]) (H' := [⟨1, b_2, [.string (bs r_1.s), .bool r_1.bad]⟩]) (ps := []) (by kernel_rfl) trivial ?_
  refine GoO.regionEnd ?_
  refine GoO.seq' c82_4e ?_
  refine GoO.region' (is := [0, 1, 2, 3, 4, 5]) c82_5e (by kernel_rfl) ?_
  refine GoO.exec (is := [0, 1, 2]) (hs := [.p, .p, .p]) (rest := [3, 4, 5]) (ks := [4, 12]) (env' := [(4, .bool r_3.2), (12, .bool (r_3.1 == 0))]) (H' := [⟨1, b_2, [.string (bs r_1.s), .bool r_1.bad]⟩]) (ps := []) (by kernel_rfl) trivial ?_
  refine GoO.bsplit (t := 12) (by kernel_rfl) (fun h4 => ?_) (fun h4 => ?_)
  · refine GoO.exec (is := [3, 4, 5]) (hs := [.p, .p, .p]) (rest := []) (ks := [2]) (env' := [(2, .bool r_3.2)]) (H' := [⟨1, b_2, [.string (bs r_1.s), .bool r_1.bad]⟩]) (ps := []) (by kernel_rfl) trivial ?_
    refine GoO.regionEnd ?_
    exact GoO.ret' (h := c82_6e) (hs := []) (ps := []) (hk := []) (bk := []) Try.func82 () (by kernel_rfl) trivial (by kernel_rfl) (by kernel_rfl)
  · refine GoO.exec (is := [3, 4, 5]) (hs := [.p, .p, .p]) (rest := []) (ks := [2]) (env' := [(2, .bool false)]) (H' := [⟨1, b_2, [.string (bs r_1.s), .bool r_1.bad]⟩]) (ps := []) (by kernel_rfl) trivial ?_
    refine GoO.regionEnd ?_
    exact GoO.ret' (h := c82_6e) (hs := []) (ps := []) (hk := []) (bk := []) Try.func82 () (by kernel_rfl) trivial (by kernel_rfl) (by kernel_rfl)

/-! tontine/rlog.configOf -/
noncomputable def c55_0 : Code := bodyOf Try.f55
noncomputable def c55_1 : Code := cdL c55_0
noncomputable def c55_2 : Code := cdR c55_0
noncomputable def c55_3 : Code := cdL c55_2
noncomputable def c55_4 : Code := cdR c55_2
noncomputable def c55_5 : Code := cdL c55_4
noncomputable def c55_6 : Code := cdR c55_4
noncomputable def c55_7 : Code := cdL c55_6
noncomputable def c55_8 : Code := cdR c55_6
noncomputable def r55_1 : Array Oper := cdO c55_1
noncomputable def r55_3 : Array Oper := cdO c55_3
noncomputable def r55_5 : Array Oper := cdO c55_5
noncomputable def r55_7 : Array Oper := cdO c55_7
theorem c55_0e : c55_0 = .seq c55_1 c55_2 := by kernel_rfl
theorem c55_1e : c55_1 = .region 0 r55_1 false := by kernel_rfl
theorem c55_2e : c55_2 = .seq c55_3 c55_4 := by kernel_rfl
theorem c55_3e : c55_3 = .region 1 r55_3 false := by kernel_rfl
theorem c55_4e : c55_4 = .seq c55_5 c55_6 := by kernel_rfl
theorem c55_5e : c55_5 = .region 2 r55_5 false := by kernel_rfl
theorem c55_6e : c55_6 = .seq c55_7 c55_8 := by kernel_rfl
theorem c55_7e : c55_7 = .region 3 r55_7 false := by kernel_rfl
theorem c55_8e : c55_8 = .ret := by kernel_rfl
noncomputable def rlog_configOf.R : Pst (Int × Bool) where
  ε := Unit
  v := fun r x => .tuple ⟨[.int .u64 r.1, .bool r.2]⟩
  H := fun r x => []
  B := fun r x => []
noncomputable def rlog_configOf.cx (w0 : World) (S0 : Fam) : Cx (Int × Bool) := ⟨Try.prog, 55, Try.f55, 17, w0, S0, [], 0, rlog_configOf.R⟩
theorem rlog_configOf_ok (n : Nat) (s_1 : (List UInt8)) :
    Meets Try.prog 55 [.string (bs s_1)] 0 [] [] [] (rlog_configOf.f n s_1) (rlog_configOf.R) := by
  refine Meets.of (c := c55_0) (n := 17) Try.func55 (by kernel_rfl) (by kernel_rfl) (by kernel_rfl) fun w0 S0 => ?_
  unfold rlog_configOf.f
  show GoO (rlog_configOf.cx w0 S0) [(0, .string (bs s_1))] [] [] [.code c55_0] _
  refine GoO.seq' c55_0e ?_
  refine GoO.region' (is := [0, 1]) c55_1e (by kernel_rfl) ?_
  refine GoO.exec (is := [0, 1]) (hs := [.p, .p]) (rest := []) (ks := [0]) (env' := [(0, .string (bs s_1))]) (H' := []) (ps := []) (by kernel_rfl) trivial ?_
  refine GoO.regionEnd ?_
  refine GoO.seq' c55_2e ?_
  refine GoO.region' (is := [0, 1, 2]) c55_3e (by kernel_rfl) ?_
  refine GoO.exec (is := [0]) (hs := [.p]) (rest := [1, 2]) (ks := [6]) (env' := [(6, .string (bs s_1))]) (H' := []) (ps := []) (by kernel_rfl) trivial ?_
  refine OpTo.go (GoO.call rfl (by kernel_rfl) (by kernel_rfl) (pack_From_ok n s_1) [[0]] [(40, 1)] [] [] (hks := []) (bks := []) (by kernel_rfl) (by kernel_rfl) (by kernel_rfl) (.inl rfl) rfl rfl (by kernel_rfl) (by kernel_rfl) _ (fun _ _ => rfl) _ _ (fun _ _ => rfl) (fun _ _ => rfl) (fun _ _ => by kernel_rfl) (fun _ _ => by kernel_rfl) (fun r_2 b_3 => ?_))
  refine GoO.shape (env' := [(6, .string (bs s_1)), (7, .pointer (some ⟨b_3, 0, none⟩))]) (H' := [⟨40, b_3, [.string (bs r_2.s), .bool r_2.bad]⟩]) (B' := []) (ks := [6, 7]) (by kernel_rfl) (by kernel_rfl) (by kernel_rfl) ?_
  refine GoO.exec (is := [2]) (hs := [.p]) (rest := []) (ks := [4]) (env' := [(4, .pointer (some ⟨b_3, 0, none⟩))]) (H' := [⟨40, b_3, [.string (bs r_2.s), .bool r_2.bad]⟩]) (ps := []) (by kernel_rfl) trivial ?_
  refine GoO.regionEnd ?_
  refine GoO.seq' c55_4e ?_
  refine GoO.region' (is := [0, 1, 2]) c55_5e (by kernel_rfl) ?_
  refine GoO.exec (is := [0]) (hs := [.p]) (rest := [1, 2]) (ks := [4, 8]) (env' := [(4, .pointer (some ⟨b_3, 0, none⟩)), (8, .pointer (some ⟨b_3, 0, none⟩))]) (H' := [⟨40, b_3, [.string (bs r_2.s), .bool r_2.bad]⟩]) (ps := []) (by kernel_rfl) trivial ?_
  refine OpTo.go (GoO.call rfl (by kernel_rfl) (by kernel_rfl) (pack_Reader_Num_ok n r_2 b_3) [[0], [40]] [(40, 1)] [(1, 0)] [] (hks := []) (bks := []) (by kernel_rfl) (by kernel_rfl) (by kernel_rfl) (.inl rfl) rfl rfl (by kernel_rfl) (by kernel_rfl) _ (fun _ _ => rfl) _ _ (fun _ _ => rfl) (fun _ _ => rfl) (fun _ _ => by kernel_rfl) (fun _ _ => by kernel_rfl) (fun r_4 x_10 => ?_))
  refine GoO.shape (env' := [(4, .pointer (some ⟨b_3, 0, none⟩)), (8, .pointer (some ⟨b_3, 0, none⟩)), (9, .int .u64 r_4.1)]) (H' := [⟨40, b_3, [.string (bs r_4.2.s), .bool r_4.2.bad]⟩]) (B' := []) (ks := [4, 8, 9]) (by kernel_rfl) (by kernel_rfl) (by kernel_rfl) ?_
  refine GoO.exec (is := [2]) (hs := [.p]) (rest := []) (ks := [4, 5]) (env' := [(4, .pointer (some ⟨b_3, 0, none⟩)), (5, .int .u64 r_4.1)]) (H' := [⟨40, b_3, [.string (bs r_4.2.s), .bool r_4.2.bad]⟩]) (ps := []) (by kernel_rfl) trivial ?_
  refine GoO.regionEnd ?_
  refine GoO.seq' c55_6e ?_
  refine GoO.region' (is := [0, 1, 2, 3, 4, 5, 6, 7, 8]) c55_7e (by kernel_rfl) ?_
  refine GoO.exec (is := [0, 1]) (hs := [.p, .p]) (rest := [2, 3, 4, 5, 6, 7, 8]) (ks := [5, 10, 11]) (env' := [(5, .int .u64 r_4.1), (10, .int .u64 r_4.1), (11, .pointer (some ⟨b_3, 0, none⟩))]) (H' := [⟨40, b_3, [.string (bs r_4.2.s), .bool r_4.2.bad]⟩]) (ps := []) (by kernel_rfl) trivial ?_
  refine OpTo.go (GoO.call rfl (by kernel_rfl) (by kernel_rfl) (pack_Reader_Done_ok n r_4.2 b_3) [[0], [40]] [] [(1, 0)] [] (hks := [0]) (bks := []) (by kernel_rfl) (by kernel_rfl) (by kernel_rfl) (.inl rfl) rfl rfl (by kernel_rfl) (by kernel_rfl) _ (fun _ _ => rfl) _ _ (fun _ _ => rfl) (fun _ _ => rfl) (fun _ _ => by kernel_rfl) (fun _ _ => by kernel_rfl) (fun r_5 x_9 => ?_))
  refine GoO.shape (env' := [(5, .int .u64 r_4.1), (10, .int .u64 r_4.1), (11, .pointer (some ⟨b_3, 0, none⟩)), (12, .bool r_5)]) (H' := [⟨40, b_3, [.string (bs r_4.2.s), .bool r_4.2.bad]⟩]) (B' := []) (ks := [5, 10, 11, 12]) (by kernel_rfl) (by kernel_rfl) (by kernel_rfl) ?_
  refine GoO.exec (is := [3]) (hs := [.p]) (rest := [4, 5, 6, 7, 8]) (ks := [5, 10, 13]) (env' := [(5, .int .u64 r_4.1), (10, .int .u64 r_4.1), (13, .bool r_5)]) (H' := [⟨40, b_3, [.string (bs r_4.2.s), .bool r_4.2.bad]⟩]) (ps := []) (by kernel_rfl) trivial ?_
  refine GoO.bsplit (t := 13) (by kernel_rfl) (fun h6 => ?_) (fun h6 => ?_)
  · refine GoO.exec (is := [4]) (hs := [.p]) (rest := [5, 6, 7, 8]) (ks := [10, 13, 14]) (env' := [(10, .int .u64 r_4.1), (13, .bool true), (14, .int .u64 r_4.1)]) (H' := [⟨40, b_3, [.string (bs r_4.2.s), .bool r_4.2.bad]⟩]) (ps := []) (by kernel_rfl) trivial ?_
    refine OpTo.go (GoO.call rfl (by kernel_rfl) (by kernel_rfl) (quorum_Sound_ok n r_4.1) [[0]] [] [] [] (hks := [0]) (bks := []) (by kernel_rfl) (by kernel_rfl) (by kernel_rfl) (.inl rfl) rfl rfl (by kernel_rfl) (by kernel_rfl) _ (fun _ _ => rfl) _ _ (fun _ _ => rfl) (fun _ _ => rfl) (fun _ _ => by kernel_rfl) (fun _ _ => by kernel_rfl) (fun r_7 x_8 => ?_))
    refine GoO.shape (env' := [(10, .int .u64 r_4.1), (13, .bool true), (14, .int .u64 r_4.1), (15, .bool r_7)]) (H' := [⟨40, b_3, [.string (bs r_4.2.s), .bool r_4.2.bad]⟩]) (B' := []) (ks := [10, 13, 14, 15]) (by kernel_rfl) (by kernel_rfl) (by kernel_rfl) ?_
    refine GoO.exec (is := [6, 7, 8]) (hs := [.p, .p, .p]) (rest := []) (ks := [2, 3]) (env' := [(2, .int .u64 r_4.1), (3, .bool r_7)]) (H' := [⟨40, b_3, [.string (bs r_4.2.s), .bool r_4.2.bad]⟩]) (ps := []) (by kernel_rfl) trivial ?_
    refine GoO.regionEnd ?_
    exact GoO.ret' (h := c55_8e) (hs := []) (ps := []) (hk := []) (bk := []) Try.func55 () (by kernel_rfl) trivial (by kernel_rfl) (by kernel_rfl)
  · refine GoO.exec (is := [4, 5, 6, 7, 8]) (hs := [.p, .p, .p, .p, .p]) (rest := []) (ks := [2, 3]) (env' := [(2, .int .u64 r_4.1), (3, .bool false)]) (H' := [⟨40, b_3, [.string (bs r_4.2.s), .bool r_4.2.bad]⟩]) (ps := []) (by kernel_rfl) trivial ?_
    refine GoO.regionEnd ?_
    exact GoO.ret' (h := c55_8e) (hs := []) (ps := []) (hk := []) (bk := []) Try.func55 () (by kernel_rfl) trivial (by kernel_rfl) (by kernel_rfl)

/-! tontine/rlog.sound -/
noncomputable def c53_0 : Code := bodyOf Try.f53
noncomputable def c53_1 : Code := cdL c53_0
noncomputable def c53_2 : Code := cdR c53_0
noncomputable def c53_3 : Code := cdL c53_2
noncomputable def c53_4 : Code := cdL c53_3
noncomputable def c53_5 : Code := cdR c53_3
noncomputable def c53_6 : Code := cdL c53_5
noncomputable def c53_7 : Code := cdL c53_6
noncomputable def c53_8 : Code := cdR c53_6
noncomputable def c53_9 : Code := cdR c53_5
noncomputable def c53_10 : Code := cdR c53_2
noncomputable def c53_11 : Code := cdL c53_10
noncomputable def c53_12 : Code := cdR c53_10
noncomputable def c53_13 : Code := cdL c53_12
noncomputable def c53_14 : Code := cdR c53_12
noncomputable def r53_1 : Array Oper := cdO c53_1
noncomputable def r53_4 : Array Oper := cdO c53_4
noncomputable def r53_7 : Array Oper := cdO c53_7
noncomputable def r53_11 : Array Oper := cdO c53_11
noncomputable def r53_13 : Array Oper := cdO c53_13
theorem c53_0e : c53_0 = .seq c53_1 c53_2 := by kernel_rfl
theorem c53_1e : c53_1 = .region 0 r53_1 false := by kernel_rfl
theorem c53_2e : c53_2 = .seq c53_3 c53_10 := by kernel_rfl
theorem c53_3e : c53_3 = .seq c53_4 c53_5 := by kernel_rfl
theorem c53_4e : c53_4 = .region 1 r53_4 false := by kernel_rfl
theorem c53_5e : c53_5 = .cond (cdC c53_5) c53_6 c53_9 := by kernel_rfl
theorem c53_6e : c53_6 = .seq c53_7 c53_8 := by kernel_rfl
theorem c53_7e : c53_7 = .region 2 r53_7 false := by kernel_rfl
theorem c53_8e : c53_8 = .ret := by kernel_rfl
theorem c53_9e : c53_9 = .skip := by kernel_rfl
theorem c53_10e : c53_10 = .seq c53_11 c53_12 := by kernel_rfl
theorem c53_11e : c53_11 = .region 3 r53_11 false := by kernel_rfl
theorem c53_12e : c53_12 = .seq c53_13 c53_14 := by kernel_rfl
theorem c53_13e : c53_13 = .region 4 r53_13 false := by kernel_rfl
theorem c53_14e : c53_14 = .ret := by kernel_rfl
noncomputable def rlog_sound.R : Pst Bool where
  ε := Unit
  v := fun r x => .bool r
  H := fun r x => []
  B := fun r x => []
noncomputable def rlog_sound.cx (w0 : World) (S0 : Fam) : Cx Bool := ⟨Try.prog, 53, Try.f53, 51, w0, S0, [], 0, rlog_sound.R⟩
theorem rlog_sound_j0_ok (n : Nat) (e_1 : T_api_Entry) (b_4 : Nat) (w0 : World) (S0 : Fam) (b_10 : Bool) :
    GoO (rlog_sound.cx w0 S0) [(3, .pointer (some ⟨b_4, 0, none⟩)), (38, .bool b_10)] [⟨40, b_4, [.int .u64 e_1.Term, .int .u64 e_1.Index, .int .i64 e_1.Kind, .string (bs e_1.Data)]⟩] [] [.code c53_5, .code c53_10] (rlog_sound.j0 n e_1 b_10) := by
  unfold rlog_sound.j0
  refine GoO.ite' c53_5e (by kernel_rfl) (fun h11 => ?_) (fun h11 => ?_)
  · refine GoO.seq' c53_6e ?_
    refine GoO.region' (is := [0]) c53_7e (by kernel_rfl) ?_
    refine GoO.exec (is := [0]) (hs := [.p]) (rest := []) (ks := [6]) (env' := [(6, .bool false)]) (H' := [⟨40, b_4, [.int .u64 e_1.Term, .int .u64 e_1.Index, .int .i64 e_1.Kind, .string (bs e_1.Data)]⟩]) (ps := []) (by kernel_rfl) trivial ?_
    refine GoO.regionEnd ?_
    exact GoO.ret' (h := c53_8e) (hs := []) (ps := []) (hk := []) (bk := []) Try.func53 () (by kernel_rfl) trivial (by kernel_rfl) (by kernel_rfl)
  · refine GoO.skip' c53_9e ?_
    refine GoO.seq' c53_10e ?_
    refine GoO.region' (is := [0, 1, 2, 3, 4, 5, 6, 7]) c53_11e (by kernel_rfl) ?_
    refine GoO.exec (is := [0, 1]) (hs := [.p, .b 0]) (rest := [2, 3, 4, 5, 6, 7]) (ks := [3, 41]) (env' := [(3, .pointer (some ⟨b_4, 0, none⟩)), (41, .string (bs e_1.Data))]) (H' := [⟨40, b_4, [.int .u64 e_1.Term, .int .u64 e_1.Index, .int .i64 e_1.Kind, .string (bs e_1.Data)]⟩]) (ps := [b_4 = b_4]) (by kernel_rfl) (And.intro rfl trivial) ?_
    refine OpTo.go (GoO.call rfl (by kernel_rfl) (by kernel_rfl) (rlog_configOf_ok n e_1.Data) [[0]] [] [] [] (hks := [0]) (bks := []) (by kernel_rfl) (by kernel_rfl) (by kernel_rfl) (.inl rfl) rfl rfl (by kernel_rfl) (by kernel_rfl) _ (fun _ _ => rfl) _ _ (fun _ _ => rfl) (fun _ _ => rfl) (fun _ _ => by kernel_rfl) (fun _ _ => by kernel_rfl) (fun r_12 x_14 => ?_))
    refine GoO.shape (env' := [(3, .pointer (some ⟨b_4, 0, none⟩)), (41, .string (bs e_1.Data)), (42, .tuple ⟨[.int .u64 r_12.1, .bool r_12.2]⟩)]) (H' := [⟨40, b_4, [.int .u64 e_1.Term, .int .u64 e_1.Index, .int .i64 e_1.Kind, .string (bs e_1.Data)]⟩]) (B' := []) (ks := [3, 41, 42]) (by kernel_rfl) (by kernel_rfl) (by kernel_rfl) ?_
    refine GoO.exec (is := [3, 4, 5, 6, 7]) (hs := [.p, .p, .p, .p, .p]) (rest := []) (ks := [3, 8]) (env' := [(3, .pointer (some ⟨b_4, 0, none⟩)), (8, .bool r_12.2)]) (H' := [⟨40, b_4, [.int .u64 e_1.Term, .int .u64 e_1.Index, .int .i64 e_1.Kind, .string (bs e_1.Data)]⟩]) (ps := []) (by kernel_rfl) trivial ?_
    refine GoO.regionEnd ?_
    refine GoO.seq' c53_12e ?_
    refine GoO.region' (is := [0, 1, 2, 3, 4, 5, 6]) c53_13e (by kernel_rfl) ?_
    refine GoO.exec (is := [0, 1, 2, 3]) (hs := [.p, .b 0, .p, .p]) (rest := [4, 5, 6]) (ks := [8, 48]) (env' := [(8, .bool r_12.2), (48, .bool (e_1.Kind != 2))]) (H' := [⟨40, b_4, [.int .u64 e_1.Term, .int .u64 e_1.Index, .int .i64 e_1.Kind, .string (bs e_1.Data)]⟩]) (ps := [b_4 = b_4]) (by kernel_rfl) (And.intro rfl trivial) ?_
    refine GoO.bsplit (t := 48) (by kernel_rfl) (fun h13 => ?_) (fun h13 => ?_)
    · refine GoO.exec (is := [4, 5, 6]) (hs := [.p, .p, .p]) (rest := []) (ks := [6]) (env' := [(6, .bool true)]) (H' := [⟨40, b_4, [.int .u64 e_1.Term, .int .u64 e_1.Index, .int .i64 e_1.Kind, .string (bs e_1.Data)]⟩]) (ps := []) (by kernel_rfl) trivial ?_
      refine GoO.regionEnd ?_
      exact GoO.ret' (h := c53_14e) (hs := []) (ps := []) (hk := []) (bk := []) Try.func53 () (by kernel_rfl) trivial (by kernel_rfl) (by kernel_rfl)
    · refine GoO.exec (is := [4, 5, 6]) (hs := [.p, .p, .p]) (rest := []) (ks := [6]) (env' := [(6, .bool r_12.2)]) (H' := [⟨40, b_4, [.int .u64 e_1.Term, .int .u64 e_1.Index, .int .i64 e_1.Kind, .string (bs e_1.Data)]⟩]) (ps := []) (by kernel_rfl) trivial ?_
      refine GoO.regionEnd ?_
      exact GoO.ret' (h := c53_14e) (hs := []) (ps := []) (hk := []) (bk := []) Try.func53 () (by kernel_rfl) trivial (by kernel_rfl) (by kernel_rfl)
theorem rlog_sound_ok (n : Nat) (e_1 : T_api_Entry) (index_2 : Int) (term_3 : Int) :
    Meets Try.prog 53 [.agg ⟨[.int .u64 e_1.Term, .int .u64 e_1.Index, .int .i64 e_1.Kind, .string (bs e_1.Data)]⟩, .int .u64 index_2, .int .u64 term_3] 0 [] [] [] (rlog_sound.f n e_1 index_2 term_3) (rlog_sound.R) := by
  refine Meets.of (c := c53_0) (n := 51) Try.func53 (by kernel_rfl) (by kernel_rfl) (by kernel_rfl) fun w0 S0 => ?_
  unfold rlog_sound.f
  show GoO (rlog_sound.cx w0 S0) [(0, .agg ⟨[.int .u64 e_1.Term, .int .u64 e_1.Index, .int .i64 e_1.Kind, .string (bs e_1.Data)]⟩), (1, .int .u64 index_2), (2, .int .u64 term_3)] [] [] [.code c53_0] _
  refine GoO.seq' c53_0e ?_
  refine GoO.region' (is := [0, 1]) c53_1e (by kernel_rfl) ?_
  refine OpTo.go (GoO.new rfl 40 (cs := [.int .u64 e_1.Term, .int .u64 e_1.Index, .int .i64 e_1.Kind, .string (bs e_1.Data)]) (by kernel_rfl) _ (fun _ => rfl) (fun b_4 => ?_))
  refine GoO.exec (is := [1]) (hs := [.p]) (rest := []) (ks := [1, 2, 3]) (env' := [(1, .int .u64 index_2), (2, .int .u64 term_3), (3, .pointer (some ⟨b_4, 0, none⟩))]) (H' := [⟨40, b_4, [.int .u64 e_1.Term, .int .u64 e_1.Index, .int .i64 e_1.Kind, .string (bs e_1.Data)]⟩]) (ps := []) (by kernel_rfl) trivial ?_
  refine GoO.regionEnd ?_
  refine GoO.seq' c53_2e ?_
  refine GoO.seq' c53_3e ?_
  refine GoO.region' (is := [0, 1, 2, 3, 4, 5, 6, 7, 8, 9, 10, 11, 12, 13, 14, 15, 16, 17, 18, 19, 20, 21, 22, 23, 24, 25, 26, 27, 28, 29]) c53_4e (by kernel_rfl) ?_
  refine GoO.exec (is := [0, 1, 2]) (hs := [.p, .p, .p]) (rest := [3, 4, 5, 6, 7, 8, 9, 10, 11, 12, 13, 14, 15, 16, 17, 18, 19, 20, 21, 22, 23, 24, 25, 26, 27, 28, 29]) (ks := [1, 2, 3, 11]) (env' := [(1, .int .u64 index_2), (2, .int .u64 term_3), (3, .pointer (some ⟨b_4, 0, none⟩)), (11, .bool (index_2 == 0))]) (H' := [⟨40, b_4, [.int .u64 e_1.Term, .int .u64 e_1.Index, .int .i64 e_1.Kind, .string (bs e_1.Data)]⟩]) (ps := []) (by kernel_rfl) trivial ?_
  refine GoO.bsplit (t := 11) (by kernel_rfl) (fun h5 => ?_) (fun h5 => ?_)
  · refine GoO.exec (is := [3, 4, 5, 6, 7, 8, 9, 10, 11, 12, 13, 14, 15, 16, 17, 18, 19, 20, 21, 22, 23, 24, 25, 26, 27, 28, 29]) (hs := [.p, .p, .p, .p, .p, .p, .p, .p, .p, .p, .p, .p, .p, .p, .p, .p, .p, .p, .p, .p, .p, .p, .p, .p, .p, .p, .p]) (rest := []) (ks := [3, 38]) (env' := [(3, .pointer (some ⟨b_4, 0, none⟩)), (38, .bool true)]) (H' := [⟨40, b_4, [.int .u64 e_1.Term, .int .u64 e_1.Index, .int .i64 e_1.Kind, .string (bs e_1.Data)]⟩]) (ps := []) (by kernel_rfl) trivial ?_
    refine GoO.regionEnd ?_
    exact GoO.sub (ks := [3, 38]) (hk := [0]) (bk := []) (by kernel_rfl) (by kernel_rfl) (by kernel_rfl) (rlog_sound_j0_ok n e_1 b_4 w0 S0 true)
  · refine GoO.exec (is := [3, 4, 5, 6, 7, 8]) (hs := [.p, .b 0, .p, .p, .p, .p]) (rest := [9, 10, 11, 12, 13, 14, 15, 16, 17, 18, 19, 20, 21, 22, 23, 24, 25, 26, 27, 28, 29]) (ks := [2, 3, 17]) (env' := [(2, .int .u64 term_3), (3, .pointer (some ⟨b_4, 0, none⟩)), (17, .bool (e_1.Index != index_2))]) (H' := [⟨40, b_4, [.int .u64 e_1.Term, .int .u64 e_1.Index, .int .i64 e_1.Kind, .string (bs e_1.Data)]⟩]) (ps := [b_4 = b_4]) (by kernel_rfl) (And.intro rfl trivial) ?_
    refine GoO.bsplit (t := 17) (by kernel_rfl) (fun h6 => ?_) (fun h6 => ?_)
    · refine GoO.exec (is := [9, 10, 11, 12, 13, 14, 15, 16, 17, 18, 19, 20, 21, 22, 23, 24, 25, 26, 27, 28, 29]) (hs := [.p, .p, .p, .p, .p, .p, .p, .p, .p, .p, .p, .p, .p, .p, .p, .p, .p, .p, .p, .p, .p]) (rest := []) (ks := [3, 38]) (env' := [(3, .pointer (some ⟨b_4, 0, none⟩)), (38, .bool true)]) (H' := [⟨40, b_4, [.int .u64 e_1.Term, .int .u64 e_1.Index, .int .i64 e_1.Kind, .string (bs e_1.Data)]⟩]) (ps := []) (by kernel_rfl) trivial ?_
      refine GoO.regionEnd ?_
      exact GoO.sub (ks := [3, 38]) (hk := [0]) (bk := []) (by kernel_rfl) (by kernel_rfl) (by kernel_rfl) (rlog_sound_j0_ok n e_1 b_4 w0 S0 true)
    · refine GoO.exec (is := [9, 10, 11, 12, 13, 14]) (hs := [.p, .b 0, .p, .p, .p, .p]) (rest := [15, 16, 17, 18, 19, 20, 21, 22, 23, 24, 25, 26, 27, 28, 29]) (ks := [3, 23]) (env' := [(3, .pointer (some ⟨b_4, 0, none⟩)), (23, .bool (decide (e_1.Term < term_3)))]) (H' := [⟨40, b_4, [.int .u64 e_1.Term, .int .u64 e_1.Index, .int .i64 e_1.Kind, .string (bs e_1.Data)]⟩]) (ps := [b_4 = b_4]) (by kernel_rfl) (And.intro rfl trivial) ?_
      refine GoO.bsplit (t := 23) (by kernel_rfl) (fun h7 => ?_) (fun h7 => ?_)
      · refine GoO.exec (is := [15, 16, 17, 18, 19, 20, 21, 22, 23, 24, 25, 26, 27, 28, 29]) (hs := [.p, .p, .p, .p, .p, .p, .p, .p, .p, .p, .p, .p, .p, .p, .p]) (rest := []) (ks := [3, 38]) (env' := [(3, .pointer (some ⟨b_4, 0, none⟩)), (38, .bool true)]) (H' := [⟨40, b_4, [.int .u64 e_1.Term, .int .u64 e_1.Index, .int .i64 e_1.Kind, .string (bs e_1.Data)]⟩]) (ps := []) (by kernel_rfl) trivial ?_
        refine GoO.regionEnd ?_
        exact GoO.sub (ks := [3, 38]) (hk := [0]) (bk := []) (by kernel_rfl) (by kernel_rfl) (by kernel_rfl) (rlog_sound_j0_ok n e_1 b_4 w0 S0 true)
      · refine GoO.exec (is := [15, 16, 17, 18, 19]) (hs := [.p, .b 0, .p, .p, .p]) (rest := [20, 21, 22, 23, 24, 25, 26, 27, 28, 29]) (ks := [3, 28]) (env' := [(3, .pointer (some ⟨b_4, 0, none⟩)), (28, .bool (decide (e_1.Kind < 0)))]) (H' := [⟨40, b_4, [.int .u64 e_1.Term, .int .u64 e_1.Index, .int .i64 e_1.Kind, .string (bs e_1.Data)]⟩]) (ps := [b_4 = b_4]) (by kernel_rfl) (And.intro rfl trivial) ?_
        refine GoO.bsplit (t := 28) (by kernel_rfl) (fun h8 => ?_) (fun h8 => ?_)
        · refine GoO.exec (is := [20, 21, 22, 23, 24, 25, 26, 27, 28, 29]) (hs := [.p, .p, .p, .p, .p, .p, .p, .p, .p, .p]) (rest := []) (ks := [3, 38]) (env' := [(3, .pointer (some ⟨b_4, 0, none⟩)), (38, .bool true)]) (H' := [⟨40, b_4, [.int .u64 e_1.Term, .int .u64 e_1.Index, .int .i64 e_1.Kind, .string (bs e_1.Data)]⟩]) (ps := []) (by kernel_rfl) trivial ?_
          refine GoO.regionEnd ?_
          exact GoO.sub (ks := [3, 38]) (hk := [0]) (bk := []) (by kernel_rfl) (by kernel_rfl) (by kernel_rfl) (rlog_sound_j0_ok n e_1 b_4 w0 S0 true)
        · refine GoO.exec (is := [20, 21, 22, 23, 24]) (hs := [.p, .b 0, .p, .p, .p]) (rest := [25, 26, 27, 28, 29]) (ks := [3, 33]) (env' := [(3, .pointer (some ⟨b_4, 0, none⟩)), (33, .bool (decide (e_1.Kind > 2)))]) (H' := [⟨40, b_4, [.int .u64 e_1.Term, .int .u64 e_1.Index, .int .i64 e_1.Kind, .string (bs e_1.Data)]⟩]) (ps := [b_4 = b_4]) (by kernel_rfl) (And.intro rfl trivial) ?_
          refine GoO.bsplit (t := 33) (by kernel_rfl) (fun h9 => ?_) (fun h9 => ?_)
          · refine GoO.exec (is := [25, 26, 27, 28, 29]) (hs := [.p, .p, .p, .p, .p]) (rest := []) (ks := [3, 38]) (env' := [(3, .pointer (some ⟨b_4, 0, none⟩)), (38, .bool true)]) (H' := [⟨40, b_4, [.int .u64 e_1.Term, .int .u64 e_1.Index, .int .i64 e_1.Kind, .string (bs e_1.Data)]⟩]) (ps := []) (by kernel_rfl) trivial ?_
            refine GoO.regionEnd ?_
            exact GoO.sub (ks := [3, 38]) (hk := [0]) (bk := []) (by kernel_rfl) (by kernel_rfl) (by kernel_rfl) (rlog_sound_j0_ok n e_1 b_4 w0 S0 true)
          · refine GoO.exec (is := [25, 26, 27, 28, 29]) (hs := [.p, .b 0, .p, .p, .p]) (rest := []) (ks := [3, 38]) (env' := [(3, .pointer (some ⟨b_4, 0, none⟩)), (38, .bool (decide ((e_1.Data.length : Int) > 32768)))]) (H' := [⟨40, b_4, [.int .u64 e_1.Term, .int .u64 e_1.Index, .int .i64 e_1.Kind, .string (bs e_1.Data)]⟩]) (ps := [b_4 = b_4]) (by kernel_rfl) (And.intro rfl trivial) ?_
            refine GoO.regionEnd ?_
            exact GoO.sub (ks := [3, 38]) (hk := [0]) (bk := []) (by kernel_rfl) (by kernel_rfl) (by kernel_rfl) (rlog_sound_j0_ok n e_1 b_4 w0 S0 (decide ((e_1.Data.length : Int) > 32768)))

/-! tontine/rlog.New -/
noncomputable def c16_0 : Code := bodyOf Try.f16
noncomputable def c16_1 : Code := cdL c16_0
noncomputable def c16_2 : Code := cdR c16_0
noncomputable def c16_3 : Code := cdL c16_2
noncomputable def c16_4 : Code := cdL c16_3
noncomputable def c16_5 : Code := cdR c16_3
noncomputable def c16_6 : Code := cdL c16_5
noncomputable def c16_7 : Code := cdL c16_6
noncomputable def c16_8 : Code := cdR c16_6
noncomputable def c16_9 : Code := cdR c16_5
noncomputable def c16_10 : Code := cdR c16_2
noncomputable def c16_11 : Code := cdL c16_10
noncomputable def c16_12 : Code := cdR c16_10
noncomputable def c16_13 : Code := cdL c16_12
noncomputable def c16_14 : Code := cdL c16_13
noncomputable def c16_15 : Code := cdR c16_13
noncomputable def c16_16 : Code := cdL c16_15
noncomputable def c16_17 : Code := cdL c16_16
noncomputable def c16_18 : Code := cdL c16_17
noncomputable def c16_19 : Code := cdR c16_17
noncomputable def c16_20 : Code := cdL c16_19
noncomputable def c16_21 : Code := cdL c16_20
noncomputable def c16_22 : Code := cdR c16_20
noncomputable def c16_23 : Code := cdR c16_19
noncomputable def c16_24 : Code := cdL c16_23
noncomputable def c16_25 : Code := cdL c16_24
noncomputable def c16_26 : Code := cdL c16_25
noncomputable def c16_27 : Code := cdR c16_25
noncomputable def c16_28 : Code := cdL c16_27
noncomputable def c16_29 : Code := cdR c16_27
noncomputable def c16_30 : Code := cdL c16_29
noncomputable def c16_31 : Code := cdL c16_30
noncomputable def c16_32 : Code := cdR c16_30
noncomputable def c16_33 : Code := cdL c16_32
noncomputable def c16_34 : Code := cdL c16_33
noncomputable def c16_35 : Code := cdR c16_33
noncomputable def c16_36 : Code := cdR c16_32
noncomputable def c16_37 : Code := cdR c16_29
noncomputable def c16_38 : Code := cdR c16_23
noncomputable def c16_39 : Code := cdR c16_12
noncomputable def c16_40 : Code := cdL c16_39
noncomputable def c16_41 : Code := cdR c16_39
noncomputable def r16_1 : Array Oper := cdO c16_1
noncomputable def r16_4 : Array Oper := cdO c16_4
noncomputable def r16_7 : Array Oper := cdO c16_7
noncomputable def r16_11 : Array Oper := cdO c16_11
noncomputable def r16_14 : Array Oper := cdO c16_14
noncomputable def r16_18 : Array Oper := cdO c16_18
noncomputable def r16_26 : Array Oper := cdO c16_26
noncomputable def r16_28 : Array Oper := cdO c16_28
noncomputable def r16_31 : Array Oper := cdO c16_31
noncomputable def r16_34 : Array Oper := cdO c16_34
noncomputable def r16_37 : Array Oper := cdO c16_37
noncomputable def r16_38 : Array Oper := cdO c16_38
noncomputable def r16_40 : Array Oper := cdO c16_40
theorem c16_0e : c16_0 = .seq c16_1 c16_2 := by kernel_rfl
theorem c16_1e : c16_1 = .region 0 r16_1 false := by kernel_rfl
theorem c16_2e : c16_2 = .seq c16_3 c16_10 := by kernel_rfl
theorem c16_3e : c16_3 = .seq c16_4 c16_5 := by kernel_rfl
theorem c16_4e : c16_4 = .region 1 r16_4 false := by kernel_rfl
theorem c16_5e : c16_5 = .cond (cdC c16_5) c16_6 c16_9 := by kernel_rfl
theorem c16_6e : c16_6 = .seq c16_7 c16_8 := by kernel_rfl
theorem c16_7e : c16_7 = .region 2 r16_7 false := by kernel_rfl
theorem c16_8e : c16_8 = .ret := by kernel_rfl
theorem c16_9e : c16_9 = .skip := by kernel_rfl
theorem c16_10e : c16_10 = .seq c16_11 c16_12 := by kernel_rfl
theorem c16_11e : c16_11 = .region 3 r16_11 false := by kernel_rfl
theorem c16_12e : c16_12 = .seq c16_13 c16_39 := by kernel_rfl
theorem c16_13e : c16_13 = .seq c16_14 c16_15 := by kernel_rfl
theorem c16_14e : c16_14 = .region 4 r16_14 false := by kernel_rfl
theorem c16_15e : c16_15 = .block 0 c16_16 := by kernel_rfl
theorem c16_16e : c16_16 = .loop c16_17 := by kernel_rfl
theorem c16_17e : c16_17 = .seq c16_18 c16_19 := by kernel_rfl
theorem c16_18e : c16_18 = .region 5 r16_18 false := by kernel_rfl
theorem c16_19e : c16_19 = .seq c16_20 c16_23 := by kernel_rfl
theorem c16_20e : c16_20 = .cond (cdC c16_20) c16_21 c16_22 := by kernel_rfl
theorem c16_21e : c16_21 = .skip := by kernel_rfl
theorem c16_22e : c16_22 = .exit 0 := by kernel_rfl
theorem c16_23e : c16_23 = .seq c16_24 c16_38 := by kernel_rfl
theorem c16_24e : c16_24 = .block 1 c16_25 := by kernel_rfl
theorem c16_25e : c16_25 = .seq c16_26 c16_27 := by kernel_rfl
theorem c16_26e : c16_26 = .region 6 r16_26 false := by kernel_rfl
theorem c16_27e : c16_27 = .seq c16_28 c16_29 := by kernel_rfl
theorem c16_28e : c16_28 = .region 7 r16_28 false := by kernel_rfl
theorem c16_29e : c16_29 = .seq c16_30 c16_37 := by kernel_rfl
theorem c16_30e : c16_30 = .seq c16_31 c16_32 := by kernel_rfl
theorem c16_31e : c16_31 = .region 8 r16_31 false := by kernel_rfl
theorem c16_32e : c16_32 = .cond (cdC c16_32) c16_33 c16_36 := by kernel_rfl
theorem c16_33e : c16_33 = .seq c16_34 c16_35 := by kernel_rfl
theorem c16_34e : c16_34 = .region 9 r16_34 false := by kernel_rfl
theorem c16_35e : c16_35 = .ret := by kernel_rfl
theorem c16_36e : c16_36 = .skip := by kernel_rfl
theorem c16_37e : c16_37 = .region 10 r16_37 true := by kernel_rfl
theorem c16_38e : c16_38 = .region 11 r16_38 false := by kernel_rfl
theorem c16_39e : c16_39 = .seq c16_40 c16_41 := by kernel_rfl
theorem c16_40e : c16_40 = .region 12 r16_40 false := by kernel_rfl
theorem c16_41e : c16_41 = .ret := by kernel_rfl
noncomputable def rlog_New.R (A_3 : Option Addr) (c_4 : Nat) : Pst (Option T_rlog_Log × Int) where
  ε := Nat × Option Addr × Nat
  v := fun r x => .tuple ⟨[(match r.1 with | none => Value.pointer none | some _ => Value.pointer (some ⟨x.1, 0, none⟩)), .int .i64 r.2]⟩
  H := fun r x => [] ++ ((match r.1 with | none => ([] : List Bx) | some o => [⟨1, x.1, [.int .u64 o.snap.Index, .int .u64 o.snap.Term, .int .u64 o.snap.Config, .string (bs o.snap.Data), .slice x.2.1 o.entries.length x.2.2]⟩]) ++ ([]))
  B := fun r x => [] ++ ((match r.1 with | none => ([] : List Fct) | some o => [Ow 2 kT_api_Entry x.2.1 x.2.2 o.entries]) ++ ([]))
noncomputable def rlog_New.cx (A_3 : Option Addr) (c_4 : Nat) (w0 : World) (S0 : Fam) : Cx (Option T_rlog_Log × Int) := ⟨Try.prog, 16, Try.f16, 47, w0, S0, [], 0, rlog_New.R A_3 c_4⟩
theorem rlog_New_l0_ok (n : Nat) (s_1 : T_api_Snapshot) (l_2 : (List T_api_Entry)) (A_3 : Option Addr) (c_4 : Nat) (b_8 : Nat) (w0 : World) (S0 : Fam) :
    ∀ (k : Nat) (f_9 : (List T_api_Entry)) (x_12 : Int) (A_10 : Option Addr) (c_11 : Nat), GoO (rlog_New.cx A_3 c_4 w0 S0) [(6, .pointer (some ⟨b_8, 0, none⟩)), (18, .slice A_3 l_2.length c_4), (19, .int .i64 (l_2.length : Int)), (20, .int .i64 x_12)] [⟨41, b_8, [.int .u64 s_1.Index, .int .u64 s_1.Term, .int .u64 s_1.Config, .string (bs s_1.Data), .slice A_10 f_9.length c_11]⟩] [Ow 43 kT_api_Entry A_10 c_11 f_9, Rd 0 kT_api_Entry A_3 c_4 l_2] [.code c16_17, .inLoop c16_17, .inBlock 0, .code c16_39] (rlog_New.l0 n s_1 l_2 k f_9 x_12) := by
  intro k
  induction k with
  | zero => intros; rw [rlog_New.l0.eq_1]; exact GoO.stop
  | succ k ih0 =>
    intro f_9 x_12 A_10 c_11
    rw [rlog_New.l0.eq_2]
    refine GoO.seq' c16_17e ?_
    refine GoO.region' (is := [0]) c16_18e (by kernel_rfl) ?_
    refine GoO.exec (is := [0]) (hs := [.p]) (rest := []) (ks := [6, 18, 19, 20, 21]) (env' := [(6, .pointer (some ⟨b_8, 0, none⟩)), (18, .slice A_3 l_2.length c_4), (19, .int .i64 (l_2.length : Int)), (20, .int .i64 x_12), (21, .bool (decide (x_12 < (l_2.length : Int))))]) (H' := [⟨41, b_8, [.int .u64 s_1.Index, .int .u64 s_1.Term, .int .u64 s_1.Config, .string (bs s_1.Data), .slice A_10 f_9.length c_11]⟩]) (ps := []) (by kernel_rfl) trivial ?_
    refine GoO.regionEnd ?_
    refine GoO.seq' c16_19e ?_
    refine GoO.ite' c16_20e (by kernel_rfl) (fun h13 => ?_) (fun h13 => ?_)
    · refine GoO.skip' c16_21e ?_
      refine GoO.seq' c16_23e ?_
      refine GoO.block' c16_24e ?_
      refine GoO.seq' c16_25e ?_
      refine GoO.region' (is := [0, 1, 2, 3]) c16_26e (by kernel_rfl) ?_
      refine GoO.guard (fun h14 => ?_)
      refine OpTo.go (GoO.idx (kk := .i64) (e := 40) (K := kT_api_Entry) (A := A_3) (c := c_4) (xs := l_2) (iv := x_12) (j := 1) rfl (by kernel_rfl) (by kernel_rfl) (by kernel_rfl) (by kernel_rfl) rfl Reads.rd rfl h14.1 h14.2 (by decide) rfl ?_)
      refine OpTo.go (GoO.ldE' (K := kT_api_Entry) (A := A_3) (c := c_4) (xs := l_2) (iN := x_12.toNat) (off := 0) (j := 1) rfl (by kernel_rfl) rfl Reads.rd (by first | exact idx_lt h14.1 h14.2 | (simp only [List.length_set]; exact idx_lt h14.1 h14.2)) (by decide) (Opn.flat _ _ _ _ _) (v := fun _ => .agg ⟨[.int .u64 ((rdL l_2 x_12).Term), .int .u64 ((rdL l_2 x_12).Index), .int .i64 ((rdL l_2 x_12).Kind), .string (bs ((rdL l_2 x_12).Data))]⟩) (fun _ => by kernel_rfl) _ (fun _ => rfl) (fun _ => ?_))
      refine OpTo.go (GoO.new rfl 42 (cs := [.int .u64 0, .int .u64 0, .int .i64 0, .string (bs [])]) (by kernel_rfl) _ (fun _ => rfl) (fun b_15 => ?_))
      refine GoO.exec (is := [3]) (hs := [.b 0]) (rest := []) (ks := [6, 8, 18, 19, 20]) (env' := [(6, .pointer (some ⟨b_8, 0, none⟩)), (8, .pointer (some ⟨b_15, 0, none⟩)), (18, .slice A_3 l_2.length c_4), (19, .int .i64 (l_2.length : Int)), (20, .int .i64 x_12)]) (H' := [⟨42, b_15, [.int .u64 ((rdL l_2 x_12).Term), .int .u64 ((rdL l_2 x_12).Index), .int .i64 ((rdL l_2 x_12).Kind), .string (bs ((rdL l_2 x_12).Data))]⟩, ⟨41, b_8, [.int .u64 s_1.Index, .int .u64 s_1.Term, .int .u64 s_1.Config, .string (bs s_1.Data), .slice A_10 f_9.length c_11]⟩]) (ps := [b_15 = b_15]) (by kernel_rfl) (And.intro rfl trivial) ?_
      refine GoO.regionEnd ?_
      refine GoO.seq' c16_27e ?_
      refine GoO.region' (is := [0, 1, 2, 3, 4, 5, 6]) c16_28e (by kernel_rfl) ?_
      refine GoO.exec (is := [0]) (hs := [.p]) (rest := [1, 2, 3, 4, 5, 6]) (ks := [6, 8, 18, 19, 20, 25]) (env' := [(6, .pointer (some ⟨b_8, 0, none⟩)), (8, .pointer (some ⟨b_15, 0, none⟩)), (18, .slice A_3 l_2.length c_4), (19, .int .i64 (l_2.length : Int)), (20, .int .i64 x_12), (25, .pointer (some ⟨b_8, 0, none⟩))]) (H' := [⟨42, b_15, [.int .u64 ((rdL l_2 x_12).Term), .int .u64 ((rdL l_2 x_12).Index), .int .i64 ((rdL l_2 x_12).Kind), .string (bs ((rdL l_2 x_12).Data))]⟩, ⟨41, b_8, [.int .u64 s_1.Index, .int .u64 s_1.Term, .int .u64 s_1.Config, .string (bs s_1.Data), .slice A_10 f_9.length c_11]⟩]) (ps := []) (by kernel_rfl) trivial ?_
      refine OpTo.go (GoO.call rfl (by kernel_rfl) (by kernel_rfl) (rlog_Log_Last_ok n (⟨s_1, f_9⟩ : T_rlog_Log) b_8 A_10 c_11) [[0], [41], [43]] [] [(1, 1)] [(2, 0)] (hks := [0, 1]) (bks := [0, 1]) (by kernel_rfl) (by kernel_rfl) (by kernel_rfl) (.inl rfl) rfl rfl (by kernel_rfl) (by kernel_rfl) _ (fun _ _ => rfl) _ _ (fun _ _ => rfl) (fun _ _ => rfl) (fun _ _ => by kernel_rfl) (fun _ _ => by kernel_rfl) (fun r_16 x_25 => ?_))
      refine GoO.shape (env' := [(6, .pointer (some ⟨b_8, 0, none⟩)), (8, .pointer (some ⟨b_15, 0, none⟩)), (18, .slice A_3 l_2.length c_4), (19, .int .i64 (l_2.length : Int)), (20, .int .i64 x_12), (25, .pointer (some ⟨b_8, 0, none⟩)), (26, .tuple ⟨[.int .u64 r_16.1, .int .u64 r_16.2]⟩)]) (H' := [⟨42, b_15, [.int .u64 ((rdL l_2 x_12).Term), .int .u64 ((rdL l_2 x_12).Index), .int .i64 ((rdL l_2 x_12).Kind), .string (bs ((rdL l_2 x_12).Data))]⟩, ⟨41, b_8, [.int .u64 s_1.Index, .int .u64 s_1.Term, .int .u64 s_1.Config, .string (bs s_1.Data), .slice A_10 f_9.length c_11]⟩]) (B' := [Ow 43 kT_api_Entry A_10 c_11 f_9, Rd 0 kT_api_Entry A_3 c_4 l_2]) (ks := [6, 8, 18, 19, 20, 25, 26]) (by kernel_rfl) (by kernel_rfl) (by kernel_rfl) ?_
      refine GoO.exec (is := [2, 3, 4, 5, 6]) (hs := [.p, .p, .p, .p, .p]) (rest := []) (ks := [6, 8, 9, 10, 18, 19, 20]) (env' := [(6, .pointer (some ⟨b_8, 0, none⟩)), (8, .pointer (some ⟨b_15, 0, none⟩)), (9, .int .u64 r_16.1), (10, .int .u64 r_16.2), (18, .slice A_3 l_2.length c_4), (19, .int .i64 (l_2.length : Int)), (20, .int .i64 x_12)]) (H' := [⟨42, b_15, [.int .u64 ((rdL l_2 x_12).Term), .int .u64 ((rdL l_2 x_12).Index), .int .i64 ((rdL l_2 x_12).Kind), .string (bs ((rdL l_2 x_12).Data))]⟩, ⟨41, b_8, [.int .u64 s_1.Index, .int .u64 s_1.Term, .int .u64 s_1.Config, .string (bs s_1.Data), .slice A_10 f_9.length c_11]⟩]) (ps := []) (by kernel_rfl) trivial ?_
      refine GoO.regionEnd ?_
      refine GoO.seq' c16_29e ?_
      refine GoO.seq' c16_30e ?_
      refine GoO.region' (is := [0, 1, 2, 3, 4, 5]) c16_31e (by kernel_rfl) ?_
      refine GoO.exec (is := [0, 1, 2, 3]) (hs := [.b 0, .p, .p, .p]) (rest := [4, 5]) (ks := [6, 8, 18, 19, 20, 29, 31, 32]) (env' := [(6, .pointer (some ⟨b_8, 0, none⟩)), (8, .pointer (some ⟨b_15, 0, none⟩)), (18, .slice A_3 l_2.length c_4), (19, .int .i64 (l_2.length : Int)), (20, .int .i64 x_12), (29, .agg ⟨[.int .u64 ((rdL l_2 x_12).Term), .int .u64 ((rdL l_2 x_12).Index), .int .i64 ((rdL l_2 x_12).Kind), .string (bs ((rdL l_2 x_12).Data))]⟩), (31, .int .u64 (wu64 (r_16.1 + 1))), (32, .int .u64 r_16.2)]) (H' := [⟨42, b_15, [.int .u64 ((rdL l_2 x_12).Term), .int .u64 ((rdL l_2 x_12).Index), .int .i64 ((rdL l_2 x_12).Kind), .string (bs ((rdL l_2 x_12).Data))]⟩, ⟨41, b_8, [.int .u64 s_1.Index, .int .u64 s_1.Term, .int .u64 s_1.Config, .string (bs s_1.Data), .slice A_10 f_9.length c_11]⟩]) (ps := [b_15 = b_15]) (by kernel_rfl) (And.intro rfl trivial) ?_
      refine OpTo.go (GoO.call rfl (by kernel_rfl) (by kernel_rfl) (rlog_sound_ok n (rdL l_2 x_12) (wu64 (r_16.1 + 1)) r_16.2) [[0]] [] [] [] (hks := [0, 1]) (bks := [0, 1]) (by kernel_rfl) (by kernel_rfl) (by kernel_rfl) (.inl rfl) rfl rfl (by kernel_rfl) (by kernel_rfl) _ (fun _ _ => rfl) _ _ (fun _ _ => rfl) (fun _ _ => rfl) (fun _ _ => by kernel_rfl) (fun _ _ => by kernel_rfl) (fun r_17 x_24 => ?_))
      refine GoO.shape (env' := [(6, .pointer (some ⟨b_8, 0, none⟩)), (8, .pointer (some ⟨b_15, 0, none⟩)), (18, .slice A_3 l_2.length c_4), (19, .int .i64 (l_2.length : Int)), (20, .int .i64 x_12), (29, .agg ⟨[.int .u64 ((rdL l_2 x_12).Term), .int .u64 ((rdL l_2 x_12).Index), .int .i64 ((rdL l_2 x_12).Kind), .string (bs ((rdL l_2 x_12).Data))]⟩), (31, .int .u64 (wu64 (r_16.1 + 1))), (32, .int .u64 r_16.2), (33, .bool r_17)]) (H' := [⟨42, b_15, [.int .u64 ((rdL l_2 x_12).Term), .int .u64 ((rdL l_2 x_12).Index), .int .i64 ((rdL l_2 x_12).Kind), .string (bs ((rdL l_2 x_12).Data))]⟩, ⟨41, b_8, [.int .u64 s_1.Index, .int .u64 s_1.Term, .int .u64 s_1.Config, .string (bs s_1.Data), .slice A_10 f_9.length c_11]⟩]) (B' := [Ow 43 kT_api_Entry A_10 c_11 f_9, Rd 0 kT_api_Entry A_3 c_4 l_2]) (ks := [6, 8, 18, 19, 20, 29, 31, 32, 33]) (by kernel_rfl) (by kernel_rfl) (by kernel_rfl) ?_
      refine GoO.exec (is := [5]) (hs := [.p]) (rest := []) (ks := [6, 8, 18, 19, 20, 34]) (env' := [(6, .pointer (some ⟨b_8, 0, none⟩)), (8, .pointer (some ⟨b_15, 0, none⟩)), (18, .slice A_3 l_2.length c_4), (19, .int .i64 (l_2.length : Int)), (20, .int .i64 x_12), (34, .bool (!r_17))]) (H' := [⟨42, b_15, [.int .u64 ((rdL l_2 x_12).Term), .int .u64 ((rdL l_2 x_12).Index), .int .i64 ((rdL l_2 x_12).Kind), .string (bs ((rdL l_2 x_12).Data))]⟩, ⟨41, b_8, [.int .u64 s_1.Index, .int .u64 s_1.Term, .int .u64 s_1.Config, .string (bs s_1.Data), .slice A_10 f_9.length c_11]⟩]) (ps := []) (by kernel_rfl) trivial ?_
      refine GoO.regionEnd ?_
      refine GoO.ite' c16_32e (by kernel_rfl) (fun h18 => ?_) (fun h18 => ?_)
      · refine GoO.seq' c16_33e ?_
        refine GoO.region' (is := [0, 1]) c16_34e (by kernel_rfl) ?_
        refine GoO.exec (is := [0, 1]) (hs := [.p, .p]) (rest := []) (ks := [4, 5]) (env' := [(4, .pointer none), (5, .int .i64 1)]) (H' := [⟨42, b_15, [.int .u64 ((rdL l_2 x_12).Term), .int .u64 ((rdL l_2 x_12).Index), .int .i64 ((rdL l_2 x_12).Kind), .string (bs ((rdL l_2 x_12).Data))]⟩, ⟨41, b_8, [.int .u64 s_1.Index, .int .u64 s_1.Term, .int .u64 s_1.Config, .string (bs s_1.Data), .slice A_10 f_9.length c_11]⟩]) (ps := []) (by kernel_rfl) trivial ?_
        refine GoO.regionEnd ?_
        exact GoO.ret' (h := c16_35e) (hs := []) (ps := []) (hk := []) (bk := []) Try.func16 (⟨0, none, 0⟩ : Nat × Option Addr × Nat) (by kernel_rfl) trivial (by kernel_rfl) (by kernel_rfl)
      · refine GoO.skip' c16_36e ?_
        refine GoO.draw c16_37e (by kernel_rfl) [8, 9, 10] [⟨42, b_15, [.int .u64 ((rdL l_2 x_12).Term), .int .u64 ((rdL l_2 x_12).Index), .int .i64 ((rdL l_2 x_12).Kind), .string (bs ((rdL l_2 x_12).Data))]⟩, ⟨41, b_8, [.int .u64 s_1.Index, .int .u64 s_1.Term, .int .u64 s_1.Config, .string (bs s_1.Data), .slice A_10 f_9.length c_11]⟩] [] (n := 11) (by kernel_rfl) ?_
        simp only [List.replicate]
        refine GoF.take [0, 1, 2, 3, 4, 5] [.p, .p, .p, .p, .b 1, .b 0] (ks := [6, 18, 19, 20, 35, 39, 40]) (fu := 5) (li := [true, true, true, true, true, true, false, false, false, false, false]) (env' := [(6, .pointer (some ⟨b_8, 0, none⟩)), (18, .slice A_3 l_2.length c_4), (19, .int .i64 (l_2.length : Int)), (20, .int .i64 x_12), (35, .pointer (some ⟨b_8, 0, none⟩)), (39, .slice A_10 f_9.length c_11), (40, .agg ⟨[.int .u64 ((rdL l_2 x_12).Term), .int .u64 ((rdL l_2 x_12).Index), .int .i64 ((rdL l_2 x_12).Kind), .string (bs ((rdL l_2 x_12).Data))]⟩)]) (ps := [b_8 = b_8, b_15 = b_15]) (hk := [0, 1]) (bk := []) (by kernel_rfl) (And.intro rfl (And.intro rfl trivial)) rfl rfl ?_
        refine OpTo.goF (i := 6) (by kernel_rfl) (hk := [0, 1]) (bk := []) (GoO.lit (e := 40) (K := kT_api_Entry) rfl (by kernel_rfl) (by kernel_rfl) (cs := [.int .u64 ((rdL l_2 x_12).Term), .int .u64 ((rdL l_2 x_12).Index), .int .i64 ((rdL l_2 x_12).Kind), .string (bs ((rdL l_2 x_12).Data))]) (by kernel_rfl) [(rdL l_2 x_12)] (by kernel_rfl) (by kernel_rfl) (fun w S hB => ⟨[.int .u64 ((rdL l_2 x_12).Term), .int .u64 ((rdL l_2 x_12).Index), .int .i64 ((rdL l_2 x_12).Kind), .string (bs ((rdL l_2 x_12).Data))], _, rfl, rfl, rfl⟩) 44 _ (fun _ _ => rfl) (fun A_19 c_20 => ⟨rfl, rfl, ?_⟩))
        refine GoF.guard (fun h21 => ?_)
        refine OpTo.goF (i := 7) (by kernel_rfl) (hk := [0, 1]) (bk := []) (GoO.appW (e := 40) (K := kT_api_Entry) (A := A_10) (c := c_11) (tg := 43) (bytes := 40) (zs := [.int .u64 0, .int .u64 0, .int .i64 0, .string (bs [])]) (xs := f_9) (ys := [(rdL l_2 x_12)]) (xv := .slice A_19 [(rdL l_2 x_12)].length c_20) (j := 1) (bk := [0, 2]) rfl (by kernel_rfl) (by kernel_rfl) (by kernel_rfl) (by kernel_rfl) rfl (by kernel_rfl) rfl (fun w S hB => SrcIs.row (Reads.own w S (hB _ (List.mem_of_getElem? (i := 0) rfl)))) h21 rfl rfl rfl rfl _ (fun _ _ => rfl) (fun A_22 c_23 => ⟨rfl, rfl, ?_⟩))
        refine GoF.fin1 (i := 8) (hint := .p) (ps := []) (hk := []) (bk := []) (by kernel_rfl) rfl trivial (.inl rfl) ?_
        refine GoF.fin1 (i := 9) (hint := .p) (ps := []) (hk := []) (bk := []) (by kernel_rfl) rfl trivial (.inl rfl) ?_
        refine GoF.fin1 (i := 10) (hint := .b 1) (ps := [b_8 = b_8]) (hk := []) (bk := []) (by kernel_rfl) rfl (And.intro rfl trivial) (.inl rfl) ?_
        refine GoF.done (by kernel_rfl) ?_
        refine GoO.inBlock ?_
        refine GoO.region' (is := [0, 1]) c16_38e (by kernel_rfl) ?_
        refine GoO.exec (is := [0, 1]) (hs := [.p, .p]) (rest := []) (ks := [6, 18, 19, 20]) (env' := [(6, .pointer (some ⟨b_8, 0, none⟩)), (18, .slice A_3 l_2.length c_4), (19, .int .i64 (l_2.length : Int)), (20, .int .i64 (wi64 (x_12 + 1)))]) (H' := [⟨42, b_15, [.int .u64 ((rdL l_2 x_12).Term), .int .u64 ((rdL l_2 x_12).Index), .int .i64 ((rdL l_2 x_12).Kind), .string (bs ((rdL l_2 x_12).Data))]⟩, ⟨41, b_8, [.int .u64 s_1.Index, .int .u64 s_1.Term, .int .u64 s_1.Config, .string (bs s_1.Data), .slice A_22 (f_9 ++ [(rdL l_2 x_12)]).length c_23]⟩]) (ps := []) (by kernel_rfl) trivial ?_
        refine GoO.regionEnd ?_
        refine GoO.inLoop ?_
        exact GoO.sub (ks := [6, 18, 19, 20]) (hk := [1]) (bk := [0, 2]) (by kernel_rfl) (by kernel_rfl) (by kernel_rfl) (ih0 (f_9 ++ [(rdL l_2 x_12)]) (wi64 (x_12 + 1)) A_22 c_23)
    · refine GoO.exit' c16_22e rfl ?_
      refine GoO.seq' c16_39e ?_
      refine GoO.region' (is := [0, 1, 2]) c16_40e (by kernel_rfl) ?_
      refine GoO.exec (is := [0, 1, 2]) (hs := [.p, .p, .p]) (rest := []) (ks := [4, 5]) (env' := [(4, .pointer (some ⟨b_8, 0, none⟩)), (5, .int .i64 0)]) (H' := [⟨41, b_8, [.int .u64 s_1.Index, .int .u64 s_1.Term, .int .u64 s_1.Config, .string (bs s_1.Data), .slice A_10 f_9.length c_11]⟩]) (ps := []) (by kernel_rfl) trivial ?_
      refine GoO.regionEnd ?_
      refine GoO.retag (t := 43) (u := 2) (j := 0) (hk := [0]) (bk := [1]) rfl rfl rfl rfl rfl rfl (by kernel_rfl) (by kernel_rfl) ?_
      refine GoO.retagB (t := 41) (u := 1) (j := 0) (hk := []) (bk := [0, 1]) rfl rfl rfl rfl rfl rfl (by kernel_rfl) (by kernel_rfl) ?_
      exact GoO.ret' (h := c16_41e) (hs := []) (ps := []) (hk := [0]) (bk := [0]) Try.func16 (⟨b_8, A_10, c_11⟩ : Nat × Option Addr × Nat) (by kernel_rfl) trivial (by kernel_rfl) (by kernel_rfl)
theorem rlog_New_ok (n : Nat) (s_1 : T_api_Snapshot) (l_2 : (List T_api_Entry)) (A_3 : Option Addr) (c_4 : Nat) :
    Meets Try.prog 16 [.agg ⟨[.int .u64 s_1.Index, .int .u64 s_1.Term, .int .u64 s_1.Config, .string (bs s_1.Data)]⟩, .slice A_3 l_2.length c_4] 0 [] [] [Rd 0 kT_api_Entry A_3 c_4 l_2] (rlog_New.f n s_1 l_2) (rlog_New.R A_3 c_4) := by
  refine Meets.of (c := c16_0) (n := 47) Try.func16 (by kernel_rfl) (by kernel_rfl) (by kernel_rfl) fun w0 S0 => ?_
  unfold rlog_New.f
  show GoO (rlog_New.cx A_3 c_4 w0 S0) [(0, .agg ⟨[.int .u64 s_1.Index, .int .u64 s_1.Term, .int .u64 s_1.Config, .string (bs s_1.Data)]⟩), (1, .slice A_3 l_2.length c_4)] [] [Rd 0 kT_api_Entry A_3 c_4 l_2] [.code c16_0] _
  refine GoO.seq' c16_0e ?_
  refine GoO.region' (is := [0, 1, 2]) c16_1e (by kernel_rfl) ?_
  refine OpTo.go (GoO.new rfl 40 (cs := [.int .u64 s_1.Index, .int .u64 s_1.Term, .int .u64 s_1.Config, .string (bs s_1.Data)]) (by kernel_rfl) _ (fun _ => rfl) (fun b_5 => ?_))
  refine GoO.exec (is := [1, 2]) (hs := [.p, .p]) (rest := []) (ks := [1, 2]) (env' := [(1, .slice A_3 l_2.length c_4), (2, .pointer (some ⟨b_5, 0, none⟩))]) (H' := [⟨40, b_5, [.int .u64 s_1.Index, .int .u64 s_1.Term, .int .u64 s_1.Config, .string (bs s_1.Data)]⟩]) (ps := []) (by kernel_rfl) trivial ?_
  refine GoO.regionEnd ?_
  refine GoO.seq' c16_2e ?_
  refine GoO.seq' c16_3e ?_
  refine GoO.region' (is := [0, 1, 2, 3]) c16_4e (by kernel_rfl) ?_
  refine GoO.exec (is := [0, 1]) (hs := [.p, .b 0]) (rest := [2, 3]) (ks := [1, 2, 12]) (env' := [(1, .slice A_3 l_2.length c_4), (2, .pointer (some ⟨b_5, 0, none⟩)), (12, .int .u64 s_1.Config)]) (H' := [⟨40, b_5, [.int .u64 s_1.Index, .int .u64 s_1.Term, .int .u64 s_1.Config, .string (bs s_1.Data)]⟩]) (ps := [b_5 = b_5]) (by kernel_rfl) (And.intro rfl trivial) ?_
  refine OpTo.go (GoO.call rfl (by kernel_rfl) (by kernel_rfl) (quorum_Sound_ok n s_1.Config) [[0]] [] [] [] (hks := [0]) (bks := [0]) (by kernel_rfl) (by kernel_rfl) (by kernel_rfl) (.inl rfl) rfl rfl (by kernel_rfl) (by kernel_rfl) _ (fun _ _ => rfl) _ _ (fun _ _ => rfl) (fun _ _ => rfl) (fun _ _ => by kernel_rfl) (fun _ _ => by kernel_rfl) (fun r_6 x_26 => ?_))
  refine GoO.shape (env' := [(1, .slice A_3 l_2.length c_4), (2, .pointer (some ⟨b_5, 0, none⟩)), (12, .int .u64 s_1.Config), (13, .bool r_6)]) (H' := [⟨40, b_5, [.int .u64 s_1.Index, .int .u64 s_1.Term, .int .u64 s_1.Config, .string (bs s_1.Data)]⟩]) (B' := [Rd 0 kT_api_Entry A_3 c_4 l_2]) (ks := [1, 2, 12, 13]) (by kernel_rfl) (by kernel_rfl) (by kernel_rfl) ?_
  refine GoO.exec (is := [3]) (hs := [.p]) (rest := []) (ks := [1, 2, 14]) (env' := [(1, .slice A_3 l_2.length c_4), (2, .pointer (some ⟨b_5, 0, none⟩)), (14, .bool (!r_6))]) (H' := [⟨40, b_5, [.int .u64 s_1.Index, .int .u64 s_1.Term, .int .u64 s_1.Config, .string (bs s_1.Data)]⟩]) (ps := []) (by kernel_rfl) trivial ?_
  refine GoO.regionEnd ?_
  refine GoO.ite' c16_5e (by kernel_rfl) (fun h7 => ?_) (fun h7 => ?_)
  · refine GoO.seq' c16_6e ?_
    refine GoO.region' (is := [0, 1]) c16_7e (by kernel_rfl) ?_
    refine GoO.exec (is := [0, 1]) (hs := [.p, .p]) (rest := []) (ks := [4, 5]) (env' := [(4, .pointer none), (5, .int .i64 1)]) (H' := [⟨40, b_5, [.int .u64 s_1.Index, .int .u64 s_1.Term, .int .u64 s_1.Config, .string (bs s_1.Data)]⟩]) (ps := []) (by kernel_rfl) trivial ?_
    refine GoO.regionEnd ?_
    exact GoO.ret' (h := c16_8e) (hs := []) (ps := []) (hk := []) (bk := []) Try.func16 (⟨0, none, 0⟩ : Nat × Option Addr × Nat) (by kernel_rfl) trivial (by kernel_rfl) (by kernel_rfl)
  · refine GoO.skip' c16_9e ?_
    refine GoO.seq' c16_10e ?_
    refine GoO.region' (is := [0, 1, 2, 3]) c16_11e (by kernel_rfl) ?_
    refine GoO.exec (is := [0, 1]) (hs := [.b 0, .p]) (rest := [2, 3]) (ks := [1, 16]) (env' := [(1, .slice A_3 l_2.length c_4), (16, .agg ⟨[.int .u64 s_1.Index, .int .u64 s_1.Term, .int .u64 s_1.Config, .string (bs s_1.Data), .slice none ([] : List T_api_Entry).length 0]⟩)]) (H' := [⟨40, b_5, [.int .u64 s_1.Index, .int .u64 s_1.Term, .int .u64 s_1.Config, .string (bs s_1.Data)]⟩]) (ps := [b_5 = b_5]) (by kernel_rfl) (And.intro rfl trivial) ?_
    refine OpTo.go (GoO.new rfl 41 (cs := [.int .u64 s_1.Index, .int .u64 s_1.Term, .int .u64 s_1.Config, .string (bs s_1.Data), .slice none ([] : List T_api_Entry).length 0]) (by kernel_rfl) _ (fun _ => rfl) (fun b_8 => ?_))
    refine GoO.exec (is := [3]) (hs := [.p]) (rest := []) (ks := [1, 6]) (env' := [(1, .slice A_3 l_2.length c_4), (6, .pointer (some ⟨b_8, 0, none⟩))]) (H' := [⟨41, b_8, [.int .u64 s_1.Index, .int .u64 s_1.Term, .int .u64 s_1.Config, .string (bs s_1.Data), .slice none ([] : List T_api_Entry).length 0]⟩, ⟨40, b_5, [.int .u64 s_1.Index, .int .u64 s_1.Term, .int .u64 s_1.Config, .string (bs s_1.Data)]⟩]) (ps := []) (by kernel_rfl) trivial ?_
    refine GoO.regionEnd ?_
    refine GoO.seq' c16_12e ?_
    refine GoO.seq' c16_13e ?_
    refine GoO.region' (is := [0, 1, 2]) c16_14e (by kernel_rfl) ?_
    refine GoO.exec (is := [0, 1, 2]) (hs := [.p, .p, .p]) (rest := []) (ks := [6, 18, 19, 20]) (env' := [(6, .pointer (some ⟨b_8, 0, none⟩)), (18, .slice A_3 l_2.length c_4), (19, .int .i64 (l_2.length : Int)), (20, .int .i64 0)]) (H' := [⟨41, b_8, [.int .u64 s_1.Index, .int .u64 s_1.Term, .int .u64 s_1.Config, .string (bs s_1.Data), .slice none ([] : List T_api_Entry).length 0]⟩, ⟨40, b_5, [.int .u64 s_1.Index, .int .u64 s_1.Term, .int .u64 s_1.Config, .string (bs s_1.Data)]⟩]) (ps := []) (by kernel_rfl) trivial ?_
    refine GoO.regionEnd ?_
    refine GoO.block' c16_15e ?_
    refine GoO.loop' c16_16e ?_
    refine GoO.nilOwn kT_api_Entry 43 ?_
    exact GoO.sub (ks := [6, 18, 19, 20]) (hk := [0]) (bk := [0, 1]) (by kernel_rfl) (by kernel_rfl) (by kernel_rfl) (rlog_New_l0_ok n s_1 l_2 A_3 c_4 b_8 w0 S0 n ([] : List T_api_Entry) 0 none 0)

/-! (*tontine/rlog.Log).at -/
noncomputable def c54_0 : Code := bodyOf Try.f54
noncomputable def c54_1 : Code := cdL c54_0
noncomputable def c54_2 : Code := cdR c54_0
noncomputable def c54_3 : Code := cdL c54_2
noncomputable def c54_4 : Code := cdL c54_3
noncomputable def c54_5 : Code := cdR c54_3
noncomputable def c54_6 : Code := cdL c54_5
noncomputable def c54_7 : Code := cdL c54_6
noncomputable def c54_8 : Code := cdR c54_6
noncomputable def c54_9 : Code := cdR c54_5
noncomputable def c54_10 : Code := cdR c54_2
noncomputable def c54_11 : Code := cdL c54_10
noncomputable def c54_12 : Code := cdR c54_10
noncomputable def r54_1 : Array Oper := cdO c54_1
noncomputable def r54_4 : Array Oper := cdO c54_4
noncomputable def r54_7 : Array Oper := cdO c54_7
noncomputable def r54_11 : Array Oper := cdO c54_11
theorem c54_0e : c54_0 = .seq c54_1 c54_2 := by kernel_rfl
theorem c54_1e : c54_1 = .region 0 r54_1 false := by kernel_rfl
theorem c54_2e : c54_2 = .seq c54_3 c54_10 := by kernel_rfl
theorem c54_3e : c54_3 = .seq c54_4 c54_5 := by kernel_rfl
theorem c54_4e : c54_4 = .region 1 r54_4 true := by kernel_rfl
theorem c54_5e : c54_5 = .cond (cdC c54_5) c54_6 c54_9 := by kernel_rfl
theorem c54_6e : c54_6 = .seq c54_7 c54_8 := by kernel_rfl
theorem c54_7e : c54_7 = .region 2 r54_7 false := by kernel_rfl
theorem c54_8e : c54_8 = .ret := by kernel_rfl
theorem c54_9e : c54_9 = .skip := by kernel_rfl
theorem c54_10e : c54_10 = .seq c54_11 c54_12 := by kernel_rfl
theorem c54_11e : c54_11 = .region 3 r54_11 false := by kernel_rfl
theorem c54_12e : c54_12 = .ret := by kernel_rfl
noncomputable def rlog_Log_at.R (b_2 : Nat) (A_3 : Option Addr) (c_4 : Nat) : Pst Int where
  ε := Unit
  v := fun r x => .int .i64 r
  H := fun r x => []
  B := fun r x => []
noncomputable def rlog_Log_at.cx (b_2 : Nat) (A_3 : Option Addr) (c_4 : Nat) (w0 : World) (S0 : Fam) : Cx Int := ⟨Try.prog, 54, Try.f54, 41, w0, S0, [], 2, rlog_Log_at.R b_2 A_3 c_4⟩
theorem rlog_Log_at_j0_ok (n : Nat) (g_1 : T_rlog_Log) (i_5 : Int) (b_2 : Nat) (A_3 : Option Addr) (c_4 : Nat) (w0 : World) (S0 : Fam) (b_7 : Bool) :
    GoO (rlog_Log_at.cx b_2 A_3 c_4 w0 S0) [(0, .pointer (some ⟨b_2, 0, none⟩)), (1, .int .u64 i_5), (31, .bool b_7)] [⟨1, b_2, [.int .u64 g_1.snap.Index, .int .u64 g_1.snap.Term, .int .u64 g_1.snap.Config, .string (bs g_1.snap.Data), .slice A_3 g_1.entries.length c_4]⟩] [Ow 2 kT_api_Entry A_3 c_4 g_1.entries] [.code c54_5, .code c54_10] (rlog_Log_at.j0 n g_1 i_5 b_7) := by
  unfold rlog_Log_at.j0
  refine GoO.ite' c54_5e (by kernel_rfl) (fun h8 => ?_) (fun h8 => ?_)
  · refine GoO.seq' c54_6e ?_
    refine GoO.region' (is := [0]) c54_7e (by kernel_rfl) ?_
    refine GoO.exec (is := [0]) (hs := [.p]) (rest := []) (ks := [4]) (env' := [(4, .int .i64 (-1))]) (H' := [⟨1, b_2, [.int .u64 g_1.snap.Index, .int .u64 g_1.snap.Term, .int .u64 g_1.snap.Config, .string (bs g_1.snap.Data), .slice A_3 g_1.entries.length c_4]⟩]) (ps := []) (by kernel_rfl) trivial ?_
    refine GoO.regionEnd ?_
    exact GoO.ret' (h := c54_8e) (hs := []) (ps := []) (hk := []) (bk := []) Try.func54 () (by kernel_rfl) trivial (by kernel_rfl) (by kernel_rfl)
  · refine GoO.skip' c54_9e ?_
    refine GoO.seq' c54_10e ?_
    refine GoO.region' (is := [0, 1, 2, 3, 4, 5, 6, 7, 8, 9]) c54_11e (by kernel_rfl) ?_
    refine GoO.exec (is := [0, 1, 2, 3, 4, 5, 6, 7, 8, 9]) (hs := [.p, .p, .p, .p, .p, .b 0, .p, .p, .p, .p]) (rest := []) (ks := [4]) (env' := [(4, .int .i64 (wi64 (wu64 ((wu64 (i_5 - g_1.snap.Index)) - 1))))]) (H' := [⟨1, b_2, [.int .u64 g_1.snap.Index, .int .u64 g_1.snap.Term, .int .u64 g_1.snap.Config, .string (bs g_1.snap.Data), .slice A_3 g_1.entries.length c_4]⟩]) (ps := [b_2 = b_2]) (by kernel_rfl) (And.intro rfl trivial) ?_
    refine GoO.regionEnd ?_
    exact GoO.ret' (h := c54_12e) (hs := []) (ps := []) (hk := []) (bk := []) Try.func54 () (by kernel_rfl) trivial (by kernel_rfl) (by kernel_rfl)
theorem rlog_Log_at_ok (n : Nat) (g_1 : T_rlog_Log) (i_5 : Int) (b_2 : Nat) (A_3 : Option Addr) (c_4 : Nat) :
    Meets Try.prog 54 [.pointer (some ⟨b_2, 0, none⟩), .int .u64 i_5] 2 [] [⟨1, b_2, [.int .u64 g_1.snap.Index, .int .u64 g_1.snap.Term, .int .u64 g_1.snap.Config, .string (bs g_1.snap.Data), .slice A_3 g_1.entries.length c_4]⟩] [Ow 2 kT_api_Entry A_3 c_4 g_1.entries] (rlog_Log_at.f n g_1 i_5) (rlog_Log_at.R b_2 A_3 c_4) := by
  refine Meets.of (c := c54_0) (n := 41) Try.func54 (by kernel_rfl) (by kernel_rfl) (by kernel_rfl) fun w0 S0 => ?_
  unfold rlog_Log_at.f
  show GoO (rlog_Log_at.cx b_2 A_3 c_4 w0 S0) [(0, .pointer (some ⟨b_2, 0, none⟩)), (1, .int .u64 i_5)] [⟨1, b_2, [.int .u64 g_1.snap.Index, .int .u64 g_1.snap.Term, .int .u64 g_1.snap.Config, .string (bs g_1.snap.Data), .slice A_3 g_1.entries.length c_4]⟩] [Ow 2 kT_api_Entry A_3 c_4 g_1.entries] [.code c54_0] _
  refine GoO.seq' c54_0e ?_
  refine GoO.region' (is := [0]) c54_1e (by kernel_rfl) ?_
  refine GoO.exec (is := [0]) (hs := [.p]) (rest := []) (ks := [0, 1]) (env' := [(0, .pointer (some ⟨b_2, 0, none⟩)), (1, .int .u64 i_5)]) (H' := [⟨1, b_2, [.int .u64 g_1.snap.Index, .int .u64 g_1.snap.Term, .int .u64 g_1.snap.Config, .string (bs g_1.snap.Data), .slice A_3 g_1.entries.length c_4]⟩]) (ps := []) (by kernel_rfl) trivial ?_
  refine GoO.regionEnd ?_
  refine GoO.seq' c54_2e ?_
  refine GoO.seq' c54_3e ?_
  refine GoO.draw c54_4e (by kernel_rfl) [] [⟨1, b_2, [.int .u64 g_1.snap.Index, .int .u64 g_1.snap.Term, .int .u64 g_1.snap.Config, .string (bs g_1.snap.Data), .slice A_3 g_1.entries.length c_4]⟩] [] (n := 27) (by kernel_rfl) ?_
  simp only [List.replicate]
  refine GoF.take [0, 1, 2, 3, 4, 5, 6, 7, 8, 9, 10, 11] [.p, .p, .p, .p, .p, .p, .p, .p, .b 0, .p, .p, .p] (ks := [0, 1, 16]) (fu := 15) (li := [true, true, true, true, true, true, true, true, true, true, true, true, false, false, false, false, false, false, false, false, false, false, false, false, false, false, false]) (env' := [(0, .pointer (some ⟨b_2, 0, none⟩)), (1, .int .u64 i_5), (16, .bool (decide (i_5 ≤ g_1.snap.Index)))]) (ps := [b_2 = b_2]) (hk := [0]) (bk := []) (by kernel_rfl) (And.intro rfl trivial) rfl rfl ?_
  refine GoF.bsplit (t := 16) (by kernel_rfl) (fun h6 => ?_) (fun h6 => ?_)
  · refine GoF.take [12, 13, 14, 15, 16, 17, 18, 19, 20, 21, 22, 23, 24, 25, 26] [.p, .p, .p, .p, .p, .p, .p, .p, .p, .p, .p, .p, .p, .p, .p] (ks := [0, 1, 31]) (fu := 0) (li := [true, true, true, true, true, true, true, true, true, true, true, true, true, true, true, true, true, true, true, true, true, true, true, true, true, true, true]) (env' := [(0, .pointer (some ⟨b_2, 0, none⟩)), (1, .int .u64 i_5), (31, .bool true)]) (ps := []) (hk := [0]) (bk := []) (by kernel_rfl) trivial rfl rfl ?_
    refine GoF.done (by kernel_rfl) ?_
    exact GoO.sub (ks := [0, 1, 31]) (hk := [0]) (bk := [0]) (by kernel_rfl) (by kernel_rfl) (by kernel_rfl) (rlog_Log_at_j0_ok n g_1 i_5 b_2 A_3 c_4 w0 S0 true)
  · refine GoF.take [12, 13, 14, 15, 16, 17, 18, 19, 20, 21, 22, 23, 24, 25, 26] [.p, .p, .p, .p, .p, .b 0, .p, .p, .p, .p, .b 0, .p, .p, .p, .p] (ks := [0, 1, 31]) (fu := 0) (li := [true, true, true, true, true, true, true, true, true, true, true, true, true, true, true, true, true, true, true, true, true, true, true, true, true, true, true]) (env' := [(0, .pointer (some ⟨b_2, 0, none⟩)), (1, .int .u64 i_5), (31, .bool (decide ((wu64 (i_5 - g_1.snap.Index)) > (wu64 (g_1.entries.length : Int)))))]) (ps := [b_2 = b_2, b_2 = b_2]) (hk := [0]) (bk := []) (by kernel_rfl) (And.intro rfl (And.intro rfl trivial)) rfl rfl ?_
    refine GoF.done (by kernel_rfl) ?_
    exact GoO.sub (ks := [0, 1, 31]) (hk := [0]) (bk := [0]) (by kernel_rfl) (by kernel_rfl) (by kernel_rfl) (rlog_Log_at_j0_ok n g_1 i_5 b_2 A_3 c_4 w0 S0 (decide ((wu64 (i_5 - g_1.snap.Index)) > (wu64 (g_1.entries.length : Int)))))

/-! (*tontine/rlog.Log).Term -/
noncomputable def c20_0 : Code := bodyOf Try.f20
noncomputable def c20_1 : Code := cdL c20_0
noncomputable def c20_2 : Code := cdR c20_0
noncomputable def c20_3 : Code := cdL c20_2
noncomputable def c20_4 : Code := cdL c20_3
noncomputable def c20_5 : Code := cdR c20_3
noncomputable def c20_6 : Code := cdL c20_5
noncomputable def c20_7 : Code := cdR c20_5
noncomputable def c20_8 : Code := cdL c20_7
noncomputable def c20_9 : Code := cdL c20_8
noncomputable def c20_10 : Code := cdR c20_8
noncomputable def c20_11 : Code := cdR c20_7
noncomputable def c20_12 : Code := cdR c20_2
noncomputable def c20_13 : Code := cdL c20_12
noncomputable def c20_14 : Code := cdL c20_13
noncomputable def c20_15 : Code := cdR c20_13
noncomputable def c20_16 : Code := cdL c20_15
noncomputable def c20_17 : Code := cdL c20_16
noncomputable def c20_18 : Code := cdR c20_16
noncomputable def c20_19 : Code := cdR c20_15
noncomputable def c20_20 : Code := cdR c20_12
noncomputable def c20_21 : Code := cdL c20_20
noncomputable def c20_22 : Code := cdR c20_20
noncomputable def r20_1 : Array Oper := cdO c20_1
noncomputable def r20_4 : Array Oper := cdO c20_4
noncomputable def r20_6 : Array Oper := cdO c20_6
noncomputable def r20_9 : Array Oper := cdO c20_9
noncomputable def r20_14 : Array Oper := cdO c20_14
noncomputable def r20_17 : Array Oper := cdO c20_17
noncomputable def r20_21 : Array Oper := cdO c20_21
theorem c20_0e : c20_0 = .seq c20_1 c20_2 := by kernel_rfl
theorem c20_1e : c20_1 = .region 0 r20_1 false := by kernel_rfl
theorem c20_2e : c20_2 = .seq c20_3 c20_12 := by kernel_rfl
theorem c20_3e : c20_3 = .seq c20_4 c20_5 := by kernel_rfl
theorem c20_4e : c20_4 = .region 1 r20_4 false := by kernel_rfl
theorem c20_5e : c20_5 = .seq c20_6 c20_7 := by kernel_rfl
theorem c20_6e : c20_6 = .region 2 r20_6 false := by kernel_rfl
theorem c20_7e : c20_7 = .cond (cdC c20_7) c20_8 c20_11 := by kernel_rfl
theorem c20_8e : c20_8 = .seq c20_9 c20_10 := by kernel_rfl
theorem c20_9e : c20_9 = .region 3 r20_9 false := by kernel_rfl
theorem c20_10e : c20_10 = .ret := by kernel_rfl
theorem c20_11e : c20_11 = .skip := by kernel_rfl
theorem c20_12e : c20_12 = .seq c20_13 c20_20 := by kernel_rfl
theorem c20_13e : c20_13 = .seq c20_14 c20_15 := by kernel_rfl
theorem c20_14e : c20_14 = .region 4 r20_14 false := by kernel_rfl
theorem c20_15e : c20_15 = .cond (cdC c20_15) c20_16 c20_19 := by kernel_rfl
theorem c20_16e : c20_16 = .seq c20_17 c20_18 := by kernel_rfl
theorem c20_17e : c20_17 = .region 5 r20_17 false := by kernel_rfl
theorem c20_18e : c20_18 = .ret := by kernel_rfl
theorem c20_19e : c20_19 = .skip := by kernel_rfl
theorem c20_20e : c20_20 = .seq c20_21 c20_22 := by kernel_rfl
theorem c20_21e : c20_21 = .region 6 r20_21 false := by kernel_rfl
theorem c20_22e : c20_22 = .ret := by kernel_rfl
noncomputable def rlog_Log_Term.R (b_2 : Nat) (A_3 : Option Addr) (c_4 : Nat) : Pst (Int × Int) where
  ε := Unit
  v := fun r x => .tuple ⟨[.int .u64 r.1, .int .i64 r.2]⟩
  H := fun r x => []
  B := fun r x => []
noncomputable def rlog_Log_Term.cx (b_2 : Nat) (A_3 : Option Addr) (c_4 : Nat) (w0 : World) (S0 : Fam) : Cx (Int × Int) := ⟨Try.prog, 20, Try.f20, 36, w0, S0, [], 2, rlog_Log_Term.R b_2 A_3 c_4⟩
theorem rlog_Log_Term_ok (n : Nat) (g_1 : T_rlog_Log) (i_5 : Int) (b_2 : Nat) (A_3 : Option Addr) (c_4 : Nat) :
    Meets Try.prog 20 [.pointer (some ⟨b_2, 0, none⟩), .int .u64 i_5] 2 [] [⟨1, b_2, [.int .u64 g_1.snap.Index, .int .u64 g_1.snap.Term, .int .u64 g_1.snap.Config, .string (bs g_1.snap.Data), .slice A_3 g_1.entries.length c_4]⟩] [Ow 2 kT_api_Entry A_3 c_4 g_1.entries] (rlog_Log_Term.f n g_1 i_5) (rlog_Log_Term.R b_2 A_3 c_4) := by
  refine Meets.of (c := c20_0) (n := 36) Try.func20 (by kernel_rfl) (by kernel_rfl) (by kernel_rfl) fun w0 S0 => ?_
  unfold rlog_Log_Term.f
  show GoO (rlog_Log_Term.cx b_2 A_3 c_4 w0 S0) [(0, .pointer (some ⟨b_2, 0, none⟩)), (1, .int .u64 i_5)] [⟨1, b_2, [.int .u64 g_1.snap.Index, .int .u64 g_1.snap.Term, .int .u64 g_1.snap.Config, .string (bs g_1.snap.Data), .slice A_3 g_1.entries.length c_4]⟩] [Ow 2 kT_api_Entry A_3 c_4 g_1.entries] [.code c20_0] _
  refine GoO.seq' c20_0e ?_
  refine GoO.region' (is := [0, 1]) c20_1e (by kernel_rfl) ?_
  refine GoO.exec (is := [0, 1]) (hs := [.p, .p]) (rest := []) (ks := [0, 1]) (env' := [(0, .pointer (some ⟨b_2, 0, none⟩)), (1, .int .u64 i_5)]) (H' := [⟨1, b_2, [.int .u64 g_1.snap.Index, .int .u64 g_1.snap.Term, .int .u64 g_1.snap.Config, .string (bs g_1.snap.Data), .slice A_3 g_1.entries.length c_4]⟩]) (ps := []) (by kernel_rfl) trivial ?_
  refine GoO.regionEnd ?_
  refine GoO.seq' c20_2e ?_
  refine GoO.seq' c20_3e ?_
  refine GoO.region' (is := [0, 1, 2, 3]) c20_4e (by kernel_rfl) ?_
  refine GoO.exec (is := [0, 1]) (hs := [.p, .p]) (rest := [2, 3]) (ks := [0, 1, 7, 8]) (env' := [(0, .pointer (some ⟨b_2, 0, none⟩)), (1, .int .u64 i_5), (7, .pointer (some ⟨b_2, 0, none⟩)), (8, .int .u64 i_5)]) (H' := [⟨1, b_2, [.int .u64 g_1.snap.Index, .int .u64 g_1.snap.Term, .int .u64 g_1.snap.Config, .string (bs g_1.snap.Data), .slice A_3 g_1.entries.length c_4]⟩]) (ps := []) (by kernel_rfl) trivial ?_
  refine OpTo.go (GoO.call rfl (by kernel_rfl) (by kernel_rfl) (rlog_Log_at_ok n (⟨(⟨g_1.snap.Index, g_1.snap.Term, g_1.snap.Config, g_1.snap.Data⟩ : T_api_Snapshot), g_1.entries⟩ : T_rlog_Log) i_5 b_2 A_3 c_4) [[0], [1], [2]] [] [(1, 0)] [(2, 0)] (hks := [0]) (bks := [0]) (by kernel_rfl) (by kernel_rfl) (by kernel_rfl) (.inl rfl) rfl rfl (by kernel_rfl) (by kernel_rfl) _ (fun _ _ => rfl) _ _ (fun _ _ => rfl) (fun _ _ => rfl) (fun _ _ => by kernel_rfl) (fun _ _ => by kernel_rfl) (fun r_6 x_10 => ?_))
  refine GoO.shape (env' := [(0, .pointer (some ⟨b_2, 0, none⟩)), (1, .int .u64 i_5), (7, .pointer (some ⟨b_2, 0, none⟩)), (8, .int .u64 i_5), (9, .int .i64 r_6)]) (H' := [⟨1, b_2, [.int .u64 g_1.snap.Index, .int .u64 g_1.snap.Term, .int .u64 g_1.snap.Config, .string (bs g_1.snap.Data), .slice A_3 g_1.entries.length c_4]⟩]) (B' := [Ow 2 kT_api_Entry A_3 c_4 g_1.entries]) (ks := [0, 1, 7, 8, 9]) (by kernel_rfl) (by kernel_rfl) (by kernel_rfl) ?_
  refine GoO.exec (is := [3]) (hs := [.p]) (rest := []) (ks := [0, 1, 6]) (env' := [(0, .pointer (some ⟨b_2, 0, none⟩)), (1, .int .u64 i_5), (6, .int .i64 r_6)]) (H' := [⟨1, b_2, [.int .u64 g_1.snap.Index, .int .u64 g_1.snap.Term, .int .u64 g_1.snap.Config, .string (bs g_1.snap.Data), .slice A_3 g_1.entries.length c_4]⟩]) (ps := []) (by kernel_rfl) trivial ?_
  refine GoO.regionEnd ?_
  refine GoO.seq' c20_5e ?_
  refine GoO.region' (is := [0, 1]) c20_6e (by kernel_rfl) ?_
  refine GoO.exec (is := [0, 1]) (hs := [.p, .p]) (rest := []) (ks := [0, 1, 6, 11]) (env' := [(0, .pointer (some ⟨b_2, 0, none⟩)), (1, .int .u64 i_5), (6, .int .i64 r_6), (11, .bool (decide (r_6 ≥ 0)))]) (H' := [⟨1, b_2, [.int .u64 g_1.snap.Index, .int .u64 g_1.snap.Term, .int .u64 g_1.snap.Config, .string (bs g_1.snap.Data), .slice A_3 g_1.entries.length c_4]⟩]) (ps := []) (by kernel_rfl) trivial ?_
  refine GoO.regionEnd ?_
  refine GoO.ite' c20_7e (by kernel_rfl) (fun h7 => ?_) (fun h7 => ?_)
  · refine GoO.seq' c20_8e ?_
    refine GoO.region' (is := [0, 1, 2, 3, 4, 5, 6, 7, 8, 9]) c20_9e (by kernel_rfl) ?_
    refine GoO.exec (is := [0, 1, 2, 3, 4]) (hs := [.p, .p, .p, .b 0, .p]) (rest := [5, 6, 7, 8, 9]) (ks := [15, 16]) (env' := [(15, .slice A_3 g_1.entries.length c_4), (16, .int .i64 r_6)]) (H' := [⟨1, b_2, [.int .u64 g_1.snap.Index, .int .u64 g_1.snap.Term, .int .u64 g_1.snap.Config, .string (bs g_1.snap.Data), .slice A_3 g_1.entries.length c_4]⟩]) (ps := [b_2 = b_2]) (by kernel_rfl) (And.intro rfl trivial) ?_
    refine GoO.guard (fun h8 => ?_)
    refine OpTo.go (GoO.idx (kk := .i64) (e := 40) (K := kT_api_Entry) (A := A_3) (c := c_4) (xs := g_1.entries) (iv := r_6) (j := 0) rfl (by kernel_rfl) (by kernel_rfl) (by kernel_rfl) (by kernel_rfl) rfl Reads.own rfl h8.1 h8.2 (by decide) rfl ?_)
    refine OpTo.go (GoO.fldE (K := kT_api_Entry) (A := A_3) (c := c_4) (xs := g_1.entries) (iN := r_6.toNat) (off := 0) (n := 0) (j := 0) rfl (by kernel_rfl) (by kernel_rfl) rfl Reads.own (by first | exact idx_lt h8.1 h8.2 | (simp only [List.length_set]; exact idx_lt h8.1 h8.2)) (by decide) rfl ?_)
    refine OpTo.go (GoO.ldE' (K := kT_api_Entry) (A := A_3) (c := c_4) (xs := g_1.entries) (iN := r_6.toNat) (off := 0) (j := 0) rfl (by kernel_rfl) rfl Reads.own (by first | exact idx_lt h8.1 h8.2 | (simp only [List.length_set]; exact idx_lt h8.1 h8.2)) (by decide) (Opn.flat _ _ _ _ _) (v := fun _ => .int .u64 ((rdL g_1.entries r_6).Term)) (fun _ => by kernel_rfl) _ (fun _ => rfl) (fun _ => ?_))
    refine GoO.exec (is := [8, 9]) (hs := [.p, .p]) (rest := []) (ks := [4, 5]) (env' := [(4, .int .u64 ((rdL g_1.entries r_6).Term)), (5, .int .i64 0)]) (H' := [⟨1, b_2, [.int .u64 g_1.snap.Index, .int .u64 g_1.snap.Term, .int .u64 g_1.snap.Config, .string (bs g_1.snap.Data), .slice A_3 g_1.entries.length c_4]⟩]) (ps := []) (by kernel_rfl) trivial ?_
    refine GoO.regionEnd ?_
    exact GoO.ret' (h := c20_10e) (hs := []) (ps := []) (hk := []) (bk := []) Try.func20 () (by kernel_rfl) trivial (by kernel_rfl) (by kernel_rfl)
  · refine GoO.skip' c20_11e ?_
    refine GoO.seq' c20_12e ?_
    refine GoO.seq' c20_13e ?_
    refine GoO.region' (is := [0, 1, 2, 3, 4, 5, 6, 7, 8, 9, 10]) c20_14e (by kernel_rfl) ?_
    refine GoO.exec (is := [0, 1, 2, 3, 4, 5, 6, 7, 8, 9, 10]) (hs := [.p, .p, .p, .p, .p, .p, .p, .p, .b 0, .p, .p]) (rest := []) (ks := [0, 30]) (env' := [(0, .pointer (some ⟨b_2, 0, none⟩)), (30, .bool (i_5 == g_1.snap.Index))]) (H' := [⟨1, b_2, [.int .u64 g_1.snap.Index, .int .u64 g_1.snap.Term, .int .u64 g_1.snap.Config, .string (bs g_1.snap.Data), .slice A_3 g_1.entries.length c_4]⟩]) (ps := [b_2 = b_2]) (by kernel_rfl) (And.intro rfl trivial) ?_
    refine GoO.regionEnd ?_
    refine GoO.ite' c20_15e (by kernel_rfl) (fun h9 => ?_) (fun h9 => ?_)
    · refine GoO.seq' c20_16e ?_
      refine GoO.region' (is := [0, 1, 2, 3, 4, 5, 6]) c20_17e (by kernel_rfl) ?_
      refine GoO.exec (is := [0, 1, 2, 3, 4, 5, 6]) (hs := [.p, .p, .p, .p, .b 0, .p, .p]) (rest := []) (ks := [4, 5]) (env' := [(4, .int .u64 g_1.snap.Term), (5, .int .i64 0)]) (H' := [⟨1, b_2, [.int .u64 g_1.snap.Index, .int .u64 g_1.snap.Term, .int .u64 g_1.snap.Config, .string (bs g_1.snap.Data), .slice A_3 g_1.entries.length c_4]⟩]) (ps := [b_2 = b_2]) (by kernel_rfl) (And.intro rfl trivial) ?_
      refine GoO.regionEnd ?_
      exact GoO.ret' (h := c20_18e) (hs := []) (ps := []) (hk := []) (bk := []) Try.func20 () (by kernel_rfl) trivial (by kernel_rfl) (by kernel_rfl)
    · refine GoO.skip' c20_19e ?_
      refine GoO.seq' c20_20e ?_
      refine GoO.region' (is := [0, 1]) c20_21e (by kernel_rfl) ?_
      refine GoO.exec (is := [0, 1]) (hs := [.p, .p]) (rest := []) (ks := [4, 5]) (env' := [(4, .int .u64 0), (5, .int .i64 20)]) (H' := [⟨1, b_2, [.int .u64 g_1.snap.Index, .int .u64 g_1.snap.Term, .int .u64 g_1.snap.Config, .string (bs g_1.snap.Data), .slice A_3 g_1.entries.length c_4]⟩]) (ps := []) (by kernel_rfl) trivial ?_
      refine GoO.regionEnd ?_
      exact GoO.ret' (h := c20_22e) (hs := []) (ps := []) (hk := []) (bk := []) Try.func20 () (by kernel_rfl) trivial (by kernel_rfl) (by kernel_rfl)

/-! (*tontine/rlog.Log).Merge -/
noncomputable def c18_0 : Code := bodyOf Try.f18
noncomputable def c18_1 : Code := cdL c18_0
noncomputable def c18_2 : Code := cdR c18_0
noncomputable def c18_3 : Code := cdL c18_2
noncomputable def c18_4 : Code := cdL c18_3
noncomputable def c18_5 : Code := cdR c18_3
noncomputable def c18_9 : Code := cdR c18_5
noncomputable def c18_10 : Code := cdR c18_2
noncomputable def c18_11 : Code := cdL c18_10
noncomputable def c18_12 : Code := cdL c18_11
noncomputable def c18_13 : Code := cdR c18_11
noncomputable def c18_14 : Code := cdL c18_13
noncomputable def c18_15 : Code := cdL c18_14
noncomputable def c18_16 : Code := cdL c18_15
noncomputable def c18_17 : Code := cdR c18_15
noncomputable def c18_18 : Code := cdL c18_17
noncomputable def c18_19 : Code := cdL c18_18
noncomputable def c18_20 : Code := cdR c18_18
noncomputable def c18_21 : Code := cdR c18_17
noncomputable def c18_22 : Code := cdL c18_21
noncomputable def c18_23 : Code := cdL c18_22
noncomputable def c18_24 : Code := cdL c18_23
noncomputable def c18_25 : Code := cdR c18_23
noncomputable def c18_26 : Code := cdL c18_25
noncomputable def c18_27 : Code := cdR c18_25
noncomputable def c18_28 : Code := cdL c18_27
noncomputable def c18_29 : Code := cdL c18_28
noncomputable def c18_30 : Code := cdR c18_28
noncomputable def c18_31 : Code := cdL c18_30
noncomputable def c18_32 : Code := cdR c18_30
noncomputable def c18_33 : Code := cdR c18_27
noncomputable def c18_34 : Code := cdL c18_33
noncomputable def c18_35 : Code := cdR c18_33
noncomputable def c18_36 : Code := cdL c18_35
noncomputable def c18_37 : Code := cdL c18_36
noncomputable def c18_38 : Code := cdR c18_36
noncomputable def c18_39 : Code := cdR c18_35
noncomputable def c18_40 : Code := cdR c18_21
noncomputable def c18_41 : Code := cdR c18_10
noncomputable def c18_42 : Code := cdL c18_41
noncomputable def c18_43 : Code := cdL c18_42
noncomputable def c18_44 : Code := cdL c18_43
noncomputable def c18_45 : Code := cdL c18_44
noncomputable def c18_46 : Code := cdL c18_45
noncomputable def c18_47 : Code := cdR c18_45
noncomputable def c18_48 : Code := cdL c18_47
noncomputable def c18_49 : Code := cdR c18_47
noncomputable def c18_50 : Code := cdR c18_44
noncomputable def c18_51 : Code := cdL c18_50
noncomputable def c18_52 : Code := cdL c18_51
noncomputable def c18_53 : Code := cdR c18_51
noncomputable def c18_54 : Code := cdR c18_41
noncomputable def c18_55 : Code := cdL c18_54
noncomputable def c18_56 : Code := cdL c18_55
noncomputable def c18_57 : Code := cdR c18_55
noncomputable def c18_58 : Code := cdL c18_57
noncomputable def c18_59 : Code := cdL c18_58
noncomputable def c18_60 : Code := cdR c18_58
noncomputable def c18_61 : Code := cdR c18_57
noncomputable def c18_62 : Code := cdR c18_54
noncomputable def c18_63 : Code := cdL c18_62
noncomputable def c18_64 : Code := cdL c18_63
noncomputable def c18_65 : Code := cdR c18_63
noncomputable def c18_66 : Code := cdL c18_65
noncomputable def c18_67 : Code := cdR c18_65
noncomputable def c18_68 : Code := cdL c18_67
noncomputable def c18_69 : Code := cdL c18_68
noncomputable def c18_70 : Code := cdR c18_68
noncomputable def c18_71 : Code := cdR c18_67
noncomputable def c18_72 : Code := cdR c18_62
noncomputable def c18_73 : Code := cdL c18_72
noncomputable def c18_74 : Code := cdL c18_73
noncomputable def c18_75 : Code := cdR c18_73
noncomputable def c18_76 : Code := cdL c18_75
noncomputable def c18_77 : Code := cdL c18_76
noncomputable def c18_78 : Code := cdL c18_77
noncomputable def c18_79 : Code := cdR c18_77
noncomputable def c18_80 : Code := cdL c18_79
noncomputable def c18_81 : Code := cdL c18_80
noncomputable def c18_82 : Code := cdR c18_80
noncomputable def c18_83 : Code := cdR c18_79
noncomputable def c18_84 : Code := cdL c18_83
noncomputable def c18_85 : Code := cdL c18_84
noncomputable def c18_86 : Code := cdL c18_85
noncomputable def c18_87 : Code := cdR c18_85
noncomputable def c18_88 : Code := cdL c18_87
noncomputable def c18_89 : Code := cdR c18_87
noncomputable def c18_90 : Code := cdL c18_89
noncomputable def c18_91 : Code := cdL c18_90
noncomputable def c18_92 : Code := cdR c18_90
noncomputable def c18_93 : Code := cdL c18_92
noncomputable def c18_94 : Code := cdR c18_92
noncomputable def c18_95 : Code := cdR c18_89
noncomputable def c18_96 : Code := cdL c18_95
noncomputable def c18_97 : Code := cdL c18_96
noncomputable def c18_98 : Code := cdR c18_96
noncomputable def c18_99 : Code := cdL c18_98
noncomputable def c18_100 : Code := cdR c18_98
noncomputable def c18_101 : Code := cdR c18_95
noncomputable def c18_102 : Code := cdL c18_101
noncomputable def c18_103 : Code := cdR c18_101
noncomputable def c18_104 : Code := cdL c18_103
noncomputable def c18_105 : Code := cdR c18_103
noncomputable def c18_106 : Code := cdR c18_83
noncomputable def c18_107 : Code := cdR c18_72
noncomputable def c18_108 : Code := cdL c18_107
noncomputable def c18_109 : Code := cdR c18_107
noncomputable def c18_6 : Code := cdL c18_5
noncomputable def r18_1 : Array Oper := cdO c18_1
noncomputable def r18_4 : Array Oper := cdO c18_4
noncomputable def r18_12 : Array Oper := cdO c18_12
noncomputable def r18_16 : Array Oper := cdO c18_16
noncomputable def r18_24 : Array Oper := cdO c18_24
noncomputable def r18_26 : Array Oper := cdO c18_26
noncomputable def r18_29 : Array Oper := cdO c18_29
noncomputable def r18_31 : Array Oper := cdO c18_31
noncomputable def r18_34 : Array Oper := cdO c18_34
noncomputable def r18_37 : Array Oper := cdO c18_37
noncomputable def r18_40 : Array Oper := cdO c18_40
noncomputable def r18_46 : Array Oper := cdO c18_46
noncomputable def r18_52 : Array Oper := cdO c18_52
noncomputable def r18_53 : Array Oper := cdO c18_53
noncomputable def r18_56 : Array Oper := cdO c18_56
noncomputable def r18_59 : Array Oper := cdO c18_59
noncomputable def r18_64 : Array Oper := cdO c18_64
noncomputable def r18_66 : Array Oper := cdO c18_66
noncomputable def r18_69 : Array Oper := cdO c18_69
noncomputable def r18_74 : Array Oper := cdO c18_74
noncomputable def r18_78 : Array Oper := cdO c18_78
noncomputable def r18_86 : Array Oper := cdO c18_86
noncomputable def r18_88 : Array Oper := cdO c18_88
noncomputable def r18_91 : Array Oper := cdO c18_91
noncomputable def r18_97 : Array Oper := cdO c18_97
noncomputable def r18_99 : Array Oper := cdO c18_99
noncomputable def r18_102 : Array Oper := cdO c18_102
noncomputable def r18_104 : Array Oper := cdO c18_104
noncomputable def r18_106 : Array Oper := cdO c18_106
noncomputable def r18_108 : Array Oper := cdO c18_108
theorem c18_0e : c18_0 = .seq c18_1 c18_2 := by kernel_rfl
theorem c18_1e : c18_1 = .region 0 r18_1 false := by kernel_rfl
theorem c18_2e : c18_2 = .seq c18_3 c18_10 := by kernel_rfl
theorem c18_3e : c18_3 = .seq c18_4 c18_5 := by kernel_rfl
theorem c18_4e : c18_4 = .region 1 r18_4 false := by kernel_rfl
theorem c18_5e : c18_5 = .cond (cdC c18_5) c18_6 c18_9 := by kernel_rfl
theorem c18_9e : c18_9 = .skip := by kernel_rfl
theorem c18_10e : c18_10 = .seq c18_11 c18_41 := by kernel_rfl
theorem c18_11e : c18_11 = .seq c18_12 c18_13 := by kernel_rfl
theorem c18_12e : c18_12 = .region 3 r18_12 false := by kernel_rfl
theorem c18_13e : c18_13 = .block 0 c18_14 := by kernel_rfl
theorem c18_14e : c18_14 = .loop c18_15 := by kernel_rfl
theorem c18_15e : c18_15 = .seq c18_16 c18_17 := by kernel_rfl
theorem c18_16e : c18_16 = .region 4 r18_16 false := by kernel_rfl
theorem c18_17e : c18_17 = .seq c18_18 c18_21 := by kernel_rfl
theorem c18_18e : c18_18 = .cond (cdC c18_18) c18_19 c18_20 := by kernel_rfl
theorem c18_19e : c18_19 = .skip := by kernel_rfl
theorem c18_20e : c18_20 = .exit 0 := by kernel_rfl
theorem c18_21e : c18_21 = .seq c18_22 c18_40 := by kernel_rfl
theorem c18_22e : c18_22 = .block 1 c18_23 := by kernel_rfl
theorem c18_23e : c18_23 = .seq c18_24 c18_25 := by kernel_rfl
theorem c18_24e : c18_24 = .region 5 r18_24 false := by kernel_rfl
theorem c18_25e : c18_25 = .seq c18_26 c18_27 := by kernel_rfl
theorem c18_26e : c18_26 = .region 6 r18_26 false := by kernel_rfl
theorem c18_27e : c18_27 = .seq c18_28 c18_33 := by kernel_rfl
theorem c18_28e : c18_28 = .seq c18_29 c18_30 := by kernel_rfl
theorem c18_29e : c18_29 = .region 7 r18_29 false := by kernel_rfl
theorem c18_30e : c18_30 = .cond (cdC c18_30) c18_31 c18_32 := by kernel_rfl
theorem c18_31e : c18_31 = .region 8 r18_31 false := by kernel_rfl
theorem c18_32e : c18_32 = .skip := by kernel_rfl
theorem c18_33e : c18_33 = .seq c18_34 c18_35 := by kernel_rfl
theorem c18_34e : c18_34 = .region 9 r18_34 false := by kernel_rfl
theorem c18_35e : c18_35 = .cond (cdC c18_35) c18_36 c18_39 := by kernel_rfl
theorem c18_36e : c18_36 = .seq c18_37 c18_38 := by kernel_rfl
theorem c18_37e : c18_37 = .region 10 r18_37 false := by kernel_rfl
theorem c18_38e : c18_38 = .ret := by kernel_rfl
theorem c18_39e : c18_39 = .skip := by kernel_rfl
theorem c18_40e : c18_40 = .region 11 r18_40 false := by kernel_rfl
theorem c18_41e : c18_41 = .seq c18_42 c18_54 := by kernel_rfl
theorem c18_42e : c18_42 = .block 2 c18_43 := by kernel_rfl
theorem c18_43e : c18_43 = .loop c18_44 := by kernel_rfl
theorem c18_44e : c18_44 = .seq c18_45 c18_50 := by kernel_rfl
theorem c18_45e : c18_45 = .seq c18_46 c18_47 := by kernel_rfl
theorem c18_46e : c18_46 = .region 12 r18_46 true := by kernel_rfl
theorem c18_47e : c18_47 = .cond (cdC c18_47) c18_48 c18_49 := by kernel_rfl
theorem c18_48e : c18_48 = .skip := by kernel_rfl
theorem c18_49e : c18_49 = .exit 2 := by kernel_rfl
theorem c18_50e : c18_50 = .block 3 c18_51 := by kernel_rfl
theorem c18_51e : c18_51 = .seq c18_52 c18_53 := by kernel_rfl
theorem c18_52e : c18_52 = .region 13 r18_52 true := by kernel_rfl
theorem c18_53e : c18_53 = .region 14 r18_53 false := by kernel_rfl
theorem c18_54e : c18_54 = .seq c18_55 c18_62 := by kernel_rfl
theorem c18_55e : c18_55 = .seq c18_56 c18_57 := by kernel_rfl
theorem c18_56e : c18_56 = .region 15 r18_56 false := by kernel_rfl
theorem c18_57e : c18_57 = .cond (cdC c18_57) c18_58 c18_61 := by kernel_rfl
theorem c18_58e : c18_58 = .seq c18_59 c18_60 := by kernel_rfl
theorem c18_59e : c18_59 = .region 16 r18_59 false := by kernel_rfl
theorem c18_60e : c18_60 = .ret := by kernel_rfl
theorem c18_61e : c18_61 = .skip := by kernel_rfl
theorem c18_62e : c18_62 = .seq c18_63 c18_72 := by kernel_rfl
theorem c18_63e : c18_63 = .seq c18_64 c18_65 := by kernel_rfl
theorem c18_64e : c18_64 = .region 17 r18_64 false := by kernel_rfl
theorem c18_65e : c18_65 = .seq c18_66 c18_67 := by kernel_rfl
theorem c18_66e : c18_66 = .region 18 r18_66 false := by kernel_rfl
theorem c18_67e : c18_67 = .cond (cdC c18_67) c18_68 c18_71 := by kernel_rfl
theorem c18_68e : c18_68 = .seq c18_69 c18_70 := by kernel_rfl
theorem c18_69e : c18_69 = .region 19 r18_69 false := by kernel_rfl
theorem c18_70e : c18_70 = .ret := by kernel_rfl
theorem c18_71e : c18_71 = .skip := by kernel_rfl
theorem c18_72e : c18_72 = .seq c18_73 c18_107 := by kernel_rfl
theorem c18_73e : c18_73 = .seq c18_74 c18_75 := by kernel_rfl
theorem c18_74e : c18_74 = .region 20 r18_74 false := by kernel_rfl
theorem c18_75e : c18_75 = .block 4 c18_76 := by kernel_rfl
theorem c18_76e : c18_76 = .loop c18_77 := by kernel_rfl
theorem c18_77e : c18_77 = .seq c18_78 c18_79 := by kernel_rfl
theorem c18_78e : c18_78 = .region 21 r18_78 false := by kernel_rfl
theorem c18_79e : c18_79 = .seq c18_80 c18_83 := by kernel_rfl
theorem c18_80e : c18_80 = .cond (cdC c18_80) c18_81 c18_82 := by kernel_rfl
theorem c18_81e : c18_81 = .skip := by kernel_rfl
theorem c18_82e : c18_82 = .exit 4 := by kernel_rfl
theorem c18_83e : c18_83 = .seq c18_84 c18_106 := by kernel_rfl
theorem c18_84e : c18_84 = .block 5 c18_85 := by kernel_rfl
theorem c18_85e : c18_85 = .seq c18_86 c18_87 := by kernel_rfl
theorem c18_86e : c18_86 = .region 22 r18_86 false := by kernel_rfl
theorem c18_87e : c18_87 = .seq c18_88 c18_89 := by kernel_rfl
theorem c18_88e : c18_88 = .region 23 r18_88 false := by kernel_rfl
theorem c18_89e : c18_89 = .seq c18_90 c18_95 := by kernel_rfl
theorem c18_90e : c18_90 = .seq c18_91 c18_92 := by kernel_rfl
theorem c18_91e : c18_91 = .region 24 r18_91 true := by kernel_rfl
theorem c18_92e : c18_92 = .cond (cdC c18_92) c18_93 c18_94 := by kernel_rfl
theorem c18_93e : c18_93 = .exit 5 := by kernel_rfl
theorem c18_94e : c18_94 = .skip := by kernel_rfl
theorem c18_95e : c18_95 = .seq c18_96 c18_101 := by kernel_rfl
theorem c18_96e : c18_96 = .seq c18_97 c18_98 := by kernel_rfl
theorem c18_97e : c18_97 = .region 25 r18_97 false := by kernel_rfl
theorem c18_98e : c18_98 = .cond (cdC c18_98) c18_99 c18_100 := by kernel_rfl
theorem c18_99e : c18_99 = .region 26 r18_99 false := by kernel_rfl
theorem c18_100e : c18_100 = .skip := by kernel_rfl
theorem c18_101e : c18_101 = .seq c18_102 c18_103 := by kernel_rfl
theorem c18_102e : c18_102 = .region 27 r18_102 true := by kernel_rfl
theorem c18_103e : c18_103 = .seq c18_104 c18_105 := by kernel_rfl
theorem c18_104e : c18_104 = .region 28 r18_104 false := by kernel_rfl
theorem c18_105e : c18_105 = .ret := by kernel_rfl
theorem c18_106e : c18_106 = .region 29 r18_106 false := by kernel_rfl
theorem c18_107e : c18_107 = .seq c18_108 c18_109 := by kernel_rfl
theorem c18_108e : c18_108 = .region 30 r18_108 false := by kernel_rfl
theorem c18_109e : c18_109 = .ret := by kernel_rfl
noncomputable def rlog_Log_Merge.R (b_2 : Nat) (A_3 : Option Addr) (c_4 : Nat) (A_8 : Option Addr) (c_9 : Nat) : Pst ((List T_api_Entry) × Bool × T_rlog_Log) where
  ε := Option Addr × Nat × Option Addr × Nat
  v := fun r x => .tuple ⟨[.slice x.1 r.1.length x.2.1, .bool r.2.1]⟩
  H := fun r x => [⟨1, b_2, [.int .u64 r.2.2.snap.Index, .int .u64 r.2.2.snap.Term, .int .u64 r.2.2.snap.Config, .string (bs r.2.2.snap.Data), .slice x.2.2.1 r.2.2.entries.length x.2.2.2]⟩]
  B := fun r x => [Ow 3 kT_api_Entry x.1 x.2.1 r.1, Ow 2 kT_api_Entry x.2.2.1 x.2.2.2 r.2.2.entries]
noncomputable def rlog_Log_Merge.cx (b_2 : Nat) (A_3 : Option Addr) (c_4 : Nat) (A_8 : Option Addr) (c_9 : Nat) (w0 : World) (S0 : Fam) : Cx ((List T_api_Entry) × Bool × T_rlog_Log) := ⟨Try.prog, 18, Try.f18, 172, w0, S0, [1, 2], 2, rlog_Log_Merge.R b_2 A_3 c_4 A_8 c_9⟩
theorem rlog_Log_Merge_j0_ok (n : Nat) (L0 : Int → Option ((List T_api_Entry) × Bool × T_rlog_Log)) (g_1 : T_rlog_Log) (index_5 : Int) (term_6 : Int) (l_7 : (List T_api_Entry)) (x_10 : Int) (b_2 : Nat) (A_3 : Option Addr) (c_4 : Nat) (A_8 : Option Addr) (c_9 : Nat) (b_13 : Nat) (w0 : World) (S0 : Fam) (ih0 : ∀ (x_10 : Int), GoO (rlog_Log_Merge.cx b_2 A_3 c_4 A_8 c_9 w0 S0) [(0, .pointer (some ⟨b_2, 0, none⟩)), (1, .int .u64 index_5), (2, .int .u64 term_6), (3, .slice A_8 l_7.length c_9), (20, .slice A_8 l_7.length c_9), (21, .int .i64 (l_7.length : Int)), (22, .int .i64 x_10)] [⟨1, b_2, [.int .u64 g_1.snap.Index, .int .u64 g_1.snap.Term, .int .u64 g_1.snap.Config, .string (bs g_1.snap.Data), .slice A_3 g_1.entries.length c_4]⟩] [Ow 2 kT_api_Entry A_3 c_4 g_1.entries, Rd 0 kT_api_Entry A_8 c_9 l_7] [.code c18_15, .inLoop c18_15, .inBlock 0, .code c18_41] (L0 x_10)) (p_16 : Int) :
    GoO (rlog_Log_Merge.cx b_2 A_3 c_4 A_8 c_9 w0 S0) [(0, .pointer (some ⟨b_2, 0, none⟩)), (1, .int .u64 index_5), (2, .int .u64 term_6), (3, .slice A_8 l_7.length c_9), (10, .int .i64 x_10), (11, .pointer (some ⟨b_13, 0, none⟩)), (12, .int .u64 p_16), (20, .slice A_8 l_7.length c_9), (21, .int .i64 (l_7.length : Int)), (22, .int .i64 x_10)] [⟨1, b_2, [.int .u64 g_1.snap.Index, .int .u64 g_1.snap.Term, .int .u64 g_1.snap.Config, .string (bs g_1.snap.Data), .slice A_3 g_1.entries.length c_4]⟩, ⟨40, b_13, [.int .u64 ((rdL l_7 x_10).Term), .int .u64 ((rdL l_7 x_10).Index), .int .i64 ((rdL l_7 x_10).Kind), .string (bs ((rdL l_7 x_10).Data))]⟩] [Ow 2 kT_api_Entry A_3 c_4 g_1.entries, Rd 0 kT_api_Entry A_8 c_9 l_7] [.code c18_33, .inBlock 1, .code c18_40, .inLoop c18_15, .inBlock 0, .code c18_41] (rlog_Log_Merge.j0 n L0 g_1 index_5 l_7 x_10 p_16) := by
  unfold rlog_Log_Merge.j0
  refine GoO.seq' c18_33e ?_
  refine GoO.region' (is := [0, 1, 2, 3, 4, 5, 6, 7, 8]) c18_34e (by kernel_rfl) ?_
  refine GoO.exec (is := [0, 1, 2, 3, 4, 5, 6]) (hs := [.b 1, .p, .p, .p, .p, .p, .p]) (rest := [7, 8]) (ks := [0, 1, 2, 3, 20, 21, 22, 36, 41, 42]) (env' := [(0, .pointer (some ⟨b_2, 0, none⟩)), (1, .int .u64 index_5), (2, .int .u64 term_6), (3, .slice A_8 l_7.length c_9), (20, .slice A_8 l_7.length c_9), (21, .int .i64 (l_7.length : Int)), (22, .int .i64 x_10), (36, .agg ⟨[.int .u64 ((rdL l_7 x_10).Term), .int .u64 ((rdL l_7 x_10).Index), .int .i64 ((rdL l_7 x_10).Kind), .string (bs ((rdL l_7 x_10).Data))]⟩), (41, .int .u64 (wu64 ((wu64 (index_5 + 1)) + (wu64 x_10)))), (42, .int .u64 p_16)]) (H' := [⟨1, b_2, [.int .u64 g_1.snap.Index, .int .u64 g_1.snap.Term, .int .u64 g_1.snap.Config, .string (bs g_1.snap.Data), .slice A_3 g_1.entries.length c_4]⟩, ⟨40, b_13, [.int .u64 ((rdL l_7 x_10).Term), .int .u64 ((rdL l_7 x_10).Index), .int .i64 ((rdL l_7 x_10).Kind), .string (bs ((rdL l_7 x_10).Data))]⟩]) (ps := [b_13 = b_13]) (by kernel_rfl) (And.intro rfl trivial) ?_
  refine OpTo.go (GoO.call rfl (by kernel_rfl) (by kernel_rfl) (rlog_sound_ok n (rdL l_7 x_10) (wu64 ((wu64 (index_5 + 1)) + (wu64 x_10))) p_16) [[0]] [] [] [] (hks := [0, 1]) (bks := [0, 1]) (by kernel_rfl) (by kernel_rfl) (by kernel_rfl) (.inl rfl) rfl rfl (by kernel_rfl) (by kernel_rfl) _ (fun _ _ => rfl) _ _ (fun _ _ => rfl) (fun _ _ => rfl) (fun _ _ => by kernel_rfl) (fun _ _ => by kernel_rfl) (fun r_17 x_19 => ?_))
  refine GoO.shape (env' := [(0, .pointer (some ⟨b_2, 0, none⟩)), (1, .int .u64 index_5), (2, .int .u64 term_6), (3, .slice A_8 l_7.length c_9), (20, .slice A_8 l_7.length c_9), (21, .int .i64 (l_7.length : Int)), (22, .int .i64 x_10), (36, .agg ⟨[.int .u64 ((rdL l_7 x_10).Term), .int .u64 ((rdL l_7 x_10).Index), .int .i64 ((rdL l_7 x_10).Kind), .string (bs ((rdL l_7 x_10).Data))]⟩), (41, .int .u64 (wu64 ((wu64 (index_5 + 1)) + (wu64 x_10)))), (42, .int .u64 p_16), (43, .bool r_17)]) (H' := [⟨1, b_2, [.int .u64 g_1.snap.Index, .int .u64 g_1.snap.Term, .int .u64 g_1.snap.Config, .string (bs g_1.snap.Data), .slice A_3 g_1.entries.length c_4]⟩, ⟨40, b_13, [.int .u64 ((rdL l_7 x_10).Term), .int .u64 ((rdL l_7 x_10).Index), .int .i64 ((rdL l_7 x_10).Kind), .string (bs ((rdL l_7 x_10).Data))]⟩]) (B' := [Ow 2 kT_api_Entry A_3 c_4 g_1.entries, Rd 0 kT_api_Entry A_8 c_9 l_7]) (ks := [0, 1, 2, 3, 20, 21, 22, 36, 41, 42, 43]) (by kernel_rfl) (by kernel_rfl) (by kernel_rfl) ?_
  refine GoO.exec (is := [8]) (hs := [.p]) (rest := []) (ks := [0, 1, 2, 3, 20, 21, 22, 44]) (env' := [(0, .pointer (some ⟨b_2, 0, none⟩)), (1, .int .u64 index_5), (2, .int .u64 term_6), (3, .slice A_8 l_7.length c_9), (20, .slice A_8 l_7.length c_9), (21, .int .i64 (l_7.length : Int)), (22, .int .i64 x_10), (44, .bool (!r_17))]) (H' := [⟨1, b_2, [.int .u64 g_1.snap.Index, .int .u64 g_1.snap.Term, .int .u64 g_1.snap.Config, .string (bs g_1.snap.Data), .slice A_3 g_1.entries.length c_4]⟩, ⟨40, b_13, [.int .u64 ((rdL l_7 x_10).Term), .int .u64 ((rdL l_7 x_10).Index), .int .i64 ((rdL l_7 x_10).Kind), .string (bs ((rdL l_7 x_10).Data))]⟩]) (ps := []) (by kernel_rfl) trivial ?_
  refine GoO.regionEnd ?_
  refine GoO.ite' c18_35e (by kernel_rfl) (fun h18 => ?_) (fun h18 => ?_)
  · refine GoO.seq' c18_36e ?_
    refine GoO.region' (is := [0, 1]) c18_37e (by kernel_rfl) ?_
    refine GoO.exec (is := [0, 1]) (hs := [.p, .p]) (rest := []) (ks := [8, 9]) (env' := [(8, .slice none ([] : List T_api_Entry).length 0), (9, .bool false)]) (H' := [⟨1, b_2, [.int .u64 g_1.snap.Index, .int .u64 g_1.snap.Term, .int .u64 g_1.snap.Config, .string (bs g_1.snap.Data), .slice A_3 g_1.entries.length c_4]⟩, ⟨40, b_13, [.int .u64 ((rdL l_7 x_10).Term), .int .u64 ((rdL l_7 x_10).Index), .int .i64 ((rdL l_7 x_10).Kind), .string (bs ((rdL l_7 x_10).Data))]⟩]) (ps := []) (by kernel_rfl) trivial ?_
    refine GoO.regionEnd ?_
    refine GoO.nilOwn kT_api_Entry 3 ?_
    exact GoO.ret' (h := c18_38e) (hs := []) (ps := []) (hk := [0]) (bk := [0, 1]) Try.func18 (⟨none, 0, A_3, c_4⟩ : Option Addr × Nat × Option Addr × Nat) (by kernel_rfl) trivial (by kernel_rfl) (by kernel_rfl)
  · refine GoO.skip' c18_39e ?_
    refine GoO.inBlock ?_
    refine GoO.region' (is := [0, 1]) c18_40e (by kernel_rfl) ?_
    refine GoO.exec (is := [0, 1]) (hs := [.p, .p]) (rest := []) (ks := [0, 1, 2, 3, 20, 21, 22]) (env' := [(0, .pointer (some ⟨b_2, 0, none⟩)), (1, .int .u64 index_5), (2, .int .u64 term_6), (3, .slice A_8 l_7.length c_9), (20, .slice A_8 l_7.length c_9), (21, .int .i64 (l_7.length : Int)), (22, .int .i64 (wi64 (x_10 + 1)))]) (H' := [⟨1, b_2, [.int .u64 g_1.snap.Index, .int .u64 g_1.snap.Term, .int .u64 g_1.snap.Config, .string (bs g_1.snap.Data), .slice A_3 g_1.entries.length c_4]⟩, ⟨40, b_13, [.int .u64 ((rdL l_7 x_10).Term), .int .u64 ((rdL l_7 x_10).Index), .int .i64 ((rdL l_7 x_10).Kind), .string (bs ((rdL l_7 x_10).Data))]⟩]) (ps := []) (by kernel_rfl) trivial ?_
    refine GoO.regionEnd ?_
    refine GoO.inLoop ?_
    exact GoO.sub (ks := [0, 1, 2, 3, 20, 21, 22]) (hk := [0]) (bk := [0, 1]) (by kernel_rfl) (by kernel_rfl) (by kernel_rfl) (ih0 (wi64 (x_10 + 1)))
theorem rlog_Log_Merge_j4_ok (n : Nat) (g_1 : T_rlog_Log) (l_22 : (List T_api_Entry)) (x_43 : Int) (b_2 : Nat) (A_23 : Option Addr) (c_24 : Nat) (A_3 : Option Addr) (c_4 : Nat) (A_8 : Option Addr) (c_9 : Nat) (w0 : World) (S0 : Fam) (f_59 : (List T_api_Entry)) (A_60 : Option Addr) (c_61 : Nat) :
    GoO (rlog_Log_Merge.cx b_2 A_3 c_4 A_8 c_9 w0 S0) [(0, .pointer (some ⟨b_2, 0, none⟩)), (3, .slice A_23 l_22.length c_24), (15, .int .i64 x_43)] [⟨1, b_2, [.int .u64 g_1.snap.Index, .int .u64 g_1.snap.Term, .int .u64 g_1.snap.Config, .string (bs g_1.snap.Data), .slice A_60 f_59.length c_61]⟩] [Ow 2 kT_api_Entry A_60 c_61 f_59, Rd 0 kT_api_Entry A_23 c_24 l_22] [.code c18_101, .inBlock 5, .code c18_106, .inLoop c18_77, .inBlock 4, .code c18_107] (rlog_Log_Merge.j4 n g_1 l_22 x_43 f_59) := by
  unfold rlog_Log_Merge.j4
  refine GoO.seq' c18_101e ?_
  refine GoO.draw c18_102e (by kernel_rfl) [9, 10, 11] [⟨1, b_2, [.int .u64 g_1.snap.Index, .int .u64 g_1.snap.Term, .int .u64 g_1.snap.Config, .string (bs g_1.snap.Data), .slice A_60 f_59.length c_61]⟩] [] (n := 12) (by kernel_rfl) ?_
  simp only [List.replicate]
  refine GoF.take [0, 1, 2, 3, 4, 5, 6] [.p, .p, .p, .p, .b 0, .p, .p] (ks := [3, 15, 156, 160, 161, 162]) (fu := 5) (li := [true, true, true, true, true, true, true, false, false, false, false, false]) (env' := [(3, .slice A_23 l_22.length c_24), (15, .int .i64 x_43), (156, .pointer (some ⟨b_2, 0, none⟩)), (160, .slice A_60 f_59.length c_61), (161, .slice A_23 l_22.length c_24), (162, .int .i64 x_43)]) (ps := [b_2 = b_2]) (hk := [0]) (bk := []) (by kernel_rfl) (And.intro rfl trivial) rfl rfl ?_
  refine GoF.guard (fun h64 => ?_)
  refine GoF.slc1 (i := 7) (hk := [0]) (bk := []) (e := 40) (K := kT_api_Entry) (A := A_23) (c := c_24) (xs := l_22) (j := 1) (l := x_43) (h := (l_22.length : Int)) (by kernel_rfl) rfl rfl rfl (by kernel_rfl) (by kernel_rfl) (by kernel_rfl) rfl Reads.rd rfl (by kernel_rfl) (by kernel_rfl) h64.1 h64.2.1 h64.2.2 _ (fun _ _ => rfl) (fun A_62 c_63 => ?_)
  refine GoF.guard (fun h65 => ?_)
  refine OpTo.goF (i := 8) (by kernel_rfl) (hk := [0]) (bk := []) (GoO.appW (e := 40) (K := kT_api_Entry) (A := A_60) (c := c_61) (tg := 2) (bytes := 40) (zs := [.int .u64 0, .int .u64 0, .int .i64 0, .string (bs [])]) (xs := f_59) (ys := (l_22.take (l_22.length : Int).toNat).drop x_43.toNat) (xv := .slice A_62 ((l_22.take (l_22.length : Int).toNat).drop x_43.toNat).length c_63) (j := 1) (bk := [0, 2]) rfl (by kernel_rfl) (by kernel_rfl) (by kernel_rfl) (by kernel_rfl) rfl (by kernel_rfl) rfl (fun w S hB => SrcIs.row (Reads.rd w S (hB _ (List.mem_of_getElem? (i := 0) rfl)))) h65 rfl rfl rfl rfl _ (fun _ _ => rfl) (fun A_66 c_67 => ⟨rfl, rfl, ?_⟩))
  refine GoF.fin1 (i := 9) (hint := .p) (ps := []) (hk := []) (bk := []) (by kernel_rfl) rfl trivial (.inl rfl) ?_
  refine GoF.fin1 (i := 10) (hint := .p) (ps := []) (hk := []) (bk := []) (by kernel_rfl) rfl trivial (.inl rfl) ?_
  refine GoF.fin1 (i := 11) (hint := .b 0) (ps := [b_2 = b_2]) (hk := []) (bk := []) (by kernel_rfl) rfl (And.intro rfl trivial) (.inl rfl) ?_
  refine GoF.done (by kernel_rfl) ?_
  refine GoO.seq' c18_103e ?_
  refine GoO.region' (is := [0, 1, 2, 3, 4, 5]) c18_104e (by kernel_rfl) ?_
  refine GoO.exec (is := [0, 1]) (hs := [.p, .p]) (rest := [2, 3, 4, 5]) (ks := [167, 168]) (env' := [(167, .slice A_23 l_22.length c_24), (168, .int .i64 x_43)]) (H' := [⟨1, b_2, [.int .u64 g_1.snap.Index, .int .u64 g_1.snap.Term, .int .u64 g_1.snap.Config, .string (bs g_1.snap.Data), .slice A_66 (f_59 ++ ((l_22.take (l_22.length : Int).toNat).drop x_43.toNat)).length c_67]⟩]) (ps := []) (by kernel_rfl) trivial ?_
  refine GoO.guard (fun h70 => ?_)
  refine OpTo.go (GoO.slc (e := 40) (K := kT_api_Entry) (A := A_23) (c := c_24) (xs := l_22) (j := 2) (l := x_43) (h := (l_22.length : Int)) rfl (by kernel_rfl) (by kernel_rfl) (by kernel_rfl) rfl Reads.rd rfl (by kernel_rfl) (by kernel_rfl) h70.1 h70.2.1 h70.2.2 _ (fun _ _ => rfl) (fun A_68 c_69 => ?_))
  refine GoO.nilOwn kT_api_Entry 43 ?_
  refine GoO.guard (fun h71 => ?_)
  refine OpTo.go (GoO.appW (e := 40) (K := kT_api_Entry) (A := none) (c := 0) (tg := 43) (bytes := 40) (zs := [.int .u64 0, .int .u64 0, .int .i64 0, .string (bs [])]) (xs := ([] : List T_api_Entry)) (ys := (l_22.take (l_22.length : Int).toNat).drop x_43.toNat) (xv := .slice A_68 ((l_22.take (l_22.length : Int).toNat).drop x_43.toNat).length c_69) (j := 0) (bk := [1, 2, 3, 4]) rfl (by kernel_rfl) (by kernel_rfl) (by kernel_rfl) (by kernel_rfl) rfl (by kernel_rfl) rfl (fun w S hB => SrcIs.row (Reads.rd w S (hB _ (List.mem_of_getElem? (i := 1) rfl)))) h71 rfl rfl rfl rfl _ (fun _ _ => rfl) (fun A_72 c_73 => ?_))
  refine GoO.exec (is := [4, 5]) (hs := [.p, .p]) (rest := []) (ks := [8, 9]) (env' := [(8, .slice A_72 (([] : List T_api_Entry) ++ ((l_22.take (l_22.length : Int).toNat).drop x_43.toNat)).length c_73), (9, .bool true)]) (H' := [⟨1, b_2, [.int .u64 g_1.snap.Index, .int .u64 g_1.snap.Term, .int .u64 g_1.snap.Config, .string (bs g_1.snap.Data), .slice A_66 (f_59 ++ ((l_22.take (l_22.length : Int).toNat).drop x_43.toNat)).length c_67]⟩]) (ps := []) (by kernel_rfl) trivial ?_
  refine GoO.regionEnd ?_
  refine GoO.retag (t := 43) (u := 3) (j := 0) (hk := [0]) (bk := [1, 2, 3, 4]) rfl rfl rfl rfl rfl rfl (by kernel_rfl) (by kernel_rfl) ?_
  exact GoO.ret' (h := c18_105e) (hs := []) (ps := []) (hk := [0]) (bk := [0, 2]) Try.func18 (⟨A_72, c_73, A_66, c_67⟩ : Option Addr × Nat × Option Addr × Nat) (by kernel_rfl) trivial (by kernel_rfl) (by kernel_rfl)
theorem rlog_Log_Merge_j3_ok (n : Nat) (L2 : Int → Option ((List T_api_Entry) × Bool × T_rlog_Log)) (g_1 : T_rlog_Log) (l_22 : (List T_api_Entry)) (x_43 : Int) (r_47 : Int) (b_2 : Nat) (A_3 : Option Addr) (c_4 : Nat) (A_8 : Option Addr) (c_9 : Nat) (A_23 : Option Addr) (c_24 : Nat) (w0 : World) (S0 : Fam) (ih2 : ∀ (x_43 : Int), GoO (rlog_Log_Merge.cx b_2 A_3 c_4 A_8 c_9 w0 S0) [(0, .pointer (some ⟨b_2, 0, none⟩)), (3, .slice A_23 l_22.length c_24), (118, .slice A_23 l_22.length c_24), (119, .int .i64 (l_22.length : Int)), (120, .int .i64 x_43)] [⟨1, b_2, [.int .u64 g_1.snap.Index, .int .u64 g_1.snap.Term, .int .u64 g_1.snap.Config, .string (bs g_1.snap.Data), .slice A_3 g_1.entries.length c_4]⟩] [Ow 2 kT_api_Entry A_3 c_4 g_1.entries, Rd 0 kT_api_Entry A_23 c_24 l_22] [.code c18_77, .inLoop c18_77, .inBlock 4, .code c18_107] (L2 x_43)) (b_50 : Bool) :
    GoO (rlog_Log_Merge.cx b_2 A_3 c_4 A_8 c_9 w0 S0) [(0, .pointer (some ⟨b_2, 0, none⟩)), (3, .slice A_23 l_22.length c_24), (15, .int .i64 x_43), (17, .int .i64 r_47), (118, .slice A_23 l_22.length c_24), (119, .int .i64 (l_22.length : Int)), (120, .int .i64 x_43), (143, .bool b_50)] [⟨1, b_2, [.int .u64 g_1.snap.Index, .int .u64 g_1.snap.Term, .int .u64 g_1.snap.Config, .string (bs g_1.snap.Data), .slice A_3 g_1.entries.length c_4]⟩] [Ow 2 kT_api_Entry A_3 c_4 g_1.entries, Rd 0 kT_api_Entry A_23 c_24 l_22] [.code c18_92, .code c18_95, .inBlock 5, .code c18_106, .inLoop c18_77, .inBlock 4, .code c18_107] (rlog_Log_Merge.j3 n L2 g_1 l_22 x_43 r_47 b_50) := by
  unfold rlog_Log_Merge.j3
  refine GoO.ite' c18_92e (by kernel_rfl) (fun h51 => ?_) (fun h51 => ?_)
  · refine GoO.exit' c18_93e rfl ?_
    refine GoO.region' (is := [0, 1]) c18_106e (by kernel_rfl) ?_
    refine GoO.exec (is := [0, 1]) (hs := [.p, .p]) (rest := []) (ks := [0, 3, 118, 119, 120]) (env' := [(0, .pointer (some ⟨b_2, 0, none⟩)), (3, .slice A_23 l_22.length c_24), (118, .slice A_23 l_22.length c_24), (119, .int .i64 (l_22.length : Int)), (120, .int .i64 (wi64 (x_43 + 1)))]) (H' := [⟨1, b_2, [.int .u64 g_1.snap.Index, .int .u64 g_1.snap.Term, .int .u64 g_1.snap.Config, .string (bs g_1.snap.Data), .slice A_3 g_1.entries.length c_4]⟩]) (ps := []) (by kernel_rfl) trivial ?_
    refine GoO.regionEnd ?_
    refine GoO.inLoop ?_
    exact GoO.sub (ks := [0, 3, 118, 119, 120]) (hk := [0]) (bk := [0, 1]) (by kernel_rfl) (by kernel_rfl) (by kernel_rfl) (ih2 (wi64 (x_43 + 1)))
  · refine GoO.skip' c18_94e ?_
    refine GoO.seq' c18_95e ?_
    refine GoO.seq' c18_96e ?_
    refine GoO.region' (is := [0, 1]) c18_97e (by kernel_rfl) ?_
    refine GoO.exec (is := [0, 1]) (hs := [.p, .p]) (rest := []) (ks := [0, 3, 15, 17, 145]) (env' := [(0, .pointer (some ⟨b_2, 0, none⟩)), (3, .slice A_23 l_22.length c_24), (15, .int .i64 x_43), (17, .int .i64 r_47), (145, .bool (decide (r_47 ≥ 0)))]) (H' := [⟨1, b_2, [.int .u64 g_1.snap.Index, .int .u64 g_1.snap.Term, .int .u64 g_1.snap.Config, .string (bs g_1.snap.Data), .slice A_3 g_1.entries.length c_4]⟩]) (ps := []) (by kernel_rfl) trivial ?_
    refine GoO.regionEnd ?_
    refine GoO.ite' c18_98e (by kernel_rfl) (fun h52 => ?_) (fun h52 => ?_)
    · refine GoO.region' (is := [0, 1, 2, 3, 4, 5, 6, 7, 8, 9, 10]) c18_99e (by kernel_rfl) ?_
      refine GoO.exec (is := [0, 1, 2, 3, 4, 5]) (hs := [.p, .p, .p, .p, .b 0, .p]) (rest := [6, 7, 8, 9, 10]) (ks := [0, 3, 15, 146, 150, 151]) (env' := [(0, .pointer (some ⟨b_2, 0, none⟩)), (3, .slice A_23 l_22.length c_24), (15, .int .i64 x_43), (146, .pointer (some ⟨b_2, 0, none⟩)), (150, .slice A_3 g_1.entries.length c_4), (151, .int .i64 r_47)]) (H' := [⟨1, b_2, [.int .u64 g_1.snap.Index, .int .u64 g_1.snap.Term, .int .u64 g_1.snap.Config, .string (bs g_1.snap.Data), .slice A_3 g_1.entries.length c_4]⟩]) (ps := [b_2 = b_2]) (by kernel_rfl) (And.intro rfl trivial) ?_
      refine GoO.guard (fun h55 => ?_)
      refine OpTo.go (GoO.slc (e := 40) (K := kT_api_Entry) (A := A_3) (c := c_4) (xs := g_1.entries) (j := 0) (l := (0 : Int)) (h := r_47) rfl (by kernel_rfl) (by kernel_rfl) (by kernel_rfl) rfl Reads.own rfl (by kernel_rfl) (by kernel_rfl) h55.1 h55.2.1 h55.2.2 _ (fun _ _ => rfl) (fun A_53 c_54 => ?_))
      refine GoO.nilOwn kT_api_Entry 42 ?_
      refine GoO.guard (fun h56 => ?_)
      refine OpTo.go (GoO.appW (e := 40) (K := kT_api_Entry) (A := none) (c := 0) (tg := 42) (bytes := 40) (zs := [.int .u64 0, .int .u64 0, .int .i64 0, .string (bs [])]) (xs := ([] : List T_api_Entry)) (ys := (g_1.entries.take r_47.toNat).drop (0 : Int).toNat) (xv := .slice A_53 ((g_1.entries.take r_47.toNat).drop (0 : Int).toNat).length c_54) (j := 0) (bk := [1, 2, 3]) rfl (by kernel_rfl) (by kernel_rfl) (by kernel_rfl) (by kernel_rfl) rfl (by kernel_rfl) rfl (fun w S hB => SrcIs.row (Reads.rd w S (hB _ (List.mem_of_getElem? (i := 1) rfl)))) h56 rfl rfl rfl rfl _ (fun _ _ => rfl) (fun A_57 c_58 => ?_))
      refine GoO.exec (is := [8, 9, 10]) (hs := [.p, .p, .b 0]) (rest := []) (ks := [0, 3, 15]) (env' := [(0, .pointer (some ⟨b_2, 0, none⟩)), (3, .slice A_23 l_22.length c_24), (15, .int .i64 x_43)]) (H' := [⟨1, b_2, [.int .u64 g_1.snap.Index, .int .u64 g_1.snap.Term, .int .u64 g_1.snap.Config, .string (bs g_1.snap.Data), .slice A_57 (([] : List T_api_Entry) ++ ((g_1.entries.take r_47.toNat).drop (0 : Int).toNat)).length c_58]⟩]) (ps := [b_2 = b_2]) (by kernel_rfl) (And.intro rfl trivial) ?_
      refine GoO.regionEnd ?_
      refine GoO.retag (t := 42) (u := 2) (j := 0) (hk := [0]) (bk := [1, 2, 3]) rfl rfl rfl rfl rfl rfl (by kernel_rfl) (by kernel_rfl) ?_
      exact GoO.sub (ks := [0, 3, 15]) (hk := [0]) (bk := [0, 3]) (by kernel_rfl) (by kernel_rfl) (by kernel_rfl) (rlog_Log_Merge_j4_ok n g_1 l_22 x_43 b_2 A_23 c_24 A_3 c_4 A_8 c_9 w0 S0 (([] : List T_api_Entry) ++ ((g_1.entries.take r_47.toNat).drop (0 : Int).toNat)) A_57 c_58)
    · refine GoO.skip' c18_100e ?_
      exact GoO.sub (ks := [0, 3, 15]) (hk := [0]) (bk := [0, 1]) (by kernel_rfl) (by kernel_rfl) (by kernel_rfl) (rlog_Log_Merge_j4_ok n g_1 l_22 x_43 b_2 A_23 c_24 A_3 c_4 A_8 c_9 w0 S0 g_1.entries A_3 c_4)
theorem rlog_Log_Merge_l2_ok (n : Nat) (g_1 : T_rlog_Log) (l_22 : (List T_api_Entry)) (b_2 : Nat) (A_3 : Option Addr) (c_4 : Nat) (A_23 : Option Addr) (c_24 : Nat) (A_8 : Option Addr) (c_9 : Nat) (w0 : World) (S0 : Fam) :
    ∀ (k : Nat) (x_43 : Int), GoO (rlog_Log_Merge.cx b_2 A_3 c_4 A_8 c_9 w0 S0) [(0, .pointer (some ⟨b_2, 0, none⟩)), (3, .slice A_23 l_22.length c_24), (118, .slice A_23 l_22.length c_24), (119, .int .i64 (l_22.length : Int)), (120, .int .i64 x_43)] [⟨1, b_2, [.int .u64 g_1.snap.Index, .int .u64 g_1.snap.Term, .int .u64 g_1.snap.Config, .string (bs g_1.snap.Data), .slice A_3 g_1.entries.length c_4]⟩] [Ow 2 kT_api_Entry A_3 c_4 g_1.entries, Rd 0 kT_api_Entry A_23 c_24 l_22] [.code c18_77, .inLoop c18_77, .inBlock 4, .code c18_107] (rlog_Log_Merge.l2 n g_1 l_22 k x_43) := by
  intro k
  induction k with
  | zero => intros; rw [rlog_Log_Merge.l2.eq_1]; exact GoO.stop
  | succ k ih2 =>
    intro x_43
    rw [rlog_Log_Merge.l2.eq_2]
    refine GoO.seq' c18_77e ?_
    refine GoO.region' (is := [0]) c18_78e (by kernel_rfl) ?_
    refine GoO.exec (is := [0]) (hs := [.p]) (rest := []) (ks := [0, 3, 118, 119, 120, 121]) (env' := [(0, .pointer (some ⟨b_2, 0, none⟩)), (3, .slice A_23 l_22.length c_24), (118, .slice A_23 l_22.length c_24), (119, .int .i64 (l_22.length : Int)), (120, .int .i64 x_43), (121, .bool (decide (x_43 < (l_22.length : Int))))]) (H' := [⟨1, b_2, [.int .u64 g_1.snap.Index, .int .u64 g_1.snap.Term, .int .u64 g_1.snap.Config, .string (bs g_1.snap.Data), .slice A_3 g_1.entries.length c_4]⟩]) (ps := []) (by kernel_rfl) trivial ?_
    refine GoO.regionEnd ?_
    refine GoO.seq' c18_79e ?_
    refine GoO.ite' c18_80e (by kernel_rfl) (fun h44 => ?_) (fun h44 => ?_)
    · refine GoO.skip' c18_81e ?_
      refine GoO.seq' c18_83e ?_
      refine GoO.block' c18_84e ?_
      refine GoO.seq' c18_85e ?_
      refine GoO.region' (is := [0, 1, 2, 3, 4, 5]) c18_86e (by kernel_rfl) ?_
      refine GoO.exec (is := [0]) (hs := [.p]) (rest := [1, 2, 3, 4, 5]) (ks := [0, 3, 118, 119, 120, 122]) (env' := [(0, .pointer (some ⟨b_2, 0, none⟩)), (3, .slice A_23 l_22.length c_24), (118, .slice A_23 l_22.length c_24), (119, .int .i64 (l_22.length : Int)), (120, .int .i64 x_43), (122, .int .i64 x_43)]) (H' := [⟨1, b_2, [.int .u64 g_1.snap.Index, .int .u64 g_1.snap.Term, .int .u64 g_1.snap.Config, .string (bs g_1.snap.Data), .slice A_3 g_1.entries.length c_4]⟩]) (ps := []) (by kernel_rfl) trivial ?_
      refine GoO.guard (fun h45 => ?_)
      refine OpTo.go (GoO.idx (kk := .i64) (e := 40) (K := kT_api_Entry) (A := A_23) (c := c_24) (xs := l_22) (iv := x_43) (j := 1) rfl (by kernel_rfl) (by kernel_rfl) (by kernel_rfl) (by kernel_rfl) rfl Reads.rd rfl h45.1 h45.2 (by decide) rfl ?_)
      refine OpTo.go (GoO.ldE' (K := kT_api_Entry) (A := A_23) (c := c_24) (xs := l_22) (iN := x_43.toNat) (off := 0) (j := 1) rfl (by kernel_rfl) rfl Reads.rd (by first | exact idx_lt h45.1 h45.2 | (simp only [List.length_set]; exact idx_lt h45.1 h45.2)) (by decide) (Opn.flat _ _ _ _ _) (v := fun _ => .agg ⟨[.int .u64 ((rdL l_22 x_43).Term), .int .u64 ((rdL l_22 x_43).Index), .int .i64 ((rdL l_22 x_43).Kind), .string (bs ((rdL l_22 x_43).Data))]⟩) (fun _ => by kernel_rfl) _ (fun _ => rfl) (fun _ => ?_))
      refine OpTo.go (GoO.new rfl 41 (cs := [.int .u64 0, .int .u64 0, .int .i64 0, .string (bs [])]) (by kernel_rfl) _ (fun _ => rfl) (fun b_46 => ?_))
      refine GoO.exec (is := [4, 5]) (hs := [.p, .b 0]) (rest := []) (ks := [0, 3, 15, 16, 118, 119, 120]) (env' := [(0, .pointer (some ⟨b_2, 0, none⟩)), (3, .slice A_23 l_22.length c_24), (15, .int .i64 x_43), (16, .pointer (some ⟨b_46, 0, none⟩)), (118, .slice A_23 l_22.length c_24), (119, .int .i64 (l_22.length : Int)), (120, .int .i64 x_43)]) (H' := [⟨41, b_46, [.int .u64 ((rdL l_22 x_43).Term), .int .u64 ((rdL l_22 x_43).Index), .int .i64 ((rdL l_22 x_43).Kind), .string (bs ((rdL l_22 x_43).Data))]⟩, ⟨1, b_2, [.int .u64 g_1.snap.Index, .int .u64 g_1.snap.Term, .int .u64 g_1.snap.Config, .string (bs g_1.snap.Data), .slice A_3 g_1.entries.length c_4]⟩]) (ps := [b_46 = b_46]) (by kernel_rfl) (And.intro rfl trivial) ?_
      refine GoO.regionEnd ?_
      refine GoO.seq' c18_87e ?_
      refine GoO.region' (is := [0, 1, 2, 3, 4]) c18_88e (by kernel_rfl) ?_
      refine GoO.exec (is := [0, 1, 2]) (hs := [.p, .p, .b 0]) (rest := [3, 4]) (ks := [0, 3, 15, 16, 118, 119, 120, 125, 127]) (env' := [(0, .pointer (some ⟨b_2, 0, none⟩)), (3, .slice A_23 l_22.length c_24), (15, .int .i64 x_43), (16, .pointer (some ⟨b_46, 0, none⟩)), (118, .slice A_23 l_22.length c_24), (119, .int .i64 (l_22.length : Int)), (120, .int .i64 x_43), (125, .pointer (some ⟨b_2, 0, none⟩)), (127, .int .u64 ((rdL l_22 x_43).Index))]) (H' := [⟨41, b_46, [.int .u64 ((rdL l_22 x_43).Term), .int .u64 ((rdL l_22 x_43).Index), .int .i64 ((rdL l_22 x_43).Kind), .string (bs ((rdL l_22 x_43).Data))]⟩, ⟨1, b_2, [.int .u64 g_1.snap.Index, .int .u64 g_1.snap.Term, .int .u64 g_1.snap.Config, .string (bs g_1.snap.Data), .slice A_3 g_1.entries.length c_4]⟩]) (ps := [b_46 = b_46]) (by kernel_rfl) (And.intro rfl trivial) ?_
      refine OpTo.go (GoO.call rfl (by kernel_rfl) (by kernel_rfl) (rlog_Log_at_ok n (⟨(⟨g_1.snap.Index, g_1.snap.Term, g_1.snap.Config, g_1.snap.Data⟩ : T_api_Snapshot), g_1.entries⟩ : T_rlog_Log) ((rdL l_22 x_43).Index) b_2 A_3 c_4) [[0], [1], [2]] [] [(1, 1)] [(2, 0)] (hks := [0, 1]) (bks := [0, 1]) (by kernel_rfl) (by kernel_rfl) (by kernel_rfl) (.inl rfl) rfl rfl (by kernel_rfl) (by kernel_rfl) _ (fun _ _ => rfl) _ _ (fun _ _ => rfl) (fun _ _ => rfl) (fun _ _ => by kernel_rfl) (fun _ _ => by kernel_rfl) (fun r_47 x_74 => ?_))
      refine GoO.shape (env' := [(0, .pointer (some ⟨b_2, 0, none⟩)), (3, .slice A_23 l_22.length c_24), (15, .int .i64 x_43), (16, .pointer (some ⟨b_46, 0, none⟩)), (118, .slice A_23 l_22.length c_24), (119, .int .i64 (l_22.length : Int)), (120, .int .i64 x_43), (125, .pointer (some ⟨b_2, 0, none⟩)), (127, .int .u64 ((rdL l_22 x_43).Index)), (128, .int .i64 r_47)]) (H' := [⟨41, b_46, [.int .u64 ((rdL l_22 x_43).Term), .int .u64 ((rdL l_22 x_43).Index), .int .i64 ((rdL l_22 x_43).Kind), .string (bs ((rdL l_22 x_43).Data))]⟩, ⟨1, b_2, [.int .u64 g_1.snap.Index, .int .u64 g_1.snap.Term, .int .u64 g_1.snap.Config, .string (bs g_1.snap.Data), .slice A_3 g_1.entries.length c_4]⟩]) (B' := [Ow 2 kT_api_Entry A_3 c_4 g_1.entries, Rd 0 kT_api_Entry A_23 c_24 l_22]) (ks := [0, 3, 15, 16, 118, 119, 120, 125, 127, 128]) (by kernel_rfl) (by kernel_rfl) (by kernel_rfl) ?_
      refine GoO.exec (is := [4]) (hs := [.p]) (rest := []) (ks := [0, 3, 15, 16, 17, 118, 119, 120]) (env' := [(0, .pointer (some ⟨b_2, 0, none⟩)), (3, .slice A_23 l_22.length c_24), (15, .int .i64 x_43), (16, .pointer (some ⟨b_46, 0, none⟩)), (17, .int .i64 r_47), (118, .slice A_23 l_22.length c_24), (119, .int .i64 (l_22.length : Int)), (120, .int .i64 x_43)]) (H' := [⟨41, b_46, [.int .u64 ((rdL l_22 x_43).Term), .int .u64 ((rdL l_22 x_43).Index), .int .i64 ((rdL l_22 x_43).Kind), .string (bs ((rdL l_22 x_43).Data))]⟩, ⟨1, b_2, [.int .u64 g_1.snap.Index, .int .u64 g_1.snap.Term, .int .u64 g_1.snap.Config, .string (bs g_1.snap.Data), .slice A_3 g_1.entries.length c_4]⟩]) (ps := []) (by kernel_rfl) trivial ?_
      refine GoO.regionEnd ?_
      refine GoO.seq' c18_89e ?_
      refine GoO.seq' c18_90e ?_
      refine GoO.draw c18_91e (by kernel_rfl) [] [⟨41, b_46, [.int .u64 ((rdL l_22 x_43).Term), .int .u64 ((rdL l_22 x_43).Index), .int .i64 ((rdL l_22 x_43).Kind), .string (bs ((rdL l_22 x_43).Data))]⟩, ⟨1, b_2, [.int .u64 g_1.snap.Index, .int .u64 g_1.snap.Term, .int .u64 g_1.snap.Config, .string (bs g_1.snap.Data), .slice A_3 g_1.entries.length c_4]⟩] [Ow 2 kT_api_Entry A_3 c_4 g_1.entries] (n := 15) (by kernel_rfl) ?_
      simp only [List.replicate]
      refine GoF.take [0, 1, 2] [.p, .p, .p] (ks := [0, 3, 15, 16, 17, 118, 119, 120, 131]) (fu := 12) (li := [true, true, true, false, false, false, false, false, false, false, false, false, false, false, false]) (env' := [(0, .pointer (some ⟨b_2, 0, none⟩)), (3, .slice A_23 l_22.length c_24), (15, .int .i64 x_43), (16, .pointer (some ⟨b_46, 0, none⟩)), (17, .int .i64 r_47), (118, .slice A_23 l_22.length c_24), (119, .int .i64 (l_22.length : Int)), (120, .int .i64 x_43), (131, .bool (decide (r_47 ≥ 0)))]) (ps := []) (hk := [0, 1]) (bk := [0]) (by kernel_rfl) trivial rfl rfl ?_
      refine GoF.bsplit (t := 131) (by kernel_rfl) (fun h48 => ?_) (fun h48 => ?_)
      · refine GoF.take [3, 4, 5, 6, 7, 11, 12] [.p, .p, .p, .b 1, .p, .p, .b 0] (ks := [0, 3, 15, 17, 118, 119, 120, 131, 135, 136, 141]) (fu := 5) (li := [true, true, true, true, true, true, true, true, false, false, false, true, true, false, false]) (env' := [(0, .pointer (some ⟨b_2, 0, none⟩)), (3, .slice A_23 l_22.length c_24), (15, .int .i64 x_43), (17, .int .i64 r_47), (118, .slice A_23 l_22.length c_24), (119, .int .i64 (l_22.length : Int)), (120, .int .i64 x_43), (131, .bool true), (135, .slice A_3 g_1.entries.length c_4), (136, .int .i64 r_47), (141, .int .u64 ((rdL l_22 x_43).Term))]) (ps := [b_2 = b_2, b_46 = b_46]) (hk := [0, 1]) (bk := [0]) (by kernel_rfl) (And.intro rfl (And.intro rfl trivial)) rfl rfl ?_
        refine GoF.guard (fun h49 => ?_)
        refine GoF.idx (i := 8) (hk := [0, 1]) (bk := [0]) (kk := .i64) (e := 40) (K := kT_api_Entry) (A := A_3) (c := c_4) (xs := g_1.entries) (iv := r_47) (j := 0) (by kernel_rfl) rfl rfl rfl (by kernel_rfl) (by kernel_rfl) (by kernel_rfl) (by kernel_rfl) rfl Reads.own rfl h49.1 h49.2 (by decide) rfl ?_
        refine GoF.fldE (i := 9) (hk := [0, 1]) (bk := [0]) (K := kT_api_Entry) (A := A_3) (c := c_4) (xs := g_1.entries) (iN := r_47.toNat) (off := 0) (n := 0) (j := 0) (by kernel_rfl) rfl rfl rfl (by kernel_rfl) (by kernel_rfl) rfl Reads.own (by first | exact idx_lt h49.1 h49.2 | (simp only [List.length_set]; exact idx_lt h49.1 h49.2)) (by decide) rfl ?_
        refine GoF.ldE (i := 10) (hk := [0, 1]) (bk := [0]) (K := kT_api_Entry) (A := A_3) (c := c_4) (xs := g_1.entries) (iN := r_47.toNat) (off := 0) (j := 0) (v := .int .u64 ((rdL g_1.entries r_47).Term)) (by kernel_rfl) rfl rfl rfl (hK := rfl) (by kernel_rfl) rfl Reads.own (by first | exact idx_lt h49.1 h49.2 | (simp only [List.length_set]; exact idx_lt h49.1 h49.2)) (by decide) (by kernel_rfl) rfl ?_
        refine GoF.take [13, 14] [.p, .p] (ks := [0, 3, 15, 17, 118, 119, 120, 143]) (fu := 0) (li := [true, true, true, true, true, true, true, true, true, true, true, true, true, true, true]) (env' := [(0, .pointer (some ⟨b_2, 0, none⟩)), (3, .slice A_23 l_22.length c_24), (15, .int .i64 x_43), (17, .int .i64 r_47), (118, .slice A_23 l_22.length c_24), (119, .int .i64 (l_22.length : Int)), (120, .int .i64 x_43), (143, .bool (((rdL g_1.entries r_47).Term) == ((rdL l_22 x_43).Term)))]) (ps := []) (hk := [0, 1]) (bk := [0]) (by kernel_rfl) trivial rfl rfl ?_
        refine GoF.done (by kernel_rfl) ?_
        exact GoO.sub (ks := [0, 3, 15, 17, 118, 119, 120, 143]) (hk := [1]) (bk := [0, 1]) (by kernel_rfl) (by kernel_rfl) (by kernel_rfl) (rlog_Log_Merge_j3_ok n (rlog_Log_Merge.l2 n g_1 l_22 k) g_1 l_22 x_43 r_47 b_2 A_3 c_4 A_8 c_9 A_23 c_24 w0 S0 ih2 (((rdL g_1.entries r_47).Term) == ((rdL l_22 x_43).Term)))
      · refine GoF.take [3, 4, 5, 6, 7, 8, 9, 10, 11, 12, 13, 14] [.p, .p, .p, .p, .p, .p, .p, .p, .p, .p, .p, .p] (ks := [0, 3, 15, 17, 118, 119, 120, 143]) (fu := 0) (li := [true, true, true, true, true, true, true, true, true, true, true, true, true, true, true]) (env' := [(0, .pointer (some ⟨b_2, 0, none⟩)), (3, .slice A_23 l_22.length c_24), (15, .int .i64 x_43), (17, .int .i64 r_47), (118, .slice A_23 l_22.length c_24), (119, .int .i64 (l_22.length : Int)), (120, .int .i64 x_43), (143, .bool false)]) (ps := []) (hk := [0, 1]) (bk := [0]) (by kernel_rfl) trivial rfl rfl ?_
        refine GoF.done (by kernel_rfl) ?_
        exact GoO.sub (ks := [0, 3, 15, 17, 118, 119, 120, 143]) (hk := [1]) (bk := [0, 1]) (by kernel_rfl) (by kernel_rfl) (by kernel_rfl) (rlog_Log_Merge_j3_ok n (rlog_Log_Merge.l2 n g_1 l_22 k) g_1 l_22 x_43 r_47 b_2 A_3 c_4 A_8 c_9 A_23 c_24 w0 S0 ih2 false)
    · refine GoO.exit' c18_82e rfl ?_
      refine GoO.seq' c18_107e ?_
      refine GoO.region' (is := [0, 1]) c18_108e (by kernel_rfl) ?_
      refine GoO.exec (is := [0, 1]) (hs := [.p, .p]) (rest := []) (ks := [8, 9]) (env' := [(8, .slice none ([] : List T_api_Entry).length 0), (9, .bool true)]) (H' := [⟨1, b_2, [.int .u64 g_1.snap.Index, .int .u64 g_1.snap.Term, .int .u64 g_1.snap.Config, .string (bs g_1.snap.Data), .slice A_3 g_1.entries.length c_4]⟩]) (ps := []) (by kernel_rfl) trivial ?_
      refine GoO.regionEnd ?_
      refine GoO.nilOwn kT_api_Entry 3 ?_
      exact GoO.ret' (h := c18_109e) (hs := []) (ps := []) (hk := [0]) (bk := [0, 1]) Try.func18 (⟨none, 0, A_3, c_4⟩ : Option Addr × Nat × Option Addr × Nat) (by kernel_rfl) trivial (by kernel_rfl) (by kernel_rfl)
theorem rlog_Log_Merge_j2_ok (n : Nat) (g_1 : T_rlog_Log) (l_22 : (List T_api_Entry)) (b_2 : Nat) (A_3 : Option Addr) (c_4 : Nat) (A_23 : Option Addr) (c_24 : Nat) (A_8 : Option Addr) (c_9 : Nat) (w0 : World) (S0 : Fam) (b_41 : Bool) :
    GoO (rlog_Log_Merge.cx b_2 A_3 c_4 A_8 c_9 w0 S0) [(0, .pointer (some ⟨b_2, 0, none⟩)), (3, .slice A_23 l_22.length c_24), (117, .bool b_41)] [⟨1, b_2, [.int .u64 g_1.snap.Index, .int .u64 g_1.snap.Term, .int .u64 g_1.snap.Config, .string (bs g_1.snap.Data), .slice A_3 g_1.entries.length c_4]⟩] [Ow 2 kT_api_Entry A_3 c_4 g_1.entries, Rd 0 kT_api_Entry A_23 c_24 l_22] [.code c18_67, .code c18_72] (rlog_Log_Merge.j2 n g_1 l_22 b_41) := by
  unfold rlog_Log_Merge.j2
  refine GoO.ite' c18_67e (by kernel_rfl) (fun h42 => ?_) (fun h42 => ?_)
  · refine GoO.seq' c18_68e ?_
    refine GoO.region' (is := [0, 1]) c18_69e (by kernel_rfl) ?_
    refine GoO.exec (is := [0, 1]) (hs := [.p, .p]) (rest := []) (ks := [8, 9]) (env' := [(8, .slice none ([] : List T_api_Entry).length 0), (9, .bool false)]) (H' := [⟨1, b_2, [.int .u64 g_1.snap.Index, .int .u64 g_1.snap.Term, .int .u64 g_1.snap.Config, .string (bs g_1.snap.Data), .slice A_3 g_1.entries.length c_4]⟩]) (ps := []) (by kernel_rfl) trivial ?_
    refine GoO.regionEnd ?_
    refine GoO.nilOwn kT_api_Entry 3 ?_
    exact GoO.ret' (h := c18_70e) (hs := []) (ps := []) (hk := [0]) (bk := [0, 1]) Try.func18 (⟨none, 0, A_3, c_4⟩ : Option Addr × Nat × Option Addr × Nat) (by kernel_rfl) trivial (by kernel_rfl) (by kernel_rfl)
  · refine GoO.skip' c18_71e ?_
    refine GoO.seq' c18_72e ?_
    refine GoO.seq' c18_73e ?_
    refine GoO.region' (is := [0, 1, 2]) c18_74e (by kernel_rfl) ?_
    refine GoO.exec (is := [0, 1, 2]) (hs := [.p, .p, .p]) (rest := []) (ks := [0, 3, 118, 119, 120]) (env' := [(0, .pointer (some ⟨b_2, 0, none⟩)), (3, .slice A_23 l_22.length c_24), (118, .slice A_23 l_22.length c_24), (119, .int .i64 (l_22.length : Int)), (120, .int .i64 0)]) (H' := [⟨1, b_2, [.int .u64 g_1.snap.Index, .int .u64 g_1.snap.Term, .int .u64 g_1.snap.Config, .string (bs g_1.snap.Data), .slice A_3 g_1.entries.length c_4]⟩]) (ps := []) (by kernel_rfl) trivial ?_
    refine GoO.regionEnd ?_
    refine GoO.block' c18_75e ?_
    refine GoO.loop' c18_76e ?_
    exact GoO.sub (ks := [0, 3, 118, 119, 120]) (hk := [0]) (bk := [0, 1]) (by kernel_rfl) (by kernel_rfl) (by kernel_rfl) (rlog_Log_Merge_l2_ok n g_1 l_22 b_2 A_3 c_4 A_23 c_24 A_8 c_9 w0 S0 n 0)
theorem rlog_Log_Merge_j1_ok (n : Nat) (L1 : Int → Int → (List T_api_Entry) → Option ((List T_api_Entry) × Bool × T_rlog_Log)) (g_1 : T_rlog_Log) (index_20 : Int) (term_21 : Int) (l_22 : (List T_api_Entry)) (b_2 : Nat) (A_3 : Option Addr) (c_4 : Nat) (A_8 : Option Addr) (c_9 : Nat) (A_23 : Option Addr) (c_24 : Nat) (w0 : World) (S0 : Fam) (ih1 : ∀ (index_20 : Int) (term_21 : Int) (l_22 : (List T_api_Entry)) (A_23 : Option Addr) (c_24 : Nat), GoO (rlog_Log_Merge.cx b_2 A_3 c_4 A_8 c_9 w0 S0) [(0, .pointer (some ⟨b_2, 0, none⟩)), (1, .int .u64 index_20), (2, .int .u64 term_21), (3, .slice A_23 l_22.length c_24)] [⟨1, b_2, [.int .u64 g_1.snap.Index, .int .u64 g_1.snap.Term, .int .u64 g_1.snap.Config, .string (bs g_1.snap.Data), .slice A_3 g_1.entries.length c_4]⟩] [Ow 2 kT_api_Entry A_3 c_4 g_1.entries, Rd 0 kT_api_Entry A_23 c_24 l_22] [.code c18_44, .inLoop c18_44, .inBlock 2, .code c18_54] (L1 index_20 term_21 l_22)) (b_27 : Bool) :
    GoO (rlog_Log_Merge.cx b_2 A_3 c_4 A_8 c_9 w0 S0) [(0, .pointer (some ⟨b_2, 0, none⟩)), (1, .int .u64 index_20), (2, .int .u64 term_21), (3, .slice A_23 l_22.length c_24), (60, .bool b_27)] [⟨1, b_2, [.int .u64 g_1.snap.Index, .int .u64 g_1.snap.Term, .int .u64 g_1.snap.Config, .string (bs g_1.snap.Data), .slice A_3 g_1.entries.length c_4]⟩] [Ow 2 kT_api_Entry A_3 c_4 g_1.entries, Rd 0 kT_api_Entry A_23 c_24 l_22] [.code c18_47, .code c18_50, .inLoop c18_44, .inBlock 2, .code c18_54] (rlog_Log_Merge.j1 n L1 g_1 index_20 term_21 l_22 b_27) := by
  unfold rlog_Log_Merge.j1
  refine GoO.ite' c18_47e (by kernel_rfl) (fun h28 => ?_) (fun h28 => ?_)
  · refine GoO.skip' c18_48e ?_
    refine GoO.block' c18_50e ?_
    refine GoO.seq' c18_51e ?_
    refine GoO.draw c18_52e (by kernel_rfl) [9] [] [Rd 0 kT_api_Entry A_23 c_24 l_22] (n := 10) (by kernel_rfl) ?_
    simp only [List.replicate]
    refine GoF.take [0, 4] [.p, .p] (ks := [0, 3, 61, 65]) (fu := 8) (li := [true, false, false, false, true, false, false, false, false, false]) (env' := [(0, .pointer (some ⟨b_2, 0, none⟩)), (3, .slice A_23 l_22.length c_24), (61, .slice A_23 l_22.length c_24), (65, .slice A_23 l_22.length c_24)]) (ps := []) (hk := []) (bk := [1]) (by kernel_rfl) trivial rfl rfl ?_
    refine GoF.guard (fun h29 => ?_)
    refine GoF.idx (i := 1) (hk := []) (bk := [1]) (kk := .i64) (e := 40) (K := kT_api_Entry) (A := A_23) (c := c_24) (xs := l_22) (iv := 0) (j := 0) (by kernel_rfl) rfl rfl rfl (by kernel_rfl) (by kernel_rfl) (by kernel_rfl) (by kernel_rfl) rfl Reads.rd rfl h29.1 h29.2 (by decide) rfl ?_
    refine GoF.fldE (i := 2) (hk := []) (bk := [1]) (K := kT_api_Entry) (A := A_23) (c := c_24) (xs := l_22) (iN := (0 : Int).toNat) (off := 0) (n := 1) (j := 0) (by kernel_rfl) rfl rfl rfl (by kernel_rfl) (by kernel_rfl) rfl Reads.rd (by first | exact idx_lt h29.1 h29.2 | (simp only [List.length_set]; exact idx_lt h29.1 h29.2)) (by decide) rfl ?_
    refine GoF.ldE (i := 3) (hk := []) (bk := [1]) (K := kT_api_Entry) (A := A_23) (c := c_24) (xs := l_22) (iN := (0 : Int).toNat) (off := 1) (j := 0) (v := .int .u64 ((rdL l_22 (0 : Int)).Index)) (by kernel_rfl) rfl rfl rfl (hK := rfl) (by kernel_rfl) rfl Reads.rd (by first | exact idx_lt h29.1 h29.2 | (simp only [List.length_set]; exact idx_lt h29.1 h29.2)) (by decide) (by kernel_rfl) rfl ?_
    refine GoF.take [8] [.p] (ks := [0, 1, 3, 65]) (fu := 4) (li := [true, true, true, true, true, false, false, false, true, false]) (env' := [(0, .pointer (some ⟨b_2, 0, none⟩)), (1, .int .u64 ((rdL l_22 (0 : Int)).Index)), (3, .slice A_23 l_22.length c_24), (65, .slice A_23 l_22.length c_24)]) (ps := []) (hk := []) (bk := [1]) (by kernel_rfl) trivial rfl rfl ?_
    refine GoF.guard (fun h30 => ?_)
    refine GoF.idx (i := 5) (hk := []) (bk := [1]) (kk := .i64) (e := 40) (K := kT_api_Entry) (A := A_23) (c := c_24) (xs := l_22) (iv := 0) (j := 0) (by kernel_rfl) rfl rfl rfl (by kernel_rfl) (by kernel_rfl) (by kernel_rfl) (by kernel_rfl) rfl Reads.rd rfl h30.1 h30.2 (by decide) rfl ?_
    refine GoF.fldE (i := 6) (hk := []) (bk := [1]) (K := kT_api_Entry) (A := A_23) (c := c_24) (xs := l_22) (iN := (0 : Int).toNat) (off := 0) (n := 0) (j := 0) (by kernel_rfl) rfl rfl rfl (by kernel_rfl) (by kernel_rfl) rfl Reads.rd (by first | exact idx_lt h30.1 h30.2 | (simp only [List.length_set]; exact idx_lt h30.1 h30.2)) (by decide) rfl ?_
    refine GoF.ldE (i := 7) (hk := []) (bk := [1]) (K := kT_api_Entry) (A := A_23) (c := c_24) (xs := l_22) (iN := (0 : Int).toNat) (off := 0) (j := 0) (v := .int .u64 ((rdL l_22 (0 : Int)).Term)) (by kernel_rfl) rfl rfl rfl (hK := rfl) (by kernel_rfl) rfl Reads.rd (by first | exact idx_lt h30.1 h30.2 | (simp only [List.length_set]; exact idx_lt h30.1 h30.2)) (by decide) (by kernel_rfl) rfl ?_
    refine GoF.fin1 (i := 9) (hint := .p) (ps := []) (hk := []) (bk := []) (by kernel_rfl) rfl trivial (.inl rfl) ?_
    refine GoF.done (by kernel_rfl) ?_
    refine GoO.region' (is := [0, 1, 2]) c18_53e (by kernel_rfl) ?_
    refine GoO.exec (is := [0]) (hs := [.p]) (rest := [1, 2]) (ks := [0, 1, 2, 69]) (env' := [(0, .pointer (some ⟨b_2, 0, none⟩)), (1, .int .u64 ((rdL l_22 (0 : Int)).Index)), (2, .int .u64 ((rdL l_22 (0 : Int)).Term)), (69, .slice A_23 l_22.length c_24)]) (H' := [⟨1, b_2, [.int .u64 g_1.snap.Index, .int .u64 g_1.snap.Term, .int .u64 g_1.snap.Config, .string (bs g_1.snap.Data), .slice A_3 g_1.entries.length c_4]⟩]) (ps := []) (by kernel_rfl) trivial ?_
    refine GoO.guard (fun h33 => ?_)
    refine OpTo.go (GoO.slc (e := 40) (K := kT_api_Entry) (A := A_23) (c := c_24) (xs := l_22) (j := 1) (l := (1 : Int)) (h := (l_22.length : Int)) rfl (by kernel_rfl) (by kernel_rfl) (by kernel_rfl) rfl Reads.rd rfl (by kernel_rfl) (by kernel_rfl) h33.1 h33.2.1 h33.2.2 _ (fun _ _ => rfl) (fun A_31 c_32 => ?_))
    refine GoO.exec (is := [2]) (hs := [.p]) (rest := []) (ks := [0, 1, 2, 3]) (env' := [(0, .pointer (some ⟨b_2, 0, none⟩)), (1, .int .u64 ((rdL l_22 (0 : Int)).Index)), (2, .int .u64 ((rdL l_22 (0 : Int)).Term)), (3, .slice A_31 ((l_22.take (l_22.length : Int).toNat).drop (1 : Int).toNat).length c_32)]) (H' := [⟨1, b_2, [.int .u64 g_1.snap.Index, .int .u64 g_1.snap.Term, .int .u64 g_1.snap.Config, .string (bs g_1.snap.Data), .slice A_3 g_1.entries.length c_4]⟩]) (ps := []) (by kernel_rfl) trivial ?_
    refine GoO.regionEnd ?_
    refine GoO.inBlock ?_
    refine GoO.inLoop ?_
    exact GoO.sub (ks := [0, 1, 2, 3]) (hk := [0]) (bk := [1, 0]) (by kernel_rfl) (by kernel_rfl) (by kernel_rfl) (ih1 ((rdL l_22 (0 : Int)).Index) ((rdL l_22 (0 : Int)).Term) ((l_22.take (l_22.length : Int).toNat).drop (1 : Int).toNat) A_31 c_32)
  · refine GoO.exit' c18_49e rfl ?_
    refine GoO.seq' c18_54e ?_
    refine GoO.seq' c18_55e ?_
    refine GoO.region' (is := [0, 1, 2, 3, 4, 5, 6]) c18_56e (by kernel_rfl) ?_
    refine GoO.exec (is := [0, 1, 2, 3, 4, 5, 6]) (hs := [.p, .p, .p, .p, .p, .b 0, .p]) (rest := []) (ks := [0, 1, 2, 3, 77]) (env' := [(0, .pointer (some ⟨b_2, 0, none⟩)), (1, .int .u64 index_20), (2, .int .u64 term_21), (3, .slice A_23 l_22.length c_24), (77, .bool (decide (index_20 < g_1.snap.Index)))]) (H' := [⟨1, b_2, [.int .u64 g_1.snap.Index, .int .u64 g_1.snap.Term, .int .u64 g_1.snap.Config, .string (bs g_1.snap.Data), .slice A_3 g_1.entries.length c_4]⟩]) (ps := [b_2 = b_2]) (by kernel_rfl) (And.intro rfl trivial) ?_
    refine GoO.regionEnd ?_
    refine GoO.ite' c18_57e (by kernel_rfl) (fun h34 => ?_) (fun h34 => ?_)
    · refine GoO.seq' c18_58e ?_
      refine GoO.region' (is := [0, 1]) c18_59e (by kernel_rfl) ?_
      refine GoO.exec (is := [0, 1]) (hs := [.p, .p]) (rest := []) (ks := [8, 9]) (env' := [(8, .slice none ([] : List T_api_Entry).length 0), (9, .bool true)]) (H' := [⟨1, b_2, [.int .u64 g_1.snap.Index, .int .u64 g_1.snap.Term, .int .u64 g_1.snap.Config, .string (bs g_1.snap.Data), .slice A_3 g_1.entries.length c_4]⟩]) (ps := []) (by kernel_rfl) trivial ?_
      refine GoO.regionEnd ?_
      refine GoO.nilOwn kT_api_Entry 3 ?_
      exact GoO.ret' (h := c18_60e) (hs := []) (ps := []) (hk := [0]) (bk := [0, 1]) Try.func18 (⟨none, 0, A_3, c_4⟩ : Option Addr × Nat × Option Addr × Nat) (by kernel_rfl) trivial (by kernel_rfl) (by kernel_rfl)
    · refine GoO.skip' c18_61e ?_
      refine GoO.seq' c18_62e ?_
      refine GoO.seq' c18_63e ?_
      refine GoO.region' (is := [0, 1, 2, 3, 4, 5, 6, 7]) c18_64e (by kernel_rfl) ?_
      refine GoO.exec (is := [0, 1]) (hs := [.p, .p]) (rest := [2, 3, 4, 5, 6, 7]) (ks := [0, 1, 2, 3, 79, 80]) (env' := [(0, .pointer (some ⟨b_2, 0, none⟩)), (1, .int .u64 index_20), (2, .int .u64 term_21), (3, .slice A_23 l_22.length c_24), (79, .pointer (some ⟨b_2, 0, none⟩)), (80, .int .u64 index_20)]) (H' := [⟨1, b_2, [.int .u64 g_1.snap.Index, .int .u64 g_1.snap.Term, .int .u64 g_1.snap.Config, .string (bs g_1.snap.Data), .slice A_3 g_1.entries.length c_4]⟩]) (ps := []) (by kernel_rfl) trivial ?_
      refine OpTo.go (GoO.call rfl (by kernel_rfl) (by kernel_rfl) (rlog_Log_Term_ok n (⟨(⟨g_1.snap.Index, g_1.snap.Term, g_1.snap.Config, g_1.snap.Data⟩ : T_api_Snapshot), g_1.entries⟩ : T_rlog_Log) index_20 b_2 A_3 c_4) [[0], [1], [2]] [] [(1, 0)] [(2, 0)] (hks := [0]) (bks := [0, 1]) (by kernel_rfl) (by kernel_rfl) (by kernel_rfl) (.inl rfl) rfl rfl (by kernel_rfl) (by kernel_rfl) _ (fun _ _ => rfl) _ _ (fun _ _ => rfl) (fun _ _ => rfl) (fun _ _ => by kernel_rfl) (fun _ _ => by kernel_rfl) (fun r_35 x_75 => ?_))
      refine GoO.shape (env' := [(0, .pointer (some ⟨b_2, 0, none⟩)), (1, .int .u64 index_20), (2, .int .u64 term_21), (3, .slice A_23 l_22.length c_24), (79, .pointer (some ⟨b_2, 0, none⟩)), (80, .int .u64 index_20), (81, .tuple ⟨[.int .u64 r_35.1, .int .i64 r_35.2]⟩)]) (H' := [⟨1, b_2, [.int .u64 g_1.snap.Index, .int .u64 g_1.snap.Term, .int .u64 g_1.snap.Config, .string (bs g_1.snap.Data), .slice A_3 g_1.entries.length c_4]⟩]) (B' := [Ow 2 kT_api_Entry A_3 c_4 g_1.entries, Rd 0 kT_api_Entry A_23 c_24 l_22]) (ks := [0, 1, 2, 3, 79, 80, 81]) (by kernel_rfl) (by kernel_rfl) (by kernel_rfl) ?_
      refine GoO.exec (is := [3, 4, 5, 6, 7]) (hs := [.p, .p, .p, .p, .p]) (rest := []) (ks := [0, 1, 2, 3, 13, 14]) (env' := [(0, .pointer (some ⟨b_2, 0, none⟩)), (1, .int .u64 index_20), (2, .int .u64 term_21), (3, .slice A_23 l_22.length c_24), (13, .int .u64 r_35.1), (14, .int .i64 r_35.2)]) (H' := [⟨1, b_2, [.int .u64 g_1.snap.Index, .int .u64 g_1.snap.Term, .int .u64 g_1.snap.Config, .string (bs g_1.snap.Data), .slice A_3 g_1.entries.length c_4]⟩]) (ps := []) (by kernel_rfl) trivial ?_
      refine GoO.regionEnd ?_
      refine GoO.seq' c18_65e ?_
      refine GoO.region' (is := [0, 1, 2, 3, 4, 5, 6, 7, 8, 9, 10, 11, 12, 13, 14, 15, 16, 17, 18, 19, 20, 21, 22, 23, 24, 25, 26, 27, 28, 29, 30, 31, 32, 33]) c18_66e (by kernel_rfl) ?_
      refine GoO.exec (is := [0, 1, 2, 3, 4, 5, 6, 7]) (hs := [.p, .p, .p, .p, .p, .b 0, .p, .p]) (rest := [8, 9, 10, 11, 12, 13, 14, 15, 16, 17, 18, 19, 20, 21, 22, 23, 24, 25, 26, 27, 28, 29, 30, 31, 32, 33]) (ks := [0, 1, 2, 3, 13, 14, 91]) (env' := [(0, .pointer (some ⟨b_2, 0, none⟩)), (1, .int .u64 index_20), (2, .int .u64 term_21), (3, .slice A_23 l_22.length c_24), (13, .int .u64 r_35.1), (14, .int .i64 r_35.2), (91, .bool (decide (index_20 > g_1.snap.Index)))]) (H' := [⟨1, b_2, [.int .u64 g_1.snap.Index, .int .u64 g_1.snap.Term, .int .u64 g_1.snap.Config, .string (bs g_1.snap.Data), .slice A_3 g_1.entries.length c_4]⟩]) (ps := [b_2 = b_2]) (by kernel_rfl) (And.intro rfl trivial) ?_
      refine GoO.bsplit (t := 91) (by kernel_rfl) (fun h36 => ?_) (fun h36 => ?_)
      · refine GoO.exec (is := [8, 9, 10]) (hs := [.p, .p, .p]) (rest := [11, 12, 13, 14, 15, 16, 17, 18, 19, 20, 21, 22, 23, 24, 25, 26, 27, 28, 29, 30, 31, 32, 33]) (ks := [0, 1, 2, 3, 13, 91, 94]) (env' := [(0, .pointer (some ⟨b_2, 0, none⟩)), (1, .int .u64 index_20), (2, .int .u64 term_21), (3, .slice A_23 l_22.length c_24), (13, .int .u64 r_35.1), (91, .bool true), (94, .bool (r_35.2 != 0))]) (H' := [⟨1, b_2, [.int .u64 g_1.snap.Index, .int .u64 g_1.snap.Term, .int .u64 g_1.snap.Config, .string (bs g_1.snap.Data), .slice A_3 g_1.entries.length c_4]⟩]) (ps := []) (by kernel_rfl) trivial ?_
        refine GoO.bsplit (t := 94) (by kernel_rfl) (fun h37 => ?_) (fun h37 => ?_)
        · refine GoO.exec (is := [11, 12, 13, 14, 15, 16, 17, 18, 19, 20, 21, 22, 23, 24, 25, 26, 27, 28, 29, 30, 31, 32, 33]) (hs := [.p, .p, .p, .p, .p, .p, .p, .p, .p, .p, .p, .p, .p, .p, .p, .p, .p, .p, .p, .p, .p, .p, .p]) (rest := []) (ks := [0, 3, 117]) (env' := [(0, .pointer (some ⟨b_2, 0, none⟩)), (3, .slice A_23 l_22.length c_24), (117, .bool true)]) (H' := [⟨1, b_2, [.int .u64 g_1.snap.Index, .int .u64 g_1.snap.Term, .int .u64 g_1.snap.Config, .string (bs g_1.snap.Data), .slice A_3 g_1.entries.length c_4]⟩]) (ps := []) (by kernel_rfl) trivial ?_
          refine GoO.regionEnd ?_
          exact GoO.sub (ks := [0, 3, 117]) (hk := [0]) (bk := [0, 1]) (by kernel_rfl) (by kernel_rfl) (by kernel_rfl) (rlog_Log_Merge_j2_ok n g_1 l_22 b_2 A_3 c_4 A_23 c_24 A_8 c_9 w0 S0 true)
        · refine GoO.exec (is := [11, 12, 13, 14, 15, 16]) (hs := [.p, .p, .p, .p, .p, .p]) (rest := [17, 18, 19, 20, 21, 22, 23, 24, 25, 26, 27, 28, 29, 30, 31, 32, 33]) (ks := [0, 1, 2, 3, 100]) (env' := [(0, .pointer (some ⟨b_2, 0, none⟩)), (1, .int .u64 index_20), (2, .int .u64 term_21), (3, .slice A_23 l_22.length c_24), (100, .bool (r_35.1 != term_21))]) (H' := [⟨1, b_2, [.int .u64 g_1.snap.Index, .int .u64 g_1.snap.Term, .int .u64 g_1.snap.Config, .string (bs g_1.snap.Data), .slice A_3 g_1.entries.length c_4]⟩]) (ps := []) (by kernel_rfl) trivial ?_
          refine GoO.bsplit (t := 100) (by kernel_rfl) (fun h38 => ?_) (fun h38 => ?_)
          · refine GoO.exec (is := [17, 18, 19, 20, 21, 22, 23, 24, 25, 26, 27, 28, 29, 30, 31, 32, 33]) (hs := [.p, .p, .p, .p, .p, .p, .p, .p, .p, .p, .p, .p, .p, .p, .p, .p, .p]) (rest := []) (ks := [0, 3, 117]) (env' := [(0, .pointer (some ⟨b_2, 0, none⟩)), (3, .slice A_23 l_22.length c_24), (117, .bool true)]) (H' := [⟨1, b_2, [.int .u64 g_1.snap.Index, .int .u64 g_1.snap.Term, .int .u64 g_1.snap.Config, .string (bs g_1.snap.Data), .slice A_3 g_1.entries.length c_4]⟩]) (ps := []) (by kernel_rfl) trivial ?_
            refine GoO.regionEnd ?_
            exact GoO.sub (ks := [0, 3, 117]) (hk := [0]) (bk := [0, 1]) (by kernel_rfl) (by kernel_rfl) (by kernel_rfl) (rlog_Log_Merge_j2_ok n g_1 l_22 b_2 A_3 c_4 A_23 c_24 A_8 c_9 w0 S0 true)
          · refine GoO.exec (is := [17, 18, 19, 20, 21, 22, 23, 24]) (hs := [.p, .p, .p, .p, .p, .b 0, .p, .p]) (rest := [25, 26, 27, 28, 29, 30, 31, 32, 33]) (ks := [0, 2, 3, 100, 108]) (env' := [(0, .pointer (some ⟨b_2, 0, none⟩)), (2, .int .u64 term_21), (3, .slice A_23 l_22.length c_24), (100, .bool false), (108, .bool (index_20 == g_1.snap.Index))]) (H' := [⟨1, b_2, [.int .u64 g_1.snap.Index, .int .u64 g_1.snap.Term, .int .u64 g_1.snap.Config, .string (bs g_1.snap.Data), .slice A_3 g_1.entries.length c_4]⟩]) (ps := [b_2 = b_2]) (by kernel_rfl) (And.intro rfl trivial) ?_
            refine GoO.bsplit (t := 108) (by kernel_rfl) (fun h39 => ?_) (fun h39 => ?_)
            · refine GoO.exec (is := [25, 26, 27, 28, 29, 30, 31, 32, 33]) (hs := [.p, .p, .p, .p, .p, .b 0, .p, .p, .p]) (rest := []) (ks := [0, 3, 117]) (env' := [(0, .pointer (some ⟨b_2, 0, none⟩)), (3, .slice A_23 l_22.length c_24), (117, .bool (term_21 != g_1.snap.Term))]) (H' := [⟨1, b_2, [.int .u64 g_1.snap.Index, .int .u64 g_1.snap.Term, .int .u64 g_1.snap.Config, .string (bs g_1.snap.Data), .slice A_3 g_1.entries.length c_4]⟩]) (ps := [b_2 = b_2]) (by kernel_rfl) (And.intro rfl trivial) ?_
              refine GoO.regionEnd ?_
              exact GoO.sub (ks := [0, 3, 117]) (hk := [0]) (bk := [0, 1]) (by kernel_rfl) (by kernel_rfl) (by kernel_rfl) (rlog_Log_Merge_j2_ok n g_1 l_22 b_2 A_3 c_4 A_23 c_24 A_8 c_9 w0 S0 (term_21 != g_1.snap.Term))
            · refine GoO.exec (is := [25, 26, 27, 28, 29, 30, 31, 32, 33]) (hs := [.p, .p, .p, .p, .p, .p, .p, .p, .p]) (rest := []) (ks := [0, 3, 117]) (env' := [(0, .pointer (some ⟨b_2, 0, none⟩)), (3, .slice A_23 l_22.length c_24), (117, .bool false)]) (H' := [⟨1, b_2, [.int .u64 g_1.snap.Index, .int .u64 g_1.snap.Term, .int .u64 g_1.snap.Config, .string (bs g_1.snap.Data), .slice A_3 g_1.entries.length c_4]⟩]) (ps := []) (by kernel_rfl) trivial ?_
              refine GoO.regionEnd ?_
              exact GoO.sub (ks := [0, 3, 117]) (hk := [0]) (bk := [0, 1]) (by kernel_rfl) (by kernel_rfl) (by kernel_rfl) (rlog_Log_Merge_j2_ok n g_1 l_22 b_2 A_3 c_4 A_23 c_24 A_8 c_9 w0 S0 false)
      · refine GoO.exec (is := [8, 9, 10, 11, 12, 13, 14, 15, 16, 17, 18, 19, 20, 21, 22, 23, 24]) (hs := [.p, .p, .p, .p, .p, .p, .p, .p, .p, .p, .p, .p, .p, .p, .b 0, .p, .p]) (rest := [25, 26, 27, 28, 29, 30, 31, 32, 33]) (ks := [0, 2, 3, 100, 108]) (env' := [(0, .pointer (some ⟨b_2, 0, none⟩)), (2, .int .u64 term_21), (3, .slice A_23 l_22.length c_24), (100, .bool false), (108, .bool (index_20 == g_1.snap.Index))]) (H' := [⟨1, b_2, [.int .u64 g_1.snap.Index, .int .u64 g_1.snap.Term, .int .u64 g_1.snap.Config, .string (bs g_1.snap.Data), .slice A_3 g_1.entries.length c_4]⟩]) (ps := [b_2 = b_2]) (by kernel_rfl) (And.intro rfl trivial) ?_
        refine GoO.bsplit (t := 108) (by kernel_rfl) (fun h40 => ?_) (fun h40 => ?_)
        · refine GoO.exec (is := [25, 26, 27, 28, 29, 30, 31, 32, 33]) (hs := [.p, .p, .p, .p, .p, .b 0, .p, .p, .p]) (rest := []) (ks := [0, 3, 117]) (env' := [(0, .pointer (some ⟨b_2, 0, none⟩)), (3, .slice A_23 l_22.length c_24), (117, .bool (term_21 != g_1.snap.Term))]) (H' := [⟨1, b_2, [.int .u64 g_1.snap.Index, .int .u64 g_1.snap.Term, .int .u64 g_1.snap.Config, .string (bs g_1.snap.Data), .slice A_3 g_1.entries.length c_4]⟩]) (ps := [b_2 = b_2]) (by kernel_rfl) (And.intro rfl trivial) ?_
          refine GoO.regionEnd ?_
          exact GoO.sub (ks := [0, 3, 117]) (hk := [0]) (bk := [0, 1]) (by kernel_rfl) (by kernel_rfl) (by kernel_rfl) (rlog_Log_Merge_j2_ok n g_1 l_22 b_2 A_3 c_4 A_23 c_24 A_8 c_9 w0 S0 (term_21 != g_1.snap.Term))
        · refine GoO.exec (is := [25, 26, 27, 28, 29, 30, 31, 32, 33]) (hs := [.p, .p, .p, .p, .p, .p, .p, .p, .p]) (rest := []) (ks := [0, 3, 117]) (env' := [(0, .pointer (some ⟨b_2, 0, none⟩)), (3, .slice A_23 l_22.length c_24), (117, .bool false)]) (H' := [⟨1, b_2, [.int .u64 g_1.snap.Index, .int .u64 g_1.snap.Term, .int .u64 g_1.snap.Config, .string (bs g_1.snap.Data), .slice A_3 g_1.entries.length c_4]⟩]) (ps := []) (by kernel_rfl) trivial ?_
          refine GoO.regionEnd ?_
          exact GoO.sub (ks := [0, 3, 117]) (hk := [0]) (bk := [0, 1]) (by kernel_rfl) (by kernel_rfl) (by kernel_rfl) (rlog_Log_Merge_j2_ok n g_1 l_22 b_2 A_3 c_4 A_23 c_24 A_8 c_9 w0 S0 false)
theorem rlog_Log_Merge_l1_ok (n : Nat) (g_1 : T_rlog_Log) (b_2 : Nat) (A_3 : Option Addr) (c_4 : Nat) (A_8 : Option Addr) (c_9 : Nat) (w0 : World) (S0 : Fam) :
    ∀ (k : Nat) (index_20 : Int) (term_21 : Int) (l_22 : (List T_api_Entry)) (A_23 : Option Addr) (c_24 : Nat), GoO (rlog_Log_Merge.cx b_2 A_3 c_4 A_8 c_9 w0 S0) [(0, .pointer (some ⟨b_2, 0, none⟩)), (1, .int .u64 index_20), (2, .int .u64 term_21), (3, .slice A_23 l_22.length c_24)] [⟨1, b_2, [.int .u64 g_1.snap.Index, .int .u64 g_1.snap.Term, .int .u64 g_1.snap.Config, .string (bs g_1.snap.Data), .slice A_3 g_1.entries.length c_4]⟩] [Ow 2 kT_api_Entry A_3 c_4 g_1.entries, Rd 0 kT_api_Entry A_23 c_24 l_22] [.code c18_44, .inLoop c18_44, .inBlock 2, .code c18_54] (rlog_Log_Merge.l1 n g_1 k index_20 term_21 l_22) := by
  intro k
  induction k with
  | zero => intros; rw [rlog_Log_Merge.l1.eq_1]; exact GoO.stop
  | succ k ih1 =>
    intro index_20 term_21 l_22 A_23 c_24
    rw [rlog_Log_Merge.l1.eq_2]
    refine GoO.seq' c18_44e ?_
    refine GoO.seq' c18_45e ?_
    refine GoO.draw c18_46e (by kernel_rfl) [] [⟨1, b_2, [.int .u64 g_1.snap.Index, .int .u64 g_1.snap.Term, .int .u64 g_1.snap.Config, .string (bs g_1.snap.Data), .slice A_3 g_1.entries.length c_4]⟩] [Rd 0 kT_api_Entry A_23 c_24 l_22] (n := 15) (by kernel_rfl) ?_
    simp only [List.replicate]
    refine GoF.take [0, 1, 2, 3] [.p, .p, .p, .p] (ks := [0, 1, 2, 3, 49]) (fu := 11) (li := [true, true, true, true, false, false, false, false, false, false, false, false, false, false, false]) (env' := [(0, .pointer (some ⟨b_2, 0, none⟩)), (1, .int .u64 index_20), (2, .int .u64 term_21), (3, .slice A_23 l_22.length c_24), (49, .bool (decide ((l_22.length : Int) > 0)))]) (ps := []) (hk := [0]) (bk := [1]) (by kernel_rfl) trivial rfl rfl ?_
    refine GoF.bsplit (t := 49) (by kernel_rfl) (fun h25 => ?_) (fun h25 => ?_)
    · refine GoF.take [4, 8, 9, 10, 11, 12] [.p, .p, .p, .p, .p, .b 0] (ks := [0, 1, 2, 3, 49, 50, 58]) (fu := 5) (li := [true, true, true, true, true, false, false, false, true, true, true, true, true, false, false]) (env' := [(0, .pointer (some ⟨b_2, 0, none⟩)), (1, .int .u64 index_20), (2, .int .u64 term_21), (3, .slice A_23 l_22.length c_24), (49, .bool true), (50, .slice A_23 l_22.length c_24), (58, .int .u64 g_1.snap.Index)]) (ps := [b_2 = b_2]) (hk := [0]) (bk := [1]) (by kernel_rfl) (And.intro rfl trivial) rfl rfl ?_
      refine GoF.guard (fun h26 => ?_)
      refine GoF.idx (i := 5) (hk := [0]) (bk := [1]) (kk := .i64) (e := 40) (K := kT_api_Entry) (A := A_23) (c := c_24) (xs := l_22) (iv := 0) (j := 0) (by kernel_rfl) rfl rfl rfl (by kernel_rfl) (by kernel_rfl) (by kernel_rfl) (by kernel_rfl) rfl Reads.rd rfl h26.1 h26.2 (by decide) rfl ?_
      refine GoF.fldE (i := 6) (hk := [0]) (bk := [1]) (K := kT_api_Entry) (A := A_23) (c := c_24) (xs := l_22) (iN := (0 : Int).toNat) (off := 0) (n := 1) (j := 0) (by kernel_rfl) rfl rfl rfl (by kernel_rfl) (by kernel_rfl) rfl Reads.rd (by first | exact idx_lt h26.1 h26.2 | (simp only [List.length_set]; exact idx_lt h26.1 h26.2)) (by decide) rfl ?_
      refine GoF.ldE (i := 7) (hk := [0]) (bk := [1]) (K := kT_api_Entry) (A := A_23) (c := c_24) (xs := l_22) (iN := (0 : Int).toNat) (off := 1) (j := 0) (v := .int .u64 ((rdL l_22 (0 : Int)).Index)) (by kernel_rfl) rfl rfl rfl (hK := rfl) (by kernel_rfl) rfl Reads.rd (by first | exact idx_lt h26.1 h26.2 | (simp only [List.length_set]; exact idx_lt h26.1 h26.2)) (by decide) (by kernel_rfl) rfl ?_
      refine GoF.take [13, 14] [.p, .p] (ks := [0, 1, 2, 3, 60]) (fu := 0) (li := [true, true, true, true, true, true, true, true, true, true, true, true, true, true, true]) (env' := [(0, .pointer (some ⟨b_2, 0, none⟩)), (1, .int .u64 index_20), (2, .int .u64 term_21), (3, .slice A_23 l_22.length c_24), (60, .bool (decide (((rdL l_22 (0 : Int)).Index) ≤ g_1.snap.Index)))]) (ps := []) (hk := [0]) (bk := [1]) (by kernel_rfl) trivial rfl rfl ?_
      refine GoF.done (by kernel_rfl) ?_
      exact GoO.sub (ks := [0, 1, 2, 3, 60]) (hk := [0]) (bk := [0, 1]) (by kernel_rfl) (by kernel_rfl) (by kernel_rfl) (rlog_Log_Merge_j1_ok n (rlog_Log_Merge.l1 n g_1 k) g_1 index_20 term_21 l_22 b_2 A_3 c_4 A_8 c_9 A_23 c_24 w0 S0 ih1 (decide (((rdL l_22 (0 : Int)).Index) ≤ g_1.snap.Index)))
    · refine GoF.take [4, 5, 6, 7, 8, 9, 10, 11, 12, 13, 14] [.p, .p, .p, .p, .p, .p, .p, .p, .p, .p, .p] (ks := [0, 1, 2, 3, 60]) (fu := 0) (li := [true, true, true, true, true, true, true, true, true, true, true, true, true, true, true]) (env' := [(0, .pointer (some ⟨b_2, 0, none⟩)), (1, .int .u64 index_20), (2, .int .u64 term_21), (3, .slice A_23 l_22.length c_24), (60, .bool false)]) (ps := []) (hk := [0]) (bk := [1]) (by kernel_rfl) trivial rfl rfl ?_
      refine GoF.done (by kernel_rfl) ?_
      exact GoO.sub (ks := [0, 1, 2, 3, 60]) (hk := [0]) (bk := [0, 1]) (by kernel_rfl) (by kernel_rfl) (by kernel_rfl) (rlog_Log_Merge_j1_ok n (rlog_Log_Merge.l1 n g_1 k) g_1 index_20 term_21 l_22 b_2 A_3 c_4 A_8 c_9 A_23 c_24 w0 S0 ih1 false)
theorem rlog_Log_Merge_l0_ok (n : Nat) (g_1 : T_rlog_Log) (index_5 : Int) (term_6 : Int) (l_7 : (List T_api_Entry)) (b_2 : Nat) (A_3 : Option Addr) (c_4 : Nat) (A_8 : Option Addr) (c_9 : Nat) (w0 : World) (S0 : Fam) :
    ∀ (k : Nat) (x_10 : Int), GoO (rlog_Log_Merge.cx b_2 A_3 c_4 A_8 c_9 w0 S0) [(0, .pointer (some ⟨b_2, 0, none⟩)), (1, .int .u64 index_5), (2, .int .u64 term_6), (3, .slice A_8 l_7.length c_9), (20, .slice A_8 l_7.length c_9), (21, .int .i64 (l_7.length : Int)), (22, .int .i64 x_10)] [⟨1, b_2, [.int .u64 g_1.snap.Index, .int .u64 g_1.snap.Term, .int .u64 g_1.snap.Config, .string (bs g_1.snap.Data), .slice A_3 g_1.entries.length c_4]⟩] [Ow 2 kT_api_Entry A_3 c_4 g_1.entries, Rd 0 kT_api_Entry A_8 c_9 l_7] [.code c18_15, .inLoop c18_15, .inBlock 0, .code c18_41] (rlog_Log_Merge.l0 n g_1 index_5 term_6 l_7 k x_10) := by
  intro k
  induction k with
  | zero => intros; rw [rlog_Log_Merge.l0.eq_1]; exact GoO.stop
  | succ k ih0 =>
    intro x_10
    rw [rlog_Log_Merge.l0.eq_2]
    refine GoO.seq' c18_15e ?_
    refine GoO.region' (is := [0]) c18_16e (by kernel_rfl) ?_
    refine GoO.exec (is := [0]) (hs := [.p]) (rest := []) (ks := [0, 1, 2, 3, 20, 21, 22, 23]) (env' := [(0, .pointer (some ⟨b_2, 0, none⟩)), (1, .int .u64 index_5), (2, .int .u64 term_6), (3, .slice A_8 l_7.length c_9), (20, .slice A_8 l_7.length c_9), (21, .int .i64 (l_7.length : Int)), (22, .int .i64 x_10), (23, .bool (decide (x_10 < (l_7.length : Int))))]) (H' := [⟨1, b_2, [.int .u64 g_1.snap.Index, .int .u64 g_1.snap.Term, .int .u64 g_1.snap.Config, .string (bs g_1.snap.Data), .slice A_3 g_1.entries.length c_4]⟩]) (ps := []) (by kernel_rfl) trivial ?_
    refine GoO.regionEnd ?_
    refine GoO.seq' c18_17e ?_
    refine GoO.ite' c18_18e (by kernel_rfl) (fun h11 => ?_) (fun h11 => ?_)
    · refine GoO.skip' c18_19e ?_
      refine GoO.seq' c18_21e ?_
      refine GoO.block' c18_22e ?_
      refine GoO.seq' c18_23e ?_
      refine GoO.region' (is := [0, 1, 2, 3, 4, 5]) c18_24e (by kernel_rfl) ?_
      refine GoO.exec (is := [0]) (hs := [.p]) (rest := [1, 2, 3, 4, 5]) (ks := [0, 1, 2, 3, 20, 21, 22, 24]) (env' := [(0, .pointer (some ⟨b_2, 0, none⟩)), (1, .int .u64 index_5), (2, .int .u64 term_6), (3, .slice A_8 l_7.length c_9), (20, .slice A_8 l_7.length c_9), (21, .int .i64 (l_7.length : Int)), (22, .int .i64 x_10), (24, .int .i64 x_10)]) (H' := [⟨1, b_2, [.int .u64 g_1.snap.Index, .int .u64 g_1.snap.Term, .int .u64 g_1.snap.Config, .string (bs g_1.snap.Data), .slice A_3 g_1.entries.length c_4]⟩]) (ps := []) (by kernel_rfl) trivial ?_
      refine GoO.guard (fun h12 => ?_)
      refine OpTo.go (GoO.idx (kk := .i64) (e := 40) (K := kT_api_Entry) (A := A_8) (c := c_9) (xs := l_7) (iv := x_10) (j := 1) rfl (by kernel_rfl) (by kernel_rfl) (by kernel_rfl) (by kernel_rfl) rfl Reads.rd rfl h12.1 h12.2 (by decide) rfl ?_)
      refine OpTo.go (GoO.ldE' (K := kT_api_Entry) (A := A_8) (c := c_9) (xs := l_7) (iN := x_10.toNat) (off := 0) (j := 1) rfl (by kernel_rfl) rfl Reads.rd (by first | exact idx_lt h12.1 h12.2 | (simp only [List.length_set]; exact idx_lt h12.1 h12.2)) (by decide) (Opn.flat _ _ _ _ _) (v := fun _ => .agg ⟨[.int .u64 ((rdL l_7 x_10).Term), .int .u64 ((rdL l_7 x_10).Index), .int .i64 ((rdL l_7 x_10).Kind), .string (bs ((rdL l_7 x_10).Data))]⟩) (fun _ => by kernel_rfl) _ (fun _ => rfl) (fun _ => ?_))
      refine OpTo.go (GoO.new rfl 40 (cs := [.int .u64 0, .int .u64 0, .int .i64 0, .string (bs [])]) (by kernel_rfl) _ (fun _ => rfl) (fun b_13 => ?_))
      refine GoO.exec (is := [4, 5]) (hs := [.p, .b 0]) (rest := []) (ks := [0, 1, 2, 3, 10, 11, 20, 21, 22]) (env' := [(0, .pointer (some ⟨b_2, 0, none⟩)), (1, .int .u64 index_5), (2, .int .u64 term_6), (3, .slice A_8 l_7.length c_9), (10, .int .i64 x_10), (11, .pointer (some ⟨b_13, 0, none⟩)), (20, .slice A_8 l_7.length c_9), (21, .int .i64 (l_7.length : Int)), (22, .int .i64 x_10)]) (H' := [⟨40, b_13, [.int .u64 ((rdL l_7 x_10).Term), .int .u64 ((rdL l_7 x_10).Index), .int .i64 ((rdL l_7 x_10).Kind), .string (bs ((rdL l_7 x_10).Data))]⟩, ⟨1, b_2, [.int .u64 g_1.snap.Index, .int .u64 g_1.snap.Term, .int .u64 g_1.snap.Config, .string (bs g_1.snap.Data), .slice A_3 g_1.entries.length c_4]⟩]) (ps := [b_13 = b_13]) (by kernel_rfl) (And.intro rfl trivial) ?_
      refine GoO.regionEnd ?_
      refine GoO.seq' c18_25e ?_
      refine GoO.region' (is := [0, 1]) c18_26e (by kernel_rfl) ?_
      refine GoO.exec (is := [0, 1]) (hs := [.p, .p]) (rest := []) (ks := [0, 1, 2, 3, 10, 11, 12, 20, 21, 22]) (env' := [(0, .pointer (some ⟨b_2, 0, none⟩)), (1, .int .u64 index_5), (2, .int .u64 term_6), (3, .slice A_8 l_7.length c_9), (10, .int .i64 x_10), (11, .pointer (some ⟨b_13, 0, none⟩)), (12, .int .u64 term_6), (20, .slice A_8 l_7.length c_9), (21, .int .i64 (l_7.length : Int)), (22, .int .i64 x_10)]) (H' := [⟨40, b_13, [.int .u64 ((rdL l_7 x_10).Term), .int .u64 ((rdL l_7 x_10).Index), .int .i64 ((rdL l_7 x_10).Kind), .string (bs ((rdL l_7 x_10).Data))]⟩, ⟨1, b_2, [.int .u64 g_1.snap.Index, .int .u64 g_1.snap.Term, .int .u64 g_1.snap.Config, .string (bs g_1.snap.Data), .slice A_3 g_1.entries.length c_4]⟩]) (ps := []) (by kernel_rfl) trivial ?_
      refine GoO.regionEnd ?_
      refine GoO.seq' c18_27e ?_
      refine GoO.seq' c18_28e ?_
      refine GoO.region' (is := [0, 1]) c18_29e (by kernel_rfl) ?_
      refine GoO.exec (is := [0, 1]) (hs := [.p, .p]) (rest := []) (ks := [0, 1, 2, 3, 10, 11, 12, 20, 21, 22, 29]) (env' := [(0, .pointer (some ⟨b_2, 0, none⟩)), (1, .int .u64 index_5), (2, .int .u64 term_6), (3, .slice A_8 l_7.length c_9), (10, .int .i64 x_10), (11, .pointer (some ⟨b_13, 0, none⟩)), (12, .int .u64 term_6), (20, .slice A_8 l_7.length c_9), (21, .int .i64 (l_7.length : Int)), (22, .int .i64 x_10), (29, .bool (decide (x_10 > 0)))]) (H' := [⟨40, b_13, [.int .u64 ((rdL l_7 x_10).Term), .int .u64 ((rdL l_7 x_10).Index), .int .i64 ((rdL l_7 x_10).Kind), .string (bs ((rdL l_7 x_10).Data))]⟩, ⟨1, b_2, [.int .u64 g_1.snap.Index, .int .u64 g_1.snap.Term, .int .u64 g_1.snap.Config, .string (bs g_1.snap.Data), .slice A_3 g_1.entries.length c_4]⟩]) (ps := []) (by kernel_rfl) trivial ?_
      refine GoO.regionEnd ?_
      refine GoO.ite' c18_30e (by kernel_rfl) (fun h14 => ?_) (fun h14 => ?_)
      · refine GoO.region' (is := [0, 1, 2, 3, 4, 5, 6]) c18_31e (by kernel_rfl) ?_
        refine GoO.exec (is := [0, 1, 2]) (hs := [.p, .p, .p]) (rest := [3, 4, 5, 6]) (ks := [0, 1, 2, 3, 10, 11, 20, 21, 22, 30, 32]) (env' := [(0, .pointer (some ⟨b_2, 0, none⟩)), (1, .int .u64 index_5), (2, .int .u64 term_6), (3, .slice A_8 l_7.length c_9), (10, .int .i64 x_10), (11, .pointer (some ⟨b_13, 0, none⟩)), (20, .slice A_8 l_7.length c_9), (21, .int .i64 (l_7.length : Int)), (22, .int .i64 x_10), (30, .slice A_8 l_7.length c_9), (32, .int .i64 (wi64 (x_10 - 1)))]) (H' := [⟨40, b_13, [.int .u64 ((rdL l_7 x_10).Term), .int .u64 ((rdL l_7 x_10).Index), .int .i64 ((rdL l_7 x_10).Kind), .string (bs ((rdL l_7 x_10).Data))]⟩, ⟨1, b_2, [.int .u64 g_1.snap.Index, .int .u64 g_1.snap.Term, .int .u64 g_1.snap.Config, .string (bs g_1.snap.Data), .slice A_3 g_1.entries.length c_4]⟩]) (ps := []) (by kernel_rfl) trivial ?_
        refine GoO.guard (fun h15 => ?_)
        refine OpTo.go (GoO.idx (kk := .i64) (e := 40) (K := kT_api_Entry) (A := A_8) (c := c_9) (xs := l_7) (iv := wi64 (x_10 - 1)) (j := 1) rfl (by kernel_rfl) (by kernel_rfl) (by kernel_rfl) (by kernel_rfl) rfl Reads.rd rfl h15.1 h15.2 (by decide) rfl ?_)
        refine OpTo.go (GoO.fldE (K := kT_api_Entry) (A := A_8) (c := c_9) (xs := l_7) (iN := (wi64 (x_10 - 1)).toNat) (off := 0) (n := 0) (j := 1) rfl (by kernel_rfl) (by kernel_rfl) rfl Reads.rd (by first | exact idx_lt h15.1 h15.2 | (simp only [List.length_set]; exact idx_lt h15.1 h15.2)) (by decide) rfl ?_)
        refine OpTo.go (GoO.ldE' (K := kT_api_Entry) (A := A_8) (c := c_9) (xs := l_7) (iN := (wi64 (x_10 - 1)).toNat) (off := 0) (j := 1) rfl (by kernel_rfl) rfl Reads.rd (by first | exact idx_lt h15.1 h15.2 | (simp only [List.length_set]; exact idx_lt h15.1 h15.2)) (by decide) (Opn.flat _ _ _ _ _) (v := fun _ => .int .u64 ((rdL l_7 (wi64 (x_10 - 1))).Term)) (fun _ => by kernel_rfl) _ (fun _ => rfl) (fun _ => ?_))
        refine GoO.exec (is := [6]) (hs := [.p]) (rest := []) (ks := [0, 1, 2, 3, 10, 11, 12, 20, 21, 22]) (env' := [(0, .pointer (some ⟨b_2, 0, none⟩)), (1, .int .u64 index_5), (2, .int .u64 term_6), (3, .slice A_8 l_7.length c_9), (10, .int .i64 x_10), (11, .pointer (some ⟨b_13, 0, none⟩)), (12, .int .u64 ((rdL l_7 (wi64 (x_10 - 1))).Term)), (20, .slice A_8 l_7.length c_9), (21, .int .i64 (l_7.length : Int)), (22, .int .i64 x_10)]) (H' := [⟨40, b_13, [.int .u64 ((rdL l_7 x_10).Term), .int .u64 ((rdL l_7 x_10).Index), .int .i64 ((rdL l_7 x_10).Kind), .string (bs ((rdL l_7 x_10).Data))]⟩, ⟨1, b_2, [.int .u64 g_1.snap.Index, .int .u64 g_1.snap.Term, .int .u64 g_1.snap.Config, .string (bs g_1.snap.Data), .slice A_3 g_1.entries.length c_4]⟩]) (ps := []) (by kernel_rfl) trivial ?_
        refine GoO.regionEnd ?_
        exact GoO.sub (ks := [0, 1, 2, 3, 10, 11, 12, 20, 21, 22]) (hk := [1, 0]) (bk := [0, 1]) (by kernel_rfl) (by kernel_rfl) (by kernel_rfl) (rlog_Log_Merge_j0_ok n (rlog_Log_Merge.l0 n g_1 index_5 term_6 l_7 k) g_1 index_5 term_6 l_7 x_10 b_2 A_3 c_4 A_8 c_9 b_13 w0 S0 ih0 ((rdL l_7 (wi64 (x_10 - 1))).Term))
      · refine GoO.skip' c18_32e ?_
        exact GoO.sub (ks := [0, 1, 2, 3, 10, 11, 12, 20, 21, 22]) (hk := [1, 0]) (bk := [0, 1]) (by kernel_rfl) (by kernel_rfl) (by kernel_rfl) (rlog_Log_Merge_j0_ok n (rlog_Log_Merge.l0 n g_1 index_5 term_6 l_7 k) g_1 index_5 term_6 l_7 x_10 b_2 A_3 c_4 A_8 c_9 b_13 w0 S0 ih0 term_6)
    · refine GoO.exit' c18_20e rfl ?_
      refine GoO.seq' c18_41e ?_
      refine GoO.block' c18_42e ?_
      refine GoO.loop' c18_43e ?_
      exact GoO.sub (ks := [0, 1, 2, 3]) (hk := [0]) (bk := [0, 1]) (by kernel_rfl) (by kernel_rfl) (by kernel_rfl) (rlog_Log_Merge_l1_ok n g_1 b_2 A_3 c_4 A_8 c_9 w0 S0 n index_5 term_6 l_7 A_8 c_9)
theorem rlog_Log_Merge_ok (n : Nat) (g_1 : T_rlog_Log) (index_5 : Int) (term_6 : Int) (l_7 : (List T_api_Entry)) (b_2 : Nat) (A_3 : Option Addr) (c_4 : Nat) (A_8 : Option Addr) (c_9 : Nat) :
    Meets Try.prog 18 [.pointer (some ⟨b_2, 0, none⟩), .int .u64 index_5, .int .u64 term_6, .slice A_8 l_7.length c_9] 2 [1, 2] [⟨1, b_2, [.int .u64 g_1.snap.Index, .int .u64 g_1.snap.Term, .int .u64 g_1.snap.Config, .string (bs g_1.snap.Data), .slice A_3 g_1.entries.length c_4]⟩] [Ow 2 kT_api_Entry A_3 c_4 g_1.entries, Rd 0 kT_api_Entry A_8 c_9 l_7] (rlog_Log_Merge.f n g_1 index_5 term_6 l_7) (rlog_Log_Merge.R b_2 A_3 c_4 A_8 c_9) := by
  refine Meets.of (c := c18_0) (n := 172) Try.func18 (by kernel_rfl) (by kernel_rfl) (by kernel_rfl) fun w0 S0 => ?_
  unfold rlog_Log_Merge.f
  show GoO (rlog_Log_Merge.cx b_2 A_3 c_4 A_8 c_9 w0 S0) [(0, .pointer (some ⟨b_2, 0, none⟩)), (1, .int .u64 index_5), (2, .int .u64 term_6), (3, .slice A_8 l_7.length c_9)] [⟨1, b_2, [.int .u64 g_1.snap.Index, .int .u64 g_1.snap.Term, .int .u64 g_1.snap.Config, .string (bs g_1.snap.Data), .slice A_3 g_1.entries.length c_4]⟩] [Ow 2 kT_api_Entry A_3 c_4 g_1.entries, Rd 0 kT_api_Entry A_8 c_9 l_7] [.code c18_0] _
  refine GoO.seq' c18_0e ?_
  refine GoO.region' (is := [0, 1]) c18_1e (by kernel_rfl) ?_
  refine GoO.exec (is := [0, 1]) (hs := [.p, .p]) (rest := []) (ks := [0, 1, 2, 3]) (env' := [(0, .pointer (some ⟨b_2, 0, none⟩)), (1, .int .u64 index_5), (2, .int .u64 term_6), (3, .slice A_8 l_7.length c_9)]) (H' := [⟨1, b_2, [.int .u64 g_1.snap.Index, .int .u64 g_1.snap.Term, .int .u64 g_1.snap.Config, .string (bs g_1.snap.Data), .slice A_3 g_1.entries.length c_4]⟩]) (ps := []) (by kernel_rfl) trivial ?_
  refine GoO.regionEnd ?_
  refine GoO.seq' c18_2e ?_
  refine GoO.seq' c18_3e ?_
  refine GoO.region' (is := [0, 1]) c18_4e (by kernel_rfl) ?_
  refine GoO.exec (is := [0, 1]) (hs := [.p, .p]) (rest := []) (ks := [0, 1, 2, 3, 19]) (env' := [(0, .pointer (some ⟨b_2, 0, none⟩)), (1, .int .u64 index_5), (2, .int .u64 term_6), (3, .slice A_8 l_7.length c_9), (19, .bool false)]) (H' := [⟨1, b_2, [.int .u64 g_1.snap.Index, .int .u64 g_1.snap.Term, .int .u64 g_1.snap.Config, .string (bs g_1.snap.Data), .slice A_3 g_1.entries.length c_4]⟩]) (ps := []) (by kernel_rfl) trivial ?_
  refine GoO.regionEnd ?_
  refine GoO.condF c18_5e (by kernel_rfl) ?_
  refine GoO.skip' c18_9e ?_
  refine GoO.seq' c18_10e ?_
  refine GoO.seq' c18_11e ?_
  refine GoO.region' (is := [0, 1, 2]) c18_12e (by kernel_rfl) ?_
  refine GoO.exec (is := [0, 1, 2]) (hs := [.p, .p, .p]) (rest := []) (ks := [0, 1, 2, 3, 20, 21, 22]) (env' := [(0, .pointer (some ⟨b_2, 0, none⟩)), (1, .int .u64 index_5), (2, .int .u64 term_6), (3, .slice A_8 l_7.length c_9), (20, .slice A_8 l_7.length c_9), (21, .int .i64 (l_7.length : Int)), (22, .int .i64 0)]) (H' := [⟨1, b_2, [.int .u64 g_1.snap.Index, .int .u64 g_1.snap.Term, .int .u64 g_1.snap.Config, .string (bs g_1.snap.Data), .slice A_3 g_1.entries.length c_4]⟩]) (ps := []) (by kernel_rfl) trivial ?_
  refine GoO.regionEnd ?_
  refine GoO.block' c18_13e ?_
  refine GoO.loop' c18_14e ?_
  exact GoO.sub (ks := [0, 1, 2, 3, 20, 21, 22]) (hk := [0]) (bk := [0, 1]) (by kernel_rfl) (by kernel_rfl) (by kernel_rfl) (rlog_Log_Merge_l0_ok n g_1 index_5 term_6 l_7 b_2 A_3 c_4 A_8 c_9 w0 S0 n 0)

/-! tontine/tontinelaw07.begun -/
noncomputable def c14_0 : Code := bodyOf Try.f14
noncomputable def c14_1 : Code := cdL c14_0
noncomputable def c14_2 : Code := cdR c14_0
noncomputable def c14_3 : Code := cdL c14_2
noncomputable def c14_4 : Code := cdR c14_2
noncomputable def c14_5 : Code := cdL c14_4
noncomputable def c14_6 : Code := cdR c14_4
noncomputable def c14_7 : Code := cdL c14_6
noncomputable def c14_8 : Code := cdR c14_6
noncomputable def c14_9 : Code := cdL c14_8
noncomputable def c14_10 : Code := cdR c14_8
noncomputable def c14_11 : Code := cdL c14_10
noncomputable def c14_12 : Code := cdR c14_10
noncomputable def r14_1 : Array Oper := cdO c14_1
noncomputable def r14_3 : Array Oper := cdO c14_3
noncomputable def r14_5 : Array Oper := cdO c14_5
noncomputable def r14_7 : Array Oper := cdO c14_7
noncomputable def r14_9 : Array Oper := cdO c14_9
noncomputable def r14_11 : Array Oper := cdO c14_11
theorem c14_0e : c14_0 = .seq c14_1 c14_2 := by kernel_rfl
theorem c14_1e : c14_1 = .region 0 r14_1 false := by kernel_rfl
theorem c14_2e : c14_2 = .seq c14_3 c14_4 := by kernel_rfl
theorem c14_3e : c14_3 = .region 1 r14_3 false := by kernel_rfl
theorem c14_4e : c14_4 = .seq c14_5 c14_6 := by kernel_rfl
theorem c14_5e : c14_5 = .region 2 r14_5 false := by kernel_rfl
theorem c14_6e : c14_6 = .seq c14_7 c14_8 := by kernel_rfl
theorem c14_7e : c14_7 = .region 3 r14_7 false := by kernel_rfl
theorem c14_8e : c14_8 = .seq c14_9 c14_10 := by kernel_rfl
theorem c14_9e : c14_9 = .region 4 r14_9 false := by kernel_rfl
theorem c14_10e : c14_10 = .seq c14_11 c14_12 := by kernel_rfl
theorem c14_11e : c14_11 = .region 5 r14_11 false := by kernel_rfl
theorem c14_12e : c14_12 = .ret := by kernel_rfl
noncomputable def tontinelaw07_begun.R : Pst Bool where
  ε := Unit
  v := fun r x => .bool r
  H := fun r x => []
  B := fun r x => []
noncomputable def tontinelaw07_begun.cx (w0 : World) (S0 : Fam) : Cx Bool := ⟨Try.prog, 14, Try.f14, 57, w0, S0, [], 0, tontinelaw07_begun.R⟩
theorem tontinelaw07_begun_ok (n : Nat) :
    Meets Try.prog 14 [] 0 [] [] [] (tontinelaw07_begun.f n) (tontinelaw07_begun.R) := by
  refine Meets.of (c := c14_0) (n := 57) Try.func14 (by kernel_rfl) (by kernel_rfl) (by kernel_rfl) fun w0 S0 => ?_
  unfold tontinelaw07_begun.f
  show GoO (tontinelaw07_begun.cx w0 S0) [] [] [] [.code c14_0] _
  refine GoO.seq' c14_0e ?_
  refine GoO.region' (is := [0]) c14_1e (by kernel_rfl) ?_
  refine GoO.exec (is := [0]) (hs := [.p]) (rest := []) (ks := []) (env' := []) (H' := []) (ps := []) (by kernel_rfl) trivial ?_
  refine GoO.regionEnd ?_
  refine GoO.seq' c14_2e ?_
  refine GoO.region' (is := [0, 1, 2, 3, 4, 5, 6, 7, 8, 9, 10]) c14_3e (by kernel_rfl) ?_
  refine GoO.exec (is := [0, 1, 2, 3]) (hs := [.p, .p, .p, .p]) (rest := [4, 5, 6, 7, 8, 9, 10]) (ks := [10, 11, 12, 13]) (env' := [(10, .agg ⟨[.int .u64 0, .int .u64 0, .int .u64 7, .string (bs [])]⟩), (11, .agg ⟨[.int .u64 1, .int .u64 1, .int .i64 0, .string (bs [])]⟩), (12, .agg ⟨[.int .u64 1, .int .u64 2, .int .i64 0, .string (bs [])]⟩), (13, .agg ⟨[.int .u64 2, .int .u64 3, .int .i64 0, .string (bs [])]⟩)]) (H' := []) (ps := []) (by kernel_rfl) trivial ?_
  refine OpTo.go (GoO.lit (e := 40) (K := kT_api_Entry) rfl (by kernel_rfl) (by kernel_rfl) (cs := [.int .u64 1, .int .u64 1, .int .i64 0, .string (bs []), .int .u64 1, .int .u64 2, .int .i64 0, .string (bs []), .int .u64 2, .int .u64 3, .int .i64 0, .string (bs [])]) (by kernel_rfl) [(⟨1, 1, 0, []⟩ : T_api_Entry), (⟨1, 2, 0, []⟩ : T_api_Entry), (⟨2, 3, 0, []⟩ : T_api_Entry)] (by kernel_rfl) (by kernel_rfl) (fun w S hB => ⟨[.int .u64 1, .int .u64 1, .int .i64 0, .string (bs [])], _, rfl, rfl, ⟨[.int .u64 1, .int .u64 2, .int .i64 0, .string (bs [])], _, rfl, rfl, ⟨[.int .u64 2, .int .u64 3, .int .i64 0, .string (bs [])], _, rfl, rfl, rfl⟩⟩⟩) 40 _ (fun _ _ => rfl) (fun A_1 c_2 => ?_))
  refine GoO.retag (t := 40) (u := 0) (j := 0) (hk := []) (bk := []) rfl rfl rfl rfl rfl rfl (by kernel_rfl) (by kernel_rfl) ?_
  refine GoO.own2rd (j := 0) rfl ?_
  refine OpTo.go (GoO.call rfl (by kernel_rfl) (by kernel_rfl) (rlog_New_ok n (⟨0, 0, 7, []⟩ : T_api_Snapshot) [(⟨1, 1, 0, []⟩ : T_api_Entry), (⟨1, 2, 0, []⟩ : T_api_Entry), (⟨2, 3, 0, []⟩ : T_api_Entry)] A_1 c_2) [[0]] [(41, 1), (42, 2)] [] [(0, 0)] (hks := []) (bks := [0]) (by kernel_rfl) (by kernel_rfl) (by kernel_rfl) (.inl rfl) rfl rfl (by kernel_rfl) (by kernel_rfl) _ (fun _ _ => rfl) _ _ (fun _ _ => rfl) (fun _ _ => rfl) (fun rr _ => by dsimp only [rlog_New.R]; cases rr.1 <;> kernel_rfl) (fun rr _ => by dsimp only [rlog_New.R]; cases rr.1 <;> kernel_rfl) (fun r_3 x_31 => ?_))
  obtain ⟨c_4, A_5, c_6⟩ := x_31
  rcases r_3 with ⟨(_ | o_7), r_3_q1⟩
  · refine GoO.shape (env' := [(10, .agg ⟨[.int .u64 0, .int .u64 0, .int .u64 7, .string (bs [])]⟩), (11, .agg ⟨[.int .u64 1, .int .u64 1, .int .i64 0, .string (bs [])]⟩), (12, .agg ⟨[.int .u64 1, .int .u64 2, .int .i64 0, .string (bs [])]⟩), (13, .agg ⟨[.int .u64 2, .int .u64 3, .int .i64 0, .string (bs [])]⟩), (14, .slice A_1 [(⟨1, 1, 0, []⟩ : T_api_Entry), (⟨1, 2, 0, []⟩ : T_api_Entry), (⟨2, 3, 0, []⟩ : T_api_Entry)].length c_2), (15, .tuple ⟨[.pointer none, .int .i64 ((none, r_3_q1) : Option T_rlog_Log × Int).2]⟩)]) (H' := []) (B' := [Rd 0 kT_api_Entry A_1 c_2 [(⟨1, 1, 0, []⟩ : T_api_Entry), (⟨1, 2, 0, []⟩ : T_api_Entry), (⟨2, 3, 0, []⟩ : T_api_Entry)]]) (ks := [10, 11, 12, 13, 14, 15]) (by kernel_rfl) (by kernel_rfl) (by kernel_rfl) ?_
    refine GoO.exec (is := [6, 7, 8, 9, 10]) (hs := [.p, .p, .p, .p, .p]) (rest := []) (ks := [1, 2]) (env' := [(1, .pointer none), (2, .int .i64 ((none, r_3_q1) : Option T_rlog_Log × Int).2)]) (H' := []) (ps := []) (by kernel_rfl) trivial ?_
    refine GoO.regionEnd ?_
    refine GoO.seq' c14_4e ?_
    refine GoO.region' (is := [0, 1, 2, 3, 4, 5, 6, 7, 8]) c14_5e (by kernel_rfl) ?_
    refine GoO.exec (is := [0, 1]) (hs := [.p, .p]) (rest := [2, 3, 4, 5, 6, 7, 8]) (ks := [1, 2, 19, 20]) (env' := [(1, .pointer none), (2, .int .i64 ((none, r_3_q1) : Option T_rlog_Log × Int).2), (19, .pointer none), (20, .agg ⟨[.int .u64 3, .int .u64 3, .int .i64 0, .string (bs [])]⟩)]) (H' := []) (ps := []) (by kernel_rfl) trivial ?_
    refine OpTo.go (GoO.lit (e := 40) (K := kT_api_Entry) rfl (by kernel_rfl) (by kernel_rfl) (cs := [.int .u64 3, .int .u64 3, .int .i64 0, .string (bs [])]) (by kernel_rfl) [(⟨3, 3, 0, []⟩ : T_api_Entry)] (by kernel_rfl) (by kernel_rfl) (fun w S hB => ⟨[.int .u64 3, .int .u64 3, .int .i64 0, .string (bs [])], _, rfl, rfl, rfl⟩) 43 _ (fun _ _ => rfl) (fun A_8 c_9 => ?_))
    exact GoO.stop
  · refine GoO.shape (env' := [(10, .agg ⟨[.int .u64 0, .int .u64 0, .int .u64 7, .string (bs [])]⟩), (11, .agg ⟨[.int .u64 1, .int .u64 1, .int .i64 0, .string (bs [])]⟩), (12, .agg ⟨[.int .u64 1, .int .u64 2, .int .i64 0, .string (bs [])]⟩), (13, .agg ⟨[.int .u64 2, .int .u64 3, .int .i64 0, .string (bs [])]⟩), (14, .slice A_1 [(⟨1, 1, 0, []⟩ : T_api_Entry), (⟨1, 2, 0, []⟩ : T_api_Entry), (⟨2, 3, 0, []⟩ : T_api_Entry)].length c_2), (15, .tuple ⟨[.pointer (some ⟨c_4, 0, none⟩), .int .i64 ((some o_7, r_3_q1) : Option T_rlog_Log × Int).2]⟩)]) (H' := [⟨41, c_4, [.int .u64 o_7.snap.Index, .int .u64 o_7.snap.Term, .int .u64 o_7.snap.Config, .string (bs o_7.snap.Data), .slice A_5 o_7.entries.length c_6]⟩]) (B' := [Ow 42 kT_api_Entry A_5 c_6 o_7.entries, Rd 0 kT_api_Entry A_1 c_2 [(⟨1, 1, 0, []⟩ : T_api_Entry), (⟨1, 2, 0, []⟩ : T_api_Entry), (⟨2, 3, 0, []⟩ : T_api_Entry)]]) (ks := [10, 11, 12, 13, 14, 15]) (by kernel_rfl) (by kernel_rfl) (by kernel_rfl) ?_
    refine GoO.exec (is := [6, 7, 8, 9, 10]) (hs := [.p, .p, .p, .p, .p]) (rest := []) (ks := [1, 2]) (env' := [(1, .pointer (some ⟨c_4, 0, none⟩)), (2, .int .i64 ((some o_7, r_3_q1) : Option T_rlog_Log × Int).2)]) (H' := [⟨41, c_4, [.int .u64 o_7.snap.Index, .int .u64 o_7.snap.Term, .int .u64 o_7.snap.Config, .string (bs o_7.snap.Data), .slice A_5 o_7.entries.length c_6]⟩]) (ps := []) (by kernel_rfl) trivial ?_
    refine GoO.regionEnd ?_
    refine GoO.seq' c14_4e ?_
    refine GoO.region' (is := [0, 1, 2, 3, 4, 5, 6, 7, 8]) c14_5e (by kernel_rfl) ?_
    refine GoO.exec (is := [0, 1]) (hs := [.p, .p]) (rest := [2, 3, 4, 5, 6, 7, 8]) (ks := [1, 2, 19, 20]) (env' := [(1, .pointer (some ⟨c_4, 0, none⟩)), (2, .int .i64 ((some o_7, r_3_q1) : Option T_rlog_Log × Int).2), (19, .pointer (some ⟨c_4, 0, none⟩)), (20, .agg ⟨[.int .u64 3, .int .u64 3, .int .i64 0, .string (bs [])]⟩)]) (H' := [⟨41, c_4, [.int .u64 o_7.snap.Index, .int .u64 o_7.snap.Term, .int .u64 o_7.snap.Config, .string (bs o_7.snap.Data), .slice A_5 o_7.entries.length c_6]⟩]) (ps := []) (by kernel_rfl) trivial ?_
    refine OpTo.go (GoO.lit (e := 40) (K := kT_api_Entry) rfl (by kernel_rfl) (by kernel_rfl) (cs := [.int .u64 3, .int .u64 3, .int .i64 0, .string (bs [])]) (by kernel_rfl) [(⟨3, 3, 0, []⟩ : T_api_Entry)] (by kernel_rfl) (by kernel_rfl) (fun w S hB => ⟨[.int .u64 3, .int .u64 3, .int .i64 0, .string (bs [])], _, rfl, rfl, rfl⟩) 43 _ (fun _ _ => rfl) (fun A_10 c_11 => ?_))
    refine GoO.retag (t := 43) (u := 0) (j := 0) (hk := [0]) (bk := [1, 2]) rfl rfl rfl rfl rfl rfl (by kernel_rfl) (by kernel_rfl) ?_
    refine GoO.own2rd (j := 0) rfl ?_
    refine OpTo.go (GoO.call rfl (by kernel_rfl) (by kernel_rfl) (rlog_Log_Merge_ok n (⟨(⟨o_7.snap.Index, o_7.snap.Term, o_7.snap.Config, o_7.snap.Data⟩ : T_api_Snapshot), o_7.entries⟩ : T_rlog_Log) 2 1 [(⟨3, 3, 0, []⟩ : T_api_Entry)] c_4 A_5 c_6 A_10 c_11) [[0], [41], [42]] [(41, 1), (42, 2), (44, 3)] [(1, 0)] [(2, 1), (0, 0)] (hks := []) (bks := [0, 2]) (by kernel_rfl) (by kernel_rfl) (by kernel_rfl) (.inl rfl) rfl rfl (by kernel_rfl) (by kernel_rfl) _ (fun _ _ => rfl) _ _ (fun _ _ => rfl) (fun _ _ => rfl) (fun _ _ => by kernel_rfl) (fun _ _ => by kernel_rfl) (fun r_12 x_30 => ?_))
    obtain ⟨A_13, c_14, A_15, c_16⟩ := x_30
    refine GoO.shape (env' := [(1, .pointer (some ⟨c_4, 0, none⟩)), (2, .int .i64 ((some o_7, r_3_q1) : Option T_rlog_Log × Int).2), (19, .pointer (some ⟨c_4, 0, none⟩)), (20, .agg ⟨[.int .u64 3, .int .u64 3, .int .i64 0, .string (bs [])]⟩), (21, .slice A_10 [(⟨3, 3, 0, []⟩ : T_api_Entry)].length c_11), (22, .tuple ⟨[.slice A_13 r_12.1.length c_14, .bool r_12.2.1]⟩)]) (H' := [⟨41, c_4, [.int .u64 r_12.2.2.snap.Index, .int .u64 r_12.2.2.snap.Term, .int .u64 r_12.2.2.snap.Config, .string (bs r_12.2.2.snap.Data), .slice A_15 r_12.2.2.entries.length c_16]⟩]) (B' := [Ow 44 kT_api_Entry A_13 c_14 r_12.1, Ow 42 kT_api_Entry A_15 c_16 r_12.2.2.entries, Rd 0 kT_api_Entry A_10 c_11 [(⟨3, 3, 0, []⟩ : T_api_Entry)], Rd 0 kT_api_Entry A_1 c_2 [(⟨1, 1, 0, []⟩ : T_api_Entry), (⟨1, 2, 0, []⟩ : T_api_Entry), (⟨2, 3, 0, []⟩ : T_api_Entry)]]) (ks := [1, 2, 19, 20, 21, 22]) (by kernel_rfl) (by kernel_rfl) (by kernel_rfl) ?_
    refine GoO.exec (is := [4, 5, 6, 7, 8]) (hs := [.p, .p, .p, .p, .p]) (rest := []) (ks := [1, 2, 3, 4]) (env' := [(1, .pointer (some ⟨c_4, 0, none⟩)), (2, .int .i64 ((some o_7, r_3_q1) : Option T_rlog_Log × Int).2), (3, .slice A_13 r_12.1.length c_14), (4, .bool r_12.2.1)]) (H' := [⟨41, c_4, [.int .u64 r_12.2.2.snap.Index, .int .u64 r_12.2.2.snap.Term, .int .u64 r_12.2.2.snap.Config, .string (bs r_12.2.2.snap.Data), .slice A_15 r_12.2.2.entries.length c_16]⟩]) (ps := []) (by kernel_rfl) trivial ?_
    refine GoO.regionEnd ?_
    refine GoO.seq' c14_6e ?_
    refine GoO.region' (is := [0, 1, 2, 3, 4, 5, 6]) c14_7e (by kernel_rfl) ?_
    refine GoO.exec (is := [0]) (hs := [.p]) (rest := [1, 2, 3, 4, 5, 6]) (ks := [1, 2, 3, 4, 26]) (env' := [(1, .pointer (some ⟨c_4, 0, none⟩)), (2, .int .i64 ((some o_7, r_3_q1) : Option T_rlog_Log × Int).2), (3, .slice A_13 r_12.1.length c_14), (4, .bool r_12.2.1), (26, .pointer (some ⟨c_4, 0, none⟩))]) (H' := [⟨41, c_4, [.int .u64 r_12.2.2.snap.Index, .int .u64 r_12.2.2.snap.Term, .int .u64 r_12.2.2.snap.Config, .string (bs r_12.2.2.snap.Data), .slice A_15 r_12.2.2.entries.length c_16]⟩]) (ps := []) (by kernel_rfl) trivial ?_
    refine GoO.nilRd kT_api_Entry ?_
    refine OpTo.go (GoO.call rfl (by kernel_rfl) (by kernel_rfl) (rlog_Log_Merge_ok n (⟨(⟨r_12.2.2.snap.Index, r_12.2.2.snap.Term, r_12.2.2.snap.Config, r_12.2.2.snap.Data⟩ : T_api_Snapshot), r_12.2.2.entries⟩ : T_rlog_Log) 2 2 ([] : List T_api_Entry) c_4 A_15 c_16 none 0) [[0], [41], [42]] [(41, 1), (42, 2), (45, 3)] [(1, 0)] [(2, 2), (0, 0)] (hks := []) (bks := [0, 1, 3, 4]) (by kernel_rfl) (by kernel_rfl) (by kernel_rfl) (.inl rfl) rfl rfl (by kernel_rfl) (by kernel_rfl) _ (fun _ _ => rfl) _ _ (fun _ _ => rfl) (fun _ _ => rfl) (fun _ _ => by kernel_rfl) (fun _ _ => by kernel_rfl) (fun r_17 x_29 => ?_))
    obtain ⟨A_18, c_19, A_20, c_21⟩ := x_29
    refine GoO.shape (env' := [(1, .pointer (some ⟨c_4, 0, none⟩)), (2, .int .i64 ((some o_7, r_3_q1) : Option T_rlog_Log × Int).2), (3, .slice A_13 r_12.1.length c_14), (4, .bool r_12.2.1), (26, .pointer (some ⟨c_4, 0, none⟩)), (27, .tuple ⟨[.slice A_18 r_17.1.length c_19, .bool r_17.2.1]⟩)]) (H' := [⟨41, c_4, [.int .u64 r_17.2.2.snap.Index, .int .u64 r_17.2.2.snap.Term, .int .u64 r_17.2.2.snap.Config, .string (bs r_17.2.2.snap.Data), .slice A_20 r_17.2.2.entries.length c_21]⟩]) (B' := [Ow 45 kT_api_Entry A_18 c_19 r_17.1, Ow 42 kT_api_Entry A_20 c_21 r_17.2.2.entries, Rd 0 kT_api_Entry none 0 ([] : List T_api_Entry), Ow 44 kT_api_Entry A_13 c_14 r_12.1, Rd 0 kT_api_Entry A_10 c_11 [(⟨3, 3, 0, []⟩ : T_api_Entry)], Rd 0 kT_api_Entry A_1 c_2 [(⟨1, 1, 0, []⟩ : T_api_Entry), (⟨1, 2, 0, []⟩ : T_api_Entry), (⟨2, 3, 0, []⟩ : T_api_Entry)]]) (ks := [1, 2, 3, 4, 26, 27]) (by kernel_rfl) (by kernel_rfl) (by kernel_rfl) ?_
    refine GoO.exec (is := [2, 3, 4, 5, 6]) (hs := [.p, .p, .p, .p, .p]) (rest := []) (ks := [1, 2, 3, 4, 6]) (env' := [(1, .pointer (some ⟨c_4, 0, none⟩)), (2, .int .i64 ((some o_7, r_3_q1) : Option T_rlog_Log × Int).2), (3, .slice A_13 r_12.1.length c_14), (4, .bool r_12.2.1), (6, .bool r_17.2.1)]) (H' := [⟨41, c_4, [.int .u64 r_17.2.2.snap.Index, .int .u64 r_17.2.2.snap.Term, .int .u64 r_17.2.2.snap.Config, .string (bs r_17.2.2.snap.Data), .slice A_20 r_17.2.2.entries.length c_21]⟩]) (ps := []) (by kernel_rfl) trivial ?_
    refine GoO.regionEnd ?_
    refine GoO.seq' c14_8e ?_
    refine GoO.region' (is := [0, 1, 2, 3, 4, 5, 6]) c14_9e (by kernel_rfl) ?_
    refine GoO.exec (is := [0]) (hs := [.p]) (rest := [1, 2, 3, 4, 5, 6]) (ks := [2, 3, 4, 6, 31]) (env' := [(2, .int .i64 ((some o_7, r_3_q1) : Option T_rlog_Log × Int).2), (3, .slice A_13 r_12.1.length c_14), (4, .bool r_12.2.1), (6, .bool r_17.2.1), (31, .pointer (some ⟨c_4, 0, none⟩))]) (H' := [⟨41, c_4, [.int .u64 r_17.2.2.snap.Index, .int .u64 r_17.2.2.snap.Term, .int .u64 r_17.2.2.snap.Config, .string (bs r_17.2.2.snap.Data), .slice A_20 r_17.2.2.entries.length c_21]⟩]) (ps := []) (by kernel_rfl) trivial ?_
    refine OpTo.go (GoO.call rfl (by kernel_rfl) (by kernel_rfl) (rlog_Log_Last_ok n (⟨(⟨r_17.2.2.snap.Index, r_17.2.2.snap.Term, r_17.2.2.snap.Config, r_17.2.2.snap.Data⟩ : T_api_Snapshot), r_17.2.2.entries⟩ : T_rlog_Log) c_4 A_20 c_21) [[0], [41], [42]] [] [(1, 0)] [(2, 1)] (hks := [0]) (bks := [0, 1, 2, 3, 4, 5]) (by kernel_rfl) (by kernel_rfl) (by kernel_rfl) (.inl rfl) rfl rfl (by kernel_rfl) (by kernel_rfl) _ (fun _ _ => rfl) _ _ (fun _ _ => rfl) (fun _ _ => rfl) (fun _ _ => by kernel_rfl) (fun _ _ => by kernel_rfl) (fun r_22 x_28 => ?_))
    refine GoO.shape (env' := [(2, .int .i64 ((some o_7, r_3_q1) : Option T_rlog_Log × Int).2), (3, .slice A_13 r_12.1.length c_14), (4, .bool r_12.2.1), (6, .bool r_17.2.1), (31, .pointer (some ⟨c_4, 0, none⟩)), (32, .tuple ⟨[.int .u64 r_22.1, .int .u64 r_22.2]⟩)]) (H' := [⟨41, c_4, [.int .u64 r_17.2.2.snap.Index, .int .u64 r_17.2.2.snap.Term, .int .u64 r_17.2.2.snap.Config, .string (bs r_17.2.2.snap.Data), .slice A_20 r_17.2.2.entries.length c_21]⟩]) (B' := [Ow 45 kT_api_Entry A_18 c_19 r_17.1, Ow 42 kT_api_Entry A_20 c_21 r_17.2.2.entries, Rd 0 kT_api_Entry none 0 ([] : List T_api_Entry), Ow 44 kT_api_Entry A_13 c_14 r_12.1, Rd 0 kT_api_Entry A_10 c_11 [(⟨3, 3, 0, []⟩ : T_api_Entry)], Rd 0 kT_api_Entry A_1 c_2 [(⟨1, 1, 0, []⟩ : T_api_Entry), (⟨1, 2, 0, []⟩ : T_api_Entry), (⟨2, 3, 0, []⟩ : T_api_Entry)]]) (ks := [2, 3, 4, 6, 31, 32]) (by kernel_rfl) (by kernel_rfl) (by kernel_rfl) ?_
    refine GoO.exec (is := [2, 3, 4, 5, 6]) (hs := [.p, .p, .p, .p, .p]) (rest := []) (ks := [2, 3, 4, 6, 7, 8]) (env' := [(2, .int .i64 ((some o_7, r_3_q1) : Option T_rlog_Log × Int).2), (3, .slice A_13 r_12.1.length c_14), (4, .bool r_12.2.1), (6, .bool r_17.2.1), (7, .int .u64 r_22.1), (8, .int .u64 r_22.2)]) (H' := [⟨41, c_4, [.int .u64 r_17.2.2.snap.Index, .int .u64 r_17.2.2.snap.Term, .int .u64 r_17.2.2.snap.Config, .string (bs r_17.2.2.snap.Data), .slice A_20 r_17.2.2.entries.length c_21]⟩]) (ps := []) (by kernel_rfl) trivial ?_
    refine GoO.regionEnd ?_
    refine GoO.seq' c14_10e ?_
    refine GoO.region' (is := [0, 1, 2, 3, 4, 5, 6, 7, 8, 9, 10, 11, 12, 13, 14, 15, 16, 17, 18, 19, 20, 21, 22]) c14_11e (by kernel_rfl) ?_
    refine GoO.exec (is := [0, 1, 2]) (hs := [.p, .p, .p]) (rest := [3, 4, 5, 6, 7, 8, 9, 10, 11, 12, 13, 14, 15, 16, 17, 18, 19, 20, 21, 22]) (ks := [3, 4, 6, 7, 8, 37]) (env' := [(3, .slice A_13 r_12.1.length c_14), (4, .bool r_12.2.1), (6, .bool r_17.2.1), (7, .int .u64 r_22.1), (8, .int .u64 r_22.2), (37, .bool (((some o_7, r_3_q1) : Option T_rlog_Log × Int).2 == 0))]) (H' := [⟨41, c_4, [.int .u64 r_17.2.2.snap.Index, .int .u64 r_17.2.2.snap.Term, .int .u64 r_17.2.2.snap.Config, .string (bs r_17.2.2.snap.Data), .slice A_20 r_17.2.2.entries.length c_21]⟩]) (ps := []) (by kernel_rfl) trivial ?_
    refine GoO.bsplit (t := 37) (by kernel_rfl) (fun h23 => ?_) (fun h23 => ?_)
    · refine GoO.exec (is := [3, 4, 5]) (hs := [.p, .p, .p]) (rest := [6, 7, 8, 9, 10, 11, 12, 13, 14, 15, 16, 17, 18, 19, 20, 21, 22]) (ks := [3, 6, 7, 8, 40]) (env' := [(3, .slice A_13 r_12.1.length c_14), (6, .bool r_17.2.1), (7, .int .u64 r_22.1), (8, .int .u64 r_22.2), (40, .bool r_12.2.1)]) (H' := [⟨41, c_4, [.int .u64 r_17.2.2.snap.Index, .int .u64 r_17.2.2.snap.Term, .int .u64 r_17.2.2.snap.Config, .string (bs r_17.2.2.snap.Data), .slice A_20 r_17.2.2.entries.length c_21]⟩]) (ps := []) (by kernel_rfl) trivial ?_
      refine GoO.bsplit (t := 40) (by kernel_rfl) (fun h24 => ?_) (fun h24 => ?_)
      · refine GoO.exec (is := [6, 7, 8, 9]) (hs := [.p, .p, .p, .p]) (rest := [10, 11, 12, 13, 14, 15, 16, 17, 18, 19, 20, 21, 22]) (ks := [3, 7, 8, 44]) (env' := [(3, .slice A_13 r_12.1.length c_14), (7, .int .u64 r_22.1), (8, .int .u64 r_22.2), (44, .bool (!r_17.2.1))]) (H' := [⟨41, c_4, [.int .u64 r_17.2.2.snap.Index, .int .u64 r_17.2.2.snap.Term, .int .u64 r_17.2.2.snap.Config, .string (bs r_17.2.2.snap.Data), .slice A_20 r_17.2.2.entries.length c_21]⟩]) (ps := []) (by kernel_rfl) trivial ?_
        refine GoO.bsplit (t := 44) (by kernel_rfl) (fun h25 => ?_) (fun h25 => ?_)
        · refine GoO.exec (is := [10, 11, 12, 13, 14]) (hs := [.p, .p, .p, .p, .p]) (rest := [15, 16, 17, 18, 19, 20, 21, 22]) (ks := [7, 8, 49]) (env' := [(7, .int .u64 r_22.1), (8, .int .u64 r_22.2), (49, .bool ((r_12.1.length : Int) == 1))]) (H' := [⟨41, c_4, [.int .u64 r_17.2.2.snap.Index, .int .u64 r_17.2.2.snap.Term, .int .u64 r_17.2.2.snap.Config, .string (bs r_17.2.2.snap.Data), .slice A_20 r_17.2.2.entries.length c_21]⟩]) (ps := []) (by kernel_rfl) trivial ?_
          refine GoO.bsplit (t := 49) (by kernel_rfl) (fun h26 => ?_) (fun h26 => ?_)
          · refine GoO.exec (is := [15, 16, 17, 18]) (hs := [.p, .p, .p, .p]) (rest := [19, 20, 21, 22]) (ks := [8, 53]) (env' := [(8, .int .u64 r_22.2), (53, .bool (r_22.1 == 3))]) (H' := [⟨41, c_4, [.int .u64 r_17.2.2.snap.Index, .int .u64 r_17.2.2.snap.Term, .int .u64 r_17.2.2.snap.Config, .string (bs r_17.2.2.snap.Data), .slice A_20 r_17.2.2.entries.length c_21]⟩]) (ps := []) (by kernel_rfl) trivial ?_
            refine GoO.bsplit (t := 53) (by kernel_rfl) (fun h27 => ?_) (fun h27 => ?_)
            · refine GoO.exec (is := [19, 20, 21, 22]) (hs := [.p, .p, .p, .p]) (rest := []) (ks := [0]) (env' := [(0, .bool (r_22.2 == 3))]) (H' := [⟨41, c_4, [.int .u64 r_17.2.2.snap.Index, .int .u64 r_17.2.2.snap.Term, .int .u64 r_17.2.2.snap.Config, .string (bs r_17.2.2.snap.Data), .slice A_20 r_17.2.2.entries.length c_21]⟩]) (ps := []) (by kernel_rfl) trivial ?_
              refine GoO.regionEnd ?_
              exact GoO.ret' (h := c14_12e) (hs := []) (ps := []) (hk := []) (bk := []) Try.func14 () (by kernel_rfl) trivial (by kernel_rfl) (by kernel_rfl)
            · refine GoO.exec (is := [19, 20, 21, 22]) (hs := [.p, .p, .p, .p]) (rest := []) (ks := [0]) (env' := [(0, .bool false)]) (H' := [⟨41, c_4, [.int .u64 r_17.2.2.snap.Index, .int .u64 r_17.2.2.snap.Term, .int .u64 r_17.2.2.snap.Config, .string (bs r_17.2.2.snap.Data), .slice A_20 r_17.2.2.entries.length c_21]⟩]) (ps := []) (by kernel_rfl) trivial ?_
              refine GoO.regionEnd ?_
              exact GoO.ret' (h := c14_12e) (hs := []) (ps := []) (hk := []) (bk := []) Try.func14 () (by kernel_rfl) trivial (by kernel_rfl) (by kernel_rfl)
          · refine GoO.exec (is := [15, 16, 17, 18, 19, 20, 21, 22]) (hs := [.p, .p, .p, .p, .p, .p, .p, .p]) (rest := []) (ks := [0]) (env' := [(0, .bool false)]) (H' := [⟨41, c_4, [.int .u64 r_17.2.2.snap.Index, .int .u64 r_17.2.2.snap.Term, .int .u64 r_17.2.2.snap.Config, .string (bs r_17.2.2.snap.Data), .slice A_20 r_17.2.2.entries.length c_21]⟩]) (ps := []) (by kernel_rfl) trivial ?_
            refine GoO.regionEnd ?_
            exact GoO.ret' (h := c14_12e) (hs := []) (ps := []) (hk := []) (bk := []) Try.func14 () (by kernel_rfl) trivial (by kernel_rfl) (by kernel_rfl)
        · refine GoO.exec (is := [10, 11, 12, 13, 14, 15, 16, 17, 18, 19, 20, 21, 22]) (hs := [.p, .p, .p, .p, .p, .p, .p, .p, .p, .p, .p, .p, .p]) (rest := []) (ks := [0]) (env' := [(0, .bool false)]) (H' := [⟨41, c_4, [.int .u64 r_17.2.2.snap.Index, .int .u64 r_17.2.2.snap.Term, .int .u64 r_17.2.2.snap.Config, .string (bs r_17.2.2.snap.Data), .slice A_20 r_17.2.2.entries.length c_21]⟩]) (ps := []) (by kernel_rfl) trivial ?_
          refine GoO.regionEnd ?_
          exact GoO.ret' (h := c14_12e) (hs := []) (ps := []) (hk := []) (bk := []) Try.func14 () (by kernel_rfl) trivial (by kernel_rfl) (by kernel_rfl)
      · refine GoO.exec (is := [6, 7, 8, 9, 10, 11, 12, 13, 14, 15, 16, 17, 18, 19, 20, 21, 22]) (hs := [.p, .p, .p, .p, .p, .p, .p, .p, .p, .p, .p, .p, .p, .p, .p, .p, .p]) (rest := []) (ks := [0]) (env' := [(0, .bool false)]) (H' := [⟨41, c_4, [.int .u64 r_17.2.2.snap.Index, .int .u64 r_17.2.2.snap.Term, .int .u64 r_17.2.2.snap.Config, .string (bs r_17.2.2.snap.Data), .slice A_20 r_17.2.2.entries.length c_21]⟩]) (ps := []) (by kernel_rfl) trivial ?_
        refine GoO.regionEnd ?_
        exact GoO.ret' (h := c14_12e) (hs := []) (ps := []) (hk := []) (bk := []) Try.func14 () (by kernel_rfl) trivial (by kernel_rfl) (by kernel_rfl)
    · refine GoO.exec (is := [3, 4, 5, 6, 7, 8, 9, 10, 11, 12, 13, 14, 15, 16, 17, 18, 19, 20, 21, 22]) (hs := [.p, .p, .p, .p, .p, .p, .p, .p, .p, .p, .p, .p, .p, .p, .p, .p, .p, .p, .p, .p]) (rest := []) (ks := [0]) (env' := [(0, .bool false)]) (H' := [⟨41, c_4, [.int .u64 r_17.2.2.snap.Index, .int .u64 r_17.2.2.snap.Term, .int .u64 r_17.2.2.snap.Config, .string (bs r_17.2.2.snap.Data), .slice A_20 r_17.2.2.entries.length c_21]⟩]) (ps := []) (by kernel_rfl) trivial ?_
      refine GoO.regionEnd ?_
      exact GoO.ret' (h := c14_12e) (hs := []) (ps := []) (hk := []) (bk := []) Try.func14 () (by kernel_rfl) trivial (by kernel_rfl) (by kernel_rfl)

/-! (*tontine/rlog.Log).Add -/
noncomputable def c21_0 : Code := bodyOf Try.f21
noncomputable def c21_1 : Code := cdL c21_0
noncomputable def c21_2 : Code := cdR c21_0
noncomputable def c21_3 : Code := cdL c21_2
noncomputable def c21_4 : Code := cdR c21_2
noncomputable def c21_5 : Code := cdL c21_4
noncomputable def c21_6 : Code := cdR c21_4
noncomputable def c21_7 : Code := cdL c21_6
noncomputable def c21_8 : Code := cdL c21_7
noncomputable def c21_9 : Code := cdR c21_7
noncomputable def c21_10 : Code := cdL c21_9
noncomputable def c21_11 : Code := cdL c21_10
noncomputable def c21_12 : Code := cdR c21_10
noncomputable def c21_13 : Code := cdR c21_9
noncomputable def c21_14 : Code := cdR c21_6
noncomputable def c21_15 : Code := cdL c21_14
noncomputable def c21_16 : Code := cdR c21_14
noncomputable def c21_17 : Code := cdL c21_16
noncomputable def c21_18 : Code := cdR c21_16
noncomputable def r21_1 : Array Oper := cdO c21_1
noncomputable def r21_3 : Array Oper := cdO c21_3
noncomputable def r21_5 : Array Oper := cdO c21_5
noncomputable def r21_8 : Array Oper := cdO c21_8
noncomputable def r21_11 : Array Oper := cdO c21_11
noncomputable def r21_15 : Array Oper := cdO c21_15
noncomputable def r21_17 : Array Oper := cdO c21_17
theorem c21_0e : c21_0 = .seq c21_1 c21_2 := by kernel_rfl
theorem c21_1e : c21_1 = .region 0 r21_1 false := by kernel_rfl
theorem c21_2e : c21_2 = .seq c21_3 c21_4 := by kernel_rfl
theorem c21_3e : c21_3 = .region 1 r21_3 false := by kernel_rfl
theorem c21_4e : c21_4 = .seq c21_5 c21_6 := by kernel_rfl
theorem c21_5e : c21_5 = .region 2 r21_5 false := by kernel_rfl
theorem c21_6e : c21_6 = .seq c21_7 c21_14 := by kernel_rfl
theorem c21_7e : c21_7 = .seq c21_8 c21_9 := by kernel_rfl
theorem c21_8e : c21_8 = .region 3 r21_8 false := by kernel_rfl
theorem c21_9e : c21_9 = .cond (cdC c21_9) c21_10 c21_13 := by kernel_rfl
theorem c21_10e : c21_10 = .seq c21_11 c21_12 := by kernel_rfl
theorem c21_11e : c21_11 = .region 4 r21_11 false := by kernel_rfl
theorem c21_12e : c21_12 = .ret := by kernel_rfl
theorem c21_13e : c21_13 = .skip := by kernel_rfl
theorem c21_14e : c21_14 = .seq c21_15 c21_16 := by kernel_rfl
theorem c21_15e : c21_15 = .region 5 r21_15 true := by kernel_rfl
theorem c21_16e : c21_16 = .seq c21_17 c21_18 := by kernel_rfl
theorem c21_17e : c21_17 = .region 6 r21_17 false := by kernel_rfl
theorem c21_18e : c21_18 = .ret := by kernel_rfl
noncomputable def rlog_Log_Add.R (b_2 : Nat) (A_3 : Option Addr) (c_4 : Nat) : Pst (T_api_Entry × Int × T_rlog_Log) where
  ε := Option Addr × Nat
  v := fun r x => .tuple ⟨[.agg ⟨[.int .u64 r.1.Term, .int .u64 r.1.Index, .int .i64 r.1.Kind, .string (bs r.1.Data)]⟩, .int .i64 r.2.1]⟩
  H := fun r x => [⟨1, b_2, [.int .u64 r.2.2.snap.Index, .int .u64 r.2.2.snap.Term, .int .u64 r.2.2.snap.Config, .string (bs r.2.2.snap.Data), .slice x.1 r.2.2.entries.length x.2]⟩]
  B := fun r x => [Ow 2 kT_api_Entry x.1 x.2 r.2.2.entries]
noncomputable def rlog_Log_Add.cx (b_2 : Nat) (A_3 : Option Addr) (c_4 : Nat) (w0 : World) (S0 : Fam) : Cx (T_api_Entry × Int × T_rlog_Log) := ⟨Try.prog, 21, Try.f21, 46, w0, S0, [1, 2], 2, rlog_Log_Add.R b_2 A_3 c_4⟩
theorem rlog_Log_Add_ok (n : Nat) (g_1 : T_rlog_Log) (term_5 : Int) (kind_6 : Int) (data_7 : (List UInt8)) (b_2 : Nat) (A_3 : Option Addr) (c_4 : Nat) :
    Meets Try.prog 21 [.pointer (some ⟨b_2, 0, none⟩), .int .u64 term_5, .int .i64 kind_6, .string (bs data_7)] 2 [1, 2] [⟨1, b_2, [.int .u64 g_1.snap.Index, .int .u64 g_1.snap.Term, .int .u64 g_1.snap.Config, .string (bs g_1.snap.Data), .slice A_3 g_1.entries.length c_4]⟩] [Ow 2 kT_api_Entry A_3 c_4 g_1.entries] (rlog_Log_Add.f n g_1 term_5 kind_6 data_7) (rlog_Log_Add.R b_2 A_3 c_4) := by
  refine Meets.of (c := c21_0) (n := 46) Try.func21 (by kernel_rfl) (by kernel_rfl) (by kernel_rfl) fun w0 S0 => ?_
  unfold rlog_Log_Add.f
  show GoO (rlog_Log_Add.cx b_2 A_3 c_4 w0 S0) [(0, .pointer (some ⟨b_2, 0, none⟩)), (1, .int .u64 term_5), (2, .int .i64 kind_6), (3, .string (bs data_7))] [⟨1, b_2, [.int .u64 g_1.snap.Index, .int .u64 g_1.snap.Term, .int .u64 g_1.snap.Config, .string (bs g_1.snap.Data), .slice A_3 g_1.entries.length c_4]⟩] [Ow 2 kT_api_Entry A_3 c_4 g_1.entries] [.code c21_0] _
  refine GoO.seq' c21_0e ?_
  refine GoO.region' (is := [0, 1]) c21_1e (by kernel_rfl) ?_
  refine OpTo.go (GoO.new rfl 40 (cs := [.int .u64 0, .int .u64 0, .int .i64 0, .string (bs [])]) (by kernel_rfl) _ (fun _ => rfl) (fun b_8 => ?_))
  refine GoO.exec (is := [1]) (hs := [.p]) (rest := []) (ks := [0, 1, 2, 3, 8]) (env' := [(0, .pointer (some ⟨b_2, 0, none⟩)), (1, .int .u64 term_5), (2, .int .i64 kind_6), (3, .string (bs data_7)), (8, .pointer (some ⟨b_8, 0, none⟩))]) (H' := [⟨40, b_8, [.int .u64 0, .int .u64 0, .int .i64 0, .string (bs [])]⟩, ⟨1, b_2, [.int .u64 g_1.snap.Index, .int .u64 g_1.snap.Term, .int .u64 g_1.snap.Config, .string (bs g_1.snap.Data), .slice A_3 g_1.entries.length c_4]⟩]) (ps := []) (by kernel_rfl) trivial ?_
  refine GoO.regionEnd ?_
  refine GoO.seq' c21_2e ?_
  refine GoO.region' (is := [0, 1, 2, 3, 4, 5, 6]) c21_3e (by kernel_rfl) ?_
  refine GoO.exec (is := [0]) (hs := [.p]) (rest := [1, 2, 3, 4, 5, 6]) (ks := [0, 1, 2, 3, 8, 14]) (env' := [(0, .pointer (some ⟨b_2, 0, none⟩)), (1, .int .u64 term_5), (2, .int .i64 kind_6), (3, .string (bs data_7)), (8, .pointer (some ⟨b_8, 0, none⟩)), (14, .pointer (some ⟨b_2, 0, none⟩))]) (H' := [⟨40, b_8, [.int .u64 0, .int .u64 0, .int .i64 0, .string (bs [])]⟩, ⟨1, b_2, [.int .u64 g_1.snap.Index, .int .u64 g_1.snap.Term, .int .u64 g_1.snap.Config, .string (bs g_1.snap.Data), .slice A_3 g_1.entries.length c_4]⟩]) (ps := []) (by kernel_rfl) trivial ?_
  refine OpTo.go (GoO.call rfl (by kernel_rfl) (by kernel_rfl) (rlog_Log_Last_ok n (⟨(⟨g_1.snap.Index, g_1.snap.Term, g_1.snap.Config, g_1.snap.Data⟩ : T_api_Snapshot), g_1.entries⟩ : T_rlog_Log) b_2 A_3 c_4) [[0], [1], [2]] [] [(1, 1)] [(2, 0)] (hks := [0, 1]) (bks := [0]) (by kernel_rfl) (by kernel_rfl) (by kernel_rfl) (.inl rfl) rfl rfl (by kernel_rfl) (by kernel_rfl) _ (fun _ _ => rfl) _ _ (fun _ _ => rfl) (fun _ _ => rfl) (fun _ _ => by kernel_rfl) (fun _ _ => by kernel_rfl) (fun r_9 x_19 => ?_))
  refine GoO.shape (env' := [(0, .pointer (some ⟨b_2, 0, none⟩)), (1, .int .u64 term_5), (2, .int .i64 kind_6), (3, .string (bs data_7)), (8, .pointer (some ⟨b_8, 0, none⟩)), (14, .pointer (some ⟨b_2, 0, none⟩)), (15, .tuple ⟨[.int .u64 r_9.1, .int .u64 r_9.2]⟩)]) (H' := [⟨40, b_8, [.int .u64 0, .int .u64 0, .int .i64 0, .string (bs [])]⟩, ⟨1, b_2, [.int .u64 g_1.snap.Index, .int .u64 g_1.snap.Term, .int .u64 g_1.snap.Config, .string (bs g_1.snap.Data), .slice A_3 g_1.entries.length c_4]⟩]) (B' := [Ow 2 kT_api_Entry A_3 c_4 g_1.entries]) (ks := [0, 1, 2, 3, 8, 14, 15]) (by kernel_rfl) (by kernel_rfl) (by kernel_rfl) ?_
  refine GoO.exec (is := [2, 3, 4, 5, 6]) (hs := [.p, .p, .p, .p, .p]) (rest := []) (ks := [0, 1, 2, 3, 8, 10, 11]) (env' := [(0, .pointer (some ⟨b_2, 0, none⟩)), (1, .int .u64 term_5), (2, .int .i64 kind_6), (3, .string (bs data_7)), (8, .pointer (some ⟨b_8, 0, none⟩)), (10, .int .u64 r_9.1), (11, .int .u64 r_9.2)]) (H' := [⟨40, b_8, [.int .u64 0, .int .u64 0, .int .i64 0, .string (bs [])]⟩, ⟨1, b_2, [.int .u64 g_1.snap.Index, .int .u64 g_1.snap.Term, .int .u64 g_1.snap.Config, .string (bs g_1.snap.Data), .slice A_3 g_1.entries.length c_4]⟩]) (ps := []) (by kernel_rfl) trivial ?_
  refine GoO.regionEnd ?_
  refine GoO.seq' c21_4e ?_
  refine GoO.region' (is := [0, 1, 2, 3, 4, 5, 6, 7]) c21_5e (by kernel_rfl) ?_
  refine GoO.exec (is := [0, 1, 2, 3, 4, 5]) (hs := [.p, .p, .p, .p, .p, .p]) (rest := [6, 7]) (ks := [0, 8, 10, 11, 23]) (env' := [(0, .pointer (some ⟨b_2, 0, none⟩)), (8, .pointer (some ⟨b_8, 0, none⟩)), (10, .int .u64 r_9.1), (11, .int .u64 r_9.2), (23, .agg ⟨[.int .u64 term_5, .int .u64 (wu64 (r_9.1 + 1)), .int .i64 kind_6, .string (bs data_7)]⟩)]) (H' := [⟨40, b_8, [.int .u64 0, .int .u64 0, .int .i64 0, .string (bs [])]⟩, ⟨1, b_2, [.int .u64 g_1.snap.Index, .int .u64 g_1.snap.Term, .int .u64 g_1.snap.Config, .string (bs g_1.snap.Data), .slice A_3 g_1.entries.length c_4]⟩]) (ps := []) (by kernel_rfl) trivial ?_
  refine OpTo.go (GoO.new rfl 41 (cs := [.int .u64 0, .int .u64 0, .int .i64 0, .string (bs [])]) (by kernel_rfl) _ (fun _ => rfl) (fun b_10 => ?_))
  refine GoO.exec (is := [7]) (hs := [.b 0]) (rest := []) (ks := [0, 8, 10, 11, 12]) (env' := [(0, .pointer (some ⟨b_2, 0, none⟩)), (8, .pointer (some ⟨b_8, 0, none⟩)), (10, .int .u64 r_9.1), (11, .int .u64 r_9.2), (12, .pointer (some ⟨b_10, 0, none⟩))]) (H' := [⟨41, b_10, [.int .u64 term_5, .int .u64 (wu64 (r_9.1 + 1)), .int .i64 kind_6, .string (bs data_7)]⟩, ⟨40, b_8, [.int .u64 0, .int .u64 0, .int .i64 0, .string (bs [])]⟩, ⟨1, b_2, [.int .u64 g_1.snap.Index, .int .u64 g_1.snap.Term, .int .u64 g_1.snap.Config, .string (bs g_1.snap.Data), .slice A_3 g_1.entries.length c_4]⟩]) (ps := [b_10 = b_10]) (by kernel_rfl) (And.intro rfl trivial) ?_
  refine GoO.regionEnd ?_
  refine GoO.seq' c21_6e ?_
  refine GoO.seq' c21_7e ?_
  refine GoO.region' (is := [0, 1, 2, 3, 4, 5, 6, 7, 8, 9]) c21_8e (by kernel_rfl) ?_
  refine GoO.exec (is := [0, 1, 2, 3, 4, 5, 6]) (hs := [.p, .p, .p, .b 0, .p, .p, .p]) (rest := [7, 8, 9]) (ks := [0, 8, 12, 26, 27, 29, 30]) (env' := [(0, .pointer (some ⟨b_2, 0, none⟩)), (8, .pointer (some ⟨b_8, 0, none⟩)), (12, .pointer (some ⟨b_10, 0, none⟩)), (26, .bool false), (27, .agg ⟨[.int .u64 term_5, .int .u64 (wu64 (r_9.1 + 1)), .int .i64 kind_6, .string (bs data_7)]⟩), (29, .int .u64 (wu64 (r_9.1 + 1))), (30, .int .u64 r_9.2)]) (H' := [⟨41, b_10, [.int .u64 term_5, .int .u64 (wu64 (r_9.1 + 1)), .int .i64 kind_6, .string (bs data_7)]⟩, ⟨40, b_8, [.int .u64 0, .int .u64 0, .int .i64 0, .string (bs [])]⟩, ⟨1, b_2, [.int .u64 g_1.snap.Index, .int .u64 g_1.snap.Term, .int .u64 g_1.snap.Config, .string (bs g_1.snap.Data), .slice A_3 g_1.entries.length c_4]⟩]) (ps := [b_10 = b_10]) (by kernel_rfl) (And.intro rfl trivial) ?_
  refine OpTo.go (GoO.call rfl (by kernel_rfl) (by kernel_rfl) (rlog_sound_ok n (⟨term_5, wu64 (r_9.1 + 1), kind_6, data_7⟩ : T_api_Entry) (wu64 (r_9.1 + 1)) r_9.2) [[0]] [] [] [] (hks := [0, 1, 2]) (bks := [0]) (by kernel_rfl) (by kernel_rfl) (by kernel_rfl) (.inl rfl) rfl rfl (by kernel_rfl) (by kernel_rfl) _ (fun _ _ => rfl) _ _ (fun _ _ => rfl) (fun _ _ => rfl) (fun _ _ => by kernel_rfl) (fun _ _ => by kernel_rfl) (fun r_11 x_18 => ?_))
  refine GoO.shape (env' := [(0, .pointer (some ⟨b_2, 0, none⟩)), (8, .pointer (some ⟨b_8, 0, none⟩)), (12, .pointer (some ⟨b_10, 0, none⟩)), (26, .bool false), (27, .agg ⟨[.int .u64 term_5, .int .u64 (wu64 (r_9.1 + 1)), .int .i64 kind_6, .string (bs data_7)]⟩), (29, .int .u64 (wu64 (r_9.1 + 1))), (30, .int .u64 r_9.2), (31, .bool r_11)]) (H' := [⟨41, b_10, [.int .u64 term_5, .int .u64 (wu64 (r_9.1 + 1)), .int .i64 kind_6, .string (bs data_7)]⟩, ⟨40, b_8, [.int .u64 0, .int .u64 0, .int .i64 0, .string (bs [])]⟩, ⟨1, b_2, [.int .u64 g_1.snap.Index, .int .u64 g_1.snap.Term, .int .u64 g_1.snap.Config, .string (bs g_1.snap.Data), .slice A_3 g_1.entries.length c_4]⟩]) (B' := [Ow 2 kT_api_Entry A_3 c_4 g_1.entries]) (ks := [0, 8, 12, 26, 27, 29, 30, 31]) (by kernel_rfl) (by kernel_rfl) (by kernel_rfl) ?_
  refine GoO.exec (is := [8, 9]) (hs := [.p, .p]) (rest := []) (ks := [0, 8, 12, 33]) (env' := [(0, .pointer (some ⟨b_2, 0, none⟩)), (8, .pointer (some ⟨b_8, 0, none⟩)), (12, .pointer (some ⟨b_10, 0, none⟩)), (33, .bool (!r_11))]) (H' := [⟨41, b_10, [.int .u64 term_5, .int .u64 (wu64 (r_9.1 + 1)), .int .i64 kind_6, .string (bs data_7)]⟩, ⟨40, b_8, [.int .u64 0, .int .u64 0, .int .i64 0, .string (bs [])]⟩, ⟨1, b_2, [.int .u64 g_1.snap.Index, .int .u64 g_1.snap.Term, .int .u64 g_1.snap.Config, .string (bs g_1.snap.Data), .slice A_3 g_1.entries.length c_4]⟩]) (ps := []) (by kernel_rfl) trivial ?_
  refine GoO.regionEnd ?_
  refine GoO.ite' c21_9e (by kernel_rfl) (fun h12 => ?_) (fun h12 => ?_)
  · refine GoO.seq' c21_10e ?_
    refine GoO.region' (is := [0, 1, 2]) c21_11e (by kernel_rfl) ?_
    refine GoO.exec (is := [0, 1, 2]) (hs := [.p, .b 1, .p]) (rest := []) (ks := [8, 9]) (env' := [(8, .pointer (some ⟨b_8, 0, none⟩)), (9, .int .i64 1)]) (H' := [⟨41, b_10, [.int .u64 term_5, .int .u64 (wu64 (r_9.1 + 1)), .int .i64 kind_6, .string (bs data_7)]⟩, ⟨40, b_8, [.int .u64 0, .int .u64 0, .int .i64 0, .string (bs [])]⟩, ⟨1, b_2, [.int .u64 g_1.snap.Index, .int .u64 g_1.snap.Term, .int .u64 g_1.snap.Config, .string (bs g_1.snap.Data), .slice A_3 g_1.entries.length c_4]⟩]) (ps := [b_8 = b_8]) (by kernel_rfl) (And.intro rfl trivial) ?_
    refine GoO.regionEnd ?_
    exact GoO.ret' (h := c21_12e) (hs := [1]) (ps := [b_8 = b_8]) (hk := [2]) (bk := [0]) Try.func21 (⟨A_3, c_4⟩ : Option Addr × Nat) (by kernel_rfl) (And.intro rfl trivial) (by kernel_rfl) (by kernel_rfl)
  · refine GoO.skip' c21_13e ?_
    refine GoO.seq' c21_14e ?_
    refine GoO.draw c21_15e (by kernel_rfl) [8, 9, 10] [⟨41, b_10, [.int .u64 term_5, .int .u64 (wu64 (r_9.1 + 1)), .int .i64 kind_6, .string (bs data_7)]⟩, ⟨1, b_2, [.int .u64 g_1.snap.Index, .int .u64 g_1.snap.Term, .int .u64 g_1.snap.Config, .string (bs g_1.snap.Data), .slice A_3 g_1.entries.length c_4]⟩] [] (n := 11) (by kernel_rfl) ?_
    simp only [List.replicate]
    refine GoF.take [0, 1, 2, 3, 4, 5] [.p, .p, .p, .p, .b 1, .b 0] (ks := [8, 12, 35, 39, 40]) (fu := 5) (li := [true, true, true, true, true, true, false, false, false, false, false]) (env' := [(8, .pointer (some ⟨b_8, 0, none⟩)), (12, .pointer (some ⟨b_10, 0, none⟩)), (35, .pointer (some ⟨b_2, 0, none⟩)), (39, .slice A_3 g_1.entries.length c_4), (40, .agg ⟨[.int .u64 term_5, .int .u64 (wu64 (r_9.1 + 1)), .int .i64 kind_6, .string (bs data_7)]⟩)]) (ps := [b_2 = b_2, b_10 = b_10]) (hk := [0, 2]) (bk := []) (by kernel_rfl) (And.intro rfl (And.intro rfl trivial)) rfl rfl ?_
    refine OpTo.goF (i := 6) (by kernel_rfl) (hk := [0, 2]) (bk := []) (GoO.lit (e := 40) (K := kT_api_Entry) rfl (by kernel_rfl) (by kernel_rfl) (cs := [.int .u64 term_5, .int .u64 (wu64 (r_9.1 + 1)), .int .i64 kind_6, .string (bs data_7)]) (by kernel_rfl) [(⟨term_5, wu64 (r_9.1 + 1), kind_6, data_7⟩ : T_api_Entry)] (by kernel_rfl) (by kernel_rfl) (fun w S hB => ⟨[.int .u64 term_5, .int .u64 (wu64 (r_9.1 + 1)), .int .i64 kind_6, .string (bs data_7)], _, rfl, rfl, rfl⟩) 42 _ (fun _ _ => rfl) (fun A_13 c_14 => ⟨rfl, rfl, ?_⟩))
    refine GoF.guard (fun h15 => ?_)
    refine OpTo.goF (i := 7) (by kernel_rfl) (hk := [0, 2]) (bk := []) (GoO.appW (e := 40) (K := kT_api_Entry) (A := A_3) (c := c_4) (tg := 2) (bytes := 40) (zs := [.int .u64 0, .int .u64 0, .int .i64 0, .string (bs [])]) (xs := g_1.entries) (ys := [(⟨term_5, wu64 (r_9.1 + 1), kind_6, data_7⟩ : T_api_Entry)]) (xv := .slice A_13 [(⟨term_5, wu64 (r_9.1 + 1), kind_6, data_7⟩ : T_api_Entry)].length c_14) (j := 1) (bk := [0]) rfl (by kernel_rfl) (by kernel_rfl) (by kernel_rfl) (by kernel_rfl) rfl (by kernel_rfl) rfl (fun w S hB => SrcIs.row (Reads.own w S (hB _ (List.mem_of_getElem? (i := 0) rfl)))) h15 rfl rfl rfl rfl _ (fun _ _ => rfl) (fun A_16 c_17 => ⟨rfl, rfl, ?_⟩))
    refine GoF.fin1 (i := 8) (hint := .p) (ps := []) (hk := []) (bk := []) (by kernel_rfl) rfl trivial (.inl rfl) ?_
    refine GoF.fin1 (i := 9) (hint := .p) (ps := []) (hk := []) (bk := []) (by kernel_rfl) rfl trivial (.inl rfl) ?_
    refine GoF.fin1 (i := 10) (hint := .b 2) (ps := [b_2 = b_2]) (hk := []) (bk := []) (by kernel_rfl) rfl (And.intro rfl trivial) (.inl rfl) ?_
    refine GoF.done (by kernel_rfl) ?_
    refine GoO.seq' c21_16e ?_
    refine GoO.region' (is := [0, 1, 2]) c21_17e (by kernel_rfl) ?_
    refine GoO.exec (is := [0, 1, 2]) (hs := [.b 0, .b 1, .p]) (rest := []) (ks := [8, 9]) (env' := [(8, .pointer (some ⟨b_8, 0, none⟩)), (9, .int .i64 0)]) (H' := [⟨41, b_10, [.int .u64 term_5, .int .u64 (wu64 (r_9.1 + 1)), .int .i64 kind_6, .string (bs data_7)]⟩, ⟨40, b_8, [.int .u64 term_5, .int .u64 (wu64 (r_9.1 + 1)), .int .i64 kind_6, .string (bs data_7)]⟩, ⟨1, b_2, [.int .u64 g_1.snap.Index, .int .u64 g_1.snap.Term, .int .u64 g_1.snap.Config, .string (bs g_1.snap.Data), .slice A_16 (g_1.entries ++ [(⟨term_5, wu64 (r_9.1 + 1), kind_6, data_7⟩ : T_api_Entry)]).length c_17]⟩]) (ps := [b_10 = b_10, b_8 = b_8]) (by kernel_rfl) (And.intro rfl (And.intro rfl trivial)) ?_
    refine GoO.regionEnd ?_
    exact GoO.ret' (h := c21_18e) (hs := [1]) (ps := [b_8 = b_8]) (hk := [2]) (bk := [0]) Try.func21 (⟨A_16, c_17⟩ : Option Addr × Nat) (by kernel_rfl) (And.intro rfl trivial) (by kernel_rfl) (by kernel_rfl)

/-! (*tontine/rlog.Log).Get -/
noncomputable def c17_0 : Code := bodyOf Try.f17
noncomputable def c17_1 : Code := cdL c17_0
noncomputable def c17_2 : Code := cdR c17_0
noncomputable def c17_3 : Code := cdL c17_2
noncomputable def c17_4 : Code := cdR c17_2
noncomputable def c17_5 : Code := cdL c17_4
noncomputable def c17_6 : Code := cdL c17_5
noncomputable def c17_7 : Code := cdR c17_5
noncomputable def c17_8 : Code := cdL c17_7
noncomputable def c17_9 : Code := cdL c17_8
noncomputable def c17_10 : Code := cdR c17_8
noncomputable def c17_11 : Code := cdR c17_7
noncomputable def c17_12 : Code := cdR c17_4
noncomputable def c17_13 : Code := cdL c17_12
noncomputable def c17_14 : Code := cdR c17_12
noncomputable def r17_1 : Array Oper := cdO c17_1
noncomputable def r17_3 : Array Oper := cdO c17_3
noncomputable def r17_6 : Array Oper := cdO c17_6
noncomputable def r17_9 : Array Oper := cdO c17_9
noncomputable def r17_13 : Array Oper := cdO c17_13
theorem c17_0e : c17_0 = .seq c17_1 c17_2 := by kernel_rfl
theorem c17_1e : c17_1 = .region 0 r17_1 false := by kernel_rfl
theorem c17_2e : c17_2 = .seq c17_3 c17_4 := by kernel_rfl
theorem c17_3e : c17_3 = .region 1 r17_3 false := by kernel_rfl
theorem c17_4e : c17_4 = .seq c17_5 c17_12 := by kernel_rfl
theorem c17_5e : c17_5 = .seq c17_6 c17_7 := by kernel_rfl
theorem c17_6e : c17_6 = .region 2 r17_6 false := by kernel_rfl
theorem c17_7e : c17_7 = .cond (cdC c17_7) c17_8 c17_11 := by kernel_rfl
theorem c17_8e : c17_8 = .seq c17_9 c17_10 := by kernel_rfl
theorem c17_9e : c17_9 = .region 3 r17_9 false := by kernel_rfl
theorem c17_10e : c17_10 = .ret := by kernel_rfl
theorem c17_11e : c17_11 = .skip := by kernel_rfl
theorem c17_12e : c17_12 = .seq c17_13 c17_14 := by kernel_rfl
theorem c17_13e : c17_13 = .region 4 r17_13 true := by kernel_rfl
theorem c17_14e : c17_14 = .ret := by kernel_rfl
noncomputable def rlog_Log_Get.R (b_2 : Nat) (A_3 : Option Addr) (c_4 : Nat) : Pst (List T_api_Entry) where
  ε := Option Addr × Nat
  v := fun r x => .slice x.1 r.length x.2
  H := fun r x => []
  B := fun r x => [Ow 3 kT_api_Entry x.1 x.2 r]
noncomputable def rlog_Log_Get.cx (b_2 : Nat) (A_3 : Option Addr) (c_4 : Nat) (w0 : World) (S0 : Fam) : Cx (List T_api_Entry) := ⟨Try.prog, 17, Try.f17, 39, w0, S0, [], 2, rlog_Log_Get.R b_2 A_3 c_4⟩
theorem rlog_Log_Get_j0_ok (n : Nat) (g_1 : T_rlog_Log) (n_6 : Int) (r_7 : Int) (b_2 : Nat) (A_3 : Option Addr) (c_4 : Nat) (w0 : World) (S0 : Fam) (b_9 : Bool) :
    GoO (rlog_Log_Get.cx b_2 A_3 c_4 w0 S0) [(0, .pointer (some ⟨b_2, 0, none⟩)), (2, .int .i64 n_6), (7, .int .i64 r_7), (16, .bool b_9)] [⟨1, b_2, [.int .u64 g_1.snap.Index, .int .u64 g_1.snap.Term, .int .u64 g_1.snap.Config, .string (bs g_1.snap.Data), .slice A_3 g_1.entries.length c_4]⟩] [Ow 2 kT_api_Entry A_3 c_4 g_1.entries] [.code c17_7, .code c17_12] (rlog_Log_Get.j0 n g_1 n_6 r_7 b_9) := by
  unfold rlog_Log_Get.j0
  refine GoO.ite' c17_7e (by kernel_rfl) (fun h10 => ?_) (fun h10 => ?_)
  · refine GoO.seq' c17_8e ?_
    refine GoO.region' (is := [0]) c17_9e (by kernel_rfl) ?_
    refine GoO.exec (is := [0]) (hs := [.p]) (rest := []) (ks := [6]) (env' := [(6, .slice none ([] : List T_api_Entry).length 0)]) (H' := [⟨1, b_2, [.int .u64 g_1.snap.Index, .int .u64 g_1.snap.Term, .int .u64 g_1.snap.Config, .string (bs g_1.snap.Data), .slice A_3 g_1.entries.length c_4]⟩]) (ps := []) (by kernel_rfl) trivial ?_
    refine GoO.regionEnd ?_
    refine GoO.nilOwn kT_api_Entry 3 ?_
    exact GoO.ret' (h := c17_10e) (hs := []) (ps := []) (hk := []) (bk := [0]) Try.func17 (⟨none, 0⟩ : Option Addr × Nat) (by kernel_rfl) trivial (by kernel_rfl) (by kernel_rfl)
  · refine GoO.skip' c17_11e ?_
    refine GoO.seq' c17_12e ?_
    refine GoO.draw c17_13e (by kernel_rfl) [22] [⟨1, b_2, [.int .u64 g_1.snap.Index, .int .u64 g_1.snap.Term, .int .u64 g_1.snap.Config, .string (bs g_1.snap.Data), .slice A_3 g_1.entries.length c_4]⟩] [] (n := 23) (by kernel_rfl) ?_
    simp only [List.replicate]
    refine GoF.take [0, 1, 2, 3, 4, 5, 6, 7, 8, 9, 10, 11, 12, 13, 14, 15, 16, 17, 18, 19] [.p, .p, .p, .b 0, .p, .p, .p, .p, .b 0, .p, .p, .p, .p, .p, .p, .b 0, .p, .p, .p, .p] (ks := [20, 21, 36]) (fu := 3) (li := [true, true, true, true, true, true, true, true, true, true, true, true, true, true, true, true, true, true, true, true, false, false, false]) (env' := [(20, .slice A_3 g_1.entries.length c_4), (21, .int .i64 r_7), (36, .int .i64 (if (wi64 (r_7 + (if (g_1.entries.length : Int) < n_6 then (g_1.entries.length : Int) else n_6))) < (g_1.entries.length : Int) then (wi64 (r_7 + (if (g_1.entries.length : Int) < n_6 then (g_1.entries.length : Int) else n_6))) else (g_1.entries.length : Int)))]) (ps := [b_2 = b_2, b_2 = b_2, b_2 = b_2]) (hk := [0]) (bk := []) (by kernel_rfl) (And.intro rfl (And.intro rfl (And.intro rfl trivial))) rfl rfl ?_
    refine GoF.guard (fun h13 => ?_)
    refine GoF.slc1 (i := 20) (hk := [0]) (bk := []) (e := 40) (K := kT_api_Entry) (A := A_3) (c := c_4) (xs := g_1.entries) (j := 0) (l := r_7) (h := (if (wi64 (r_7 + (if (g_1.entries.length : Int) < n_6 then (g_1.entries.length : Int) else n_6))) < (g_1.entries.length : Int) then (wi64 (r_7 + (if (g_1.entries.length : Int) < n_6 then (g_1.entries.length : Int) else n_6))) else (g_1.entries.length : Int))) (by kernel_rfl) rfl rfl rfl (by kernel_rfl) (by kernel_rfl) (by kernel_rfl) rfl Reads.own rfl (by kernel_rfl) (by kernel_rfl) h13.1 h13.2.1 h13.2.2 _ (fun _ _ => rfl) (fun A_11 c_12 => ?_)
    refine GoF.nilOwn kT_api_Entry 40 ?_
    refine GoF.guard (fun h14 => ?_)
    refine OpTo.goF (i := 21) (by kernel_rfl) (hk := [0]) (bk := []) (GoO.appW (e := 40) (K := kT_api_Entry) (A := none) (c := 0) (tg := 40) (bytes := 40) (zs := [.int .u64 0, .int .u64 0, .int .i64 0, .string (bs [])]) (xs := ([] : List T_api_Entry)) (ys := (g_1.entries.take (if (wi64 (r_7 + (if (g_1.entries.length : Int) < n_6 then (g_1.entries.length : Int) else n_6))) < (g_1.entries.length : Int) then (wi64 (r_7 + (if (g_1.entries.length : Int) < n_6 then (g_1.entries.length : Int) else n_6))) else (g_1.entries.length : Int)).toNat).drop r_7.toNat) (xv := .slice A_11 ((g_1.entries.take (if (wi64 (r_7 + (if (g_1.entries.length : Int) < n_6 then (g_1.entries.length : Int) else n_6))) < (g_1.entries.length : Int) then (wi64 (r_7 + (if (g_1.entries.length : Int) < n_6 then (g_1.entries.length : Int) else n_6))) else (g_1.entries.length : Int)).toNat).drop r_7.toNat).length c_12) (j := 0) (bk := [1, 2]) rfl (by kernel_rfl) (by kernel_rfl) (by kernel_rfl) (by kernel_rfl) rfl (by kernel_rfl) rfl (fun w S hB => SrcIs.row (Reads.rd w S (hB _ (List.mem_of_getElem? (i := 1) rfl)))) h14 rfl rfl rfl rfl _ (fun _ _ => rfl) (fun A_15 c_16 => ⟨rfl, rfl, ?_⟩))
    refine GoF.fin1 (i := 22) (hint := .p) (ps := []) (hk := []) (bk := []) (by kernel_rfl) rfl trivial (.inl rfl) ?_
    refine GoF.done (by kernel_rfl) ?_
    refine GoO.retag (t := 40) (u := 3) (j := 0) (hk := [0]) (bk := [1, 2]) rfl rfl rfl rfl rfl rfl (by kernel_rfl) (by kernel_rfl) ?_
    exact GoO.ret' (h := c17_14e) (hs := []) (ps := []) (hk := []) (bk := [0]) Try.func17 (⟨A_15, c_16⟩ : Option Addr × Nat) (by kernel_rfl) trivial (by kernel_rfl) (by kernel_rfl)
theorem rlog_Log_Get_ok (n : Nat) (g_1 : T_rlog_Log) (i_5 : Int) (n_6 : Int) (b_2 : Nat) (A_3 : Option Addr) (c_4 : Nat) :
    Meets Try.prog 17 [.pointer (some ⟨b_2, 0, none⟩), .int .u64 i_5, .int .i64 n_6] 2 [] [⟨1, b_2, [.int .u64 g_1.snap.Index, .int .u64 g_1.snap.Term, .int .u64 g_1.snap.Config, .string (bs g_1.snap.Data), .slice A_3 g_1.entries.length c_4]⟩] [Ow 2 kT_api_Entry A_3 c_4 g_1.entries] (rlog_Log_Get.f n g_1 i_5 n_6) (rlog_Log_Get.R b_2 A_3 c_4) := by
  refine Meets.of (c := c17_0) (n := 39) Try.func17 (by kernel_rfl) (by kernel_rfl) (by kernel_rfl) fun w0 S0 => ?_
  unfold rlog_Log_Get.f
  show GoO (rlog_Log_Get.cx b_2 A_3 c_4 w0 S0) [(0, .pointer (some ⟨b_2, 0, none⟩)), (1, .int .u64 i_5), (2, .int .i64 n_6)] [⟨1, b_2, [.int .u64 g_1.snap.Index, .int .u64 g_1.snap.Term, .int .u64 g_1.snap.Config, .string (bs g_1.snap.Data), .slice A_3 g_1.entries.length c_4]⟩] [Ow 2 kT_api_Entry A_3 c_4 g_1.entries] [.code c17_0] _
  refine GoO.seq' c17_0e ?_
  refine GoO.region' (is := [0]) c17_1e (by kernel_rfl) ?_
  refine GoO.exec (is := [0]) (hs := [.p]) (rest := []) (ks := [0, 1, 2]) (env' := [(0, .pointer (some ⟨b_2, 0, none⟩)), (1, .int .u64 i_5), (2, .int .i64 n_6)]) (H' := [⟨1, b_2, [.int .u64 g_1.snap.Index, .int .u64 g_1.snap.Term, .int .u64 g_1.snap.Config, .string (bs g_1.snap.Data), .slice A_3 g_1.entries.length c_4]⟩]) (ps := []) (by kernel_rfl) trivial ?_
  refine GoO.regionEnd ?_
  refine GoO.seq' c17_2e ?_
  refine GoO.region' (is := [0, 1, 2, 3]) c17_3e (by kernel_rfl) ?_
  refine GoO.exec (is := [0, 1]) (hs := [.p, .p]) (rest := [2, 3]) (ks := [0, 2, 8, 9]) (env' := [(0, .pointer (some ⟨b_2, 0, none⟩)), (2, .int .i64 n_6), (8, .pointer (some ⟨b_2, 0, none⟩)), (9, .int .u64 i_5)]) (H' := [⟨1, b_2, [.int .u64 g_1.snap.Index, .int .u64 g_1.snap.Term, .int .u64 g_1.snap.Config, .string (bs g_1.snap.Data), .slice A_3 g_1.entries.length c_4]⟩]) (ps := []) (by kernel_rfl) trivial ?_
  refine OpTo.go (GoO.call rfl (by kernel_rfl) (by kernel_rfl) (rlog_Log_at_ok n (⟨(⟨g_1.snap.Index, g_1.snap.Term, g_1.snap.Config, g_1.snap.Data⟩ : T_api_Snapshot), g_1.entries⟩ : T_rlog_Log) i_5 b_2 A_3 c_4) [[0], [1], [2]] [] [(1, 0)] [(2, 0)] (hks := [0]) (bks := [0]) (by kernel_rfl) (by kernel_rfl) (by kernel_rfl) (.inl rfl) rfl rfl (by kernel_rfl) (by kernel_rfl) _ (fun _ _ => rfl) _ _ (fun _ _ => rfl) (fun _ _ => rfl) (fun _ _ => by kernel_rfl) (fun _ _ => by kernel_rfl) (fun r_7 x_17 => ?_))
  refine GoO.shape (env' := [(0, .pointer (some ⟨b_2, 0, none⟩)), (2, .int .i64 n_6), (8, .pointer (some ⟨b_2, 0, none⟩)), (9, .int .u64 i_5), (10, .int .i64 r_7)]) (H' := [⟨1, b_2, [.int .u64 g_1.snap.Index, .int .u64 g_1.snap.Term, .int .u64 g_1.snap.Config, .string (bs g_1.snap.Data), .slice A_3 g_1.entries.length c_4]⟩]) (B' := [Ow 2 kT_api_Entry A_3 c_4 g_1.entries]) (ks := [0, 2, 8, 9, 10]) (by kernel_rfl) (by kernel_rfl) (by kernel_rfl) ?_
  refine GoO.exec (is := [3]) (hs := [.p]) (rest := []) (ks := [0, 2, 7]) (env' := [(0, .pointer (some ⟨b_2, 0, none⟩)), (2, .int .i64 n_6), (7, .int .i64 r_7)]) (H' := [⟨1, b_2, [.int .u64 g_1.snap.Index, .int .u64 g_1.snap.Term, .int .u64 g_1.snap.Config, .string (bs g_1.snap.Data), .slice A_3 g_1.entries.length c_4]⟩]) (ps := []) (by kernel_rfl) trivial ?_
  refine GoO.regionEnd ?_
  refine GoO.seq' c17_4e ?_
  refine GoO.seq' c17_5e ?_
  refine GoO.region' (is := [0, 1, 2, 3, 4, 5]) c17_6e (by kernel_rfl) ?_
  refine GoO.exec (is := [0, 1, 2]) (hs := [.p, .p, .p]) (rest := [3, 4, 5]) (ks := [0, 2, 7, 13]) (env' := [(0, .pointer (some ⟨b_2, 0, none⟩)), (2, .int .i64 n_6), (7, .int .i64 r_7), (13, .bool (decide (r_7 < 0)))]) (H' := [⟨1, b_2, [.int .u64 g_1.snap.Index, .int .u64 g_1.snap.Term, .int .u64 g_1.snap.Config, .string (bs g_1.snap.Data), .slice A_3 g_1.entries.length c_4]⟩]) (ps := []) (by kernel_rfl) trivial ?_
  refine GoO.bsplit (t := 13) (by kernel_rfl) (fun h8 => ?_) (fun h8 => ?_)
  · refine GoO.exec (is := [3, 4, 5]) (hs := [.p, .p, .p]) (rest := []) (ks := [0, 2, 7, 16]) (env' := [(0, .pointer (some ⟨b_2, 0, none⟩)), (2, .int .i64 n_6), (7, .int .i64 r_7), (16, .bool true)]) (H' := [⟨1, b_2, [.int .u64 g_1.snap.Index, .int .u64 g_1.snap.Term, .int .u64 g_1.snap.Config, .string (bs g_1.snap.Data), .slice A_3 g_1.entries.length c_4]⟩]) (ps := []) (by kernel_rfl) trivial ?_
    refine GoO.regionEnd ?_
    exact GoO.sub (ks := [0, 2, 7, 16]) (hk := [0]) (bk := [0]) (by kernel_rfl) (by kernel_rfl) (by kernel_rfl) (rlog_Log_Get_j0_ok n g_1 n_6 r_7 b_2 A_3 c_4 w0 S0 true)
  · refine GoO.exec (is := [3, 4, 5]) (hs := [.p, .p, .p]) (rest := []) (ks := [0, 2, 7, 16]) (env' := [(0, .pointer (some ⟨b_2, 0, none⟩)), (2, .int .i64 n_6), (7, .int .i64 r_7), (16, .bool (decide (n_6 ≤ 0)))]) (H' := [⟨1, b_2, [.int .u64 g_1.snap.Index, .int .u64 g_1.snap.Term, .int .u64 g_1.snap.Config, .string (bs g_1.snap.Data), .slice A_3 g_1.entries.length c_4]⟩]) (ps := []) (by kernel_rfl) trivial ?_
    refine GoO.regionEnd ?_
    exact GoO.sub (ks := [0, 2, 7, 16]) (hk := [0]) (bk := [0]) (by kernel_rfl) (by kernel_rfl) (by kernel_rfl) (rlog_Log_Get_j0_ok n g_1 n_6 r_7 b_2 A_3 c_4 w0 S0 (decide (n_6 ≤ 0)))

/-! tontine/tontineref07.Same -/
noncomputable def c19_0 : Code := bodyOf Try.f19
noncomputable def c19_1 : Code := cdL c19_0
noncomputable def c19_2 : Code := cdR c19_0
noncomputable def c19_3 : Code := cdL c19_2
noncomputable def c19_4 : Code := cdL c19_3
noncomputable def c19_5 : Code := cdR c19_3
noncomputable def c19_6 : Code := cdL c19_5
noncomputable def c19_7 : Code := cdL c19_6
noncomputable def c19_8 : Code := cdR c19_6
noncomputable def c19_9 : Code := cdR c19_5
noncomputable def c19_10 : Code := cdR c19_2
noncomputable def c19_11 : Code := cdL c19_10
noncomputable def c19_12 : Code := cdL c19_11
noncomputable def c19_13 : Code := cdR c19_11
noncomputable def c19_14 : Code := cdL c19_13
noncomputable def c19_15 : Code := cdL c19_14
noncomputable def c19_16 : Code := cdL c19_15
noncomputable def c19_17 : Code := cdL c19_16
noncomputable def c19_18 : Code := cdR c19_16
noncomputable def c19_19 : Code := cdL c19_18
noncomputable def c19_20 : Code := cdR c19_18
noncomputable def c19_21 : Code := cdR c19_15
noncomputable def c19_22 : Code := cdL c19_21
noncomputable def c19_23 : Code := cdL c19_22
noncomputable def c19_24 : Code := cdL c19_23
noncomputable def c19_25 : Code := cdR c19_23
noncomputable def c19_26 : Code := cdL c19_25
noncomputable def c19_27 : Code := cdL c19_26
noncomputable def c19_28 : Code := cdR c19_26
noncomputable def c19_29 : Code := cdR c19_25
noncomputable def c19_30 : Code := cdR c19_21
noncomputable def c19_31 : Code := cdR c19_10
noncomputable def c19_32 : Code := cdL c19_31
noncomputable def c19_33 : Code := cdR c19_31
noncomputable def r19_1 : Array Oper := cdO c19_1
noncomputable def r19_4 : Array Oper := cdO c19_4
noncomputable def r19_7 : Array Oper := cdO c19_7
noncomputable def r19_12 : Array Oper := cdO c19_12
noncomputable def r19_17 : Array Oper := cdO c19_17
noncomputable def r19_24 : Array Oper := cdO c19_24
noncomputable def r19_27 : Array Oper := cdO c19_27
noncomputable def r19_30 : Array Oper := cdO c19_30
noncomputable def r19_32 : Array Oper := cdO c19_32
theorem c19_0e : c19_0 = .seq c19_1 c19_2 := by kernel_rfl
theorem c19_1e : c19_1 = .region 0 r19_1 false := by kernel_rfl
theorem c19_2e : c19_2 = .seq c19_3 c19_10 := by kernel_rfl
theorem c19_3e : c19_3 = .seq c19_4 c19_5 := by kernel_rfl
theorem c19_4e : c19_4 = .region 1 r19_4 false := by kernel_rfl
theorem c19_5e : c19_5 = .cond (cdC c19_5) c19_6 c19_9 := by kernel_rfl
theorem c19_6e : c19_6 = .seq c19_7 c19_8 := by kernel_rfl
theorem c19_7e : c19_7 = .region 2 r19_7 false := by kernel_rfl
theorem c19_8e : c19_8 = .ret := by kernel_rfl
theorem c19_9e : c19_9 = .skip := by kernel_rfl
theorem c19_10e : c19_10 = .seq c19_11 c19_31 := by kernel_rfl
theorem c19_11e : c19_11 = .seq c19_12 c19_13 := by kernel_rfl
theorem c19_12e : c19_12 = .region 3 r19_12 false := by kernel_rfl
theorem c19_13e : c19_13 = .block 0 c19_14 := by kernel_rfl
theorem c19_14e : c19_14 = .loop c19_15 := by kernel_rfl
theorem c19_15e : c19_15 = .seq c19_16 c19_21 := by kernel_rfl
theorem c19_16e : c19_16 = .seq c19_17 c19_18 := by kernel_rfl
theorem c19_17e : c19_17 = .region 4 r19_17 false := by kernel_rfl
theorem c19_18e : c19_18 = .cond (cdC c19_18) c19_19 c19_20 := by kernel_rfl
theorem c19_19e : c19_19 = .skip := by kernel_rfl
theorem c19_20e : c19_20 = .exit 0 := by kernel_rfl
theorem c19_21e : c19_21 = .seq c19_22 c19_30 := by kernel_rfl
theorem c19_22e : c19_22 = .block 1 c19_23 := by kernel_rfl
theorem c19_23e : c19_23 = .seq c19_24 c19_25 := by kernel_rfl
theorem c19_24e : c19_24 = .region 6 r19_24 true := by kernel_rfl
theorem c19_25e : c19_25 = .cond (cdC c19_25) c19_26 c19_29 := by kernel_rfl
theorem c19_26e : c19_26 = .seq c19_27 c19_28 := by kernel_rfl
theorem c19_27e : c19_27 = .region 7 r19_27 false := by kernel_rfl
theorem c19_28e : c19_28 = .ret := by kernel_rfl
theorem c19_29e : c19_29 = .skip := by kernel_rfl
theorem c19_30e : c19_30 = .region 5 r19_30 false := by kernel_rfl
theorem c19_31e : c19_31 = .seq c19_32 c19_33 := by kernel_rfl
theorem c19_32e : c19_32 = .region 8 r19_32 false := by kernel_rfl
theorem c19_33e : c19_33 = .ret := by kernel_rfl
noncomputable def tontineref07_Same.R (A_2 : Option Addr) (c_3 : Nat) (A_5 : Option Addr) (c_6 : Nat) : Pst Bool where
  ε := Unit
  v := fun r x => .bool r
  H := fun r x => []
  B := fun r x => []
noncomputable def tontineref07_Same.cx (A_2 : Option Addr) (c_3 : Nat) (A_5 : Option Addr) (c_6 : Nat) (w0 : World) (S0 : Fam) : Cx Bool := ⟨Try.prog, 19, Try.f19, 26, w0, S0, [], 0, tontineref07_Same.R A_2 c_3 A_5 c_6⟩
theorem tontineref07_Same_l0_ok (n : Nat) (a_1 : (List T_api_Entry)) (b_4 : (List T_api_Entry)) (A_2 : Option Addr) (c_3 : Nat) (A_5 : Option Addr) (c_6 : Nat) (w0 : World) (S0 : Fam) :
    ∀ (k : Nat) (i_8 : Int), GoO (tontineref07_Same.cx A_2 c_3 A_5 c_6 w0 S0) [(0, .slice A_2 a_1.length c_3), (1, .slice A_5 b_4.length c_6), (5, .int .i64 i_8)] [] [Rd 0 kT_api_Entry A_2 c_3 a_1, Rd 0 kT_api_Entry A_5 c_6 b_4] [.code c19_15, .inLoop c19_15, .inBlock 0, .code c19_31] (tontineref07_Same.l0 n a_1 b_4 k i_8) := by
  intro k
  induction k with
  | zero => intros; rw [tontineref07_Same.l0.eq_1]; exact GoO.stop
  | succ k ih0 =>
    intro i_8
    rw [tontineref07_Same.l0.eq_2]
    refine GoO.seq' c19_15e ?_
    refine GoO.seq' c19_16e ?_
    refine GoO.region' (is := [0, 1, 2, 3]) c19_17e (by kernel_rfl) ?_
    refine GoO.exec (is := [0, 1, 2, 3]) (hs := [.p, .p, .p, .p]) (rest := []) (ks := [0, 1, 5, 14]) (env' := [(0, .slice A_2 a_1.length c_3), (1, .slice A_5 b_4.length c_6), (5, .int .i64 i_8), (14, .bool (decide (i_8 < (a_1.length : Int))))]) (H' := []) (ps := []) (by kernel_rfl) trivial ?_
    refine GoO.regionEnd ?_
    refine GoO.ite' c19_18e (by kernel_rfl) (fun h9 => ?_) (fun h9 => ?_)
    · refine GoO.skip' c19_19e ?_
      refine GoO.seq' c19_21e ?_
      refine GoO.block' c19_22e ?_
      refine GoO.seq' c19_23e ?_
      refine GoO.draw c19_24e (by kernel_rfl) [] [] [Rd 0 kT_api_Entry A_2 c_3 a_1, Rd 0 kT_api_Entry A_5 c_6 b_4] (n := 9) (by kernel_rfl) ?_
      simp only [List.replicate]
      refine GoF.take [0, 1, 4, 5] [.p, .p, .p, .p] (ks := [0, 1, 5, 17, 18, 21, 22]) (fu := 5) (li := [true, true, false, false, true, true, false, false, false]) (env' := [(0, .slice A_2 a_1.length c_3), (1, .slice A_5 b_4.length c_6), (5, .int .i64 i_8), (17, .slice A_2 a_1.length c_3), (18, .int .i64 i_8), (21, .slice A_5 b_4.length c_6), (22, .int .i64 i_8)]) (ps := []) (hk := []) (bk := [0, 1]) (by kernel_rfl) trivial rfl rfl ?_
      refine GoF.guard (fun h10 => ?_)
      refine GoF.idx (i := 2) (hk := []) (bk := [0, 1]) (kk := .i64) (e := 40) (K := kT_api_Entry) (A := A_2) (c := c_3) (xs := a_1) (iv := i_8) (j := 0) (by kernel_rfl) rfl rfl rfl (by kernel_rfl) (by kernel_rfl) (by kernel_rfl) (by kernel_rfl) rfl Reads.rd rfl h10.1 h10.2 (by decide) rfl ?_
      refine GoF.ldE (i := 3) (hk := []) (bk := [0, 1]) (K := kT_api_Entry) (A := A_2) (c := c_3) (xs := a_1) (iN := i_8.toNat) (off := 0) (j := 0) (v := .agg ⟨[.int .u64 ((rdL a_1 i_8).Term), .int .u64 ((rdL a_1 i_8).Index), .int .i64 ((rdL a_1 i_8).Kind), .string (bs ((rdL a_1 i_8).Data))]⟩) (by kernel_rfl) rfl rfl rfl (hK := rfl) (by kernel_rfl) rfl Reads.rd (by first | exact idx_lt h10.1 h10.2 | (simp only [List.length_set]; exact idx_lt h10.1 h10.2)) (by decide) (by kernel_rfl) rfl ?_
      refine GoF.guard (fun h11 => ?_)
      refine GoF.idx (i := 6) (hk := []) (bk := [0, 1]) (kk := .i64) (e := 40) (K := kT_api_Entry) (A := A_5) (c := c_6) (xs := b_4) (iv := i_8) (j := 1) (by kernel_rfl) rfl rfl rfl (by kernel_rfl) (by kernel_rfl) (by kernel_rfl) (by kernel_rfl) rfl Reads.rd rfl h11.1 h11.2 (by decide) rfl ?_
      refine GoF.ldE (i := 7) (hk := []) (bk := [0, 1]) (K := kT_api_Entry) (A := A_5) (c := c_6) (xs := b_4) (iN := i_8.toNat) (off := 0) (j := 1) (v := .agg ⟨[.int .u64 ((rdL b_4 i_8).Term), .int .u64 ((rdL b_4 i_8).Index), .int .i64 ((rdL b_4 i_8).Kind), .string (bs ((rdL b_4 i_8).Data))]⟩) (by kernel_rfl) rfl rfl rfl (hK := rfl) (by kernel_rfl) rfl Reads.rd (by first | exact idx_lt h11.1 h11.2 | (simp only [List.length_set]; exact idx_lt h11.1 h11.2)) (by decide) (by kernel_rfl) rfl ?_
      refine GoF.take [8] [.p] (ks := [0, 1, 5, 25]) (fu := 0) (li := [true, true, true, true, true, true, true, true, true]) (env' := [(0, .slice A_2 a_1.length c_3), (1, .slice A_5 b_4.length c_6), (5, .int .i64 i_8), (25, .bool (!((((rdL a_1 i_8).Term) == ((rdL b_4 i_8).Term)) && ((((rdL a_1 i_8).Index) == ((rdL b_4 i_8).Index)) && ((((rdL a_1 i_8).Kind) == ((rdL b_4 i_8).Kind)) && ((((rdL a_1 i_8).Data) == ((rdL b_4 i_8).Data)) && true))))))]) (ps := []) (hk := []) (bk := [0, 1]) (by kernel_rfl) trivial rfl rfl ?_
      refine GoF.done (by kernel_rfl) ?_
      refine GoO.ite' c19_25e (by kernel_rfl) (fun h12 => ?_) (fun h12 => ?_)
      · refine GoO.seq' c19_26e ?_
        refine GoO.region' (is := [0]) c19_27e (by kernel_rfl) ?_
        refine GoO.exec (is := [0]) (hs := [.p]) (rest := []) (ks := [4]) (env' := [(4, .bool false)]) (H' := []) (ps := []) (by kernel_rfl) trivial ?_
        refine GoO.regionEnd ?_
        exact GoO.ret' (h := c19_28e) (hs := []) (ps := []) (hk := []) (bk := []) Try.func19 () (by kernel_rfl) trivial (by kernel_rfl) (by kernel_rfl)
      · refine GoO.skip' c19_29e ?_
        refine GoO.inBlock ?_
        refine GoO.region' (is := [0, 1, 2]) c19_30e (by kernel_rfl) ?_
        refine GoO.exec (is := [0, 1, 2]) (hs := [.p, .p, .p]) (rest := []) (ks := [0, 1, 5]) (env' := [(0, .slice A_2 a_1.length c_3), (1, .slice A_5 b_4.length c_6), (5, .int .i64 (wi64 (i_8 + 1)))]) (H' := []) (ps := []) (by kernel_rfl) trivial ?_
        refine GoO.regionEnd ?_
        refine GoO.inLoop ?_
        exact GoO.sub (ks := [0, 1, 5]) (hk := []) (bk := [0, 1]) (by kernel_rfl) (by kernel_rfl) (by kernel_rfl) (ih0 (wi64 (i_8 + 1)))
    · refine GoO.exit' c19_20e rfl ?_
      refine GoO.seq' c19_31e ?_
      refine GoO.region' (is := [0]) c19_32e (by kernel_rfl) ?_
      refine GoO.exec (is := [0]) (hs := [.p]) (rest := []) (ks := [4]) (env' := [(4, .bool true)]) (H' := []) (ps := []) (by kernel_rfl) trivial ?_
      refine GoO.regionEnd ?_
      exact GoO.ret' (h := c19_33e) (hs := []) (ps := []) (hk := []) (bk := []) Try.func19 () (by kernel_rfl) trivial (by kernel_rfl) (by kernel_rfl)
end Go.GL
