import Derived.Test.YtmpockelhphkdaaKindsT2
import Derived.Test.YtmpockelhphkdaaProg
set_option linter.unusedVariables false
set_option linter.unusedSimpArgs false
set_option maxRecDepth 100000
namespace Go.GL
open Go Go.Proofs

theorem ky41_dec (a b : T_api_Key) : decide (a = b) = ((a.Saga == b.Saga) && ((a.Step == b.Step) && ((a.Back == b.Back) && true))) := by cases a; cases b; rw [Bool.eq_iff_iff]; simp

noncomputable def ky41 : Ky Try.prog 45 T_api_Key where
  enc := fun k => .agg ⟨[.int .u64 k.Saga, .int .i64 k.Step, .bool k.Back]⟩
  eq := fun a b w => by
    have h : eqV Try.prog 2 45 (.agg ⟨[.int .u64 a.Saga, .int .i64 a.Step, .bool a.Back]⟩) (.agg ⟨[.int .u64 b.Saga, .int .i64 b.Step, .bool b.Back]⟩) = some ((a.Saga == b.Saga) && ((a.Step == b.Step) && ((a.Back == b.Back) && true))) := by kernel_rfl
    rw [ky41_dec a b]; exact eqV_ok 9998 2 45 _ _ _ h w
  chk := fun a e w => by kernel_rfl
  td := (Try.prog.underlying 45).getD default
  und := by kernel_rfl
  now := fun a b => .inl (by kernel_rfl)
  same := fun a => by simp [Instr.sameBits]

/-! tontine/ledger.New -/
noncomputable def c22_0 : Code := bodyOf Try.f22
noncomputable def c22_1 : Code := cdL c22_0
noncomputable def c22_2 : Code := cdR c22_0
noncomputable def c22_3 : Code := cdL c22_2
noncomputable def c22_4 : Code := cdR c22_2
noncomputable def r22_1 : Array Oper := cdO c22_1
noncomputable def r22_3 : Array Oper := cdO c22_3
theorem c22_0e : c22_0 = .seq c22_1 c22_2 := by kernel_rfl
theorem c22_1e : c22_1 = .region 0 r22_1 false := by kernel_rfl
theorem c22_2e : c22_2 = .seq c22_3 c22_4 := by kernel_rfl
theorem c22_3e : c22_3 = .region 1 r22_3 false := by kernel_rfl
theorem c22_4e : c22_4 = .ret := by kernel_rfl
noncomputable def ledger_New.R : Pst T_ledger_Ledger where
  ε := Nat × Option Addr × Nat × Option Addr × Nat × Option Addr × Nat
  v := fun r x => .pointer (some ⟨x.1, 0, none⟩)
  H := fun r x => [⟨1, x.1, [.int .u64 r.fence.Term, .int .u64 r.fence.Index, .slice x.2.1 r.effects.length x.2.2.1, .map (mA x.2.2.2.1), .map (mA x.2.2.2.2.2.1)]⟩]
  B := fun r x => [Ow 2 kT_ledger_Effect x.2.1 x.2.2.1 r.effects, Mp 3 ky41 (fun v => .bool v) x.2.2.2.1 x.2.2.2.2.1 r.said, Mp 4 ky41 (fun v => .bool v) x.2.2.2.2.2.1 x.2.2.2.2.2.2 r.tombs]
noncomputable def ledger_New.cx (w0 : World) (S0 : Fam) : Cx T_ledger_Ledger := ⟨Try.prog, 22, Try.f22, 5, w0, S0, [], 0, ledger_New.R⟩
theorem ledger_New_ok (n : Nat) :
    Meets Try.prog 22 [] 0 [] [] [] (ledger_New.f n) (ledger_New.R) := by
  refine Meets.of (c := c22_0) (n := 5) Try.func22 (by kernel_rfl) (by kernel_rfl) (by kernel_rfl) fun w0 S0 => ?_
  unfold ledger_New.f
  show GoO (ledger_New.cx w0 S0) [] [] [] [.code c22_0] _
  refine GoO.seq' c22_0e ?_
  refine GoO.region' (is := [0]) c22_1e (by kernel_rfl) ?_
  refine GoO.exec (is := [0]) (hs := [.p]) (rest := []) (ks := []) (env' := []) (H' := []) (ps := []) (by kernel_rfl) trivial ?_
  refine GoO.regionEnd ?_
  refine GoO.seq' c22_2e ?_
  refine GoO.region' (is := [0, 1, 2, 3, 4]) c22_3e (by kernel_rfl) ?_
  refine OpTo.go (GoO.mkMap rfl 40 ky41 (fun v => .bool v) _ (fun _ _ => rfl) (fun A_1 c_2 => ?_))
  refine OpTo.go (GoO.mkMap rfl 41 ky41 (fun v => .bool v) _ (fun _ _ => rfl) (fun A_3 c_4 => ?_))
  refine GoO.exec (is := [2]) (hs := [.p]) (rest := [3, 4]) (ks := [3]) (env' := [(3, .agg ⟨[.int .u64 0, .int .u64 0, .slice none ([] : List T_ledger_Effect).length 0, .map (mA A_1), .map (mA A_3)]⟩)]) (H' := []) (ps := []) (by kernel_rfl) trivial ?_
  refine OpTo.go (GoO.new rfl 42 (cs := [.int .u64 0, .int .u64 0, .slice none ([] : List T_ledger_Effect).length 0, .map (mA A_1), .map (mA A_3)]) (by kernel_rfl) _ (fun _ => rfl) (fun b_5 => ?_))
  refine GoO.exec (is := [4]) (hs := [.p]) (rest := []) (ks := [0]) (env' := [(0, .pointer (some ⟨b_5, 0, none⟩))]) (H' := [⟨42, b_5, [.int .u64 0, .int .u64 0, .slice none ([] : List T_ledger_Effect).length 0, .map (mA A_1), .map (mA A_3)]⟩]) (ps := []) (by kernel_rfl) trivial ?_
  refine GoO.regionEnd ?_
  refine GoO.nilOwn kT_ledger_Effect 2 ?_
  refine GoO.retag (t := 40) (u := 3) (j := 2) (hk := [0]) (bk := [0, 1]) rfl rfl rfl rfl rfl rfl (by kernel_rfl) (by kernel_rfl) ?_
  refine GoO.retag (t := 41) (u := 4) (j := 2) (hk := [0]) (bk := [0, 1]) rfl rfl rfl rfl rfl rfl (by kernel_rfl) (by kernel_rfl) ?_
  refine GoO.retagB (t := 42) (u := 1) (j := 0) (hk := []) (bk := [0, 1, 2]) rfl rfl rfl rfl rfl rfl (by kernel_rfl) (by kernel_rfl) ?_
  exact GoO.ret' (h := c22_4e) (hs := []) (ps := []) (hk := [0]) (bk := [2, 1, 0]) Try.func22 (⟨b_5, none, 0, A_1, c_2, A_3, c_4⟩ : Nat × Option Addr × Nat × Option Addr × Nat × Option Addr × Nat) (by kernel_rfl) trivial (by kernel_rfl) (by kernel_rfl)

/-! tontine/ledger.Less -/
noncomputable def c26_0 : Code := bodyOf Try.f26
noncomputable def c26_1 : Code := cdL c26_0
noncomputable def c26_2 : Code := cdR c26_0
noncomputable def c26_3 : Code := cdL c26_2
noncomputable def c26_4 : Code := cdR c26_2
noncomputable def r26_1 : Array Oper := cdO c26_1
noncomputable def r26_3 : Array Oper := cdO c26_3
theorem c26_0e : c26_0 = .seq c26_1 c26_2 := by kernel_rfl
theorem c26_1e : c26_1 = .region 0 r26_1 false := by kernel_rfl
theorem c26_2e : c26_2 = .seq c26_3 c26_4 := by kernel_rfl
theorem c26_3e : c26_3 = .region 1 r26_3 false := by kernel_rfl
theorem c26_4e : c26_4 = .ret := by kernel_rfl
noncomputable def ledger_Less.R : Pst Bool where
  ε := Unit
  v := fun r x => .bool r
  H := fun r x => []
  B := fun r x => []
noncomputable def ledger_Less.cx (w0 : World) (S0 : Fam) : Cx Bool := ⟨Try.prog, 26, Try.f26, 24, w0, S0, [], 0, ledger_Less.R⟩
theorem ledger_Less_ok (n : Nat) (a_1 : T_api_Token) (b_2 : T_api_Token) :
    Meets Try.prog 26 [.agg ⟨[.int .u64 a_1.Term, .int .u64 a_1.Index]⟩, .agg ⟨[.int .u64 b_2.Term, .int .u64 b_2.Index]⟩] 0 [] [] [] (ledger_Less.f n a_1 b_2) (ledger_Less.R) := by
  refine Meets.of (c := c26_0) (n := 24) Try.func26 (by kernel_rfl) (by kernel_rfl) (by kernel_rfl) fun w0 S0 => ?_
  unfold ledger_Less.f
  show GoO (ledger_Less.cx w0 S0) [(0, .agg ⟨[.int .u64 a_1.Term, .int .u64 a_1.Index]⟩), (1, .agg ⟨[.int .u64 b_2.Term, .int .u64 b_2.Index]⟩)] [] [] [.code c26_0] _
  refine GoO.seq' c26_0e ?_
  refine GoO.region' (is := [0, 1, 2]) c26_1e (by kernel_rfl) ?_
  refine OpTo.go (GoO.new rfl 40 (cs := [.int .u64 a_1.Term, .int .u64 a_1.Index]) (by kernel_rfl) _ (fun _ => rfl) (fun b_3 => ?_))
  refine OpTo.go (GoO.new rfl 41 (cs := [.int .u64 b_2.Term, .int .u64 b_2.Index]) (by kernel_rfl) _ (fun _ => rfl) (fun b_4 => ?_))
  refine GoO.exec (is := [2]) (hs := [.p]) (rest := []) (ks := [2, 3]) (env' := [(2, .pointer (some ⟨b_3, 0, none⟩)), (3, .pointer (some ⟨b_4, 0, none⟩))]) (H' := [⟨41, b_4, [.int .u64 b_2.Term, .int .u64 b_2.Index]⟩, ⟨40, b_3, [.int .u64 a_1.Term, .int .u64 a_1.Index]⟩]) (ps := []) (by kernel_rfl) trivial ?_
  refine GoO.regionEnd ?_
  refine GoO.seq' c26_2e ?_
  refine GoO.region' (is := [0, 1, 2, 3, 4, 5, 6, 7, 8, 9, 10, 11, 12, 13, 14, 15, 16, 17, 18, 19]) c26_3e (by kernel_rfl) ?_
  refine GoO.exec (is := [0, 1, 2, 3, 4, 5]) (hs := [.p, .b 1, .p, .b 0, .p, .p]) (rest := [6, 7, 8, 9, 10, 11, 12, 13, 14, 15, 16, 17, 18, 19]) (ks := [2, 3, 10]) (env' := [(2, .pointer (some ⟨b_3, 0, none⟩)), (3, .pointer (some ⟨b_4, 0, none⟩)), (10, .bool (decide (a_1.Term < b_2.Term)))]) (H' := [⟨41, b_4, [.int .u64 b_2.Term, .int .u64 b_2.Index]⟩, ⟨40, b_3, [.int .u64 a_1.Term, .int .u64 a_1.Index]⟩]) (ps := [b_3 = b_3, b_4 = b_4]) (by kernel_rfl) (And.intro rfl (And.intro rfl trivial)) ?_
  refine GoO.bsplit (t := 10) (by kernel_rfl) (fun h5 => ?_) (fun h5 => ?_)
  · refine GoO.exec (is := [6, 7, 8, 9, 10, 11, 12, 13, 14, 15, 16, 17, 18, 19]) (hs := [.p, .p, .p, .p, .p, .p, .p, .p, .p, .p, .p, .p, .p, .p]) (rest := []) (ks := [4]) (env' := [(4, .bool true)]) (H' := [⟨41, b_4, [.int .u64 b_2.Term, .int .u64 b_2.Index]⟩, ⟨40, b_3, [.int .u64 a_1.Term, .int .u64 a_1.Index]⟩]) (ps := []) (by kernel_rfl) trivial ?_
    refine GoO.regionEnd ?_
    exact GoO.ret' (h := c26_4e) (hs := []) (ps := []) (hk := []) (bk := []) Try.func26 () (by kernel_rfl) trivial (by kernel_rfl) (by kernel_rfl)
  · refine GoO.exec (is := [6, 7, 8, 9, 10, 11]) (hs := [.p, .b 1, .p, .b 0, .p, .p]) (rest := [12, 13, 14, 15, 16, 17, 18, 19]) (ks := [2, 3, 10, 16]) (env' := [(2, .pointer (some ⟨b_3, 0, none⟩)), (3, .pointer (some ⟨b_4, 0, none⟩)), (10, .bool false), (16, .bool (a_1.Term == b_2.Term))]) (H' := [⟨41, b_4, [.int .u64 b_2.Term, .int .u64 b_2.Index]⟩, ⟨40, b_3, [.int .u64 a_1.Term, .int .u64 a_1.Index]⟩]) (ps := [b_3 = b_3, b_4 = b_4]) (by kernel_rfl) (And.intro rfl (And.intro rfl trivial)) ?_
    refine GoO.bsplit (t := 16) (by kernel_rfl) (fun h6 => ?_) (fun h6 => ?_)
    · refine GoO.exec (is := [12, 13, 14, 15, 16, 17, 18, 19]) (hs := [.p, .b 1, .p, .b 0, .p, .p, .p, .p]) (rest := []) (ks := [4]) (env' := [(4, .bool (decide (a_1.Index < b_2.Index)))]) (H' := [⟨41, b_4, [.int .u64 b_2.Term, .int .u64 b_2.Index]⟩, ⟨40, b_3, [.int .u64 a_1.Term, .int .u64 a_1.Index]⟩]) (ps := [b_3 = b_3, b_4 = b_4]) (by kernel_rfl) (And.intro rfl (And.intro rfl trivial)) ?_
      refine GoO.regionEnd ?_
      exact GoO.ret' (h := c26_4e) (hs := []) (ps := []) (hk := []) (bk := []) Try.func26 () (by kernel_rfl) trivial (by kernel_rfl) (by kernel_rfl)
    · refine GoO.exec (is := [12, 13, 14, 15, 16, 17, 18, 19]) (hs := [.p, .p, .p, .p, .p, .p, .p, .p]) (rest := []) (ks := [4]) (env' := [(4, .bool false)]) (H' := [⟨41, b_4, [.int .u64 b_2.Term, .int .u64 b_2.Index]⟩, ⟨40, b_3, [.int .u64 a_1.Term, .int .u64 a_1.Index]⟩]) (ps := []) (by kernel_rfl) trivial ?_
      refine GoO.regionEnd ?_
      exact GoO.ret' (h := c26_4e) (hs := []) (ps := []) (hk := []) (bk := []) Try.func26 () (by kernel_rfl) trivial (by kernel_rfl) (by kernel_rfl)

/-! (*tontine/ledger.Ledger).undo -/
noncomputable def c41_0 : Code := bodyOf Try.f41
noncomputable def c41_1 : Code := cdL c41_0
noncomputable def c41_2 : Code := cdR c41_0
noncomputable def c41_3 : Code := cdL c41_2
noncomputable def c41_4 : Code := cdL c41_3
noncomputable def c41_5 : Code := cdR c41_3
noncomputable def c41_6 : Code := cdL c41_5
noncomputable def c41_7 : Code := cdL c41_6
noncomputable def c41_8 : Code := cdR c41_6
noncomputable def c41_9 : Code := cdR c41_5
noncomputable def c41_10 : Code := cdR c41_2
noncomputable def c41_11 : Code := cdL c41_10
noncomputable def c41_12 : Code := cdR c41_10
noncomputable def c41_13 : Code := cdL c41_12
noncomputable def c41_14 : Code := cdR c41_12
noncomputable def c41_15 : Code := cdL c41_14
noncomputable def c41_16 : Code := cdL c41_15
noncomputable def c41_17 : Code := cdR c41_15
noncomputable def c41_18 : Code := cdL c41_17
noncomputable def c41_19 : Code := cdR c41_17
noncomputable def c41_20 : Code := cdR c41_14
noncomputable def c41_21 : Code := cdL c41_20
noncomputable def c41_22 : Code := cdR c41_20
noncomputable def c41_23 : Code := cdL c41_22
noncomputable def c41_24 : Code := cdR c41_22
noncomputable def r41_1 : Array Oper := cdO c41_1
noncomputable def r41_4 : Array Oper := cdO c41_4
noncomputable def r41_7 : Array Oper := cdO c41_7
noncomputable def r41_11 : Array Oper := cdO c41_11
noncomputable def r41_13 : Array Oper := cdO c41_13
noncomputable def r41_16 : Array Oper := cdO c41_16
noncomputable def r41_18 : Array Oper := cdO c41_18
noncomputable def r41_19 : Array Oper := cdO c41_19
noncomputable def r41_21 : Array Oper := cdO c41_21
noncomputable def r41_23 : Array Oper := cdO c41_23
theorem c41_0e : c41_0 = .seq c41_1 c41_2 := by kernel_rfl
theorem c41_1e : c41_1 = .region 0 r41_1 false := by kernel_rfl
theorem c41_2e : c41_2 = .seq c41_3 c41_10 := by kernel_rfl
theorem c41_3e : c41_3 = .seq c41_4 c41_5 := by kernel_rfl
theorem c41_4e : c41_4 = .region 1 r41_4 false := by kernel_rfl
theorem c41_5e : c41_5 = .cond (cdC c41_5) c41_6 c41_9 := by kernel_rfl
theorem c41_6e : c41_6 = .seq c41_7 c41_8 := by kernel_rfl
theorem c41_7e : c41_7 = .region 2 r41_7 false := by kernel_rfl
theorem c41_8e : c41_8 = .ret := by kernel_rfl
theorem c41_9e : c41_9 = .skip := by kernel_rfl
theorem c41_10e : c41_10 = .seq c41_11 c41_12 := by kernel_rfl
theorem c41_11e : c41_11 = .region 3 r41_11 false := by kernel_rfl
theorem c41_12e : c41_12 = .seq c41_13 c41_14 := by kernel_rfl
theorem c41_13e : c41_13 = .region 4 r41_13 false := by kernel_rfl
theorem c41_14e : c41_14 = .seq c41_15 c41_20 := by kernel_rfl
theorem c41_15e : c41_15 = .seq c41_16 c41_17 := by kernel_rfl
theorem c41_16e : c41_16 = .region 5 r41_16 true := by kernel_rfl
theorem c41_17e : c41_17 = .cond (cdC c41_17) c41_18 c41_19 := by kernel_rfl
theorem c41_18e : c41_18 = .region 6 r41_18 true := by kernel_rfl
theorem c41_19e : c41_19 = .region 7 r41_19 true := by kernel_rfl
theorem c41_20e : c41_20 = .seq c41_21 c41_22 := by kernel_rfl
theorem c41_21e : c41_21 = .region 8 r41_21 true := by kernel_rfl
theorem c41_22e : c41_22 = .seq c41_23 c41_24 := by kernel_rfl
theorem c41_23e : c41_23 = .region 9 r41_23 false := by kernel_rfl
theorem c41_24e : c41_24 = .ret := by kernel_rfl
noncomputable def ledger_Ledger_undo.R (b_2 : Nat) (A_3 : Option Addr) (c_4 : Nat) (A_5 : Option Addr) (c_6 : Nat) (A_7 : Option Addr) (c_8 : Nat) : Pst (Bool × Int × T_ledger_Ledger) where
  ε := Option Addr × Nat × Option Addr × Nat × Option Addr × Nat
  v := fun r x => .tuple ⟨[.bool r.1, .int .i64 r.2.1]⟩
  H := fun r x => [⟨1, b_2, [.int .u64 r.2.2.fence.Term, .int .u64 r.2.2.fence.Index, .slice x.1 r.2.2.effects.length x.2.1, .map (mA x.2.2.1), .map (mA x.2.2.2.2.1)]⟩]
  B := fun r x => [Ow 2 kT_ledger_Effect x.1 x.2.1 r.2.2.effects, Mp 3 ky41 (fun v => .bool v) x.2.2.1 x.2.2.2.1 r.2.2.said, Mp 4 ky41 (fun v => .bool v) x.2.2.2.2.1 x.2.2.2.2.2 r.2.2.tombs]
noncomputable def ledger_Ledger_undo.cx (b_2 : Nat) (A_3 : Option Addr) (c_4 : Nat) (A_5 : Option Addr) (c_6 : Nat) (A_7 : Option Addr) (c_8 : Nat) (w0 : World) (S0 : Fam) : Cx (Bool × Int × T_ledger_Ledger) := ⟨Try.prog, 41, Try.f41, 42, w0, S0, [1, 2, 3, 4], 4, ledger_Ledger_undo.R b_2 A_3 c_4 A_5 c_6 A_7 c_8⟩
theorem ledger_Ledger_undo_j0_ok (n : Nat) (l_1 : T_ledger_Ledger) (k_9 : T_api_Key) (b_2 : Nat) (A_5 : Option Addr) (c_6 : Nat) (b_12 : Nat) (A_3 : Option Addr) (c_4 : Nat) (A_7 : Option Addr) (c_8 : Nat) (w0 : World) (S0 : Fam) (f_21 : (List T_ledger_Effect)) (f_24 : (List (T_api_Key × Bool))) (A_22 : Option Addr) (c_23 : Nat) (A_25 : Option Addr) (c_26 : Nat) :
    GoO (ledger_Ledger_undo.cx b_2 A_3 c_4 A_5 c_6 A_7 c_8 w0 S0) [(0, .pointer (some ⟨b_2, 0, none⟩)), (5, .pointer (some ⟨b_12, 0, none⟩))] [⟨1, b_2, [.int .u64 l_1.fence.Term, .int .u64 l_1.fence.Index, .slice A_22 f_21.length c_23, .map (mA A_5), .map (mA A_25)]⟩, ⟨40, b_12, [.int .u64 k_9.Saga, .int .i64 k_9.Step, .bool k_9.Back]⟩] [Ow 2 kT_ledger_Effect A_22 c_23 f_21, Mp 3 ky41 (fun v => .bool v) A_5 c_6 l_1.said, Mp 4 ky41 (fun v => .bool v) A_25 c_26 f_24] [.code c41_20] (ledger_Ledger_undo.j0 n l_1 k_9 f_21 f_24) := by
  unfold ledger_Ledger_undo.j0
  refine GoO.seq' c41_20e ?_
  refine GoO.draw c41_21e (by kernel_rfl) [5] [⟨1, b_2, [.int .u64 l_1.fence.Term, .int .u64 l_1.fence.Index, .slice A_22 f_21.length c_23, .map (mA A_5), .map (mA A_25)]⟩, ⟨40, b_12, [.int .u64 k_9.Saga, .int .i64 k_9.Step, .bool k_9.Back]⟩] [] (n := 6) (by kernel_rfl) ?_
  simp only [List.replicate]
  refine GoF.take [0, 1, 2, 3, 4] [.p, .p, .p, .b 0, .b 1] (ks := [40, 41]) (fu := 1) (li := [true, true, true, true, true, false]) (env' := [(40, .map (mA A_5)), (41, .agg ⟨[.int .u64 k_9.Saga, .int .i64 k_9.Step, .bool k_9.Back]⟩)]) (ps := [b_2 = b_2, b_12 = b_12]) (hk := [0, 1]) (bk := []) (by kernel_rfl) (And.intro rfl (And.intro rfl trivial)) rfl rfl ?_
  refine OpTo.goE (i := 5) (by kernel_rfl) rfl (GoO.mapUp (vt := 4) (K := ky41) (ev := (fun v => .bool v)) (A := A_5) (c := c_6) (tg := 3) (l := l_1.said) (key := k_9) (v := true) (j := 1) rfl (by kernel_rfl) (by kernel_rfl) (by kernel_rfl) (by kernel_rfl) rfl (by kernel_rfl) (by kernel_rfl) (by kernel_rfl) rfl ?_)
  refine GoF.done (by kernel_rfl) ?_
  refine GoO.seq' c41_22e ?_
  refine GoO.region' (is := [0, 1]) c41_23e (by kernel_rfl) ?_
  refine GoO.exec (is := [0, 1]) (hs := [.p, .p]) (rest := []) (ks := [8, 9]) (env' := [(8, .bool true), (9, .int .i64 0)]) (H' := [⟨1, b_2, [.int .u64 l_1.fence.Term, .int .u64 l_1.fence.Index, .slice A_22 f_21.length c_23, .map (mA A_5), .map (mA A_25)]⟩, ⟨40, b_12, [.int .u64 k_9.Saga, .int .i64 k_9.Step, .bool k_9.Back]⟩]) (ps := []) (by kernel_rfl) trivial ?_
  refine GoO.regionEnd ?_
  exact GoO.ret' (h := c41_24e) (hs := []) (ps := []) (hk := [0]) (bk := [0, 1, 2]) Try.func41 (⟨A_22, c_23, A_5, c_6, A_25, c_26⟩ : Option Addr × Nat × Option Addr × Nat × Option Addr × Nat) (by kernel_rfl) trivial (by kernel_rfl) (by kernel_rfl)
theorem ledger_Ledger_undo_ok (n : Nat) (l_1 : T_ledger_Ledger) (k_9 : T_api_Key) (name_10 : (List UInt8)) (fail_11 : Bool) (b_2 : Nat) (A_3 : Option Addr) (c_4 : Nat) (A_5 : Option Addr) (c_6 : Nat) (A_7 : Option Addr) (c_8 : Nat) :
    Meets Try.prog 41 [.pointer (some ⟨b_2, 0, none⟩), .agg ⟨[.int .u64 k_9.Saga, .int .i64 k_9.Step, .bool k_9.Back]⟩, .string (bs name_10), .bool fail_11] 4 [1, 2, 3, 4] [⟨1, b_2, [.int .u64 l_1.fence.Term, .int .u64 l_1.fence.Index, .slice A_3 l_1.effects.length c_4, .map (mA A_5), .map (mA A_7)]⟩] [Ow 2 kT_ledger_Effect A_3 c_4 l_1.effects, Mp 3 ky41 (fun v => .bool v) A_5 c_6 l_1.said, Mp 4 ky41 (fun v => .bool v) A_7 c_8 l_1.tombs] (ledger_Ledger_undo.f n l_1 k_9 name_10 fail_11) (ledger_Ledger_undo.R b_2 A_3 c_4 A_5 c_6 A_7 c_8) := by
  refine Meets.of (c := c41_0) (n := 42) Try.func41 (by kernel_rfl) (by kernel_rfl) (by kernel_rfl) fun w0 S0 => ?_
  unfold ledger_Ledger_undo.f
  show GoO (ledger_Ledger_undo.cx b_2 A_3 c_4 A_5 c_6 A_7 c_8 w0 S0) [(0, .pointer (some ⟨b_2, 0, none⟩)), (1, .agg ⟨[.int .u64 k_9.Saga, .int .i64 k_9.Step, .bool k_9.Back]⟩), (2, .string (bs name_10)), (3, .bool fail_11)] [⟨1, b_2, [.int .u64 l_1.fence.Term, .int .u64 l_1.fence.Index, .slice A_3 l_1.effects.length c_4, .map (mA A_5), .map (mA A_7)]⟩] [Ow 2 kT_ledger_Effect A_3 c_4 l_1.effects, Mp 3 ky41 (fun v => .bool v) A_5 c_6 l_1.said, Mp 4 ky41 (fun v => .bool v) A_7 c_8 l_1.tombs] [.code c41_0] _
  refine GoO.seq' c41_0e ?_
  refine GoO.region' (is := [0, 1, 2]) c41_1e (by kernel_rfl) ?_
  refine OpTo.go (GoO.new rfl 40 (cs := [.int .u64 k_9.Saga, .int .i64 k_9.Step, .bool k_9.Back]) (by kernel_rfl) _ (fun _ => rfl) (fun b_12 => ?_))
  refine GoO.exec (is := [1, 2]) (hs := [.p, .p]) (rest := []) (ks := [0, 2, 3, 5]) (env' := [(0, .pointer (some ⟨b_2, 0, none⟩)), (2, .string (bs name_10)), (3, .bool fail_11), (5, .pointer (some ⟨b_12, 0, none⟩))]) (H' := [⟨40, b_12, [.int .u64 k_9.Saga, .int .i64 k_9.Step, .bool k_9.Back]⟩, ⟨1, b_2, [.int .u64 l_1.fence.Term, .int .u64 l_1.fence.Index, .slice A_3 l_1.effects.length c_4, .map (mA A_5), .map (mA A_7)]⟩]) (ps := []) (by kernel_rfl) trivial ?_
  refine GoO.regionEnd ?_
  refine GoO.seq' c41_2e ?_
  refine GoO.seq' c41_3e ?_
  refine GoO.region' (is := [0]) c41_4e (by kernel_rfl) ?_
  refine GoO.exec (is := [0]) (hs := [.p]) (rest := []) (ks := [0, 2, 5, 11]) (env' := [(0, .pointer (some ⟨b_2, 0, none⟩)), (2, .string (bs name_10)), (5, .pointer (some ⟨b_12, 0, none⟩)), (11, .bool fail_11)]) (H' := [⟨40, b_12, [.int .u64 k_9.Saga, .int .i64 k_9.Step, .bool k_9.Back]⟩, ⟨1, b_2, [.int .u64 l_1.fence.Term, .int .u64 l_1.fence.Index, .slice A_3 l_1.effects.length c_4, .map (mA A_5), .map (mA A_7)]⟩]) (ps := []) (by kernel_rfl) trivial ?_
  refine GoO.regionEnd ?_
  refine GoO.ite' c41_5e (by kernel_rfl) (fun h13 => ?_) (fun h13 => ?_)
  · refine GoO.seq' c41_6e ?_
    refine GoO.region' (is := [0, 1]) c41_7e (by kernel_rfl) ?_
    refine GoO.exec (is := [0, 1]) (hs := [.p, .p]) (rest := []) (ks := [8, 9]) (env' := [(8, .bool false), (9, .int .i64 0)]) (H' := [⟨40, b_12, [.int .u64 k_9.Saga, .int .i64 k_9.Step, .bool k_9.Back]⟩, ⟨1, b_2, [.int .u64 l_1.fence.Term, .int .u64 l_1.fence.Index, .slice A_3 l_1.effects.length c_4, .map (mA A_5), .map (mA A_7)]⟩]) (ps := []) (by kernel_rfl) trivial ?_
    refine GoO.regionEnd ?_
    exact GoO.ret' (h := c41_8e) (hs := []) (ps := []) (hk := [1]) (bk := [0, 1, 2]) Try.func41 (⟨A_3, c_4, A_5, c_6, A_7, c_8⟩ : Option Addr × Nat × Option Addr × Nat × Option Addr × Nat) (by kernel_rfl) trivial (by kernel_rfl) (by kernel_rfl)
  · refine GoO.skip' c41_9e ?_
    refine GoO.seq' c41_10e ?_
    refine GoO.region' (is := [0, 1, 2]) c41_11e (by kernel_rfl) ?_
    refine GoO.exec (is := [0]) (hs := [.b 0]) (rest := [1, 2]) (ks := [0, 2, 5, 12]) (env' := [(0, .pointer (some ⟨b_2, 0, none⟩)), (2, .string (bs name_10)), (5, .pointer (some ⟨b_12, 0, none⟩)), (12, .agg ⟨[.int .u64 k_9.Saga, .int .i64 k_9.Step, .bool k_9.Back]⟩)]) (H' := [⟨40, b_12, [.int .u64 k_9.Saga, .int .i64 k_9.Step, .bool k_9.Back]⟩, ⟨1, b_2, [.int .u64 l_1.fence.Term, .int .u64 l_1.fence.Index, .slice A_3 l_1.effects.length c_4, .map (mA A_5), .map (mA A_7)]⟩]) (ps := [b_12 = b_12]) (by kernel_rfl) (And.intro rfl trivial) ?_
    refine OpTo.go (GoO.new rfl 41 (cs := [.int .u64 0, .int .i64 0, .bool false]) (by kernel_rfl) _ (fun _ => rfl) (fun b_14 => ?_))
    refine GoO.exec (is := [2]) (hs := [.b 0]) (rest := []) (ks := [0, 2, 5, 10]) (env' := [(0, .pointer (some ⟨b_2, 0, none⟩)), (2, .string (bs name_10)), (5, .pointer (some ⟨b_12, 0, none⟩)), (10, .pointer (some ⟨b_14, 0, none⟩))]) (H' := [⟨41, b_14, [.int .u64 k_9.Saga, .int .i64 k_9.Step, .bool k_9.Back]⟩, ⟨40, b_12, [.int .u64 k_9.Saga, .int .i64 k_9.Step, .bool k_9.Back]⟩, ⟨1, b_2, [.int .u64 l_1.fence.Term, .int .u64 l_1.fence.Index, .slice A_3 l_1.effects.length c_4, .map (mA A_5), .map (mA A_7)]⟩]) (ps := [b_14 = b_14]) (by kernel_rfl) (And.intro rfl trivial) ?_
    refine GoO.regionEnd ?_
    refine GoO.seq' c41_12e ?_
    refine GoO.region' (is := [0, 1]) c41_13e (by kernel_rfl) ?_
    refine GoO.exec (is := [0, 1]) (hs := [.p, .b 0]) (rest := []) (ks := [0, 2, 5, 10]) (env' := [(0, .pointer (some ⟨b_2, 0, none⟩)), (2, .string (bs name_10)), (5, .pointer (some ⟨b_12, 0, none⟩)), (10, .pointer (some ⟨b_14, 0, none⟩))]) (H' := [⟨41, b_14, [.int .u64 k_9.Saga, .int .i64 k_9.Step, .bool false]⟩, ⟨40, b_12, [.int .u64 k_9.Saga, .int .i64 k_9.Step, .bool k_9.Back]⟩, ⟨1, b_2, [.int .u64 l_1.fence.Term, .int .u64 l_1.fence.Index, .slice A_3 l_1.effects.length c_4, .map (mA A_5), .map (mA A_7)]⟩]) (ps := [b_14 = b_14]) (by kernel_rfl) (And.intro rfl trivial) ?_
    refine GoO.regionEnd ?_
    refine GoO.seq' c41_14e ?_
    refine GoO.seq' c41_15e ?_
    refine GoO.draw c41_16e (by kernel_rfl) [] [⟨41, b_14, [.int .u64 k_9.Saga, .int .i64 k_9.Step, .bool false]⟩, ⟨1, b_2, [.int .u64 l_1.fence.Term, .int .u64 l_1.fence.Index, .slice A_3 l_1.effects.length c_4, .map (mA A_5), .map (mA A_7)]⟩] [Mp 3 ky41 (fun v => .bool v) A_5 c_6 l_1.said] (n := 6) (by kernel_rfl) ?_
    simp only [List.replicate]
    refine GoF.take [0, 1, 2, 3, 4] [.p, .p, .p, .b 1, .b 0] (ks := [0, 2, 5, 10, 17, 18]) (fu := 1) (li := [true, true, true, true, true, false]) (env' := [(0, .pointer (some ⟨b_2, 0, none⟩)), (2, .string (bs name_10)), (5, .pointer (some ⟨b_12, 0, none⟩)), (10, .pointer (some ⟨b_14, 0, none⟩)), (17, .map (mA A_5)), (18, .agg ⟨[.int .u64 k_9.Saga, .int .i64 k_9.Step, .bool false]⟩)]) (ps := [b_2 = b_2, b_14 = b_14]) (hk := [0, 2]) (bk := [1]) (by kernel_rfl) (And.intro rfl (And.intro rfl trivial)) rfl rfl ?_
    refine OpTo.goF (i := 5) (by kernel_rfl) (hk := [0, 2]) (bk := [1]) (GoO.mapLk (vt := 4) (K := ky41) (ev := (fun v => .bool v)) (A := A_5) (c := c_6) (l := l_1.said) (key := (⟨k_9.Saga, k_9.Step, false⟩ : T_api_Key)) (j := 1) rfl (by kernel_rfl) (by kernel_rfl) (by kernel_rfl) rfl false (fun _ => by kernel_rfl) rfl ⟨rfl, rfl, ?_⟩)
    refine GoF.done (by kernel_rfl) ?_
    refine GoO.ite' c41_17e (by kernel_rfl) (fun h15 => ?_) (fun h15 => ?_)
    · refine GoO.draw c41_18e (by kernel_rfl) [10, 11, 12] [⟨40, b_12, [.int .u64 k_9.Saga, .int .i64 k_9.Step, .bool k_9.Back]⟩, ⟨1, b_2, [.int .u64 l_1.fence.Term, .int .u64 l_1.fence.Index, .slice A_3 l_1.effects.length c_4, .map (mA A_5), .map (mA A_7)]⟩] [] (n := 13) (by kernel_rfl) ?_
      simp only [List.replicate]
      refine GoF.take [0, 1, 2, 3, 4, 5, 6, 7] [.p, .p, .p, .p, .b 1, .b 0, .p, .p] (ks := [0, 5, 20, 24, 27]) (fu := 5) (li := [true, true, true, true, true, true, true, true, false, false, false, false, false]) (env' := [(0, .pointer (some ⟨b_2, 0, none⟩)), (5, .pointer (some ⟨b_12, 0, none⟩)), (20, .pointer (some ⟨b_2, 0, none⟩)), (24, .slice A_3 l_1.effects.length c_4), (27, .agg ⟨[.int .u64 k_9.Saga, .int .i64 k_9.Step, .bool k_9.Back, .string (bs name_10)]⟩)]) (ps := [b_2 = b_2, b_12 = b_12]) (hk := [1, 2]) (bk := []) (by kernel_rfl) (And.intro rfl (And.intro rfl trivial)) rfl rfl ?_
      refine OpTo.goF (i := 8) (by kernel_rfl) (hk := [1, 2]) (bk := []) (GoO.lit (e := 56) (K := kT_ledger_Effect) rfl (by kernel_rfl) (by kernel_rfl) (cs := [.int .u64 k_9.Saga, .int .i64 k_9.Step, .bool k_9.Back, .string (bs name_10)]) (by kernel_rfl) [(⟨k_9, name_10⟩ : T_ledger_Effect)] (by kernel_rfl) (by kernel_rfl) (fun w S hB => ⟨[.int .u64 k_9.Saga, .int .i64 k_9.Step, .bool k_9.Back, .string (bs name_10)], _, rfl, rfl, rfl⟩) 42 _ (fun _ _ => rfl) (fun A_16 c_17 => ⟨rfl, rfl, ?_⟩))
      refine GoF.guard (fun h18 => ?_)
      refine OpTo.goF (i := 9) (by kernel_rfl) (hk := [1, 2]) (bk := []) (GoO.appW (e := 56) (K := kT_ledger_Effect) (A := A_3) (c := c_4) (tg := 2) (bytes := 40) (zs := [.int .u64 0, .int .i64 0, .bool false, .string (bs [])]) (xs := l_1.effects) (ys := [(⟨k_9, name_10⟩ : T_ledger_Effect)]) (xv := .slice A_16 [(⟨k_9, name_10⟩ : T_ledger_Effect)].length c_17) (j := 1) (bk := [0, 2, 3]) rfl (by kernel_rfl) (by kernel_rfl) (by kernel_rfl) (by kernel_rfl) rfl (by kernel_rfl) rfl (fun w S hB => SrcIs.row (Reads.own w S (hB _ (List.mem_of_getElem? (i := 0) rfl)))) h18 rfl rfl rfl rfl _ (fun _ _ => rfl) (fun A_19 c_20 => ⟨rfl, rfl, ?_⟩))
      refine GoF.fin1 (i := 10) (hint := .p) (ps := []) (hk := []) (bk := []) (by kernel_rfl) rfl trivial (.inl rfl) ?_
      refine GoF.fin1 (i := 11) (hint := .p) (ps := []) (hk := []) (bk := []) (by kernel_rfl) rfl trivial (.inl rfl) ?_
      refine GoF.fin1 (i := 12) (hint := .b 2) (ps := [b_2 = b_2]) (hk := []) (bk := []) (by kernel_rfl) rfl (And.intro rfl trivial) (.inl rfl) ?_
      refine GoF.done (by kernel_rfl) ?_
      exact GoO.sub (ks := [0, 5]) (hk := [2, 1]) (bk := [0, 2, 3]) (by kernel_rfl) (by kernel_rfl) (by kernel_rfl) (ledger_Ledger_undo_j0_ok n l_1 k_9 b_2 A_5 c_6 b_12 A_3 c_4 A_7 c_8 w0 S0 (l_1.effects ++ [(⟨k_9, name_10⟩ : T_ledger_Effect)]) l_1.tombs A_19 c_20 A_7 c_8)
    · refine GoO.draw c41_19e (by kernel_rfl) [5] [⟨41, b_14, [.int .u64 k_9.Saga, .int .i64 k_9.Step, .bool false]⟩, ⟨1, b_2, [.int .u64 l_1.fence.Term, .int .u64 l_1.fence.Index, .slice A_3 l_1.effects.length c_4, .map (mA A_5), .map (mA A_7)]⟩] [] (n := 6) (by kernel_rfl) ?_
      simp only [List.replicate]
      refine GoF.take [0, 1, 2, 3, 4] [.p, .p, .p, .b 1, .b 0] (ks := [0, 5, 35, 36]) (fu := 1) (li := [true, true, true, true, true, false]) (env' := [(0, .pointer (some ⟨b_2, 0, none⟩)), (5, .pointer (some ⟨b_12, 0, none⟩)), (35, .map (mA A_7)), (36, .agg ⟨[.int .u64 k_9.Saga, .int .i64 k_9.Step, .bool false]⟩)]) (ps := [b_2 = b_2, b_14 = b_14]) (hk := [0, 2]) (bk := []) (by kernel_rfl) (And.intro rfl (And.intro rfl trivial)) rfl rfl ?_
      refine OpTo.goE (i := 5) (by kernel_rfl) rfl (GoO.mapUp (vt := 4) (K := ky41) (ev := (fun v => .bool v)) (A := A_7) (c := c_8) (tg := 4) (l := l_1.tombs) (key := (⟨k_9.Saga, k_9.Step, false⟩ : T_api_Key)) (v := true) (j := 2) rfl (by kernel_rfl) (by kernel_rfl) (by kernel_rfl) (by kernel_rfl) rfl (by kernel_rfl) (by kernel_rfl) (by kernel_rfl) rfl ?_)
      refine GoF.done (by kernel_rfl) ?_
      exact GoO.sub (ks := [0, 5]) (hk := [2, 1]) (bk := [0, 1, 2]) (by kernel_rfl) (by kernel_rfl) (by kernel_rfl) (ledger_Ledger_undo_j0_ok n l_1 k_9 b_2 A_5 c_6 b_12 A_3 c_4 A_7 c_8 w0 S0 l_1.effects (putA (⟨k_9.Saga, k_9.Step, false⟩ : T_api_Key) true l_1.tombs) A_3 c_4 A_7 c_8)

/-! (*tontine/ledger.Ledger).Ask -/
noncomputable def c23_0 : Code := bodyOf Try.f23
noncomputable def c23_1 : Code := cdL c23_0
noncomputable def c23_2 : Code := cdR c23_0
noncomputable def c23_3 : Code := cdL c23_2
noncomputable def c23_4 : Code := cdL c23_3
noncomputable def c23_5 : Code := cdR c23_3
noncomputable def c23_6 : Code := cdL c23_5
noncomputable def c23_7 : Code := cdL c23_6
noncomputable def c23_8 : Code := cdR c23_6
noncomputable def c23_9 : Code := cdR c23_5
noncomputable def c23_10 : Code := cdR c23_2
noncomputable def c23_11 : Code := cdL c23_10
noncomputable def c23_12 : Code := cdL c23_11
noncomputable def c23_13 : Code := cdR c23_11
noncomputable def c23_14 : Code := cdL c23_13
noncomputable def c23_15 : Code := cdL c23_14
noncomputable def c23_16 : Code := cdR c23_14
noncomputable def c23_17 : Code := cdR c23_13
noncomputable def c23_18 : Code := cdR c23_10
noncomputable def c23_19 : Code := cdL c23_18
noncomputable def c23_20 : Code := cdR c23_18
noncomputable def c23_21 : Code := cdL c23_20
noncomputable def c23_22 : Code := cdL c23_21
noncomputable def c23_23 : Code := cdR c23_21
noncomputable def c23_24 : Code := cdL c23_23
noncomputable def c23_25 : Code := cdR c23_23
noncomputable def c23_26 : Code := cdL c23_25
noncomputable def c23_27 : Code := cdL c23_26
noncomputable def c23_28 : Code := cdR c23_26
noncomputable def c23_29 : Code := cdR c23_25
noncomputable def c23_30 : Code := cdR c23_20
noncomputable def c23_31 : Code := cdL c23_30
noncomputable def c23_32 : Code := cdL c23_31
noncomputable def c23_33 : Code := cdR c23_31
noncomputable def c23_34 : Code := cdL c23_33
noncomputable def c23_35 : Code := cdL c23_34
noncomputable def c23_36 : Code := cdR c23_34
noncomputable def c23_37 : Code := cdR c23_33
noncomputable def c23_38 : Code := cdR c23_30
noncomputable def c23_39 : Code := cdL c23_38
noncomputable def c23_40 : Code := cdL c23_39
noncomputable def c23_41 : Code := cdR c23_39
noncomputable def c23_42 : Code := cdL c23_41
noncomputable def c23_43 : Code := cdL c23_42
noncomputable def c23_44 : Code := cdR c23_42
noncomputable def c23_45 : Code := cdR c23_41
noncomputable def c23_46 : Code := cdR c23_38
noncomputable def c23_47 : Code := cdL c23_46
noncomputable def c23_48 : Code := cdR c23_46
noncomputable def c23_49 : Code := cdL c23_48
noncomputable def c23_50 : Code := cdL c23_49
noncomputable def c23_51 : Code := cdR c23_49
noncomputable def c23_52 : Code := cdL c23_51
noncomputable def c23_53 : Code := cdR c23_51
noncomputable def c23_54 : Code := cdR c23_48
noncomputable def c23_55 : Code := cdL c23_54
noncomputable def c23_56 : Code := cdR c23_54
noncomputable def r23_1 : Array Oper := cdO c23_1
noncomputable def r23_4 : Array Oper := cdO c23_4
noncomputable def r23_7 : Array Oper := cdO c23_7
noncomputable def r23_12 : Array Oper := cdO c23_12
noncomputable def r23_15 : Array Oper := cdO c23_15
noncomputable def r23_19 : Array Oper := cdO c23_19
noncomputable def r23_22 : Array Oper := cdO c23_22
noncomputable def r23_24 : Array Oper := cdO c23_24
noncomputable def r23_27 : Array Oper := cdO c23_27
noncomputable def r23_32 : Array Oper := cdO c23_32
noncomputable def r23_35 : Array Oper := cdO c23_35
noncomputable def r23_40 : Array Oper := cdO c23_40
noncomputable def r23_43 : Array Oper := cdO c23_43
noncomputable def r23_47 : Array Oper := cdO c23_47
noncomputable def r23_50 : Array Oper := cdO c23_50
noncomputable def r23_52 : Array Oper := cdO c23_52
noncomputable def r23_55 : Array Oper := cdO c23_55
theorem c23_0e : c23_0 = .seq c23_1 c23_2 := by kernel_rfl
theorem c23_1e : c23_1 = .region 0 r23_1 false := by kernel_rfl
theorem c23_2e : c23_2 = .seq c23_3 c23_10 := by kernel_rfl
theorem c23_3e : c23_3 = .seq c23_4 c23_5 := by kernel_rfl
theorem c23_4e : c23_4 = .region 1 r23_4 false := by kernel_rfl
theorem c23_5e : c23_5 = .cond (cdC c23_5) c23_6 c23_9 := by kernel_rfl
theorem c23_6e : c23_6 = .seq c23_7 c23_8 := by kernel_rfl
theorem c23_7e : c23_7 = .region 2 r23_7 false := by kernel_rfl
theorem c23_8e : c23_8 = .ret := by kernel_rfl
theorem c23_9e : c23_9 = .skip := by kernel_rfl
theorem c23_10e : c23_10 = .seq c23_11 c23_18 := by kernel_rfl
theorem c23_11e : c23_11 = .seq c23_12 c23_13 := by kernel_rfl
theorem c23_12e : c23_12 = .region 3 r23_12 true := by kernel_rfl
theorem c23_13e : c23_13 = .cond (cdC c23_13) c23_14 c23_17 := by kernel_rfl
theorem c23_14e : c23_14 = .seq c23_15 c23_16 := by kernel_rfl
theorem c23_15e : c23_15 = .region 4 r23_15 false := by kernel_rfl
theorem c23_16e : c23_16 = .ret := by kernel_rfl
theorem c23_17e : c23_17 = .skip := by kernel_rfl
theorem c23_18e : c23_18 = .seq c23_19 c23_20 := by kernel_rfl
theorem c23_19e : c23_19 = .region 5 r23_19 false := by kernel_rfl
theorem c23_20e : c23_20 = .seq c23_21 c23_30 := by kernel_rfl
theorem c23_21e : c23_21 = .seq c23_22 c23_23 := by kernel_rfl
theorem c23_22e : c23_22 = .region 6 r23_22 true := by kernel_rfl
theorem c23_23e : c23_23 = .seq c23_24 c23_25 := by kernel_rfl
theorem c23_24e : c23_24 = .region 7 r23_24 false := by kernel_rfl
theorem c23_25e : c23_25 = .cond (cdC c23_25) c23_26 c23_29 := by kernel_rfl
theorem c23_26e : c23_26 = .seq c23_27 c23_28 := by kernel_rfl
theorem c23_27e : c23_27 = .region 8 r23_27 false := by kernel_rfl
theorem c23_28e : c23_28 = .ret := by kernel_rfl
theorem c23_29e : c23_29 = .skip := by kernel_rfl
theorem c23_30e : c23_30 = .seq c23_31 c23_38 := by kernel_rfl
theorem c23_31e : c23_31 = .seq c23_32 c23_33 := by kernel_rfl
theorem c23_32e : c23_32 = .region 9 r23_32 false := by kernel_rfl
theorem c23_33e : c23_33 = .cond (cdC c23_33) c23_34 c23_37 := by kernel_rfl
theorem c23_34e : c23_34 = .seq c23_35 c23_36 := by kernel_rfl
theorem c23_35e : c23_35 = .region 10 r23_35 false := by kernel_rfl
theorem c23_36e : c23_36 = .ret := by kernel_rfl
theorem c23_37e : c23_37 = .skip := by kernel_rfl
theorem c23_38e : c23_38 = .seq c23_39 c23_46 := by kernel_rfl
theorem c23_39e : c23_39 = .seq c23_40 c23_41 := by kernel_rfl
theorem c23_40e : c23_40 = .region 11 r23_40 true := by kernel_rfl
theorem c23_41e : c23_41 = .cond (cdC c23_41) c23_42 c23_45 := by kernel_rfl
theorem c23_42e : c23_42 = .seq c23_43 c23_44 := by kernel_rfl
theorem c23_43e : c23_43 = .region 12 r23_43 false := by kernel_rfl
theorem c23_44e : c23_44 = .ret := by kernel_rfl
theorem c23_45e : c23_45 = .skip := by kernel_rfl
theorem c23_46e : c23_46 = .seq c23_47 c23_48 := by kernel_rfl
theorem c23_47e : c23_47 = .region 13 r23_47 true := by kernel_rfl
theorem c23_48e : c23_48 = .seq c23_49 c23_54 := by kernel_rfl
theorem c23_49e : c23_49 = .seq c23_50 c23_51 := by kernel_rfl
theorem c23_50e : c23_50 = .region 14 r23_50 false := by kernel_rfl
theorem c23_51e : c23_51 = .cond (cdC c23_51) c23_52 c23_53 := by kernel_rfl
theorem c23_52e : c23_52 = .region 15 r23_52 true := by kernel_rfl
theorem c23_53e : c23_53 = .skip := by kernel_rfl
theorem c23_54e : c23_54 = .seq c23_55 c23_56 := by kernel_rfl
theorem c23_55e : c23_55 = .region 16 r23_55 false := by kernel_rfl
theorem c23_56e : c23_56 = .ret := by kernel_rfl
noncomputable def ledger_Ledger_Ask.R (b_2 : Nat) (A_3 : Option Addr) (c_4 : Nat) (A_5 : Option Addr) (c_6 : Nat) (A_7 : Option Addr) (c_8 : Nat) : Pst (Bool × Int × T_ledger_Ledger) where
  ε := Option Addr × Nat × Option Addr × Nat × Option Addr × Nat
  v := fun r x => .tuple ⟨[.bool r.1, .int .i64 r.2.1]⟩
  H := fun r x => [⟨1, b_2, [.int .u64 r.2.2.fence.Term, .int .u64 r.2.2.fence.Index, .slice x.1 r.2.2.effects.length x.2.1, .map (mA x.2.2.1), .map (mA x.2.2.2.2.1)]⟩]
  B := fun r x => [Ow 2 kT_ledger_Effect x.1 x.2.1 r.2.2.effects, Mp 3 ky41 (fun v => .bool v) x.2.2.1 x.2.2.2.1 r.2.2.said, Mp 4 ky41 (fun v => .bool v) x.2.2.2.2.1 x.2.2.2.2.2 r.2.2.tombs]
noncomputable def ledger_Ledger_Ask.cx (b_2 : Nat) (A_3 : Option Addr) (c_4 : Nat) (A_5 : Option Addr) (c_6 : Nat) (A_7 : Option Addr) (c_8 : Nat) (w0 : World) (S0 : Fam) : Cx (Bool × Int × T_ledger_Ledger) := ⟨Try.prog, 23, Try.f23, 90, w0, S0, [1, 2, 3, 4], 4, ledger_Ledger_Ask.R b_2 A_3 c_4 A_5 c_6 A_7 c_8⟩
theorem ledger_Ledger_Ask_j0_ok (n : Nat) (l_1 : T_ledger_Ledger) (t_9 : T_api_Token) (k_10 : T_api_Key) (name_11 : (List UInt8)) (fail_12 : Bool) (b_2 : Nat) (A_3 : Option Addr) (c_4 : Nat) (A_5 : Option Addr) (c_6 : Nat) (A_7 : Option Addr) (c_8 : Nat) (b_13 : Nat) (b_14 : Nat) (w0 : World) (S0 : Fam) (b_17 : Bool) :
    GoO (ledger_Ledger_Ask.cx b_2 A_3 c_4 A_5 c_6 A_7 c_8 w0 S0) [(0, .pointer (some ⟨b_2, 0, none⟩)), (3, .string (bs name_11)), (4, .bool fail_12), (6, .pointer (some ⟨b_13, 0, none⟩)), (7, .pointer (some ⟨b_14, 0, none⟩)), (30, .bool b_17)] [⟨1, b_2, [.int .u64 l_1.fence.Term, .int .u64 l_1.fence.Index, .slice A_3 l_1.effects.length c_4, .map (mA A_5), .map (mA A_7)]⟩, ⟨40, b_13, [.int .u64 t_9.Term, .int .u64 t_9.Index]⟩, ⟨41, b_14, [.int .u64 k_10.Saga, .int .i64 k_10.Step, .bool k_10.Back]⟩] [Ow 2 kT_ledger_Effect A_3 c_4 l_1.effects, Mp 3 ky41 (fun v => .bool v) A_5 c_6 l_1.said, Mp 4 ky41 (fun v => .bool v) A_7 c_8 l_1.tombs] [.code c23_5, .code c23_10] (ledger_Ledger_Ask.j0 n l_1 t_9 k_10 name_11 fail_12 b_17) := by
  unfold ledger_Ledger_Ask.j0
  refine GoO.ite' c23_5e (by kernel_rfl) (fun h18 => ?_) (fun h18 => ?_)
  · refine GoO.seq' c23_6e ?_
    refine GoO.region' (is := [0, 1]) c23_7e (by kernel_rfl) ?_
    refine GoO.exec (is := [0, 1]) (hs := [.p, .p]) (rest := []) (ks := [10, 11]) (env' := [(10, .bool false), (11, .int .i64 1)]) (H' := [⟨1, b_2, [.int .u64 l_1.fence.Term, .int .u64 l_1.fence.Index, .slice A_3 l_1.effects.length c_4, .map (mA A_5), .map (mA A_7)]⟩, ⟨40, b_13, [.int .u64 t_9.Term, .int .u64 t_9.Index]⟩, ⟨41, b_14, [.int .u64 k_10.Saga, .int .i64 k_10.Step, .bool k_10.Back]⟩]) (ps := []) (by kernel_rfl) trivial ?_
    refine GoO.regionEnd ?_
    exact GoO.ret' (h := c23_8e) (hs := []) (ps := []) (hk := [0]) (bk := [0, 1, 2]) Try.func23 (⟨A_3, c_4, A_5, c_6, A_7, c_8⟩ : Option Addr × Nat × Option Addr × Nat × Option Addr × Nat) (by kernel_rfl) trivial (by kernel_rfl) (by kernel_rfl)
  · refine GoO.skip' c23_9e ?_
    refine GoO.seq' c23_10e ?_
    refine GoO.seq' c23_11e ?_
    refine GoO.draw c23_12e (by kernel_rfl) [] [⟨1, b_2, [.int .u64 l_1.fence.Term, .int .u64 l_1.fence.Index, .slice A_3 l_1.effects.length c_4, .map (mA A_5), .map (mA A_7)]⟩, ⟨40, b_13, [.int .u64 t_9.Term, .int .u64 t_9.Index]⟩] [] (n := 6) (by kernel_rfl) ?_
    simp only [List.replicate]
    refine GoF.take [0, 1, 2, 3, 4] [.b 1, .p, .p, .p, .b 0] (ks := [0, 3, 4, 6, 7, 31, 35]) (fu := 1) (li := [true, true, true, true, true, false]) (env' := [(0, .pointer (some ⟨b_2, 0, none⟩)), (3, .string (bs name_11)), (4, .bool fail_12), (6, .pointer (some ⟨b_13, 0, none⟩)), (7, .pointer (some ⟨b_14, 0, none⟩)), (31, .agg ⟨[.int .u64 t_9.Term, .int .u64 t_9.Index]⟩), (35, .agg ⟨[.int .u64 l_1.fence.Term, .int .u64 l_1.fence.Index]⟩)]) (ps := [b_13 = b_13, b_2 = b_2]) (hk := [0, 1]) (bk := []) (by kernel_rfl) (And.intro rfl (And.intro rfl trivial)) rfl rfl ?_
    refine OpTo.goF (i := 5) (by kernel_rfl) (hk := [0, 1]) (bk := []) (GoO.call rfl (by kernel_rfl) (by kernel_rfl) (ledger_Less_ok n t_9 (⟨l_1.fence.Term, l_1.fence.Index⟩ : T_api_Token)) [[0]] [] [] [] (hks := [0, 1, 2]) (bks := [0, 1, 2]) (by kernel_rfl) (by kernel_rfl) (by kernel_rfl) (.inl rfl) rfl rfl (by kernel_rfl) (by kernel_rfl) _ (fun _ _ => rfl) _ _ (fun _ _ => rfl) (fun _ _ => rfl) (fun _ _ => by kernel_rfl) (fun _ _ => by kernel_rfl) (fun r_19 x_38 => ⟨rfl, rfl, ?_⟩))
    refine GoF.shape (env' := [(0, .pointer (some ⟨b_2, 0, none⟩)), (3, .string (bs name_11)), (4, .bool fail_12), (6, .pointer (some ⟨b_13, 0, none⟩)), (7, .pointer (some ⟨b_14, 0, none⟩)), (31, .agg ⟨[.int .u64 t_9.Term, .int .u64 t_9.Index]⟩), (35, .agg ⟨[.int .u64 l_1.fence.Term, .int .u64 l_1.fence.Index]⟩), (36, .bool r_19)]) (H' := [⟨1, b_2, [.int .u64 l_1.fence.Term, .int .u64 l_1.fence.Index, .slice A_3 l_1.effects.length c_4, .map (mA A_5), .map (mA A_7)]⟩, ⟨40, b_13, [.int .u64 t_9.Term, .int .u64 t_9.Index]⟩, ⟨41, b_14, [.int .u64 k_10.Saga, .int .i64 k_10.Step, .bool k_10.Back]⟩]) (B' := [Ow 2 kT_ledger_Effect A_3 c_4 l_1.effects, Mp 3 ky41 (fun v => .bool v) A_5 c_6 l_1.said, Mp 4 ky41 (fun v => .bool v) A_7 c_8 l_1.tombs]) (ks := [0, 3, 4, 6, 7, 31, 35, 36]) (by kernel_rfl) (by kernel_rfl) (by kernel_rfl) ?_
    refine GoF.done (by kernel_rfl) ?_
    refine GoO.ite' c23_13e (by kernel_rfl) (fun h20 => ?_) (fun h20 => ?_)
    · refine GoO.seq' c23_14e ?_
      refine GoO.region' (is := [0, 1]) c23_15e (by kernel_rfl) ?_
      refine GoO.exec (is := [0, 1]) (hs := [.p, .p]) (rest := []) (ks := [10, 11]) (env' := [(10, .bool false), (11, .int .i64 50)]) (H' := [⟨1, b_2, [.int .u64 l_1.fence.Term, .int .u64 l_1.fence.Index, .slice A_3 l_1.effects.length c_4, .map (mA A_5), .map (mA A_7)]⟩, ⟨40, b_13, [.int .u64 t_9.Term, .int .u64 t_9.Index]⟩, ⟨41, b_14, [.int .u64 k_10.Saga, .int .i64 k_10.Step, .bool k_10.Back]⟩]) (ps := []) (by kernel_rfl) trivial ?_
      refine GoO.regionEnd ?_
      exact GoO.ret' (h := c23_16e) (hs := []) (ps := []) (hk := [0]) (bk := [0, 1, 2]) Try.func23 (⟨A_3, c_4, A_5, c_6, A_7, c_8⟩ : Option Addr × Nat × Option Addr × Nat × Option Addr × Nat) (by kernel_rfl) trivial (by kernel_rfl) (by kernel_rfl)
    · refine GoO.skip' c23_17e ?_
      refine GoO.seq' c23_18e ?_
      refine GoO.region' (is := [0, 1, 2, 3, 4]) c23_19e (by kernel_rfl) ?_
      refine GoO.exec (is := [0, 1, 2, 3, 4]) (hs := [.p, .b 1, .p, .p, .b 0]) (rest := []) (ks := [0, 3, 4, 7]) (env' := [(0, .pointer (some ⟨b_2, 0, none⟩)), (3, .string (bs name_11)), (4, .bool fail_12), (7, .pointer (some ⟨b_14, 0, none⟩))]) (H' := [⟨1, b_2, [.int .u64 t_9.Term, .int .u64 t_9.Index, .slice A_3 l_1.effects.length c_4, .map (mA A_5), .map (mA A_7)]⟩, ⟨40, b_13, [.int .u64 t_9.Term, .int .u64 t_9.Index]⟩, ⟨41, b_14, [.int .u64 k_10.Saga, .int .i64 k_10.Step, .bool k_10.Back]⟩]) (ps := [b_13 = b_13, b_2 = b_2]) (by kernel_rfl) (And.intro rfl (And.intro rfl trivial)) ?_
      refine GoO.regionEnd ?_
      refine GoO.seq' c23_20e ?_
      refine GoO.seq' c23_21e ?_
      refine GoO.draw c23_22e (by kernel_rfl) [10] [⟨1, b_2, [.int .u64 t_9.Term, .int .u64 t_9.Index, .slice A_3 l_1.effects.length c_4, .map (mA A_5), .map (mA A_7)]⟩, ⟨41, b_14, [.int .u64 k_10.Saga, .int .i64 k_10.Step, .bool k_10.Back]⟩] [Mp 3 ky41 (fun v => .bool v) A_5 c_6 l_1.said] (n := 11) (by kernel_rfl) ?_
      simp only [List.replicate]
      refine GoF.take [0, 1, 2, 3, 4] [.p, .p, .p, .b 0, .b 1] (ks := [0, 3, 4, 7, 45, 46]) (fu := 6) (li := [true, true, true, true, true, false, false, false, false, false, false]) (env' := [(0, .pointer (some ⟨b_2, 0, none⟩)), (3, .string (bs name_11)), (4, .bool fail_12), (7, .pointer (some ⟨b_14, 0, none⟩)), (45, .map (mA A_5)), (46, .agg ⟨[.int .u64 k_10.Saga, .int .i64 k_10.Step, .bool k_10.Back]⟩)]) (ps := [b_2 = b_2, b_14 = b_14]) (hk := [0, 2]) (bk := [1]) (by kernel_rfl) (And.intro rfl (And.intro rfl trivial)) rfl rfl ?_
      refine OpTo.goF (i := 5) (by kernel_rfl) (hk := [0, 2]) (bk := [1]) (GoO.mapLk (vt := 4) (K := ky41) (ev := (fun v => .bool v)) (A := A_5) (c := c_6) (l := l_1.said) (key := k_10) (j := 1) rfl (by kernel_rfl) (by kernel_rfl) (by kernel_rfl) rfl false (fun _ => by kernel_rfl) rfl ⟨rfl, rfl, ?_⟩)
      refine GoF.take [6, 7, 8, 9] [.p, .p, .p, .p] (ks := [0, 3, 4, 7, 12, 49]) (fu := 1) (li := [true, true, true, true, true, true, true, true, true, true, false]) (env' := [(0, .pointer (some ⟨b_2, 0, none⟩)), (3, .string (bs name_11)), (4, .bool fail_12), (7, .pointer (some ⟨b_14, 0, none⟩)), (12, .bool ((getA k_10 l_1.said).getD false)), (49, .bool ((getA k_10 l_1.said).isSome))]) (ps := []) (hk := [0, 2]) (bk := [1]) (by kernel_rfl) trivial rfl rfl ?_
      refine GoF.fin1 (i := 10) (hint := .p) (ps := []) (hk := []) (bk := []) (by kernel_rfl) rfl trivial (.inl rfl) ?_
      refine GoF.done (by kernel_rfl) ?_
      refine GoO.seq' c23_23e ?_
      refine GoO.region' (is := [0]) c23_24e (by kernel_rfl) ?_
      refine GoO.exec (is := [0]) (hs := [.p]) (rest := []) (ks := [0, 3, 4, 7, 12, 50]) (env' := [(0, .pointer (some ⟨b_2, 0, none⟩)), (3, .string (bs name_11)), (4, .bool fail_12), (7, .pointer (some ⟨b_14, 0, none⟩)), (12, .bool ((getA k_10 l_1.said).getD false)), (50, .bool ((getA k_10 l_1.said).isSome))]) (H' := [⟨1, b_2, [.int .u64 t_9.Term, .int .u64 t_9.Index, .slice A_3 l_1.effects.length c_4, .map (mA A_5), .map (mA A_7)]⟩, ⟨40, b_13, [.int .u64 t_9.Term, .int .u64 t_9.Index]⟩, ⟨41, b_14, [.int .u64 k_10.Saga, .int .i64 k_10.Step, .bool k_10.Back]⟩]) (ps := []) (by kernel_rfl) trivial ?_
      refine GoO.regionEnd ?_
      refine GoO.ite' c23_25e (by kernel_rfl) (fun h21 => ?_) (fun h21 => ?_)
      · refine GoO.seq' c23_26e ?_
        refine GoO.region' (is := [0, 1, 2]) c23_27e (by kernel_rfl) ?_
        refine GoO.exec (is := [0, 1, 2]) (hs := [.p, .p, .p]) (rest := []) (ks := [10, 11]) (env' := [(10, .bool ((getA k_10 l_1.said).getD false)), (11, .int .i64 0)]) (H' := [⟨1, b_2, [.int .u64 t_9.Term, .int .u64 t_9.Index, .slice A_3 l_1.effects.length c_4, .map (mA A_5), .map (mA A_7)]⟩, ⟨40, b_13, [.int .u64 t_9.Term, .int .u64 t_9.Index]⟩, ⟨41, b_14, [.int .u64 k_10.Saga, .int .i64 k_10.Step, .bool k_10.Back]⟩]) (ps := []) (by kernel_rfl) trivial ?_
        refine GoO.regionEnd ?_
        exact GoO.ret' (h := c23_28e) (hs := []) (ps := []) (hk := [0]) (bk := [0, 1, 2]) Try.func23 (⟨A_3, c_4, A_5, c_6, A_7, c_8⟩ : Option Addr × Nat × Option Addr × Nat × Option Addr × Nat) (by kernel_rfl) trivial (by kernel_rfl) (by kernel_rfl)
      · refine GoO.skip' c23_29e ?_
        refine GoO.seq' c23_30e ?_
        refine GoO.seq' c23_31e ?_
        refine GoO.region' (is := [0, 1]) c23_32e (by kernel_rfl) ?_
        refine GoO.exec (is := [0, 1]) (hs := [.p, .b 2]) (rest := []) (ks := [0, 3, 4, 7, 53]) (env' := [(0, .pointer (some ⟨b_2, 0, none⟩)), (3, .string (bs name_11)), (4, .bool fail_12), (7, .pointer (some ⟨b_14, 0, none⟩)), (53, .bool k_10.Back)]) (H' := [⟨1, b_2, [.int .u64 t_9.Term, .int .u64 t_9.Index, .slice A_3 l_1.effects.length c_4, .map (mA A_5), .map (mA A_7)]⟩, ⟨40, b_13, [.int .u64 t_9.Term, .int .u64 t_9.Index]⟩, ⟨41, b_14, [.int .u64 k_10.Saga, .int .i64 k_10.Step, .bool k_10.Back]⟩]) (ps := [b_14 = b_14]) (by kernel_rfl) (And.intro rfl trivial) ?_
        refine GoO.regionEnd ?_
        refine GoO.ite' c23_33e (by kernel_rfl) (fun h22 => ?_) (fun h22 => ?_)
        · refine GoO.seq' c23_34e ?_
          refine GoO.region' (is := [0, 1, 2, 3, 4, 5, 6, 7, 8]) c23_35e (by kernel_rfl) ?_
          refine GoO.exec (is := [0, 1, 2, 3]) (hs := [.p, .b 2, .p, .p]) (rest := [4, 5, 6, 7, 8]) (ks := [54, 55, 56, 57]) (env' := [(54, .pointer (some ⟨b_2, 0, none⟩)), (55, .agg ⟨[.int .u64 k_10.Saga, .int .i64 k_10.Step, .bool k_10.Back]⟩), (56, .string (bs name_11)), (57, .bool fail_12)]) (H' := [⟨1, b_2, [.int .u64 t_9.Term, .int .u64 t_9.Index, .slice A_3 l_1.effects.length c_4, .map (mA A_5), .map (mA A_7)]⟩, ⟨40, b_13, [.int .u64 t_9.Term, .int .u64 t_9.Index]⟩, ⟨41, b_14, [.int .u64 k_10.Saga, .int .i64 k_10.Step, .bool k_10.Back]⟩]) (ps := [b_14 = b_14]) (by kernel_rfl) (And.intro rfl trivial) ?_
          refine OpTo.go (GoO.call rfl (by kernel_rfl) (by kernel_rfl) (ledger_Ledger_undo_ok n (⟨t_9, l_1.effects, l_1.said, l_1.tombs⟩ : T_ledger_Ledger) k_10 name_11 fail_12 b_2 A_3 c_4 A_5 c_6 A_7 c_8) [[0], [1], [2], [3], [4]] [(1, 1), (2, 2), (3, 3), (4, 4)] [(1, 0)] [(2, 0), (3, 1), (4, 2)] (hks := [1, 2]) (bks := []) (by kernel_rfl) (by kernel_rfl) (by kernel_rfl) (.inl rfl) rfl rfl (by kernel_rfl) (by kernel_rfl) _ (fun _ _ => rfl) _ _ (fun _ _ => rfl) (fun _ _ => rfl) (fun _ _ => by kernel_rfl) (fun _ _ => by kernel_rfl) (fun r_23 x_30 => ?_))
          obtain ⟨A_24, c_25, A_26, c_27, A_28, c_29⟩ := x_30
          refine GoO.shape (env' := [(54, .pointer (some ⟨b_2, 0, none⟩)), (55, .agg ⟨[.int .u64 k_10.Saga, .int .i64 k_10.Step, .bool k_10.Back]⟩), (56, .string (bs name_11)), (57, .bool fail_12), (58, .tuple ⟨[.bool r_23.1, .int .i64 r_23.2.1]⟩)]) (H' := [⟨1, b_2, [.int .u64 r_23.2.2.fence.Term, .int .u64 r_23.2.2.fence.Index, .slice A_24 r_23.2.2.effects.length c_25, .map (mA A_26), .map (mA A_28)]⟩, ⟨40, b_13, [.int .u64 t_9.Term, .int .u64 t_9.Index]⟩, ⟨41, b_14, [.int .u64 k_10.Saga, .int .i64 k_10.Step, .bool k_10.Back]⟩]) (B' := [Ow 2 kT_ledger_Effect A_24 c_25 r_23.2.2.effects, Mp 3 ky41 (fun v => .bool v) A_26 c_27 r_23.2.2.said, Mp 4 ky41 (fun v => .bool v) A_28 c_29 r_23.2.2.tombs]) (ks := [54, 55, 56, 57, 58]) (by kernel_rfl) (by kernel_rfl) (by kernel_rfl) ?_
          refine GoO.exec (is := [5, 6, 7, 8]) (hs := [.p, .p, .p, .p]) (rest := []) (ks := [10, 11]) (env' := [(10, .bool r_23.1), (11, .int .i64 r_23.2.1)]) (H' := [⟨1, b_2, [.int .u64 r_23.2.2.fence.Term, .int .u64 r_23.2.2.fence.Index, .slice A_24 r_23.2.2.effects.length c_25, .map (mA A_26), .map (mA A_28)]⟩, ⟨40, b_13, [.int .u64 t_9.Term, .int .u64 t_9.Index]⟩, ⟨41, b_14, [.int .u64 k_10.Saga, .int .i64 k_10.Step, .bool k_10.Back]⟩]) (ps := []) (by kernel_rfl) trivial ?_
          refine GoO.regionEnd ?_
          exact GoO.ret' (h := c23_36e) (hs := []) (ps := []) (hk := [0]) (bk := [0, 1, 2]) Try.func23 (⟨A_24, c_25, A_26, c_27, A_28, c_29⟩ : Option Addr × Nat × Option Addr × Nat × Option Addr × Nat) (by kernel_rfl) trivial (by kernel_rfl) (by kernel_rfl)
        · refine GoO.skip' c23_37e ?_
          refine GoO.seq' c23_38e ?_
          refine GoO.seq' c23_39e ?_
          refine GoO.draw c23_40e (by kernel_rfl) [] [⟨1, b_2, [.int .u64 t_9.Term, .int .u64 t_9.Index, .slice A_3 l_1.effects.length c_4, .map (mA A_5), .map (mA A_7)]⟩, ⟨41, b_14, [.int .u64 k_10.Saga, .int .i64 k_10.Step, .bool k_10.Back]⟩] [Mp 4 ky41 (fun v => .bool v) A_7 c_8 l_1.tombs] (n := 6) (by kernel_rfl) ?_
          simp only [List.replicate]
          refine GoF.take [0, 1, 2, 3, 4] [.p, .p, .p, .b 0, .b 1] (ks := [0, 3, 4, 7, 64, 65]) (fu := 1) (li := [true, true, true, true, true, false]) (env' := [(0, .pointer (some ⟨b_2, 0, none⟩)), (3, .string (bs name_11)), (4, .bool fail_12), (7, .pointer (some ⟨b_14, 0, none⟩)), (64, .map (mA A_7)), (65, .agg ⟨[.int .u64 k_10.Saga, .int .i64 k_10.Step, .bool k_10.Back]⟩)]) (ps := [b_2 = b_2, b_14 = b_14]) (hk := [0, 2]) (bk := [2]) (by kernel_rfl) (And.intro rfl (And.intro rfl trivial)) rfl rfl ?_
          refine OpTo.goF (i := 5) (by kernel_rfl) (hk := [0, 2]) (bk := [2]) (GoO.mapLk (vt := 4) (K := ky41) (ev := (fun v => .bool v)) (A := A_7) (c := c_8) (l := l_1.tombs) (key := k_10) (j := 2) rfl (by kernel_rfl) (by kernel_rfl) (by kernel_rfl) rfl false (fun _ => by kernel_rfl) rfl ⟨rfl, rfl, ?_⟩)
          refine GoF.done (by kernel_rfl) ?_
          refine GoO.ite' c23_41e (by kernel_rfl) (fun h31 => ?_) (fun h31 => ?_)
          · refine GoO.seq' c23_42e ?_
            refine GoO.region' (is := [0, 1]) c23_43e (by kernel_rfl) ?_
            refine GoO.exec (is := [0, 1]) (hs := [.p, .p]) (rest := []) (ks := [10, 11]) (env' := [(10, .bool false), (11, .int .i64 51)]) (H' := [⟨1, b_2, [.int .u64 t_9.Term, .int .u64 t_9.Index, .slice A_3 l_1.effects.length c_4, .map (mA A_5), .map (mA A_7)]⟩, ⟨40, b_13, [.int .u64 t_9.Term, .int .u64 t_9.Index]⟩, ⟨41, b_14, [.int .u64 k_10.Saga, .int .i64 k_10.Step, .bool k_10.Back]⟩]) (ps := []) (by kernel_rfl) trivial ?_
            refine GoO.regionEnd ?_
            exact GoO.ret' (h := c23_44e) (hs := []) (ps := []) (hk := [0]) (bk := [0, 1, 2]) Try.func23 (⟨A_3, c_4, A_5, c_6, A_7, c_8⟩ : Option Addr × Nat × Option Addr × Nat × Option Addr × Nat) (by kernel_rfl) trivial (by kernel_rfl) (by kernel_rfl)
          · refine GoO.skip' c23_45e ?_
            refine GoO.seq' c23_46e ?_
            refine GoO.draw c23_47e (by kernel_rfl) [7] [⟨1, b_2, [.int .u64 t_9.Term, .int .u64 t_9.Index, .slice A_3 l_1.effects.length c_4, .map (mA A_5), .map (mA A_7)]⟩, ⟨41, b_14, [.int .u64 k_10.Saga, .int .i64 k_10.Step, .bool k_10.Back]⟩] [] (n := 8) (by kernel_rfl) ?_
            simp only [List.replicate]
            refine GoF.take [0, 1, 2, 3, 4, 5, 6] [.p, .p, .p, .b 0, .b 1, .p, .p] (ks := [0, 3, 4, 7, 70, 71, 73]) (fu := 1) (li := [true, true, true, true, true, true, true, false]) (env' := [(0, .pointer (some ⟨b_2, 0, none⟩)), (3, .string (bs name_11)), (4, .bool fail_12), (7, .pointer (some ⟨b_14, 0, none⟩)), (70, .map (mA A_5)), (71, .agg ⟨[.int .u64 k_10.Saga, .int .i64 k_10.Step, .bool k_10.Back]⟩), (73, .bool (!fail_12))]) (ps := [b_2 = b_2, b_14 = b_14]) (hk := [0, 2]) (bk := []) (by kernel_rfl) (And.intro rfl (And.intro rfl trivial)) rfl rfl ?_
            refine OpTo.goE (i := 7) (by kernel_rfl) rfl (GoO.mapUp (vt := 4) (K := ky41) (ev := (fun v => .bool v)) (A := A_5) (c := c_6) (tg := 3) (l := l_1.said) (key := k_10) (v := (!fail_12)) (j := 1) rfl (by kernel_rfl) (by kernel_rfl) (by kernel_rfl) (by kernel_rfl) rfl (by kernel_rfl) (by kernel_rfl) (by kernel_rfl) rfl ?_)
            refine GoF.done (by kernel_rfl) ?_
            refine GoO.seq' c23_48e ?_
            refine GoO.seq' c23_49e ?_
            refine GoO.region' (is := [0, 1]) c23_50e (by kernel_rfl) ?_
            refine GoO.exec (is := [0, 1]) (hs := [.p, .p]) (rest := []) (ks := [0, 3, 4, 7, 75]) (env' := [(0, .pointer (some ⟨b_2, 0, none⟩)), (3, .string (bs name_11)), (4, .bool fail_12), (7, .pointer (some ⟨b_14, 0, none⟩)), (75, .bool (!fail_12))]) (H' := [⟨1, b_2, [.int .u64 t_9.Term, .int .u64 t_9.Index, .slice A_3 l_1.effects.length c_4, .map (mA A_5), .map (mA A_7)]⟩, ⟨40, b_13, [.int .u64 t_9.Term, .int .u64 t_9.Index]⟩, ⟨41, b_14, [.int .u64 k_10.Saga, .int .i64 k_10.Step, .bool k_10.Back]⟩]) (ps := []) (by kernel_rfl) trivial ?_
            refine GoO.regionEnd ?_
            refine GoO.ite' c23_51e (by kernel_rfl) (fun h32 => ?_) (fun h32 => ?_)
            · refine GoO.draw c23_52e (by kernel_rfl) [10, 11, 12] [⟨1, b_2, [.int .u64 t_9.Term, .int .u64 t_9.Index, .slice A_3 l_1.effects.length c_4, .map (mA A_5), .map (mA A_7)]⟩, ⟨41, b_14, [.int .u64 k_10.Saga, .int .i64 k_10.Step, .bool k_10.Back]⟩] [] (n := 13) (by kernel_rfl) ?_
              simp only [List.replicate]
              refine GoF.take [0, 1, 2, 3, 4, 5, 6, 7] [.p, .p, .p, .p, .b 0, .b 1, .p, .p] (ks := [4, 76, 80, 83]) (fu := 5) (li := [true, true, true, true, true, true, true, true, false, false, false, false, false]) (env' := [(4, .bool fail_12), (76, .pointer (some ⟨b_2, 0, none⟩)), (80, .slice A_3 l_1.effects.length c_4), (83, .agg ⟨[.int .u64 k_10.Saga, .int .i64 k_10.Step, .bool k_10.Back, .string (bs name_11)]⟩)]) (ps := [b_2 = b_2, b_14 = b_14]) (hk := [0, 2]) (bk := []) (by kernel_rfl) (And.intro rfl (And.intro rfl trivial)) rfl rfl ?_
              refine OpTo.goF (i := 8) (by kernel_rfl) (hk := [0, 2]) (bk := []) (GoO.lit (e := 56) (K := kT_ledger_Effect) rfl (by kernel_rfl) (by kernel_rfl) (cs := [.int .u64 k_10.Saga, .int .i64 k_10.Step, .bool k_10.Back, .string (bs name_11)]) (by kernel_rfl) [(⟨k_10, name_11⟩ : T_ledger_Effect)] (by kernel_rfl) (by kernel_rfl) (fun w S hB => ⟨[.int .u64 k_10.Saga, .int .i64 k_10.Step, .bool k_10.Back, .string (bs name_11)], _, rfl, rfl, rfl⟩) 42 _ (fun _ _ => rfl) (fun A_33 c_34 => ⟨rfl, rfl, ?_⟩))
              refine GoF.guard (fun h35 => ?_)
              refine OpTo.goF (i := 9) (by kernel_rfl) (hk := [0, 2]) (bk := []) (GoO.appW (e := 56) (K := kT_ledger_Effect) (A := A_3) (c := c_4) (tg := 2) (bytes := 40) (zs := [.int .u64 0, .int .i64 0, .bool false, .string (bs [])]) (xs := l_1.effects) (ys := [(⟨k_10, name_11⟩ : T_ledger_Effect)]) (xv := .slice A_33 [(⟨k_10, name_11⟩ : T_ledger_Effect)].length c_34) (j := 1) (bk := [0, 2, 3]) rfl (by kernel_rfl) (by kernel_rfl) (by kernel_rfl) (by kernel_rfl) rfl (by kernel_rfl) rfl (fun w S hB => SrcIs.row (Reads.own w S (hB _ (List.mem_of_getElem? (i := 0) rfl)))) h35 rfl rfl rfl rfl _ (fun _ _ => rfl) (fun A_36 c_37 => ⟨rfl, rfl, ?_⟩))
              refine GoF.fin1 (i := 10) (hint := .p) (ps := []) (hk := []) (bk := []) (by kernel_rfl) rfl trivial (.inl rfl) ?_
              refine GoF.fin1 (i := 11) (hint := .p) (ps := []) (hk := []) (bk := []) (by kernel_rfl) rfl trivial (.inl rfl) ?_
              refine GoF.fin1 (i := 12) (hint := .b 0) (ps := [b_2 = b_2]) (hk := []) (bk := []) (by kernel_rfl) rfl (And.intro rfl trivial) (.inl rfl) ?_
              refine GoF.done (by kernel_rfl) ?_
              refine GoO.seq' c23_54e ?_
              refine GoO.region' (is := [0, 1, 2, 3]) c23_55e (by kernel_rfl) ?_
              refine GoO.exec (is := [0, 1, 2, 3]) (hs := [.p, .p, .p, .p]) (rest := []) (ks := [10, 11]) (env' := [(10, .bool (!fail_12)), (11, .int .i64 0)]) (H' := [⟨1, b_2, [.int .u64 t_9.Term, .int .u64 t_9.Index, .slice A_36 (l_1.effects ++ [(⟨k_10, name_11⟩ : T_ledger_Effect)]).length c_37, .map (mA A_5), .map (mA A_7)]⟩, ⟨40, b_13, [.int .u64 t_9.Term, .int .u64 t_9.Index]⟩, ⟨41, b_14, [.int .u64 k_10.Saga, .int .i64 k_10.Step, .bool k_10.Back]⟩]) (ps := []) (by kernel_rfl) trivial ?_
              refine GoO.regionEnd ?_
              exact GoO.ret' (h := c23_56e) (hs := []) (ps := []) (hk := [0]) (bk := [0, 2, 3]) Try.func23 (⟨A_36, c_37, A_5, c_6, A_7, c_8⟩ : Option Addr × Nat × Option Addr × Nat × Option Addr × Nat) (by kernel_rfl) trivial (by kernel_rfl) (by kernel_rfl)
            · refine GoO.skip' c23_53e ?_
              refine GoO.seq' c23_54e ?_
              refine GoO.region' (is := [0, 1, 2, 3]) c23_55e (by kernel_rfl) ?_
              refine GoO.exec (is := [0, 1, 2, 3]) (hs := [.p, .p, .p, .p]) (rest := []) (ks := [10, 11]) (env' := [(10, .bool (!fail_12)), (11, .int .i64 0)]) (H' := [⟨1, b_2, [.int .u64 t_9.Term, .int .u64 t_9.Index, .slice A_3 l_1.effects.length c_4, .map (mA A_5), .map (mA A_7)]⟩, ⟨40, b_13, [.int .u64 t_9.Term, .int .u64 t_9.Index]⟩, ⟨41, b_14, [.int .u64 k_10.Saga, .int .i64 k_10.Step, .bool k_10.Back]⟩]) (ps := []) (by kernel_rfl) trivial ?_
              refine GoO.regionEnd ?_
              exact GoO.ret' (h := c23_56e) (hs := []) (ps := []) (hk := [0]) (bk := [0, 1, 2]) Try.func23 (⟨A_3, c_4, A_5, c_6, A_7, c_8⟩ : Option Addr × Nat × Option Addr × Nat × Option Addr × Nat) (by kernel_rfl) trivial (by kernel_rfl) (by kernel_rfl)
theorem ledger_Ledger_Ask_ok (n : Nat) (l_1 : T_ledger_Ledger) (t_9 : T_api_Token) (k_10 : T_api_Key) (name_11 : (List UInt8)) (fail_12 : Bool) (b_2 : Nat) (A_3 : Option Addr) (c_4 : Nat) (A_5 : Option Addr) (c_6 : Nat) (A_7 : Option Addr) (c_8 : Nat) :
    Meets Try.prog 23 [.pointer (some ⟨b_2, 0, none⟩), .agg ⟨[.int .u64 t_9.Term, .int .u64 t_9.Index]⟩, .agg ⟨[.int .u64 k_10.Saga, .int .i64 k_10.Step, .bool k_10.Back]⟩, .string (bs name_11), .bool fail_12] 4 [1, 2, 3, 4] [⟨1, b_2, [.int .u64 l_1.fence.Term, .int .u64 l_1.fence.Index, .slice A_3 l_1.effects.length c_4, .map (mA A_5), .map (mA A_7)]⟩] [Ow 2 kT_ledger_Effect A_3 c_4 l_1.effects, Mp 3 ky41 (fun v => .bool v) A_5 c_6 l_1.said, Mp 4 ky41 (fun v => .bool v) A_7 c_8 l_1.tombs] (ledger_Ledger_Ask.f n l_1 t_9 k_10 name_11 fail_12) (ledger_Ledger_Ask.R b_2 A_3 c_4 A_5 c_6 A_7 c_8) := by
  refine Meets.of (c := c23_0) (n := 90) Try.func23 (by kernel_rfl) (by kernel_rfl) (by kernel_rfl) fun w0 S0 => ?_
  unfold ledger_Ledger_Ask.f
  show GoO (ledger_Ledger_Ask.cx b_2 A_3 c_4 A_5 c_6 A_7 c_8 w0 S0) [(0, .pointer (some ⟨b_2, 0, none⟩)), (1, .agg ⟨[.int .u64 t_9.Term, .int .u64 t_9.Index]⟩), (2, .agg ⟨[.int .u64 k_10.Saga, .int .i64 k_10.Step, .bool k_10.Back]⟩), (3, .string (bs name_11)), (4, .bool fail_12)] [⟨1, b_2, [.int .u64 l_1.fence.Term, .int .u64 l_1.fence.Index, .slice A_3 l_1.effects.length c_4, .map (mA A_5), .map (mA A_7)]⟩] [Ow 2 kT_ledger_Effect A_3 c_4 l_1.effects, Mp 3 ky41 (fun v => .bool v) A_5 c_6 l_1.said, Mp 4 ky41 (fun v => .bool v) A_7 c_8 l_1.tombs] [.code c23_0] _
  refine GoO.seq' c23_0e ?_
  refine GoO.region' (is := [0, 1, 2, 3]) c23_1e (by kernel_rfl) ?_
  refine OpTo.go (GoO.new rfl 40 (cs := [.int .u64 t_9.Term, .int .u64 t_9.Index]) (by kernel_rfl) _ (fun _ => rfl) (fun b_13 => ?_))
  refine OpTo.go (GoO.new rfl 41 (cs := [.int .u64 k_10.Saga, .int .i64 k_10.Step, .bool k_10.Back]) (by kernel_rfl) _ (fun _ => rfl) (fun b_14 => ?_))
  refine GoO.exec (is := [2, 3]) (hs := [.p, .p]) (rest := []) (ks := [0, 3, 4, 6, 7]) (env' := [(0, .pointer (some ⟨b_2, 0, none⟩)), (3, .string (bs name_11)), (4, .bool fail_12), (6, .pointer (some ⟨b_13, 0, none⟩)), (7, .pointer (some ⟨b_14, 0, none⟩))]) (H' := [⟨41, b_14, [.int .u64 k_10.Saga, .int .i64 k_10.Step, .bool k_10.Back]⟩, ⟨40, b_13, [.int .u64 t_9.Term, .int .u64 t_9.Index]⟩, ⟨1, b_2, [.int .u64 l_1.fence.Term, .int .u64 l_1.fence.Index, .slice A_3 l_1.effects.length c_4, .map (mA A_5), .map (mA A_7)]⟩]) (ps := []) (by kernel_rfl) trivial ?_
  refine GoO.regionEnd ?_
  refine GoO.seq' c23_2e ?_
  refine GoO.seq' c23_3e ?_
  refine GoO.region' (is := [0, 1, 2, 3, 4, 5, 6, 7, 8, 9, 10, 11, 12, 13, 14, 15, 16]) c23_4e (by kernel_rfl) ?_
  refine GoO.exec (is := [0, 1, 2, 3, 4, 5, 6, 7]) (hs := [.p, .p, .p, .p, .b 0, .p, .p, .p]) (rest := [8, 9, 10, 11, 12, 13, 14, 15, 16]) (ks := [0, 3, 4, 6, 7, 21]) (env' := [(0, .pointer (some ⟨b_2, 0, none⟩)), (3, .string (bs name_11)), (4, .bool fail_12), (6, .pointer (some ⟨b_13, 0, none⟩)), (7, .pointer (some ⟨b_14, 0, none⟩)), (21, .bool (decide (k_10.Step < 0)))]) (H' := [⟨41, b_14, [.int .u64 k_10.Saga, .int .i64 k_10.Step, .bool k_10.Back]⟩, ⟨40, b_13, [.int .u64 t_9.Term, .int .u64 t_9.Index]⟩, ⟨1, b_2, [.int .u64 l_1.fence.Term, .int .u64 l_1.fence.Index, .slice A_3 l_1.effects.length c_4, .map (mA A_5), .map (mA A_7)]⟩]) (ps := [b_14 = b_14]) (by kernel_rfl) (And.intro rfl trivial) ?_
  refine GoO.bsplit (t := 21) (by kernel_rfl) (fun h15 => ?_) (fun h15 => ?_)
  · refine GoO.exec (is := [8, 9, 10, 11, 12, 13, 14, 15, 16]) (hs := [.p, .p, .p, .p, .p, .p, .p, .p, .p]) (rest := []) (ks := [0, 3, 4, 6, 7, 30]) (env' := [(0, .pointer (some ⟨b_2, 0, none⟩)), (3, .string (bs name_11)), (4, .bool fail_12), (6, .pointer (some ⟨b_13, 0, none⟩)), (7, .pointer (some ⟨b_14, 0, none⟩)), (30, .bool true)]) (H' := [⟨41, b_14, [.int .u64 k_10.Saga, .int .i64 k_10.Step, .bool k_10.Back]⟩, ⟨40, b_13, [.int .u64 t_9.Term, .int .u64 t_9.Index]⟩, ⟨1, b_2, [.int .u64 l_1.fence.Term, .int .u64 l_1.fence.Index, .slice A_3 l_1.effects.length c_4, .map (mA A_5), .map (mA A_7)]⟩]) (ps := []) (by kernel_rfl) trivial ?_
    refine GoO.regionEnd ?_
    exact GoO.sub (ks := [0, 3, 4, 6, 7, 30]) (hk := [2, 1, 0]) (bk := [0, 1, 2]) (by kernel_rfl) (by kernel_rfl) (by kernel_rfl) (ledger_Ledger_Ask_j0_ok n l_1 t_9 k_10 name_11 fail_12 b_2 A_3 c_4 A_5 c_6 A_7 c_8 b_13 b_14 w0 S0 true)
  · refine GoO.exec (is := [8, 9, 10, 11, 12]) (hs := [.p, .b 0, .p, .p, .p]) (rest := [13, 14, 15, 16]) (ks := [0, 3, 4, 6, 7, 26]) (env' := [(0, .pointer (some ⟨b_2, 0, none⟩)), (3, .string (bs name_11)), (4, .bool fail_12), (6, .pointer (some ⟨b_13, 0, none⟩)), (7, .pointer (some ⟨b_14, 0, none⟩)), (26, .bool (decide (k_10.Step ≥ 64)))]) (H' := [⟨41, b_14, [.int .u64 k_10.Saga, .int .i64 k_10.Step, .bool k_10.Back]⟩, ⟨40, b_13, [.int .u64 t_9.Term, .int .u64 t_9.Index]⟩, ⟨1, b_2, [.int .u64 l_1.fence.Term, .int .u64 l_1.fence.Index, .slice A_3 l_1.effects.length c_4, .map (mA A_5), .map (mA A_7)]⟩]) (ps := [b_14 = b_14]) (by kernel_rfl) (And.intro rfl trivial) ?_
    refine GoO.bsplit (t := 26) (by kernel_rfl) (fun h16 => ?_) (fun h16 => ?_)
    · refine GoO.exec (is := [13, 14, 15, 16]) (hs := [.p, .p, .p, .p]) (rest := []) (ks := [0, 3, 4, 6, 7, 30]) (env' := [(0, .pointer (some ⟨b_2, 0, none⟩)), (3, .string (bs name_11)), (4, .bool fail_12), (6, .pointer (some ⟨b_13, 0, none⟩)), (7, .pointer (some ⟨b_14, 0, none⟩)), (30, .bool true)]) (H' := [⟨41, b_14, [.int .u64 k_10.Saga, .int .i64 k_10.Step, .bool k_10.Back]⟩, ⟨40, b_13, [.int .u64 t_9.Term, .int .u64 t_9.Index]⟩, ⟨1, b_2, [.int .u64 l_1.fence.Term, .int .u64 l_1.fence.Index, .slice A_3 l_1.effects.length c_4, .map (mA A_5), .map (mA A_7)]⟩]) (ps := []) (by kernel_rfl) trivial ?_
      refine GoO.regionEnd ?_
      exact GoO.sub (ks := [0, 3, 4, 6, 7, 30]) (hk := [2, 1, 0]) (bk := [0, 1, 2]) (by kernel_rfl) (by kernel_rfl) (by kernel_rfl) (ledger_Ledger_Ask_j0_ok n l_1 t_9 k_10 name_11 fail_12 b_2 A_3 c_4 A_5 c_6 A_7 c_8 b_13 b_14 w0 S0 true)
    · refine GoO.exec (is := [13, 14, 15, 16]) (hs := [.p, .p, .p, .p]) (rest := []) (ks := [0, 3, 4, 6, 7, 30]) (env' := [(0, .pointer (some ⟨b_2, 0, none⟩)), (3, .string (bs name_11)), (4, .bool fail_12), (6, .pointer (some ⟨b_13, 0, none⟩)), (7, .pointer (some ⟨b_14, 0, none⟩)), (30, .bool (decide ((name_11.length : Int) > 16)))]) (H' := [⟨41, b_14, [.int .u64 k_10.Saga, .int .i64 k_10.Step, .bool k_10.Back]⟩, ⟨40, b_13, [.int .u64 t_9.Term, .int .u64 t_9.Index]⟩, ⟨1, b_2, [.int .u64 l_1.fence.Term, .int .u64 l_1.fence.Index, .slice A_3 l_1.effects.length c_4, .map (mA A_5), .map (mA A_7)]⟩]) (ps := []) (by kernel_rfl) trivial ?_
      refine GoO.regionEnd ?_
      exact GoO.sub (ks := [0, 3, 4, 6, 7, 30]) (hk := [2, 1, 0]) (bk := [0, 1, 2]) (by kernel_rfl) (by kernel_rfl) (by kernel_rfl) (ledger_Ledger_Ask_j0_ok n l_1 t_9 k_10 name_11 fail_12 b_2 A_3 c_4 A_5 c_6 A_7 c_8 b_13 b_14 w0 S0 (decide ((name_11.length : Int) > 16)))

/-! (*tontine/ledger.Ledger).Dead -/
noncomputable def c25_0 : Code := bodyOf Try.f25
noncomputable def c25_1 : Code := cdL c25_0
noncomputable def c25_2 : Code := cdR c25_0
noncomputable def c25_3 : Code := cdL c25_2
noncomputable def c25_4 : Code := cdR c25_2
noncomputable def r25_1 : Array Oper := cdO c25_1
noncomputable def r25_3 : Array Oper := cdO c25_3
theorem c25_0e : c25_0 = .seq c25_1 c25_2 := by kernel_rfl
theorem c25_1e : c25_1 = .region 0 r25_1 false := by kernel_rfl
theorem c25_2e : c25_2 = .seq c25_3 c25_4 := by kernel_rfl
theorem c25_3e : c25_3 = .region 1 r25_3 false := by kernel_rfl
theorem c25_4e : c25_4 = .ret := by kernel_rfl
noncomputable def ledger_Ledger_Dead.R (b_2 : Nat) (A_3 : Option Addr) (c_4 : Nat) (A_5 : Option Addr) (c_6 : Nat) (A_7 : Option Addr) (c_8 : Nat) : Pst Bool where
  ε := Unit
  v := fun r x => .bool r
  H := fun r x => []
  B := fun r x => []
noncomputable def ledger_Ledger_Dead.cx (b_2 : Nat) (A_3 : Option Addr) (c_4 : Nat) (A_5 : Option Addr) (c_6 : Nat) (A_7 : Option Addr) (c_8 : Nat) (w0 : World) (S0 : Fam) : Cx Bool := ⟨Try.prog, 25, Try.f25, 19, w0, S0, [], 4, ledger_Ledger_Dead.R b_2 A_3 c_4 A_5 c_6 A_7 c_8⟩
theorem ledger_Ledger_Dead_ok (n : Nat) (l_1 : T_ledger_Ledger) (saga_9 : Int) (step_10 : Int) (b_2 : Nat) (A_3 : Option Addr) (c_4 : Nat) (A_5 : Option Addr) (c_6 : Nat) (A_7 : Option Addr) (c_8 : Nat) :
    Meets Try.prog 25 [.pointer (some ⟨b_2, 0, none⟩), .int .u64 saga_9, .int .i64 step_10] 4 [] [⟨1, b_2, [.int .u64 l_1.fence.Term, .int .u64 l_1.fence.Index, .slice A_3 l_1.effects.length c_4, .map (mA A_5), .map (mA A_7)]⟩] [Ow 2 kT_ledger_Effect A_3 c_4 l_1.effects, Mp 3 ky41 (fun v => .bool v) A_5 c_6 l_1.said, Mp 4 ky41 (fun v => .bool v) A_7 c_8 l_1.tombs] (ledger_Ledger_Dead.f n l_1 saga_9 step_10) (ledger_Ledger_Dead.R b_2 A_3 c_4 A_5 c_6 A_7 c_8) := by
  refine Meets.of (c := c25_0) (n := 19) Try.func25 (by kernel_rfl) (by kernel_rfl) (by kernel_rfl) fun w0 S0 => ?_
  unfold ledger_Ledger_Dead.f
  show GoO (ledger_Ledger_Dead.cx b_2 A_3 c_4 A_5 c_6 A_7 c_8 w0 S0) [(0, .pointer (some ⟨b_2, 0, none⟩)), (1, .int .u64 saga_9), (2, .int .i64 step_10)] [⟨1, b_2, [.int .u64 l_1.fence.Term, .int .u64 l_1.fence.Index, .slice A_3 l_1.effects.length c_4, .map (mA A_5), .map (mA A_7)]⟩] [Ow 2 kT_ledger_Effect A_3 c_4 l_1.effects, Mp 3 ky41 (fun v => .bool v) A_5 c_6 l_1.said, Mp 4 ky41 (fun v => .bool v) A_7 c_8 l_1.tombs] [.code c25_0] _
  refine GoO.seq' c25_0e ?_
  refine GoO.region' (is := [0]) c25_1e (by kernel_rfl) ?_
  refine GoO.exec (is := [0]) (hs := [.p]) (rest := []) (ks := [0, 1, 2]) (env' := [(0, .pointer (some ⟨b_2, 0, none⟩)), (1, .int .u64 saga_9), (2, .int .i64 step_10)]) (H' := [⟨1, b_2, [.int .u64 l_1.fence.Term, .int .u64 l_1.fence.Index, .slice A_3 l_1.effects.length c_4, .map (mA A_5), .map (mA A_7)]⟩]) (ps := []) (by kernel_rfl) trivial ?_
  refine GoO.regionEnd ?_
  refine GoO.seq' c25_2e ?_
  refine GoO.region' (is := [0, 1, 2, 3, 4, 5, 6, 7, 8, 9, 10, 11, 12]) c25_3e (by kernel_rfl) ?_
  refine GoO.exec (is := [0, 1, 2, 3, 4, 5, 6, 7, 8, 9]) (hs := [.p, .p, .p, .p, .p, .p, .b 0, .p, .p, .p]) (rest := [10, 11, 12]) (ks := [9, 13, 16]) (env' := [(9, .bool true), (13, .map (mA A_7)), (16, .agg ⟨[.int .u64 saga_9, .int .i64 step_10, .bool false]⟩)]) (H' := [⟨1, b_2, [.int .u64 l_1.fence.Term, .int .u64 l_1.fence.Index, .slice A_3 l_1.effects.length c_4, .map (mA A_5), .map (mA A_7)]⟩]) (ps := [b_2 = b_2]) (by kernel_rfl) (And.intro rfl trivial) ?_
  refine OpTo.go (GoO.mapLk (vt := 4) (K := ky41) (ev := (fun v => .bool v)) (A := A_7) (c := c_8) (l := l_1.tombs) (key := (⟨saga_9, step_10, false⟩ : T_api_Key)) (j := 2) rfl (by kernel_rfl) (by kernel_rfl) (by kernel_rfl) rfl false (fun _ => by kernel_rfl) rfl ?_)
  refine GoO.exec (is := [11, 12]) (hs := [.p, .p]) (rest := []) (ks := [6]) (env' := [(6, .bool ((getA (⟨saga_9, step_10, false⟩ : T_api_Key) l_1.tombs).getD false))]) (H' := [⟨1, b_2, [.int .u64 l_1.fence.Term, .int .u64 l_1.fence.Index, .slice A_3 l_1.effects.length c_4, .map (mA A_5), .map (mA A_7)]⟩]) (ps := []) (by kernel_rfl) trivial ?_
  refine GoO.regionEnd ?_
  exact GoO.ret' (h := c25_4e) (hs := []) (ps := []) (hk := []) (bk := []) Try.func25 () (by kernel_rfl) trivial (by kernel_rfl) (by kernel_rfl)

/-! (*tontine/ledger.Ledger).Effects -/
noncomputable def c24_0 : Code := bodyOf Try.f24
noncomputable def c24_1 : Code := cdL c24_0
noncomputable def c24_2 : Code := cdR c24_0
noncomputable def c24_3 : Code := cdL c24_2
noncomputable def c24_4 : Code := cdL c24_3
noncomputable def c24_5 : Code := cdR c24_3
noncomputable def c24_9 : Code := cdR c24_5
noncomputable def c24_10 : Code := cdR c24_2
noncomputable def c24_11 : Code := cdL c24_10
noncomputable def c24_12 : Code := cdR c24_10
noncomputable def c24_6 : Code := cdL c24_5
noncomputable def r24_1 : Array Oper := cdO c24_1
noncomputable def r24_4 : Array Oper := cdO c24_4
noncomputable def r24_11 : Array Oper := cdO c24_11
theorem c24_0e : c24_0 = .seq c24_1 c24_2 := by kernel_rfl
theorem c24_1e : c24_1 = .region 0 r24_1 false := by kernel_rfl
theorem c24_2e : c24_2 = .seq c24_3 c24_10 := by kernel_rfl
theorem c24_3e : c24_3 = .seq c24_4 c24_5 := by kernel_rfl
theorem c24_4e : c24_4 = .region 1 r24_4 false := by kernel_rfl
theorem c24_5e : c24_5 = .cond (cdC c24_5) c24_6 c24_9 := by kernel_rfl
theorem c24_9e : c24_9 = .skip := by kernel_rfl
theorem c24_10e : c24_10 = .seq c24_11 c24_12 := by kernel_rfl
theorem c24_11e : c24_11 = .region 3 r24_11 false := by kernel_rfl
theorem c24_12e : c24_12 = .ret := by kernel_rfl
noncomputable def ledger_Ledger_Effects.R (b_2 : Nat) (A_3 : Option Addr) (c_4 : Nat) (A_5 : Option Addr) (c_6 : Nat) (A_7 : Option Addr) (c_8 : Nat) : Pst (List T_ledger_Effect) where
  ε := Option Addr × Nat
  v := fun r x => .slice x.1 r.length x.2
  H := fun r x => []
  B := fun r x => [Ow 5 kT_ledger_Effect x.1 x.2 r]
noncomputable def ledger_Ledger_Effects.cx (b_2 : Nat) (A_3 : Option Addr) (c_4 : Nat) (A_5 : Option Addr) (c_6 : Nat) (A_7 : Option Addr) (c_8 : Nat) (w0 : World) (S0 : Fam) : Cx (List T_ledger_Effect) := ⟨Try.prog, 24, Try.f24, 10, w0, S0, [], 4, ledger_Ledger_Effects.R b_2 A_3 c_4 A_5 c_6 A_7 c_8⟩
theorem ledger_Ledger_Effects_ok (n : Nat) (l_1 : T_ledger_Ledger) (b_2 : Nat) (A_3 : Option Addr) (c_4 : Nat) (A_5 : Option Addr) (c_6 : Nat) (A_7 : Option Addr) (c_8 : Nat) :
    Meets Try.prog 24 [.pointer (some ⟨b_2, 0, none⟩)] 4 [] [⟨1, b_2, [.int .u64 l_1.fence.Term, .int .u64 l_1.fence.Index, .slice A_3 l_1.effects.length c_4, .map (mA A_5), .map (mA A_7)]⟩] [Ow 2 kT_ledger_Effect A_3 c_4 l_1.effects, Mp 3 ky41 (fun v => .bool v) A_5 c_6 l_1.said, Mp 4 ky41 (fun v => .bool v) A_7 c_8 l_1.tombs] (ledger_Ledger_Effects.f n l_1) (ledger_Ledger_Effects.R b_2 A_3 c_4 A_5 c_6 A_7 c_8) := by
  refine Meets.of (c := c24_0) (n := 10) Try.func24 (by kernel_rfl) (by kernel_rfl) (by kernel_rfl) fun w0 S0 => ?_
  unfold ledger_Ledger_Effects.f
  show GoO (ledger_Ledger_Effects.cx b_2 A_3 c_4 A_5 c_6 A_7 c_8 w0 S0) [(0, .pointer (some ⟨b_2, 0, none⟩))] [⟨1, b_2, [.int .u64 l_1.fence.Term, .int .u64 l_1.fence.Index, .slice A_3 l_1.effects.length c_4, .map (mA A_5), .map (mA A_7)]⟩] [Ow 2 kT_ledger_Effect A_3 c_4 l_1.effects, Mp 3 ky41 (fun v => .bool v) A_5 c_6 l_1.said, Mp 4 ky41 (fun v => .bool v) A_7 c_8 l_1.tombs] [.code c24_0] _
  refine GoO.seq' c24_0e ?_
  refine GoO.region' (is := [0]) c24_1e (by kernel_rfl) ?_
  refine GoO.exec (is := [0]) (hs := [.p]) (rest := []) (ks := [0]) (env' := [(0, .pointer (some ⟨b_2, 0, none⟩))]) (H' := [⟨1, b_2, [.int .u64 l_1.fence.Term, .int .u64 l_1.fence.Index, .slice A_3 l_1.effects.length c_4, .map (mA A_5), .map (mA A_7)]⟩]) (ps := []) (by kernel_rfl) trivial ?_
  refine GoO.regionEnd ?_
  refine GoO.seq' c24_2e ?_
  refine GoO.seq' c24_3e ?_
  refine GoO.region' (is := [0, 1]) c24_4e (by kernel_rfl) ?_
  refine GoO.exec (is := [0, 1]) (hs := [.p, .p]) (rest := []) (ks := [0, 4]) (env' := [(0, .pointer (some ⟨b_2, 0, none⟩)), (4, .bool false)]) (H' := [⟨1, b_2, [.int .u64 l_1.fence.Term, .int .u64 l_1.fence.Index, .slice A_3 l_1.effects.length c_4, .map (mA A_5), .map (mA A_7)]⟩]) (ps := []) (by kernel_rfl) trivial ?_
  refine GoO.regionEnd ?_
  refine GoO.condF c24_5e (by kernel_rfl) ?_
  refine GoO.skip' c24_9e ?_
  refine GoO.seq' c24_10e ?_
  refine GoO.region' (is := [0, 1, 2, 3, 4, 5]) c24_11e (by kernel_rfl) ?_
  refine GoO.exec (is := [0, 1, 2, 3]) (hs := [.p, .p, .p, .b 0]) (rest := [4, 5]) (ks := [8]) (env' := [(8, .slice A_3 l_1.effects.length c_4)]) (H' := [⟨1, b_2, [.int .u64 l_1.fence.Term, .int .u64 l_1.fence.Index, .slice A_3 l_1.effects.length c_4, .map (mA A_5), .map (mA A_7)]⟩]) (ps := [b_2 = b_2]) (by kernel_rfl) (And.intro rfl trivial) ?_
  refine GoO.nilOwn kT_ledger_Effect 40 ?_
  refine GoO.guard (fun h9 => ?_)
  refine OpTo.go (GoO.appW (e := 56) (K := kT_ledger_Effect) (A := none) (c := 0) (tg := 40) (bytes := 40) (zs := [.int .u64 0, .int .i64 0, .bool false, .string (bs [])]) (xs := ([] : List T_ledger_Effect)) (ys := l_1.effects) (xv := .slice A_3 l_1.effects.length c_4) (j := 0) (bk := [1, 2, 3]) rfl (by kernel_rfl) (by kernel_rfl) (by kernel_rfl) (by kernel_rfl) rfl (by kernel_rfl) rfl (fun w S hB => SrcIs.row (Reads.own w S (hB _ (List.mem_of_getElem? (i := 1) rfl)))) h9 rfl rfl rfl rfl _ (fun _ _ => rfl) (fun A_10 c_11 => ?_))
  refine GoO.exec (is := [5]) (hs := [.p]) (rest := []) (ks := [2]) (env' := [(2, .slice A_10 (([] : List T_ledger_Effect) ++ l_1.effects).length c_11)]) (H' := [⟨1, b_2, [.int .u64 l_1.fence.Term, .int .u64 l_1.fence.Index, .slice A_3 l_1.effects.length c_4, .map (mA A_5), .map (mA A_7)]⟩]) (ps := []) (by kernel_rfl) trivial ?_
  refine GoO.regionEnd ?_
  refine GoO.retag (t := 40) (u := 5) (j := 0) (hk := [0]) (bk := [1, 2, 3]) rfl rfl rfl rfl rfl rfl (by kernel_rfl) (by kernel_rfl) ?_
  exact GoO.ret' (h := c24_12e) (hs := []) (ps := []) (hk := []) (bk := [0]) Try.func24 (⟨A_10, c_11⟩ : Option Addr × Nat) (by kernel_rfl) trivial (by kernel_rfl) (by kernel_rfl)

/-! tontine/tontinelaw18.begun -/
noncomputable def c21_0 : Code := bodyOf Try.f21
noncomputable def c21_1 : Code := cdL c21_0
noncomputable def c21_2 : Code := cdR c21_0
noncomputable def c21_3 : Code := cdL c21_2
noncomputable def c21_4 : Code := cdR c21_2
noncomputable def c21_5 : Code := cdL c21_4
noncomputable def c21_6 : Code := cdR c21_4
noncomputable def c21_7 : Code := cdL c21_6
noncomputable def c21_8 : Code := cdR c21_6
noncomputable def c21_9 : Code := cdL c21_8
noncomputable def c21_10 : Code := cdR c21_8
noncomputable def c21_11 : Code := cdL c21_10
noncomputable def c21_12 : Code := cdR c21_10
noncomputable def r21_1 : Array Oper := cdO c21_1
noncomputable def r21_3 : Array Oper := cdO c21_3
noncomputable def r21_5 : Array Oper := cdO c21_5
noncomputable def r21_7 : Array Oper := cdO c21_7
noncomputable def r21_9 : Array Oper := cdO c21_9
noncomputable def r21_11 : Array Oper := cdO c21_11
theorem c21_0e : c21_0 = .seq c21_1 c21_2 := by kernel_rfl
theorem c21_1e : c21_1 = .region 0 r21_1 false := by kernel_rfl
theorem c21_2e : c21_2 = .seq c21_3 c21_4 := by kernel_rfl
theorem c21_3e : c21_3 = .region 1 r21_3 false := by kernel_rfl
theorem c21_4e : c21_4 = .seq c21_5 c21_6 := by kernel_rfl
theorem c21_5e : c21_5 = .region 2 r21_5 false := by kernel_rfl
theorem c21_6e : c21_6 = .seq c21_7 c21_8 := by kernel_rfl
theorem c21_7e : c21_7 = .region 3 r21_7 false := by kernel_rfl
theorem c21_8e : c21_8 = .seq c21_9 c21_10 := by kernel_rfl
theorem c21_9e : c21_9 = .region 4 r21_9 false := by kernel_rfl
theorem c21_10e : c21_10 = .seq c21_11 c21_12 := by kernel_rfl
theorem c21_11e : c21_11 = .region 5 r21_11 false := by kernel_rfl
theorem c21_12e : c21_12 = .ret := by kernel_rfl
noncomputable def tontinelaw18_begun.R : Pst Bool where
  ε := Unit
  v := fun r x => .bool r
  H := fun r x => []
  B := fun r x => []
noncomputable def tontinelaw18_begun.cx (w0 : World) (S0 : Fam) : Cx Bool := ⟨Try.prog, 21, Try.f21, 56, w0, S0, [], 0, tontinelaw18_begun.R⟩
theorem tontinelaw18_begun_ok (n : Nat) :
    Meets Try.prog 21 [] 0 [] [] [] (tontinelaw18_begun.f n) (tontinelaw18_begun.R) := by
  refine Meets.of (c := c21_0) (n := 56) Try.func21 (by kernel_rfl) (by kernel_rfl) (by kernel_rfl) fun w0 S0 => ?_
  unfold tontinelaw18_begun.f
  show GoO (tontinelaw18_begun.cx w0 S0) [] [] [] [.code c21_0] _
  refine GoO.seq' c21_0e ?_
  refine GoO.region' (is := [0]) c21_1e (by kernel_rfl) ?_
  refine GoO.exec (is := [0]) (hs := [.p]) (rest := []) (ks := []) (env' := []) (H' := []) (ps := []) (by kernel_rfl) trivial ?_
  refine GoO.regionEnd ?_
  refine GoO.seq' c21_2e ?_
  refine GoO.region' (is := [0, 1]) c21_3e (by kernel_rfl) ?_
  refine OpTo.go (GoO.call rfl (by kernel_rfl) (by kernel_rfl) (ledger_New_ok n) [[0]] [(40, 1), (41, 2), (42, 3), (43, 4)] [] [] (hks := []) (bks := []) (by kernel_rfl) (by kernel_rfl) (by kernel_rfl) (.inl rfl) rfl rfl (by kernel_rfl) (by kernel_rfl) _ (fun _ _ => rfl) _ _ (fun _ _ => rfl) (fun _ _ => rfl) (fun _ _ => by kernel_rfl) (fun _ _ => by kernel_rfl) (fun r_1 x_45 => ?_))
  obtain ⟨b_2, A_3, c_4, A_5, c_6, A_7, c_8⟩ := x_45
  refine GoO.shape (env' := [(8, .pointer (some ⟨b_2, 0, none⟩))]) (H' := [⟨40, b_2, [.int .u64 r_1.fence.Term, .int .u64 r_1.fence.Index, .slice A_3 r_1.effects.length c_4, .map (mA A_5), .map (mA A_7)]⟩]) (B' := [Ow 41 kT_ledger_Effect A_3 c_4 r_1.effects, Mp 42 ky41 (fun v => .bool v) A_5 c_6 r_1.said, Mp 43 ky41 (fun v => .bool v) A_7 c_8 r_1.tombs]) (ks := [8]) (by kernel_rfl) (by kernel_rfl) (by kernel_rfl) ?_
  refine GoO.exec (is := [1]) (hs := [.p]) (rest := []) (ks := [1]) (env' := [(1, .pointer (some ⟨b_2, 0, none⟩))]) (H' := [⟨40, b_2, [.int .u64 r_1.fence.Term, .int .u64 r_1.fence.Index, .slice A_3 r_1.effects.length c_4, .map (mA A_5), .map (mA A_7)]⟩]) (ps := []) (by kernel_rfl) trivial ?_
  refine GoO.regionEnd ?_
  refine GoO.seq' c21_4e ?_
  refine GoO.region' (is := [0, 1, 2, 3, 4, 5, 6, 7, 8]) c21_5e (by kernel_rfl) ?_
  refine GoO.exec (is := [0, 1, 2]) (hs := [.p, .p, .p]) (rest := [3, 4, 5, 6, 7, 8]) (ks := [1, 10, 11, 12]) (env' := [(1, .pointer (some ⟨b_2, 0, none⟩)), (10, .pointer (some ⟨b_2, 0, none⟩)), (11, .agg ⟨[.int .u64 2, .int .u64 5]⟩), (12, .agg ⟨[.int .u64 1, .int .i64 0, .bool false]⟩)]) (H' := [⟨40, b_2, [.int .u64 r_1.fence.Term, .int .u64 r_1.fence.Index, .slice A_3 r_1.effects.length c_4, .map (mA A_5), .map (mA A_7)]⟩]) (ps := []) (by kernel_rfl) trivial ?_
  refine OpTo.go (GoO.call rfl (by kernel_rfl) (by kernel_rfl) (ledger_Ledger_Ask_ok n (⟨(⟨r_1.fence.Term, r_1.fence.Index⟩ : T_api_Token), r_1.effects, r_1.said, r_1.tombs⟩ : T_ledger_Ledger) (⟨2, 5⟩ : T_api_Token) (⟨1, 0, false⟩ : T_api_Key) [115] false b_2 A_3 c_4 A_5 c_6 A_7 c_8) [[0], [40], [41], [42], [43]] [(40, 1), (41, 2), (42, 3), (43, 4)] [(1, 0)] [(2, 0), (3, 1), (4, 2)] (hks := []) (bks := []) (by kernel_rfl) (by kernel_rfl) (by kernel_rfl) (.inl rfl) rfl rfl (by kernel_rfl) (by kernel_rfl) _ (fun _ _ => rfl) _ _ (fun _ _ => rfl) (fun _ _ => rfl) (fun _ _ => by kernel_rfl) (fun _ _ => by kernel_rfl) (fun r_9 x_44 => ?_))
  obtain ⟨A_10, c_11, A_12, c_13, A_14, c_15⟩ := x_44
  refine GoO.shape (env' := [(1, .pointer (some ⟨b_2, 0, none⟩)), (10, .pointer (some ⟨b_2, 0, none⟩)), (11, .agg ⟨[.int .u64 2, .int .u64 5]⟩), (12, .agg ⟨[.int .u64 1, .int .i64 0, .bool false]⟩), (13, .tuple ⟨[.bool r_9.1, .int .i64 r_9.2.1]⟩)]) (H' := [⟨40, b_2, [.int .u64 r_9.2.2.fence.Term, .int .u64 r_9.2.2.fence.Index, .slice A_10 r_9.2.2.effects.length c_11, .map (mA A_12), .map (mA A_14)]⟩]) (B' := [Ow 41 kT_ledger_Effect A_10 c_11 r_9.2.2.effects, Mp 42 ky41 (fun v => .bool v) A_12 c_13 r_9.2.2.said, Mp 43 ky41 (fun v => .bool v) A_14 c_15 r_9.2.2.tombs]) (ks := [1, 10, 11, 12, 13]) (by kernel_rfl) (by kernel_rfl) (by kernel_rfl) ?_
  refine GoO.exec (is := [4, 5, 6, 7, 8]) (hs := [.p, .p, .p, .p, .p]) (rest := []) (ks := [1, 2, 3]) (env' := [(1, .pointer (some ⟨b_2, 0, none⟩)), (2, .bool r_9.1), (3, .int .i64 r_9.2.1)]) (H' := [⟨40, b_2, [.int .u64 r_9.2.2.fence.Term, .int .u64 r_9.2.2.fence.Index, .slice A_10 r_9.2.2.effects.length c_11, .map (mA A_12), .map (mA A_14)]⟩]) (ps := []) (by kernel_rfl) trivial ?_
  refine GoO.regionEnd ?_
  refine GoO.seq' c21_6e ?_
  refine GoO.region' (is := [0, 1, 2, 3, 4, 5, 6, 7, 8]) c21_7e (by kernel_rfl) ?_
  refine GoO.exec (is := [0, 1, 2]) (hs := [.p, .p, .p]) (rest := [3, 4, 5, 6, 7, 8]) (ks := [1, 2, 3, 17, 18, 19]) (env' := [(1, .pointer (some ⟨b_2, 0, none⟩)), (2, .bool r_9.1), (3, .int .i64 r_9.2.1), (17, .pointer (some ⟨b_2, 0, none⟩)), (18, .agg ⟨[.int .u64 1, .int .u64 9]⟩), (19, .agg ⟨[.int .u64 1, .int .i64 1, .bool false]⟩)]) (H' := [⟨40, b_2, [.int .u64 r_9.2.2.fence.Term, .int .u64 r_9.2.2.fence.Index, .slice A_10 r_9.2.2.effects.length c_11, .map (mA A_12), .map (mA A_14)]⟩]) (ps := []) (by kernel_rfl) trivial ?_
  refine OpTo.go (GoO.call rfl (by kernel_rfl) (by kernel_rfl) (ledger_Ledger_Ask_ok n (⟨(⟨r_9.2.2.fence.Term, r_9.2.2.fence.Index⟩ : T_api_Token), r_9.2.2.effects, r_9.2.2.said, r_9.2.2.tombs⟩ : T_ledger_Ledger) (⟨1, 9⟩ : T_api_Token) (⟨1, 1, false⟩ : T_api_Key) [116] false b_2 A_10 c_11 A_12 c_13 A_14 c_15) [[0], [40], [41], [42], [43]] [(40, 1), (41, 2), (42, 3), (43, 4)] [(1, 0)] [(2, 0), (3, 1), (4, 2)] (hks := []) (bks := []) (by kernel_rfl) (by kernel_rfl) (by kernel_rfl) (.inl rfl) rfl rfl (by kernel_rfl) (by kernel_rfl) _ (fun _ _ => rfl) _ _ (fun _ _ => rfl) (fun _ _ => rfl) (fun _ _ => by kernel_rfl) (fun _ _ => by kernel_rfl) (fun r_16 x_43 => ?_))
  obtain ⟨A_17, c_18, A_19, c_20, A_21, c_22⟩ := x_43
  refine GoO.shape (env' := [(1, .pointer (some ⟨b_2, 0, none⟩)), (2, .bool r_9.1), (3, .int .i64 r_9.2.1), (17, .pointer (some ⟨b_2, 0, none⟩)), (18, .agg ⟨[.int .u64 1, .int .u64 9]⟩), (19, .agg ⟨[.int .u64 1, .int .i64 1, .bool false]⟩), (20, .tuple ⟨[.bool r_16.1, .int .i64 r_16.2.1]⟩)]) (H' := [⟨40, b_2, [.int .u64 r_16.2.2.fence.Term, .int .u64 r_16.2.2.fence.Index, .slice A_17 r_16.2.2.effects.length c_18, .map (mA A_19), .map (mA A_21)]⟩]) (B' := [Ow 41 kT_ledger_Effect A_17 c_18 r_16.2.2.effects, Mp 42 ky41 (fun v => .bool v) A_19 c_20 r_16.2.2.said, Mp 43 ky41 (fun v => .bool v) A_21 c_22 r_16.2.2.tombs]) (ks := [1, 2, 3, 17, 18, 19, 20]) (by kernel_rfl) (by kernel_rfl) (by kernel_rfl) ?_
  refine GoO.exec (is := [4, 5, 6, 7, 8]) (hs := [.p, .p, .p, .p, .p]) (rest := []) (ks := [1, 2, 3, 5]) (env' := [(1, .pointer (some ⟨b_2, 0, none⟩)), (2, .bool r_9.1), (3, .int .i64 r_9.2.1), (5, .int .i64 r_16.2.1)]) (H' := [⟨40, b_2, [.int .u64 r_16.2.2.fence.Term, .int .u64 r_16.2.2.fence.Index, .slice A_17 r_16.2.2.effects.length c_18, .map (mA A_19), .map (mA A_21)]⟩]) (ps := []) (by kernel_rfl) trivial ?_
  refine GoO.regionEnd ?_
  refine GoO.seq' c21_8e ?_
  refine GoO.region' (is := [0, 1, 2, 3, 4, 5, 6, 7, 8]) c21_9e (by kernel_rfl) ?_
  refine GoO.exec (is := [0, 1, 2]) (hs := [.p, .p, .p]) (rest := [3, 4, 5, 6, 7, 8]) (ks := [1, 2, 3, 5, 24, 25, 26]) (env' := [(1, .pointer (some ⟨b_2, 0, none⟩)), (2, .bool r_9.1), (3, .int .i64 r_9.2.1), (5, .int .i64 r_16.2.1), (24, .pointer (some ⟨b_2, 0, none⟩)), (25, .agg ⟨[.int .u64 2, .int .u64 5]⟩), (26, .agg ⟨[.int .u64 1, .int .i64 1, .bool true]⟩)]) (H' := [⟨40, b_2, [.int .u64 r_16.2.2.fence.Term, .int .u64 r_16.2.2.fence.Index, .slice A_17 r_16.2.2.effects.length c_18, .map (mA A_19), .map (mA A_21)]⟩]) (ps := []) (by kernel_rfl) trivial ?_
  refine OpTo.go (GoO.call rfl (by kernel_rfl) (by kernel_rfl) (ledger_Ledger_Ask_ok n (⟨(⟨r_16.2.2.fence.Term, r_16.2.2.fence.Index⟩ : T_api_Token), r_16.2.2.effects, r_16.2.2.said, r_16.2.2.tombs⟩ : T_ledger_Ledger) (⟨2, 5⟩ : T_api_Token) (⟨1, 1, true⟩ : T_api_Key) [116] false b_2 A_17 c_18 A_19 c_20 A_21 c_22) [[0], [40], [41], [42], [43]] [(40, 1), (41, 2), (42, 3), (43, 4)] [(1, 0)] [(2, 0), (3, 1), (4, 2)] (hks := []) (bks := []) (by kernel_rfl) (by kernel_rfl) (by kernel_rfl) (.inl rfl) rfl rfl (by kernel_rfl) (by kernel_rfl) _ (fun _ _ => rfl) _ _ (fun _ _ => rfl) (fun _ _ => rfl) (fun _ _ => by kernel_rfl) (fun _ _ => by kernel_rfl) (fun r_23 x_42 => ?_))
  obtain ⟨A_24, c_25, A_26, c_27, A_28, c_29⟩ := x_42
  refine GoO.shape (env' := [(1, .pointer (some ⟨b_2, 0, none⟩)), (2, .bool r_9.1), (3, .int .i64 r_9.2.1), (5, .int .i64 r_16.2.1), (24, .pointer (some ⟨b_2, 0, none⟩)), (25, .agg ⟨[.int .u64 2, .int .u64 5]⟩), (26, .agg ⟨[.int .u64 1, .int .i64 1, .bool true]⟩), (27, .tuple ⟨[.bool r_23.1, .int .i64 r_23.2.1]⟩)]) (H' := [⟨40, b_2, [.int .u64 r_23.2.2.fence.Term, .int .u64 r_23.2.2.fence.Index, .slice A_24 r_23.2.2.effects.length c_25, .map (mA A_26), .map (mA A_28)]⟩]) (B' := [Ow 41 kT_ledger_Effect A_24 c_25 r_23.2.2.effects, Mp 42 ky41 (fun v => .bool v) A_26 c_27 r_23.2.2.said, Mp 43 ky41 (fun v => .bool v) A_28 c_29 r_23.2.2.tombs]) (ks := [1, 2, 3, 5, 24, 25, 26, 27]) (by kernel_rfl) (by kernel_rfl) (by kernel_rfl) ?_
  refine GoO.exec (is := [4, 5, 6, 7, 8]) (hs := [.p, .p, .p, .p, .p]) (rest := []) (ks := [1, 2, 3, 5, 6, 7]) (env' := [(1, .pointer (some ⟨b_2, 0, none⟩)), (2, .bool r_9.1), (3, .int .i64 r_9.2.1), (5, .int .i64 r_16.2.1), (6, .bool r_23.1), (7, .int .i64 r_23.2.1)]) (H' := [⟨40, b_2, [.int .u64 r_23.2.2.fence.Term, .int .u64 r_23.2.2.fence.Index, .slice A_24 r_23.2.2.effects.length c_25, .map (mA A_26), .map (mA A_28)]⟩]) (ps := []) (by kernel_rfl) trivial ?_
  refine GoO.regionEnd ?_
  refine GoO.seq' c21_10e ?_
  refine GoO.region' (is := [0, 1, 2, 3, 4, 5, 6, 7, 8, 9, 10, 11, 12, 13, 14, 15, 16, 17, 18, 19, 20, 21, 22, 23, 24, 25, 26]) c21_11e (by kernel_rfl) ?_
  refine GoO.exec (is := [0, 1]) (hs := [.p, .p]) (rest := [2, 3, 4, 5, 6, 7, 8, 9, 10, 11, 12, 13, 14, 15, 16, 17, 18, 19, 20, 21, 22, 23, 24, 25, 26]) (ks := [1, 3, 5, 6, 7, 31]) (env' := [(1, .pointer (some ⟨b_2, 0, none⟩)), (3, .int .i64 r_9.2.1), (5, .int .i64 r_16.2.1), (6, .bool r_23.1), (7, .int .i64 r_23.2.1), (31, .bool r_9.1)]) (H' := [⟨40, b_2, [.int .u64 r_23.2.2.fence.Term, .int .u64 r_23.2.2.fence.Index, .slice A_24 r_23.2.2.effects.length c_25, .map (mA A_26), .map (mA A_28)]⟩]) (ps := []) (by kernel_rfl) trivial ?_
  refine GoO.bsplit (t := 31) (by kernel_rfl) (fun h30 => ?_) (fun h30 => ?_)
  · refine GoO.exec (is := [2, 3, 4, 5]) (hs := [.p, .p, .p, .p]) (rest := [6, 7, 8, 9, 10, 11, 12, 13, 14, 15, 16, 17, 18, 19, 20, 21, 22, 23, 24, 25, 26]) (ks := [1, 5, 6, 7, 35]) (env' := [(1, .pointer (some ⟨b_2, 0, none⟩)), (5, .int .i64 r_16.2.1), (6, .bool r_23.1), (7, .int .i64 r_23.2.1), (35, .bool (r_9.2.1 == 0))]) (H' := [⟨40, b_2, [.int .u64 r_23.2.2.fence.Term, .int .u64 r_23.2.2.fence.Index, .slice A_24 r_23.2.2.effects.length c_25, .map (mA A_26), .map (mA A_28)]⟩]) (ps := []) (by kernel_rfl) trivial ?_
    refine GoO.bsplit (t := 35) (by kernel_rfl) (fun h31 => ?_) (fun h31 => ?_)
    · refine GoO.exec (is := [6, 7, 8, 9]) (hs := [.p, .p, .p, .p]) (rest := [10, 11, 12, 13, 14, 15, 16, 17, 18, 19, 20, 21, 22, 23, 24, 25, 26]) (ks := [1, 6, 7, 39]) (env' := [(1, .pointer (some ⟨b_2, 0, none⟩)), (6, .bool r_23.1), (7, .int .i64 r_23.2.1), (39, .bool (r_16.2.1 == 50))]) (H' := [⟨40, b_2, [.int .u64 r_23.2.2.fence.Term, .int .u64 r_23.2.2.fence.Index, .slice A_24 r_23.2.2.effects.length c_25, .map (mA A_26), .map (mA A_28)]⟩]) (ps := []) (by kernel_rfl) trivial ?_
      refine GoO.bsplit (t := 39) (by kernel_rfl) (fun h32 => ?_) (fun h32 => ?_)
      · refine GoO.exec (is := [10, 11, 12]) (hs := [.p, .p, .p]) (rest := [13, 14, 15, 16, 17, 18, 19, 20, 21, 22, 23, 24, 25, 26]) (ks := [1, 7, 42]) (env' := [(1, .pointer (some ⟨b_2, 0, none⟩)), (7, .int .i64 r_23.2.1), (42, .bool r_23.1)]) (H' := [⟨40, b_2, [.int .u64 r_23.2.2.fence.Term, .int .u64 r_23.2.2.fence.Index, .slice A_24 r_23.2.2.effects.length c_25, .map (mA A_26), .map (mA A_28)]⟩]) (ps := []) (by kernel_rfl) trivial ?_
        refine GoO.bsplit (t := 42) (by kernel_rfl) (fun h33 => ?_) (fun h33 => ?_)
        · refine GoO.exec (is := [13, 14, 15, 16]) (hs := [.p, .p, .p, .p]) (rest := [17, 18, 19, 20, 21, 22, 23, 24, 25, 26]) (ks := [1, 46]) (env' := [(1, .pointer (some ⟨b_2, 0, none⟩)), (46, .bool (r_23.2.1 == 0))]) (H' := [⟨40, b_2, [.int .u64 r_23.2.2.fence.Term, .int .u64 r_23.2.2.fence.Index, .slice A_24 r_23.2.2.effects.length c_25, .map (mA A_26), .map (mA A_28)]⟩]) (ps := []) (by kernel_rfl) trivial ?_
          refine GoO.bsplit (t := 46) (by kernel_rfl) (fun h34 => ?_) (fun h34 => ?_)
          · refine GoO.exec (is := [17]) (hs := [.p]) (rest := [18, 19, 20, 21, 22, 23, 24, 25, 26]) (ks := [1, 46, 47]) (env' := [(1, .pointer (some ⟨b_2, 0, none⟩)), (46, .bool true), (47, .pointer (some ⟨b_2, 0, none⟩))]) (H' := [⟨40, b_2, [.int .u64 r_23.2.2.fence.Term, .int .u64 r_23.2.2.fence.Index, .slice A_24 r_23.2.2.effects.length c_25, .map (mA A_26), .map (mA A_28)]⟩]) (ps := []) (by kernel_rfl) trivial ?_
            refine OpTo.go (GoO.call rfl (by kernel_rfl) (by kernel_rfl) (ledger_Ledger_Dead_ok n (⟨(⟨r_23.2.2.fence.Term, r_23.2.2.fence.Index⟩ : T_api_Token), r_23.2.2.effects, r_23.2.2.said, r_23.2.2.tombs⟩ : T_ledger_Ledger) 1 1 b_2 A_24 c_25 A_26 c_27 A_28 c_29) [[0], [40], [41], [42], [43]] [] [(1, 0)] [(2, 0), (3, 1), (4, 2)] (hks := [0]) (bks := [0, 1, 2]) (by kernel_rfl) (by kernel_rfl) (by kernel_rfl) (.inl rfl) rfl rfl (by kernel_rfl) (by kernel_rfl) _ (fun _ _ => rfl) _ _ (fun _ _ => rfl) (fun _ _ => rfl) (fun _ _ => by kernel_rfl) (fun _ _ => by kernel_rfl) (fun r_35 x_41 => ?_))
            refine GoO.shape (env' := [(1, .pointer (some ⟨b_2, 0, none⟩)), (46, .bool true), (47, .pointer (some ⟨b_2, 0, none⟩)), (48, .bool r_35)]) (H' := [⟨40, b_2, [.int .u64 r_23.2.2.fence.Term, .int .u64 r_23.2.2.fence.Index, .slice A_24 r_23.2.2.effects.length c_25, .map (mA A_26), .map (mA A_28)]⟩]) (B' := [Ow 41 kT_ledger_Effect A_24 c_25 r_23.2.2.effects, Mp 42 ky41 (fun v => .bool v) A_26 c_27 r_23.2.2.said, Mp 43 ky41 (fun v => .bool v) A_28 c_29 r_23.2.2.tombs]) (ks := [1, 46, 47, 48]) (by kernel_rfl) (by kernel_rfl) (by kernel_rfl) ?_
            refine GoO.exec (is := [19, 20]) (hs := [.p, .p]) (rest := [21, 22, 23, 24, 25, 26]) (ks := [1, 50]) (env' := [(1, .pointer (some ⟨b_2, 0, none⟩)), (50, .bool r_35)]) (H' := [⟨40, b_2, [.int .u64 r_23.2.2.fence.Term, .int .u64 r_23.2.2.fence.Index, .slice A_24 r_23.2.2.effects.length c_25, .map (mA A_26), .map (mA A_28)]⟩]) (ps := []) (by kernel_rfl) trivial ?_
            refine GoO.bsplit (t := 50) (by kernel_rfl) (fun h36 => ?_) (fun h36 => ?_)
            · refine GoO.exec (is := [21]) (hs := [.p]) (rest := [22, 23, 24, 25, 26]) (ks := [50, 51]) (env' := [(50, .bool true), (51, .pointer (some ⟨b_2, 0, none⟩))]) (H' := [⟨40, b_2, [.int .u64 r_23.2.2.fence.Term, .int .u64 r_23.2.2.fence.Index, .slice A_24 r_23.2.2.effects.length c_25, .map (mA A_26), .map (mA A_28)]⟩]) (ps := []) (by kernel_rfl) trivial ?_
              refine OpTo.go (GoO.call rfl (by kernel_rfl) (by kernel_rfl) (ledger_Ledger_Effects_ok n (⟨(⟨r_23.2.2.fence.Term, r_23.2.2.fence.Index⟩ : T_api_Token), r_23.2.2.effects, r_23.2.2.said, r_23.2.2.tombs⟩ : T_ledger_Ledger) b_2 A_24 c_25 A_26 c_27 A_28 c_29) [[0], [40], [41], [42], [43]] [(44, 5)] [(1, 0)] [(2, 0), (3, 1), (4, 2)] (hks := [0]) (bks := [0, 1, 2]) (by kernel_rfl) (by kernel_rfl) (by kernel_rfl) (.inl rfl) rfl rfl (by kernel_rfl) (by kernel_rfl) _ (fun _ _ => rfl) _ _ (fun _ _ => rfl) (fun _ _ => rfl) (fun _ _ => by kernel_rfl) (fun _ _ => by kernel_rfl) (fun r_37 x_40 => ?_))
              obtain ⟨A_38, c_39⟩ := x_40
              refine GoO.shape (env' := [(50, .bool true), (51, .pointer (some ⟨b_2, 0, none⟩)), (52, .slice A_38 r_37.length c_39)]) (H' := [⟨40, b_2, [.int .u64 r_23.2.2.fence.Term, .int .u64 r_23.2.2.fence.Index, .slice A_24 r_23.2.2.effects.length c_25, .map (mA A_26), .map (mA A_28)]⟩]) (B' := [Ow 44 kT_ledger_Effect A_38 c_39 r_37, Ow 41 kT_ledger_Effect A_24 c_25 r_23.2.2.effects, Mp 42 ky41 (fun v => .bool v) A_26 c_27 r_23.2.2.said, Mp 43 ky41 (fun v => .bool v) A_28 c_29 r_23.2.2.tombs]) (ks := [50, 51, 52]) (by kernel_rfl) (by kernel_rfl) (by kernel_rfl) ?_
              refine GoO.exec (is := [23, 24, 25, 26]) (hs := [.p, .p, .p, .p]) (rest := []) (ks := [0]) (env' := [(0, .bool ((r_37.length : Int) == 1))]) (H' := [⟨40, b_2, [.int .u64 r_23.2.2.fence.Term, .int .u64 r_23.2.2.fence.Index, .slice A_24 r_23.2.2.effects.length c_25, .map (mA A_26), .map (mA A_28)]⟩]) (ps := []) (by kernel_rfl) trivial ?_
              refine GoO.regionEnd ?_
              exact GoO.ret' (h := c21_12e) (hs := []) (ps := []) (hk := []) (bk := []) Try.func21 () (by kernel_rfl) trivial (by kernel_rfl) (by kernel_rfl)
            · refine GoO.exec (is := [21, 22, 23, 24, 25, 26]) (hs := [.p, .p, .p, .p, .p, .p]) (rest := []) (ks := [0]) (env' := [(0, .bool false)]) (H' := [⟨40, b_2, [.int .u64 r_23.2.2.fence.Term, .int .u64 r_23.2.2.fence.Index, .slice A_24 r_23.2.2.effects.length c_25, .map (mA A_26), .map (mA A_28)]⟩]) (ps := []) (by kernel_rfl) trivial ?_
              refine GoO.regionEnd ?_
              exact GoO.ret' (h := c21_12e) (hs := []) (ps := []) (hk := []) (bk := []) Try.func21 () (by kernel_rfl) trivial (by kernel_rfl) (by kernel_rfl)
          · refine GoO.exec (is := [17, 18, 19, 20, 21, 22, 23, 24, 25, 26]) (hs := [.p, .p, .p, .p, .p, .p, .p, .p, .p, .p]) (rest := []) (ks := [0]) (env' := [(0, .bool false)]) (H' := [⟨40, b_2, [.int .u64 r_23.2.2.fence.Term, .int .u64 r_23.2.2.fence.Index, .slice A_24 r_23.2.2.effects.length c_25, .map (mA A_26), .map (mA A_28)]⟩]) (ps := []) (by kernel_rfl) trivial ?_
            refine GoO.regionEnd ?_
            exact GoO.ret' (h := c21_12e) (hs := []) (ps := []) (hk := []) (bk := []) Try.func21 () (by kernel_rfl) trivial (by kernel_rfl) (by kernel_rfl)
        · refine GoO.exec (is := [13, 14, 15, 16, 17, 18, 19, 20, 21, 22, 23, 24, 25, 26]) (hs := [.p, .p, .p, .p, .p, .p, .p, .p, .p, .p, .p, .p, .p, .p]) (rest := []) (ks := [0]) (env' := [(0, .bool false)]) (H' := [⟨40, b_2, [.int .u64 r_23.2.2.fence.Term, .int .u64 r_23.2.2.fence.Index, .slice A_24 r_23.2.2.effects.length c_25, .map (mA A_26), .map (mA A_28)]⟩]) (ps := []) (by kernel_rfl) trivial ?_
          refine GoO.regionEnd ?_
          exact GoO.ret' (h := c21_12e) (hs := []) (ps := []) (hk := []) (bk := []) Try.func21 () (by kernel_rfl) trivial (by kernel_rfl) (by kernel_rfl)
      · refine GoO.exec (is := [10, 11, 12, 13, 14, 15, 16, 17, 18, 19, 20, 21, 22, 23, 24, 25, 26]) (hs := [.p, .p, .p, .p, .p, .p, .p, .p, .p, .p, .p, .p, .p, .p, .p, .p, .p]) (rest := []) (ks := [0]) (env' := [(0, .bool false)]) (H' := [⟨40, b_2, [.int .u64 r_23.2.2.fence.Term, .int .u64 r_23.2.2.fence.Index, .slice A_24 r_23.2.2.effects.length c_25, .map (mA A_26), .map (mA A_28)]⟩]) (ps := []) (by kernel_rfl) trivial ?_
        refine GoO.regionEnd ?_
        exact GoO.ret' (h := c21_12e) (hs := []) (ps := []) (hk := []) (bk := []) Try.func21 () (by kernel_rfl) trivial (by kernel_rfl) (by kernel_rfl)
    · refine GoO.exec (is := [6, 7, 8, 9, 10, 11, 12, 13, 14, 15, 16, 17, 18, 19, 20, 21, 22, 23, 24, 25, 26]) (hs := [.p, .p, .p, .p, .p, .p, .p, .p, .p, .p, .p, .p, .p, .p, .p, .p, .p, .p, .p, .p, .p]) (rest := []) (ks := [0]) (env' := [(0, .bool false)]) (H' := [⟨40, b_2, [.int .u64 r_23.2.2.fence.Term, .int .u64 r_23.2.2.fence.Index, .slice A_24 r_23.2.2.effects.length c_25, .map (mA A_26), .map (mA A_28)]⟩]) (ps := []) (by kernel_rfl) trivial ?_
      refine GoO.regionEnd ?_
      exact GoO.ret' (h := c21_12e) (hs := []) (ps := []) (hk := []) (bk := []) Try.func21 () (by kernel_rfl) trivial (by kernel_rfl) (by kernel_rfl)
  · refine GoO.exec (is := [2, 3, 4, 5, 6, 7, 8, 9, 10, 11, 12, 13, 14, 15, 16, 17, 18, 19, 20, 21, 22, 23, 24, 25, 26]) (hs := [.p, .p, .p, .p, .p, .p, .p, .p, .p, .p, .p, .p, .p, .p, .p, .p, .p, .p, .p, .p, .p, .p, .p, .p, .p]) (rest := []) (ks := [0]) (env' := [(0, .bool false)]) (H' := [⟨40, b_2, [.int .u64 r_23.2.2.fence.Term, .int .u64 r_23.2.2.fence.Index, .slice A_24 r_23.2.2.effects.length c_25, .map (mA A_26), .map (mA A_28)]⟩]) (ps := []) (by kernel_rfl) trivial ?_
    refine GoO.regionEnd ?_
    exact GoO.ret' (h := c21_12e) (hs := []) (ps := []) (hk := []) (bk := []) Try.func21 () (by kernel_rfl) trivial (by kernel_rfl) (by kernel_rfl)

/-! (*tontine/ledger.Ledger).Fence -/
noncomputable def c29_0 : Code := bodyOf Try.f29
noncomputable def c29_1 : Code := cdL c29_0
noncomputable def c29_2 : Code := cdR c29_0
noncomputable def c29_3 : Code := cdL c29_2
noncomputable def c29_4 : Code := cdL c29_3
noncomputable def c29_5 : Code := cdR c29_3
noncomputable def c29_9 : Code := cdR c29_5
noncomputable def c29_10 : Code := cdR c29_2
noncomputable def c29_11 : Code := cdL c29_10
noncomputable def c29_12 : Code := cdR c29_10
noncomputable def c29_6 : Code := cdL c29_5
noncomputable def r29_1 : Array Oper := cdO c29_1
noncomputable def r29_4 : Array Oper := cdO c29_4
noncomputable def r29_11 : Array Oper := cdO c29_11
theorem c29_0e : c29_0 = .seq c29_1 c29_2 := by kernel_rfl
theorem c29_1e : c29_1 = .region 0 r29_1 false := by kernel_rfl
theorem c29_2e : c29_2 = .seq c29_3 c29_10 := by kernel_rfl
theorem c29_3e : c29_3 = .seq c29_4 c29_5 := by kernel_rfl
theorem c29_4e : c29_4 = .region 1 r29_4 false := by kernel_rfl
theorem c29_5e : c29_5 = .cond (cdC c29_5) c29_6 c29_9 := by kernel_rfl
theorem c29_9e : c29_9 = .skip := by kernel_rfl
theorem c29_10e : c29_10 = .seq c29_11 c29_12 := by kernel_rfl
theorem c29_11e : c29_11 = .region 3 r29_11 false := by kernel_rfl
theorem c29_12e : c29_12 = .ret := by kernel_rfl
noncomputable def ledger_Ledger_Fence.R (b_2 : Nat) (A_3 : Option Addr) (c_4 : Nat) (A_5 : Option Addr) (c_6 : Nat) (A_7 : Option Addr) (c_8 : Nat) : Pst T_api_Token where
  ε := Unit
  v := fun r x => .agg ⟨[.int .u64 r.Term, .int .u64 r.Index]⟩
  H := fun r x => []
  B := fun r x => []
noncomputable def ledger_Ledger_Fence.cx (b_2 : Nat) (A_3 : Option Addr) (c_4 : Nat) (A_5 : Option Addr) (c_6 : Nat) (A_7 : Option Addr) (c_8 : Nat) (w0 : World) (S0 : Fam) : Cx T_api_Token := ⟨Try.prog, 29, Try.f29, 10, w0, S0, [], 4, ledger_Ledger_Fence.R b_2 A_3 c_4 A_5 c_6 A_7 c_8⟩
theorem ledger_Ledger_Fence_ok (n : Nat) (l_1 : T_ledger_Ledger) (b_2 : Nat) (A_3 : Option Addr) (c_4 : Nat) (A_5 : Option Addr) (c_6 : Nat) (A_7 : Option Addr) (c_8 : Nat) :
    Meets Try.prog 29 [.pointer (some ⟨b_2, 0, none⟩)] 4 [] [⟨1, b_2, [.int .u64 l_1.fence.Term, .int .u64 l_1.fence.Index, .slice A_3 l_1.effects.length c_4, .map (mA A_5), .map (mA A_7)]⟩] [Ow 2 kT_ledger_Effect A_3 c_4 l_1.effects, Mp 3 ky41 (fun v => .bool v) A_5 c_6 l_1.said, Mp 4 ky41 (fun v => .bool v) A_7 c_8 l_1.tombs] (ledger_Ledger_Fence.f n l_1) (ledger_Ledger_Fence.R b_2 A_3 c_4 A_5 c_6 A_7 c_8) := by
  refine Meets.of (c := c29_0) (n := 10) Try.func29 (by kernel_rfl) (by kernel_rfl) (by kernel_rfl) fun w0 S0 => ?_
  unfold ledger_Ledger_Fence.f
  show GoO (ledger_Ledger_Fence.cx b_2 A_3 c_4 A_5 c_6 A_7 c_8 w0 S0) [(0, .pointer (some ⟨b_2, 0, none⟩))] [⟨1, b_2, [.int .u64 l_1.fence.Term, .int .u64 l_1.fence.Index, .slice A_3 l_1.effects.length c_4, .map (mA A_5), .map (mA A_7)]⟩] [Ow 2 kT_ledger_Effect A_3 c_4 l_1.effects, Mp 3 ky41 (fun v => .bool v) A_5 c_6 l_1.said, Mp 4 ky41 (fun v => .bool v) A_7 c_8 l_1.tombs] [.code c29_0] _
  refine GoO.seq' c29_0e ?_
  refine GoO.region' (is := [0]) c29_1e (by kernel_rfl) ?_
  refine OpTo.go (GoO.new rfl 40 (cs := [.int .u64 0, .int .u64 0]) (by kernel_rfl) _ (fun _ => rfl) (fun b_9 => ?_))
  refine GoO.regionEnd ?_
  refine GoO.seq' c29_2e ?_
  refine GoO.seq' c29_3e ?_
  refine GoO.region' (is := [0, 1]) c29_4e (by kernel_rfl) ?_
  refine GoO.exec (is := [0, 1]) (hs := [.p, .p]) (rest := []) (ks := [0, 2, 4]) (env' := [(0, .pointer (some ⟨b_2, 0, none⟩)), (2, .pointer (some ⟨b_9, 0, none⟩)), (4, .bool false)]) (H' := [⟨40, b_9, [.int .u64 0, .int .u64 0]⟩, ⟨1, b_2, [.int .u64 l_1.fence.Term, .int .u64 l_1.fence.Index, .slice A_3 l_1.effects.length c_4, .map (mA A_5), .map (mA A_7)]⟩]) (ps := []) (by kernel_rfl) trivial ?_
  refine GoO.regionEnd ?_
  refine GoO.condF c29_5e (by kernel_rfl) ?_
  refine GoO.skip' c29_9e ?_
  refine GoO.seq' c29_10e ?_
  refine GoO.region' (is := [0, 1, 2, 3, 4]) c29_11e (by kernel_rfl) ?_
  refine GoO.exec (is := [0, 1, 2, 3, 4]) (hs := [.p, .p, .p, .b 1, .b 0]) (rest := []) (ks := [2]) (env' := [(2, .pointer (some ⟨b_9, 0, none⟩))]) (H' := [⟨40, b_9, [.int .u64 l_1.fence.Term, .int .u64 l_1.fence.Index]⟩, ⟨1, b_2, [.int .u64 l_1.fence.Term, .int .u64 l_1.fence.Index, .slice A_3 l_1.effects.length c_4, .map (mA A_5), .map (mA A_7)]⟩]) (ps := [b_2 = b_2, b_9 = b_9]) (by kernel_rfl) (And.intro rfl (And.intro rfl trivial)) ?_
  refine GoO.regionEnd ?_
  exact GoO.ret' (h := c29_12e) (hs := [0]) (ps := [b_9 = b_9]) (hk := []) (bk := []) Try.func29 () (by kernel_rfl) (And.intro rfl trivial) (by kernel_rfl) (by kernel_rfl)

/-! tontine/tontinelaw18.LedgerDead -/
noncomputable def c10_0 : Code := bodyOf Try.f10
noncomputable def c10_1 : Code := cdL c10_0
noncomputable def c10_2 : Code := cdR c10_0
noncomputable def c10_3 : Code := cdL c10_2
noncomputable def c10_4 : Code := cdR c10_2
noncomputable def c10_5 : Code := cdL c10_4
noncomputable def c10_6 : Code := cdL c10_5
noncomputable def c10_7 : Code := cdR c10_5
noncomputable def c10_8 : Code := cdL c10_7
noncomputable def c10_9 : Code := cdL c10_8
noncomputable def c10_10 : Code := cdR c10_8
noncomputable def c10_11 : Code := cdR c10_7
noncomputable def c10_12 : Code := cdR c10_4
noncomputable def c10_13 : Code := cdL c10_12
noncomputable def c10_14 : Code := cdR c10_12
noncomputable def c10_15 : Code := cdL c10_14
noncomputable def c10_16 : Code := cdR c10_14
noncomputable def c10_17 : Code := cdL c10_16
noncomputable def c10_18 : Code := cdR c10_16
noncomputable def c10_19 : Code := cdL c10_18
noncomputable def c10_20 : Code := cdL c10_19
noncomputable def c10_21 : Code := cdR c10_19
noncomputable def c10_22 : Code := cdL c10_21
noncomputable def c10_23 : Code := cdR c10_21
noncomputable def c10_24 : Code := cdR c10_18
noncomputable def c10_25 : Code := cdL c10_24
noncomputable def c10_26 : Code := cdR c10_24
noncomputable def c10_27 : Code := cdL c10_26
noncomputable def c10_28 : Code := cdL c10_27
noncomputable def c10_29 : Code := cdR c10_27
noncomputable def c10_30 : Code := cdL c10_29
noncomputable def c10_31 : Code := cdL c10_30
noncomputable def c10_32 : Code := cdL c10_31
noncomputable def c10_33 : Code := cdR c10_31
noncomputable def c10_34 : Code := cdL c10_33
noncomputable def c10_35 : Code := cdL c10_34
noncomputable def c10_36 : Code := cdR c10_34
noncomputable def c10_37 : Code := cdR c10_33
noncomputable def c10_38 : Code := cdL c10_37
noncomputable def c10_39 : Code := cdL c10_38
noncomputable def c10_40 : Code := cdL c10_39
noncomputable def c10_41 : Code := cdR c10_39
noncomputable def c10_42 : Code := cdL c10_41
noncomputable def c10_43 : Code := cdL c10_42
noncomputable def c10_44 : Code := cdR c10_42
noncomputable def c10_45 : Code := cdL c10_44
noncomputable def c10_46 : Code := cdR c10_44
noncomputable def c10_47 : Code := cdR c10_41
noncomputable def c10_48 : Code := cdL c10_47
noncomputable def c10_49 : Code := cdR c10_47
noncomputable def c10_50 : Code := cdL c10_49
noncomputable def c10_51 : Code := cdR c10_49
noncomputable def c10_52 : Code := cdL c10_51
noncomputable def c10_53 : Code := cdR c10_51
noncomputable def c10_54 : Code := cdL c10_53
noncomputable def c10_55 : Code := cdL c10_54
noncomputable def c10_56 : Code := cdR c10_54
noncomputable def c10_57 : Code := cdL c10_56
noncomputable def c10_58 : Code := cdL c10_57
noncomputable def c10_59 : Code := cdR c10_57
noncomputable def c10_60 : Code := cdL c10_59
noncomputable def c10_61 : Code := cdL c10_60
noncomputable def c10_62 : Code := cdR c10_60
noncomputable def c10_63 : Code := cdR c10_59
noncomputable def c10_64 : Code := cdR c10_56
noncomputable def c10_65 : Code := cdL c10_64
noncomputable def c10_66 : Code := cdR c10_64
noncomputable def c10_67 : Code := cdL c10_66
noncomputable def c10_68 : Code := cdL c10_67
noncomputable def c10_69 : Code := cdR c10_67
noncomputable def c10_70 : Code := cdL c10_69
noncomputable def c10_71 : Code := cdL c10_70
noncomputable def c10_72 : Code := cdR c10_70
noncomputable def c10_73 : Code := cdR c10_69
noncomputable def c10_74 : Code := cdR c10_66
noncomputable def c10_75 : Code := cdL c10_74
noncomputable def c10_76 : Code := cdR c10_74
noncomputable def c10_77 : Code := cdL c10_76
noncomputable def c10_78 : Code := cdL c10_77
noncomputable def c10_79 : Code := cdR c10_77
noncomputable def c10_80 : Code := cdR c10_76
noncomputable def c10_81 : Code := cdR c10_37
noncomputable def c10_82 : Code := cdR c10_26
noncomputable def c10_83 : Code := cdL c10_82
noncomputable def c10_84 : Code := cdR c10_82
noncomputable def c10_85 : Code := cdL c10_84
noncomputable def c10_86 : Code := cdL c10_85
noncomputable def c10_87 : Code := cdR c10_85
noncomputable def c10_88 : Code := cdL c10_87
noncomputable def c10_89 : Code := cdR c10_87
noncomputable def c10_90 : Code := cdR c10_84
noncomputable def c10_91 : Code := cdL c10_90
noncomputable def c10_92 : Code := cdR c10_90
noncomputable def r10_1 : Array Oper := cdO c10_1
noncomputable def r10_3 : Array Oper := cdO c10_3
noncomputable def r10_6 : Array Oper := cdO c10_6
noncomputable def r10_9 : Array Oper := cdO c10_9
noncomputable def r10_13 : Array Oper := cdO c10_13
noncomputable def r10_15 : Array Oper := cdO c10_15
noncomputable def r10_17 : Array Oper := cdO c10_17
noncomputable def r10_20 : Array Oper := cdO c10_20
noncomputable def r10_22 : Array Oper := cdO c10_22
noncomputable def r10_25 : Array Oper := cdO c10_25
noncomputable def r10_28 : Array Oper := cdO c10_28
noncomputable def r10_32 : Array Oper := cdO c10_32
noncomputable def r10_40 : Array Oper := cdO c10_40
noncomputable def r10_43 : Array Oper := cdO c10_43
noncomputable def r10_48 : Array Oper := cdO c10_48
noncomputable def r10_50 : Array Oper := cdO c10_50
noncomputable def r10_52 : Array Oper := cdO c10_52
noncomputable def r10_55 : Array Oper := cdO c10_55
noncomputable def r10_58 : Array Oper := cdO c10_58
noncomputable def r10_61 : Array Oper := cdO c10_61
noncomputable def r10_65 : Array Oper := cdO c10_65
noncomputable def r10_68 : Array Oper := cdO c10_68
noncomputable def r10_71 : Array Oper := cdO c10_71
noncomputable def r10_75 : Array Oper := cdO c10_75
noncomputable def r10_78 : Array Oper := cdO c10_78
noncomputable def r10_81 : Array Oper := cdO c10_81
noncomputable def r10_83 : Array Oper := cdO c10_83
noncomputable def r10_86 : Array Oper := cdO c10_86
noncomputable def r10_88 : Array Oper := cdO c10_88
noncomputable def r10_91 : Array Oper := cdO c10_91
theorem c10_0e : c10_0 = .seq c10_1 c10_2 := by kernel_rfl
theorem c10_1e : c10_1 = .region 0 r10_1 false := by kernel_rfl
theorem c10_2e : c10_2 = .seq c10_3 c10_4 := by kernel_rfl
theorem c10_3e : c10_3 = .region 1 r10_3 true := by kernel_rfl
theorem c10_4e : c10_4 = .seq c10_5 c10_12 := by kernel_rfl
theorem c10_5e : c10_5 = .seq c10_6 c10_7 := by kernel_rfl
theorem c10_6e : c10_6 = .region 2 r10_6 false := by kernel_rfl
theorem c10_7e : c10_7 = .cond (cdC c10_7) c10_8 c10_11 := by kernel_rfl
theorem c10_8e : c10_8 = .seq c10_9 c10_10 := by kernel_rfl
theorem c10_9e : c10_9 = .region 3 r10_9 false := by kernel_rfl
theorem c10_10e : c10_10 = .ret := by kernel_rfl
theorem c10_11e : c10_11 = .skip := by kernel_rfl
theorem c10_12e : c10_12 = .seq c10_13 c10_14 := by kernel_rfl
theorem c10_13e : c10_13 = .region 4 r10_13 false := by kernel_rfl
theorem c10_14e : c10_14 = .seq c10_15 c10_16 := by kernel_rfl
theorem c10_15e : c10_15 = .region 5 r10_15 false := by kernel_rfl
theorem c10_16e : c10_16 = .seq c10_17 c10_18 := by kernel_rfl
theorem c10_17e : c10_17 = .region 6 r10_17 false := by kernel_rfl
theorem c10_18e : c10_18 = .seq c10_19 c10_24 := by kernel_rfl
theorem c10_19e : c10_19 = .seq c10_20 c10_21 := by kernel_rfl
theorem c10_20e : c10_20 = .region 7 r10_20 false := by kernel_rfl
theorem c10_21e : c10_21 = .cond (cdC c10_21) c10_22 c10_23 := by kernel_rfl
theorem c10_22e : c10_22 = .region 8 r10_22 false := by kernel_rfl
theorem c10_23e : c10_23 = .skip := by kernel_rfl
theorem c10_24e : c10_24 = .seq c10_25 c10_26 := by kernel_rfl
theorem c10_25e : c10_25 = .region 9 r10_25 false := by kernel_rfl
theorem c10_26e : c10_26 = .seq c10_27 c10_82 := by kernel_rfl
theorem c10_27e : c10_27 = .seq c10_28 c10_29 := by kernel_rfl
theorem c10_28e : c10_28 = .region 10 r10_28 false := by kernel_rfl
theorem c10_29e : c10_29 = .block 0 c10_30 := by kernel_rfl
theorem c10_30e : c10_30 = .loop c10_31 := by kernel_rfl
theorem c10_31e : c10_31 = .seq c10_32 c10_33 := by kernel_rfl
theorem c10_32e : c10_32 = .region 11 r10_32 false := by kernel_rfl
theorem c10_33e : c10_33 = .seq c10_34 c10_37 := by kernel_rfl
theorem c10_34e : c10_34 = .cond (cdC c10_34) c10_35 c10_36 := by kernel_rfl
theorem c10_35e : c10_35 = .skip := by kernel_rfl
theorem c10_36e : c10_36 = .exit 0 := by kernel_rfl
theorem c10_37e : c10_37 = .seq c10_38 c10_81 := by kernel_rfl
theorem c10_38e : c10_38 = .block 1 c10_39 := by kernel_rfl
theorem c10_39e : c10_39 = .seq c10_40 c10_41 := by kernel_rfl
theorem c10_40e : c10_40 = .region 12 r10_40 false := by kernel_rfl
theorem c10_41e : c10_41 = .seq c10_42 c10_47 := by kernel_rfl
theorem c10_42e : c10_42 = .seq c10_43 c10_44 := by kernel_rfl
theorem c10_43e : c10_43 = .region 13 r10_43 false := by kernel_rfl
theorem c10_44e : c10_44 = .cond (cdC c10_44) c10_45 c10_46 := by kernel_rfl
theorem c10_45e : c10_45 = .exit 0 := by kernel_rfl
theorem c10_46e : c10_46 = .skip := by kernel_rfl
theorem c10_47e : c10_47 = .seq c10_48 c10_49 := by kernel_rfl
theorem c10_48e : c10_48 = .region 14 r10_48 false := by kernel_rfl
theorem c10_49e : c10_49 = .seq c10_50 c10_51 := by kernel_rfl
theorem c10_50e : c10_50 = .region 15 r10_50 false := by kernel_rfl
theorem c10_51e : c10_51 = .seq c10_52 c10_53 := by kernel_rfl
theorem c10_52e : c10_52 = .region 16 r10_52 false := by kernel_rfl
theorem c10_53e : c10_53 = .block 2 c10_54 := by kernel_rfl
theorem c10_54e : c10_54 = .seq c10_55 c10_56 := by kernel_rfl
theorem c10_55e : c10_55 = .region 19 r10_55 false := by kernel_rfl
theorem c10_56e : c10_56 = .cond (cdC c10_56) c10_57 c10_64 := by kernel_rfl
theorem c10_57e : c10_57 = .seq c10_58 c10_59 := by kernel_rfl
theorem c10_58e : c10_58 = .region 20 r10_58 false := by kernel_rfl
theorem c10_59e : c10_59 = .cond (cdC c10_59) c10_60 c10_63 := by kernel_rfl
theorem c10_60e : c10_60 = .seq c10_61 c10_62 := by kernel_rfl
theorem c10_61e : c10_61 = .region 21 r10_61 false := by kernel_rfl
theorem c10_62e : c10_62 = .ret := by kernel_rfl
theorem c10_63e : c10_63 = .skip := by kernel_rfl
theorem c10_64e : c10_64 = .seq c10_65 c10_66 := by kernel_rfl
theorem c10_65e : c10_65 = .region 22 r10_65 false := by kernel_rfl
theorem c10_66e : c10_66 = .cond (cdC c10_66) c10_67 c10_74 := by kernel_rfl
theorem c10_67e : c10_67 = .seq c10_68 c10_69 := by kernel_rfl
theorem c10_68e : c10_68 = .region 23 r10_68 false := by kernel_rfl
theorem c10_69e : c10_69 = .cond (cdC c10_69) c10_70 c10_73 := by kernel_rfl
theorem c10_70e : c10_70 = .seq c10_71 c10_72 := by kernel_rfl
theorem c10_71e : c10_71 = .region 24 r10_71 false := by kernel_rfl
theorem c10_72e : c10_72 = .ret := by kernel_rfl
theorem c10_73e : c10_73 = .skip := by kernel_rfl
theorem c10_74e : c10_74 = .seq c10_75 c10_76 := by kernel_rfl
theorem c10_75e : c10_75 = .region 17 r10_75 false := by kernel_rfl
theorem c10_76e : c10_76 = .cond (cdC c10_76) c10_77 c10_80 := by kernel_rfl
theorem c10_77e : c10_77 = .seq c10_78 c10_79 := by kernel_rfl
theorem c10_78e : c10_78 = .region 18 r10_78 false := by kernel_rfl
theorem c10_79e : c10_79 = .ret := by kernel_rfl
theorem c10_80e : c10_80 = .skip := by kernel_rfl
theorem c10_81e : c10_81 = .region 25 r10_81 false := by kernel_rfl
theorem c10_82e : c10_82 = .seq c10_83 c10_84 := by kernel_rfl
theorem c10_83e : c10_83 = .region 26 r10_83 false := by kernel_rfl
theorem c10_84e : c10_84 = .seq c10_85 c10_90 := by kernel_rfl
theorem c10_85e : c10_85 = .seq c10_86 c10_87 := by kernel_rfl
theorem c10_86e : c10_86 = .region 27 r10_86 false := by kernel_rfl
theorem c10_87e : c10_87 = .cond (cdC c10_87) c10_88 c10_89 := by kernel_rfl
theorem c10_88e : c10_88 = .region 28 r10_88 false := by kernel_rfl
theorem c10_89e : c10_89 = .skip := by kernel_rfl
theorem c10_90e : c10_90 = .seq c10_91 c10_92 := by kernel_rfl
theorem c10_91e : c10_91 = .region 29 r10_91 false := by kernel_rfl
theorem c10_92e : c10_92 = .ret := by kernel_rfl
noncomputable def tontinelaw18_LedgerDead.R (A_3 : Option Addr) (c_4 : Nat) : Pst Bool where
  ε := Unit
  v := fun r x => .bool r
  H := fun r x => []
  B := fun r x => []
noncomputable def tontinelaw18_LedgerDead.cx (A_3 : Option Addr) (c_4 : Nat) (w0 : World) (S0 : Fam) : Cx Bool := ⟨Try.prog, 10, Try.f10, 126, w0, S0, [], 0, tontinelaw18_LedgerDead.R A_3 c_4⟩
theorem tontinelaw18_LedgerDead_j2_ok (n : Nat) (k_1 : T_api_Key) (done_5 : Bool) (f_45 : Int) (f_46 : Int) (f_47 : (List T_ledger_Effect)) (f_50 : (List (T_api_Key × Bool))) (f_53 : (List (T_api_Key × Bool))) (b_10 : Nat) (A_48 : Option Addr) (c_49 : Nat) (A_51 : Option Addr) (c_52 : Nat) (A_54 : Option Addr) (c_55 : Nat) (A_3 : Option Addr) (c_4 : Nat) (w0 : World) (S0 : Fam) (n_93 : Int) :
    GoO (tontinelaw18_LedgerDead.cx A_3 c_4 w0 S0) [(2, .bool done_5), (7, .int .u64 k_1.Saga), (8, .int .i64 ((wi64 ((k_1.Step.tmod 64) + 64)).tmod 64)), (9, .pointer (some ⟨b_10, 0, none⟩)), (19, .int .i64 n_93)] [⟨41, b_10, [.int .u64 f_45, .int .u64 f_46, .slice A_48 f_47.length c_49, .map (mA A_51), .map (mA A_54)]⟩] [Ow 42 kT_ledger_Effect A_48 c_49 f_47, Mp 43 ky41 (fun v => .bool v) A_51 c_52 f_50, Mp 44 ky41 (fun v => .bool v) A_54 c_55 f_53] [.code c10_90] (tontinelaw18_LedgerDead.j2 n k_1 done_5 f_45 f_46 f_47 f_50 f_53 n_93) := by
  unfold tontinelaw18_LedgerDead.j2
  refine GoO.seq' c10_90e ?_
  refine GoO.region' (is := [0, 1, 2, 3, 4, 5, 6, 7, 8, 9, 10, 11, 12, 13, 14]) c10_91e (by kernel_rfl) ?_
  refine GoO.exec (is := [0]) (hs := [.p]) (rest := [1, 2, 3, 4, 5, 6, 7, 8, 9, 10, 11, 12, 13, 14]) (ks := [2, 7, 8, 9, 19, 112]) (env' := [(2, .bool done_5), (7, .int .u64 k_1.Saga), (8, .int .i64 ((wi64 ((k_1.Step.tmod 64) + 64)).tmod 64)), (9, .pointer (some ⟨b_10, 0, none⟩)), (19, .int .i64 n_93), (112, .pointer (some ⟨b_10, 0, none⟩))]) (H' := [⟨41, b_10, [.int .u64 f_45, .int .u64 f_46, .slice A_48 f_47.length c_49, .map (mA A_51), .map (mA A_54)]⟩]) (ps := []) (by kernel_rfl) trivial ?_
  refine OpTo.go (GoO.call rfl (by kernel_rfl) (by kernel_rfl) (ledger_Ledger_Effects_ok n (⟨(⟨f_45, f_46⟩ : T_api_Token), f_47, f_50, f_53⟩ : T_ledger_Ledger) b_10 A_48 c_49 A_51 c_52 A_54 c_55) [[0], [41], [42], [43], [44]] [(49, 5)] [(1, 0)] [(2, 0), (3, 1), (4, 2)] (hks := [0]) (bks := [0, 1, 2]) (by kernel_rfl) (by kernel_rfl) (by kernel_rfl) (.inl rfl) rfl rfl (by kernel_rfl) (by kernel_rfl) _ (fun _ _ => rfl) _ _ (fun _ _ => rfl) (fun _ _ => rfl) (fun _ _ => by kernel_rfl) (fun _ _ => by kernel_rfl) (fun r_94 x_100 => ?_))
  obtain ⟨A_95, c_96⟩ := x_100
  refine GoO.shape (env' := [(2, .bool done_5), (7, .int .u64 k_1.Saga), (8, .int .i64 ((wi64 ((k_1.Step.tmod 64) + 64)).tmod 64)), (9, .pointer (some ⟨b_10, 0, none⟩)), (19, .int .i64 n_93), (112, .pointer (some ⟨b_10, 0, none⟩)), (113, .slice A_95 r_94.length c_96)]) (H' := [⟨41, b_10, [.int .u64 f_45, .int .u64 f_46, .slice A_48 f_47.length c_49, .map (mA A_51), .map (mA A_54)]⟩]) (B' := [Ow 49 kT_ledger_Effect A_95 c_96 r_94, Ow 42 kT_ledger_Effect A_48 c_49 f_47, Mp 43 ky41 (fun v => .bool v) A_51 c_52 f_50, Mp 44 ky41 (fun v => .bool v) A_54 c_55 f_53]) (ks := [2, 7, 8, 9, 19, 112, 113]) (by kernel_rfl) (by kernel_rfl) (by kernel_rfl) ?_
  refine GoO.exec (is := [2, 3, 4, 5]) (hs := [.p, .p, .p, .p]) (rest := [6, 7, 8, 9, 10, 11, 12, 13, 14]) (ks := [2, 7, 8, 9, 117]) (env' := [(2, .bool done_5), (7, .int .u64 k_1.Saga), (8, .int .i64 ((wi64 ((k_1.Step.tmod 64) + 64)).tmod 64)), (9, .pointer (some ⟨b_10, 0, none⟩)), (117, .bool ((r_94.length : Int) == n_93))]) (H' := [⟨41, b_10, [.int .u64 f_45, .int .u64 f_46, .slice A_48 f_47.length c_49, .map (mA A_51), .map (mA A_54)]⟩]) (ps := []) (by kernel_rfl) trivial ?_
  refine GoO.bsplit (t := 117) (by kernel_rfl) (fun h97 => ?_) (fun h97 => ?_)
  · refine GoO.exec (is := [6, 7, 8]) (hs := [.p, .p, .p]) (rest := [9, 10, 11, 12, 13, 14]) (ks := [2, 117, 118, 119, 120]) (env' := [(2, .bool done_5), (117, .bool true), (118, .pointer (some ⟨b_10, 0, none⟩)), (119, .int .u64 k_1.Saga), (120, .int .i64 ((wi64 ((k_1.Step.tmod 64) + 64)).tmod 64))]) (H' := [⟨41, b_10, [.int .u64 f_45, .int .u64 f_46, .slice A_48 f_47.length c_49, .map (mA A_51), .map (mA A_54)]⟩]) (ps := []) (by kernel_rfl) trivial ?_
    refine OpTo.go (GoO.call rfl (by kernel_rfl) (by kernel_rfl) (ledger_Ledger_Dead_ok n (⟨(⟨f_45, f_46⟩ : T_api_Token), f_47, f_50, f_53⟩ : T_ledger_Ledger) k_1.Saga ((wi64 ((k_1.Step.tmod 64) + 64)).tmod 64) b_10 A_48 c_49 A_51 c_52 A_54 c_55) [[0], [41], [42], [43], [44]] [] [(1, 0)] [(2, 1), (3, 2), (4, 3)] (hks := [0]) (bks := [0, 1, 2, 3]) (by kernel_rfl) (by kernel_rfl) (by kernel_rfl) (.inl rfl) rfl rfl (by kernel_rfl) (by kernel_rfl) _ (fun _ _ => rfl) _ _ (fun _ _ => rfl) (fun _ _ => rfl) (fun _ _ => by kernel_rfl) (fun _ _ => by kernel_rfl) (fun r_98 x_99 => ?_))
    refine GoO.shape (env' := [(2, .bool done_5), (117, .bool true), (118, .pointer (some ⟨b_10, 0, none⟩)), (119, .int .u64 k_1.Saga), (120, .int .i64 ((wi64 ((k_1.Step.tmod 64) + 64)).tmod 64)), (121, .bool r_98)]) (H' := [⟨41, b_10, [.int .u64 f_45, .int .u64 f_46, .slice A_48 f_47.length c_49, .map (mA A_51), .map (mA A_54)]⟩]) (B' := [Ow 49 kT_ledger_Effect A_95 c_96 r_94, Ow 42 kT_ledger_Effect A_48 c_49 f_47, Mp 43 ky41 (fun v => .bool v) A_51 c_52 f_50, Mp 44 ky41 (fun v => .bool v) A_54 c_55 f_53]) (ks := [2, 117, 118, 119, 120, 121]) (by kernel_rfl) (by kernel_rfl) (by kernel_rfl) ?_
    refine GoO.exec (is := [10, 11, 12, 13, 14]) (hs := [.p, .p, .p, .p, .p]) (rest := []) (ks := [6]) (env' := [(6, .bool (r_98 == (!done_5)))]) (H' := [⟨41, b_10, [.int .u64 f_45, .int .u64 f_46, .slice A_48 f_47.length c_49, .map (mA A_51), .map (mA A_54)]⟩]) (ps := []) (by kernel_rfl) trivial ?_
    refine GoO.regionEnd ?_
    exact GoO.ret' (h := c10_92e) (hs := []) (ps := []) (hk := []) (bk := []) Try.func10 () (by kernel_rfl) trivial (by kernel_rfl) (by kernel_rfl)
  · refine GoO.exec (is := [6, 7, 8, 9, 10, 11, 12, 13, 14]) (hs := [.p, .p, .p, .p, .p, .p, .p, .p, .p]) (rest := []) (ks := [6]) (env' := [(6, .bool false)]) (H' := [⟨41, b_10, [.int .u64 f_45, .int .u64 f_46, .slice A_48 f_47.length c_49, .map (mA A_51), .map (mA A_54)]⟩]) (ps := []) (by kernel_rfl) trivial ?_
    refine GoO.regionEnd ?_
    exact GoO.ret' (h := c10_92e) (hs := []) (ps := []) (hk := []) (bk := []) Try.func10 () (by kernel_rfl) trivial (by kernel_rfl) (by kernel_rfl)
theorem tontinelaw18_LedgerDead_j1_ok (n : Nat) (k_1 : T_api_Key) (done_5 : Bool) (f_45 : Int) (f_46 : Int) (f_47 : (List T_ledger_Effect)) (f_50 : (List (T_api_Key × Bool))) (f_53 : (List (T_api_Key × Bool))) (b_10 : Nat) (A_48 : Option Addr) (c_49 : Nat) (A_51 : Option Addr) (c_52 : Nat) (A_54 : Option Addr) (c_55 : Nat) (A_3 : Option Addr) (c_4 : Nat) (w0 : World) (S0 : Fam) :
    GoO (tontinelaw18_LedgerDead.cx A_3 c_4 w0 S0) [(2, .bool done_5), (7, .int .u64 k_1.Saga), (8, .int .i64 ((wi64 ((k_1.Step.tmod 64) + 64)).tmod 64)), (9, .pointer (some ⟨b_10, 0, none⟩))] [⟨41, b_10, [.int .u64 f_45, .int .u64 f_46, .slice A_48 f_47.length c_49, .map (mA A_51), .map (mA A_54)]⟩] [Ow 42 kT_ledger_Effect A_48 c_49 f_47, Mp 43 ky41 (fun v => .bool v) A_51 c_52 f_50, Mp 44 ky41 (fun v => .bool v) A_54 c_55 f_53] [.code c10_82] (tontinelaw18_LedgerDead.j1 n k_1 done_5 f_45 f_46 f_47 f_50 f_53) := by
  unfold tontinelaw18_LedgerDead.j1
  refine GoO.seq' c10_82e ?_
  refine GoO.region' (is := [0]) c10_83e (by kernel_rfl) ?_
  refine GoO.exec (is := [0]) (hs := [.p]) (rest := []) (ks := [2, 7, 8, 9, 19]) (env' := [(2, .bool done_5), (7, .int .u64 k_1.Saga), (8, .int .i64 ((wi64 ((k_1.Step.tmod 64) + 64)).tmod 64)), (9, .pointer (some ⟨b_10, 0, none⟩)), (19, .int .i64 0)]) (H' := [⟨41, b_10, [.int .u64 f_45, .int .u64 f_46, .slice A_48 f_47.length c_49, .map (mA A_51), .map (mA A_54)]⟩]) (ps := []) (by kernel_rfl) trivial ?_
  refine GoO.regionEnd ?_
  refine GoO.seq' c10_84e ?_
  refine GoO.seq' c10_85e ?_
  refine GoO.region' (is := [0]) c10_86e (by kernel_rfl) ?_
  refine GoO.exec (is := [0]) (hs := [.p]) (rest := []) (ks := [2, 7, 8, 9, 19, 111]) (env' := [(2, .bool done_5), (7, .int .u64 k_1.Saga), (8, .int .i64 ((wi64 ((k_1.Step.tmod 64) + 64)).tmod 64)), (9, .pointer (some ⟨b_10, 0, none⟩)), (19, .int .i64 0), (111, .bool done_5)]) (H' := [⟨41, b_10, [.int .u64 f_45, .int .u64 f_46, .slice A_48 f_47.length c_49, .map (mA A_51), .map (mA A_54)]⟩]) (ps := []) (by kernel_rfl) trivial ?_
  refine GoO.regionEnd ?_
  refine GoO.ite' c10_87e (by kernel_rfl) (fun h92 => ?_) (fun h92 => ?_)
  · refine GoO.region' (is := [0]) c10_88e (by kernel_rfl) ?_
    refine GoO.exec (is := [0]) (hs := [.p]) (rest := []) (ks := [2, 7, 8, 9, 19]) (env' := [(2, .bool done_5), (7, .int .u64 k_1.Saga), (8, .int .i64 ((wi64 ((k_1.Step.tmod 64) + 64)).tmod 64)), (9, .pointer (some ⟨b_10, 0, none⟩)), (19, .int .i64 2)]) (H' := [⟨41, b_10, [.int .u64 f_45, .int .u64 f_46, .slice A_48 f_47.length c_49, .map (mA A_51), .map (mA A_54)]⟩]) (ps := []) (by kernel_rfl) trivial ?_
    refine GoO.regionEnd ?_
    exact GoO.sub (ks := [2, 7, 8, 9, 19]) (hk := [0]) (bk := [0, 1, 2]) (by kernel_rfl) (by kernel_rfl) (by kernel_rfl) (tontinelaw18_LedgerDead_j2_ok n k_1 done_5 f_45 f_46 f_47 f_50 f_53 b_10 A_48 c_49 A_51 c_52 A_54 c_55 A_3 c_4 w0 S0 2)
  · refine GoO.skip' c10_89e ?_
    exact GoO.sub (ks := [2, 7, 8, 9, 19]) (hk := [0]) (bk := [0, 1, 2]) (by kernel_rfl) (by kernel_rfl) (by kernel_rfl) (tontinelaw18_LedgerDead_j2_ok n k_1 done_5 f_45 f_46 f_47 f_50 f_53 b_10 A_48 c_49 A_51 c_52 A_54 c_55 A_3 c_4 w0 S0 0)
theorem tontinelaw18_LedgerDead_j3_ok (n : Nat) (L0 : Int → Int → (List T_ledger_Effect) → (List (T_api_Key × Bool)) → (List (T_api_Key × Bool)) → Int → Option Bool) (k_1 : T_api_Key) (tokens_2 : (List T_api_Token)) (done_5 : Bool) (f_45 : Int) (f_46 : Int) (f_47 : (List T_ledger_Effect)) (f_50 : (List (T_api_Key × Bool))) (f_53 : (List (T_api_Key × Bool))) (x_56 : Int) (r_70 : Bool × Int × T_ledger_Ledger) (A_3 : Option Addr) (c_4 : Nat) (b_10 : Nat) (b_17 : Nat) (b_18 : Nat) (A_48 : Option Addr) (c_49 : Nat) (A_51 : Option Addr) (c_52 : Nat) (A_54 : Option Addr) (c_55 : Nat) (A_71 : Option Addr) (c_72 : Nat) (A_73 : Option Addr) (c_74 : Nat) (A_75 : Option Addr) (c_76 : Nat) (w0 : World) (S0 : Fam) (ih0 : ∀ (f_45 : Int) (f_46 : Int) (f_47 : (List T_ledger_Effect)) (f_50 : (List (T_api_Key × Bool))) (f_53 : (List (T_api_Key × Bool))) (x_56 : Int) (A_48 : Option Addr) (c_49 : Nat) (A_51 : Option Addr) (c_52 : Nat) (A_54 : Option Addr) (c_55 : Nat), GoO (tontinelaw18_LedgerDead.cx A_3 c_4 w0 S0) [(2, .bool done_5), (7, .int .u64 k_1.Saga), (8, .int .i64 ((wi64 ((k_1.Step.tmod 64) + 64)).tmod 64)), (9, .pointer (some ⟨b_10, 0, none⟩)), (10, .pointer (some ⟨b_17, 0, none⟩)), (11, .pointer (some ⟨b_18, 0, none⟩)), (46, .slice A_3 tokens_2.length c_4), (47, .int .i64 (tokens_2.length : Int)), (48, .int .i64 x_56)] [⟨41, b_10, [.int .u64 f_45, .int .u64 f_46, .slice A_48 f_47.length c_49, .map (mA A_51), .map (mA A_54)]⟩, ⟨45, b_17, [.int .u64 k_1.Saga, .int .i64 ((wi64 ((k_1.Step.tmod 64) + 64)).tmod 64), .bool false]⟩, ⟨46, b_18, [.int .u64 k_1.Saga, .int .i64 ((wi64 ((k_1.Step.tmod 64) + 64)).tmod 64), .bool true]⟩] [Ow 42 kT_ledger_Effect A_48 c_49 f_47, Mp 43 ky41 (fun v => .bool v) A_51 c_52 f_50, Mp 44 ky41 (fun v => .bool v) A_54 c_55 f_53, Rd 0 kT_api_Token A_3 c_4 tokens_2] [.code c10_31, .inLoop c10_31, .inBlock 0, .code c10_82] (L0 f_45 f_46 f_47 f_50 f_53 x_56)) (b_85 : Bool) :
    GoO (tontinelaw18_LedgerDead.cx A_3 c_4 w0 S0) [(2, .bool done_5), (7, .int .u64 k_1.Saga), (8, .int .i64 ((wi64 ((k_1.Step.tmod 64) + 64)).tmod 64)), (9, .pointer (some ⟨b_10, 0, none⟩)), (10, .pointer (some ⟨b_17, 0, none⟩)), (11, .pointer (some ⟨b_18, 0, none⟩)), (46, .slice A_3 tokens_2.length c_4), (47, .int .i64 (tokens_2.length : Int)), (48, .int .i64 x_56), (109, .bool b_85)] [⟨41, b_10, [.int .u64 r_70.2.2.fence.Term, .int .u64 r_70.2.2.fence.Index, .slice A_71 r_70.2.2.effects.length c_72, .map (mA A_73), .map (mA A_75)]⟩, ⟨45, b_17, [.int .u64 k_1.Saga, .int .i64 ((wi64 ((k_1.Step.tmod 64) + 64)).tmod 64), .bool false]⟩, ⟨46, b_18, [.int .u64 k_1.Saga, .int .i64 ((wi64 ((k_1.Step.tmod 64) + 64)).tmod 64), .bool true]⟩] [Ow 42 kT_ledger_Effect A_71 c_72 r_70.2.2.effects, Mp 43 ky41 (fun v => .bool v) A_73 c_74 r_70.2.2.said, Mp 44 ky41 (fun v => .bool v) A_75 c_76 r_70.2.2.tombs, Rd 0 kT_api_Token A_3 c_4 tokens_2] [.code c10_69, .inBlock 2, .inBlock 1, .code c10_81, .inLoop c10_31, .inBlock 0, .code c10_82] (tontinelaw18_LedgerDead.j3 n L0 x_56 r_70 b_85) := by
  unfold tontinelaw18_LedgerDead.j3
  refine GoO.ite' c10_69e (by kernel_rfl) (fun h86 => ?_) (fun h86 => ?_)
  · refine GoO.seq' c10_70e ?_
    refine GoO.region' (is := [0]) c10_71e (by kernel_rfl) ?_
    refine GoO.exec (is := [0]) (hs := [.p]) (rest := []) (ks := [6]) (env' := [(6, .bool false)]) (H' := [⟨41, b_10, [.int .u64 r_70.2.2.fence.Term, .int .u64 r_70.2.2.fence.Index, .slice A_71 r_70.2.2.effects.length c_72, .map (mA A_73), .map (mA A_75)]⟩, ⟨45, b_17, [.int .u64 k_1.Saga, .int .i64 ((wi64 ((k_1.Step.tmod 64) + 64)).tmod 64), .bool false]⟩, ⟨46, b_18, [.int .u64 k_1.Saga, .int .i64 ((wi64 ((k_1.Step.tmod 64) + 64)).tmod 64), .bool true]⟩]) (ps := []) (by kernel_rfl) trivial ?_
    refine GoO.regionEnd ?_
    exact GoO.ret' (h := c10_72e) (hs := []) (ps := []) (hk := []) (bk := []) Try.func10 () (by kernel_rfl) trivial (by kernel_rfl) (by kernel_rfl)
  · refine GoO.skip' c10_73e ?_
    refine GoO.inBlock ?_
    refine GoO.inBlock ?_
    refine GoO.region' (is := [0, 1]) c10_81e (by kernel_rfl) ?_
    refine GoO.exec (is := [0, 1]) (hs := [.p, .p]) (rest := []) (ks := [2, 7, 8, 9, 10, 11, 46, 47, 48]) (env' := [(2, .bool done_5), (7, .int .u64 k_1.Saga), (8, .int .i64 ((wi64 ((k_1.Step.tmod 64) + 64)).tmod 64)), (9, .pointer (some ⟨b_10, 0, none⟩)), (10, .pointer (some ⟨b_17, 0, none⟩)), (11, .pointer (some ⟨b_18, 0, none⟩)), (46, .slice A_3 tokens_2.length c_4), (47, .int .i64 (tokens_2.length : Int)), (48, .int .i64 (wi64 (x_56 + 1)))]) (H' := [⟨41, b_10, [.int .u64 r_70.2.2.fence.Term, .int .u64 r_70.2.2.fence.Index, .slice A_71 r_70.2.2.effects.length c_72, .map (mA A_73), .map (mA A_75)]⟩, ⟨45, b_17, [.int .u64 k_1.Saga, .int .i64 ((wi64 ((k_1.Step.tmod 64) + 64)).tmod 64), .bool false]⟩, ⟨46, b_18, [.int .u64 k_1.Saga, .int .i64 ((wi64 ((k_1.Step.tmod 64) + 64)).tmod 64), .bool true]⟩]) (ps := []) (by kernel_rfl) trivial ?_
    refine GoO.regionEnd ?_
    refine GoO.inLoop ?_
    exact GoO.sub (ks := [2, 7, 8, 9, 10, 11, 46, 47, 48]) (hk := [0, 1, 2]) (bk := [0, 1, 2, 3]) (by kernel_rfl) (by kernel_rfl) (by kernel_rfl) (ih0 r_70.2.2.fence.Term r_70.2.2.fence.Index r_70.2.2.effects r_70.2.2.said r_70.2.2.tombs (wi64 (x_56 + 1)) A_71 c_72 A_73 c_74 A_75 c_76)
theorem tontinelaw18_LedgerDead_j4_ok (n : Nat) (L0 : Int → Int → (List T_ledger_Effect) → (List (T_api_Key × Bool)) → (List (T_api_Key × Bool)) → Int → Option Bool) (k_1 : T_api_Key) (tokens_2 : (List T_api_Token)) (done_5 : Bool) (f_45 : Int) (f_46 : Int) (f_47 : (List T_ledger_Effect)) (f_50 : (List (T_api_Key × Bool))) (f_53 : (List (T_api_Key × Bool))) (x_56 : Int) (r_70 : Bool × Int × T_ledger_Ledger) (A_3 : Option Addr) (c_4 : Nat) (b_10 : Nat) (b_17 : Nat) (b_18 : Nat) (A_48 : Option Addr) (c_49 : Nat) (A_51 : Option Addr) (c_52 : Nat) (A_54 : Option Addr) (c_55 : Nat) (A_71 : Option Addr) (c_72 : Nat) (A_73 : Option Addr) (c_74 : Nat) (A_75 : Option Addr) (c_76 : Nat) (w0 : World) (S0 : Fam) (ih0 : ∀ (f_45 : Int) (f_46 : Int) (f_47 : (List T_ledger_Effect)) (f_50 : (List (T_api_Key × Bool))) (f_53 : (List (T_api_Key × Bool))) (x_56 : Int) (A_48 : Option Addr) (c_49 : Nat) (A_51 : Option Addr) (c_52 : Nat) (A_54 : Option Addr) (c_55 : Nat), GoO (tontinelaw18_LedgerDead.cx A_3 c_4 w0 S0) [(2, .bool done_5), (7, .int .u64 k_1.Saga), (8, .int .i64 ((wi64 ((k_1.Step.tmod 64) + 64)).tmod 64)), (9, .pointer (some ⟨b_10, 0, none⟩)), (10, .pointer (some ⟨b_17, 0, none⟩)), (11, .pointer (some ⟨b_18, 0, none⟩)), (46, .slice A_3 tokens_2.length c_4), (47, .int .i64 (tokens_2.length : Int)), (48, .int .i64 x_56)] [⟨41, b_10, [.int .u64 f_45, .int .u64 f_46, .slice A_48 f_47.length c_49, .map (mA A_51), .map (mA A_54)]⟩, ⟨45, b_17, [.int .u64 k_1.Saga, .int .i64 ((wi64 ((k_1.Step.tmod 64) + 64)).tmod 64), .bool false]⟩, ⟨46, b_18, [.int .u64 k_1.Saga, .int .i64 ((wi64 ((k_1.Step.tmod 64) + 64)).tmod 64), .bool true]⟩] [Ow 42 kT_ledger_Effect A_48 c_49 f_47, Mp 43 ky41 (fun v => .bool v) A_51 c_52 f_50, Mp 44 ky41 (fun v => .bool v) A_54 c_55 f_53, Rd 0 kT_api_Token A_3 c_4 tokens_2] [.code c10_31, .inLoop c10_31, .inBlock 0, .code c10_82] (L0 f_45 f_46 f_47 f_50 f_53 x_56)) (b_89 : Bool) :
    GoO (tontinelaw18_LedgerDead.cx A_3 c_4 w0 S0) [(2, .bool done_5), (7, .int .u64 k_1.Saga), (8, .int .i64 ((wi64 ((k_1.Step.tmod 64) + 64)).tmod 64)), (9, .pointer (some ⟨b_10, 0, none⟩)), (10, .pointer (some ⟨b_17, 0, none⟩)), (11, .pointer (some ⟨b_18, 0, none⟩)), (46, .slice A_3 tokens_2.length c_4), (47, .int .i64 (tokens_2.length : Int)), (48, .int .i64 x_56), (83, .bool b_89)] [⟨41, b_10, [.int .u64 r_70.2.2.fence.Term, .int .u64 r_70.2.2.fence.Index, .slice A_71 r_70.2.2.effects.length c_72, .map (mA A_73), .map (mA A_75)]⟩, ⟨45, b_17, [.int .u64 k_1.Saga, .int .i64 ((wi64 ((k_1.Step.tmod 64) + 64)).tmod 64), .bool false]⟩, ⟨46, b_18, [.int .u64 k_1.Saga, .int .i64 ((wi64 ((k_1.Step.tmod 64) + 64)).tmod 64), .bool true]⟩] [Ow 42 kT_ledger_Effect A_71 c_72 r_70.2.2.effects, Mp 43 ky41 (fun v => .bool v) A_73 c_74 r_70.2.2.said, Mp 44 ky41 (fun v => .bool v) A_75 c_76 r_70.2.2.tombs, Rd 0 kT_api_Token A_3 c_4 tokens_2] [.code c10_76, .inBlock 2, .inBlock 1, .code c10_81, .inLoop c10_31, .inBlock 0, .code c10_82] (tontinelaw18_LedgerDead.j4 n L0 x_56 r_70 b_89) := by
  unfold tontinelaw18_LedgerDead.j4
  refine GoO.ite' c10_76e (by kernel_rfl) (fun h90 => ?_) (fun h90 => ?_)
  · refine GoO.seq' c10_77e ?_
    refine GoO.region' (is := [0]) c10_78e (by kernel_rfl) ?_
    refine GoO.exec (is := [0]) (hs := [.p]) (rest := []) (ks := [6]) (env' := [(6, .bool false)]) (H' := [⟨41, b_10, [.int .u64 r_70.2.2.fence.Term, .int .u64 r_70.2.2.fence.Index, .slice A_71 r_70.2.2.effects.length c_72, .map (mA A_73), .map (mA A_75)]⟩, ⟨45, b_17, [.int .u64 k_1.Saga, .int .i64 ((wi64 ((k_1.Step.tmod 64) + 64)).tmod 64), .bool false]⟩, ⟨46, b_18, [.int .u64 k_1.Saga, .int .i64 ((wi64 ((k_1.Step.tmod 64) + 64)).tmod 64), .bool true]⟩]) (ps := []) (by kernel_rfl) trivial ?_
    refine GoO.regionEnd ?_
    exact GoO.ret' (h := c10_79e) (hs := []) (ps := []) (hk := []) (bk := []) Try.func10 () (by kernel_rfl) trivial (by kernel_rfl) (by kernel_rfl)
  · refine GoO.skip' c10_80e ?_
    refine GoO.inBlock ?_
    refine GoO.inBlock ?_
    refine GoO.region' (is := [0, 1]) c10_81e (by kernel_rfl) ?_
    refine GoO.exec (is := [0, 1]) (hs := [.p, .p]) (rest := []) (ks := [2, 7, 8, 9, 10, 11, 46, 47, 48]) (env' := [(2, .bool done_5), (7, .int .u64 k_1.Saga), (8, .int .i64 ((wi64 ((k_1.Step.tmod 64) + 64)).tmod 64)), (9, .pointer (some ⟨b_10, 0, none⟩)), (10, .pointer (some ⟨b_17, 0, none⟩)), (11, .pointer (some ⟨b_18, 0, none⟩)), (46, .slice A_3 tokens_2.length c_4), (47, .int .i64 (tokens_2.length : Int)), (48, .int .i64 (wi64 (x_56 + 1)))]) (H' := [⟨41, b_10, [.int .u64 r_70.2.2.fence.Term, .int .u64 r_70.2.2.fence.Index, .slice A_71 r_70.2.2.effects.length c_72, .map (mA A_73), .map (mA A_75)]⟩, ⟨45, b_17, [.int .u64 k_1.Saga, .int .i64 ((wi64 ((k_1.Step.tmod 64) + 64)).tmod 64), .bool false]⟩, ⟨46, b_18, [.int .u64 k_1.Saga, .int .i64 ((wi64 ((k_1.Step.tmod 64) + 64)).tmod 64), .bool true]⟩]) (ps := []) (by kernel_rfl) trivial ?_
    refine GoO.regionEnd ?_
    refine GoO.inLoop ?_
    exact GoO.sub (ks := [2, 7, 8, 9, 10, 11, 46, 47, 48]) (hk := [0, 1, 2]) (bk := [0, 1, 2, 3]) (by kernel_rfl) (by kernel_rfl) (by kernel_rfl) (ih0 r_70.2.2.fence.Term r_70.2.2.fence.Index r_70.2.2.effects r_70.2.2.said r_70.2.2.tombs (wi64 (x_56 + 1)) A_71 c_72 A_73 c_74 A_75 c_76)
theorem tontinelaw18_LedgerDead_l0_ok (n : Nat) (k_1 : T_api_Key) (tokens_2 : (List T_api_Token)) (done_5 : Bool) (A_3 : Option Addr) (c_4 : Nat) (b_10 : Nat) (b_17 : Nat) (b_18 : Nat) (w0 : World) (S0 : Fam) :
    ∀ (k : Nat) (f_45 : Int) (f_46 : Int) (f_47 : (List T_ledger_Effect)) (f_50 : (List (T_api_Key × Bool))) (f_53 : (List (T_api_Key × Bool))) (x_56 : Int) (A_48 : Option Addr) (c_49 : Nat) (A_51 : Option Addr) (c_52 : Nat) (A_54 : Option Addr) (c_55 : Nat), GoO (tontinelaw18_LedgerDead.cx A_3 c_4 w0 S0) [(2, .bool done_5), (7, .int .u64 k_1.Saga), (8, .int .i64 ((wi64 ((k_1.Step.tmod 64) + 64)).tmod 64)), (9, .pointer (some ⟨b_10, 0, none⟩)), (10, .pointer (some ⟨b_17, 0, none⟩)), (11, .pointer (some ⟨b_18, 0, none⟩)), (46, .slice A_3 tokens_2.length c_4), (47, .int .i64 (tokens_2.length : Int)), (48, .int .i64 x_56)] [⟨41, b_10, [.int .u64 f_45, .int .u64 f_46, .slice A_48 f_47.length c_49, .map (mA A_51), .map (mA A_54)]⟩, ⟨45, b_17, [.int .u64 k_1.Saga, .int .i64 ((wi64 ((k_1.Step.tmod 64) + 64)).tmod 64), .bool false]⟩, ⟨46, b_18, [.int .u64 k_1.Saga, .int .i64 ((wi64 ((k_1.Step.tmod 64) + 64)).tmod 64), .bool true]⟩] [Ow 42 kT_ledger_Effect A_48 c_49 f_47, Mp 43 ky41 (fun v => .bool v) A_51 c_52 f_50, Mp 44 ky41 (fun v => .bool v) A_54 c_55 f_53, Rd 0 kT_api_Token A_3 c_4 tokens_2] [.code c10_31, .inLoop c10_31, .inBlock 0, .code c10_82] (tontinelaw18_LedgerDead.l0 n k_1 tokens_2 done_5 k f_45 f_46 f_47 f_50 f_53 x_56) := by
  intro k
  induction k with
  | zero => intros; rw [tontinelaw18_LedgerDead.l0.eq_1]; exact GoO.stop
  | succ k ih0 =>
    intro f_45 f_46 f_47 f_50 f_53 x_56 A_48 c_49 A_51 c_52 A_54 c_55
    rw [tontinelaw18_LedgerDead.l0.eq_2]
    refine GoO.seq' c10_31e ?_
    refine GoO.region' (is := [0]) c10_32e (by kernel_rfl) ?_
    refine GoO.exec (is := [0]) (hs := [.p]) (rest := []) (ks := [2, 7, 8, 9, 10, 11, 46, 47, 48, 49]) (env' := [(2, .bool done_5), (7, .int .u64 k_1.Saga), (8, .int .i64 ((wi64 ((k_1.Step.tmod 64) + 64)).tmod 64)), (9, .pointer (some ⟨b_10, 0, none⟩)), (10, .pointer (some ⟨b_17, 0, none⟩)), (11, .pointer (some ⟨b_18, 0, none⟩)), (46, .slice A_3 tokens_2.length c_4), (47, .int .i64 (tokens_2.length : Int)), (48, .int .i64 x_56), (49, .bool (decide (x_56 < (tokens_2.length : Int))))]) (H' := [⟨41, b_10, [.int .u64 f_45, .int .u64 f_46, .slice A_48 f_47.length c_49, .map (mA A_51), .map (mA A_54)]⟩, ⟨45, b_17, [.int .u64 k_1.Saga, .int .i64 ((wi64 ((k_1.Step.tmod 64) + 64)).tmod 64), .bool false]⟩, ⟨46, b_18, [.int .u64 k_1.Saga, .int .i64 ((wi64 ((k_1.Step.tmod 64) + 64)).tmod 64), .bool true]⟩]) (ps := []) (by kernel_rfl) trivial ?_
    refine GoO.regionEnd ?_
    refine GoO.seq' c10_33e ?_
    refine GoO.ite' c10_34e (by kernel_rfl) (fun h57 => ?_) (fun h57 => ?_)
    · refine GoO.skip' c10_35e ?_
      refine GoO.seq' c10_37e ?_
      refine GoO.block' c10_38e ?_
      refine GoO.seq' c10_39e ?_
      refine GoO.region' (is := [0, 1, 2, 3, 4, 5]) c10_40e (by kernel_rfl) ?_
      refine GoO.exec (is := [0]) (hs := [.p]) (rest := [1, 2, 3, 4, 5]) (ks := [2, 7, 8, 9, 10, 11, 46, 47, 48, 50]) (env' := [(2, .bool done_5), (7, .int .u64 k_1.Saga), (8, .int .i64 ((wi64 ((k_1.Step.tmod 64) + 64)).tmod 64)), (9, .pointer (some ⟨b_10, 0, none⟩)), (10, .pointer (some ⟨b_17, 0, none⟩)), (11, .pointer (some ⟨b_18, 0, none⟩)), (46, .slice A_3 tokens_2.length c_4), (47, .int .i64 (tokens_2.length : Int)), (48, .int .i64 x_56), (50, .int .i64 x_56)]) (H' := [⟨41, b_10, [.int .u64 f_45, .int .u64 f_46, .slice A_48 f_47.length c_49, .map (mA A_51), .map (mA A_54)]⟩, ⟨45, b_17, [.int .u64 k_1.Saga, .int .i64 ((wi64 ((k_1.Step.tmod 64) + 64)).tmod 64), .bool false]⟩, ⟨46, b_18, [.int .u64 k_1.Saga, .int .i64 ((wi64 ((k_1.Step.tmod 64) + 64)).tmod 64), .bool true]⟩]) (ps := []) (by kernel_rfl) trivial ?_
      refine GoO.guard (fun h58 => ?_)
      refine OpTo.go (GoO.idx (kk := .i64) (e := 43) (K := kT_api_Token) (A := A_3) (c := c_4) (xs := tokens_2) (iv := x_56) (j := 3) rfl (by kernel_rfl) (by kernel_rfl) (by kernel_rfl) (by kernel_rfl) rfl Reads.rd rfl h58.1 h58.2 (by decide) rfl ?_)
      refine OpTo.go (GoO.ldE' (K := kT_api_Token) (A := A_3) (c := c_4) (xs := tokens_2) (iN := x_56.toNat) (off := 0) (j := 3) rfl (by kernel_rfl) rfl Reads.rd (by first | exact idx_lt h58.1 h58.2 | (simp only [List.length_set]; exact idx_lt h58.1 h58.2)) (by decide) (Opn.flat _ _ _ _ _) (v := fun _ => .agg ⟨[.int .u64 ((rdL tokens_2 x_56).Term), .int .u64 ((rdL tokens_2 x_56).Index)]⟩) (fun _ => by kernel_rfl) _ (fun _ => rfl) (fun _ => ?_))
      refine OpTo.go (GoO.new rfl 47 (cs := [.int .u64 0, .int .u64 0]) (by kernel_rfl) _ (fun _ => rfl) (fun b_59 => ?_))
      refine GoO.exec (is := [4, 5]) (hs := [.p, .b 0]) (rest := []) (ks := [2, 7, 8, 9, 10, 11, 12, 13, 46, 47, 48]) (env' := [(2, .bool done_5), (7, .int .u64 k_1.Saga), (8, .int .i64 ((wi64 ((k_1.Step.tmod 64) + 64)).tmod 64)), (9, .pointer (some ⟨b_10, 0, none⟩)), (10, .pointer (some ⟨b_17, 0, none⟩)), (11, .pointer (some ⟨b_18, 0, none⟩)), (12, .int .i64 x_56), (13, .pointer (some ⟨b_59, 0, none⟩)), (46, .slice A_3 tokens_2.length c_4), (47, .int .i64 (tokens_2.length : Int)), (48, .int .i64 x_56)]) (H' := [⟨47, b_59, [.int .u64 ((rdL tokens_2 x_56).Term), .int .u64 ((rdL tokens_2 x_56).Index)]⟩, ⟨41, b_10, [.int .u64 f_45, .int .u64 f_46, .slice A_48 f_47.length c_49, .map (mA A_51), .map (mA A_54)]⟩, ⟨45, b_17, [.int .u64 k_1.Saga, .int .i64 ((wi64 ((k_1.Step.tmod 64) + 64)).tmod 64), .bool false]⟩, ⟨46, b_18, [.int .u64 k_1.Saga, .int .i64 ((wi64 ((k_1.Step.tmod 64) + 64)).tmod 64), .bool true]⟩]) (ps := [b_59 = b_59]) (by kernel_rfl) (And.intro rfl trivial) ?_
      refine GoO.regionEnd ?_
      refine GoO.seq' c10_41e ?_
      refine GoO.seq' c10_42e ?_
      refine GoO.region' (is := [0, 1]) c10_43e (by kernel_rfl) ?_
      refine GoO.exec (is := [0, 1]) (hs := [.p, .p]) (rest := []) (ks := [2, 7, 8, 9, 10, 11, 12, 13, 46, 47, 48, 54]) (env' := [(2, .bool done_5), (7, .int .u64 k_1.Saga), (8, .int .i64 ((wi64 ((k_1.Step.tmod 64) + 64)).tmod 64)), (9, .pointer (some ⟨b_10, 0, none⟩)), (10, .pointer (some ⟨b_17, 0, none⟩)), (11, .pointer (some ⟨b_18, 0, none⟩)), (12, .int .i64 x_56), (13, .pointer (some ⟨b_59, 0, none⟩)), (46, .slice A_3 tokens_2.length c_4), (47, .int .i64 (tokens_2.length : Int)), (48, .int .i64 x_56), (54, .bool (x_56 == 200))]) (H' := [⟨47, b_59, [.int .u64 ((rdL tokens_2 x_56).Term), .int .u64 ((rdL tokens_2 x_56).Index)]⟩, ⟨41, b_10, [.int .u64 f_45, .int .u64 f_46, .slice A_48 f_47.length c_49, .map (mA A_51), .map (mA A_54)]⟩, ⟨45, b_17, [.int .u64 k_1.Saga, .int .i64 ((wi64 ((k_1.Step.tmod 64) + 64)).tmod 64), .bool false]⟩, ⟨46, b_18, [.int .u64 k_1.Saga, .int .i64 ((wi64 ((k_1.Step.tmod 64) + 64)).tmod 64), .bool true]⟩]) (ps := []) (by kernel_rfl) trivial ?_
      refine GoO.regionEnd ?_
      refine GoO.ite' c10_44e (by kernel_rfl) (fun h60 => ?_) (fun h60 => ?_)
      · refine GoO.exit' c10_45e rfl ?_
        exact GoO.sub (ks := [2, 7, 8, 9]) (hk := [1]) (bk := [0, 1, 2]) (by kernel_rfl) (by kernel_rfl) (by kernel_rfl) (tontinelaw18_LedgerDead_j1_ok n k_1 done_5 f_45 f_46 f_47 f_50 f_53 b_10 A_48 c_49 A_51 c_52 A_54 c_55 A_3 c_4 w0 S0)
      · refine GoO.skip' c10_46e ?_
        refine GoO.seq' c10_47e ?_
        refine GoO.region' (is := [0, 1, 2, 3]) c10_48e (by kernel_rfl) ?_
        refine GoO.exec (is := [0]) (hs := [.p]) (rest := [1, 2, 3]) (ks := [2, 7, 8, 9, 10, 11, 12, 13, 46, 47, 48, 55]) (env' := [(2, .bool done_5), (7, .int .u64 k_1.Saga), (8, .int .i64 ((wi64 ((k_1.Step.tmod 64) + 64)).tmod 64)), (9, .pointer (some ⟨b_10, 0, none⟩)), (10, .pointer (some ⟨b_17, 0, none⟩)), (11, .pointer (some ⟨b_18, 0, none⟩)), (12, .int .i64 x_56), (13, .pointer (some ⟨b_59, 0, none⟩)), (46, .slice A_3 tokens_2.length c_4), (47, .int .i64 (tokens_2.length : Int)), (48, .int .i64 x_56), (55, .pointer (some ⟨b_10, 0, none⟩))]) (H' := [⟨47, b_59, [.int .u64 ((rdL tokens_2 x_56).Term), .int .u64 ((rdL tokens_2 x_56).Index)]⟩, ⟨41, b_10, [.int .u64 f_45, .int .u64 f_46, .slice A_48 f_47.length c_49, .map (mA A_51), .map (mA A_54)]⟩, ⟨45, b_17, [.int .u64 k_1.Saga, .int .i64 ((wi64 ((k_1.Step.tmod 64) + 64)).tmod 64), .bool false]⟩, ⟨46, b_18, [.int .u64 k_1.Saga, .int .i64 ((wi64 ((k_1.Step.tmod 64) + 64)).tmod 64), .bool true]⟩]) (ps := []) (by kernel_rfl) trivial ?_
        refine OpTo.go (GoO.call rfl (by kernel_rfl) (by kernel_rfl) (ledger_Ledger_Fence_ok n (⟨(⟨f_45, f_46⟩ : T_api_Token), f_47, f_50, f_53⟩ : T_ledger_Ledger) b_10 A_48 c_49 A_51 c_52 A_54 c_55) [[0], [41], [42], [43], [44]] [] [(1, 1)] [(2, 0), (3, 1), (4, 2)] (hks := [0, 1, 2, 3]) (bks := [0, 1, 2, 3]) (by kernel_rfl) (by kernel_rfl) (by kernel_rfl) (.inl rfl) rfl rfl (by kernel_rfl) (by kernel_rfl) _ (fun _ _ => rfl) _ _ (fun _ _ => rfl) (fun _ _ => rfl) (fun _ _ => by kernel_rfl) (fun _ _ => by kernel_rfl) (fun r_61 x_94 => ?_))
        refine GoO.shape (env' := [(2, .bool done_5), (7, .int .u64 k_1.Saga), (8, .int .i64 ((wi64 ((k_1.Step.tmod 64) + 64)).tmod 64)), (9, .pointer (some ⟨b_10, 0, none⟩)), (10, .pointer (some ⟨b_17, 0, none⟩)), (11, .pointer (some ⟨b_18, 0, none⟩)), (12, .int .i64 x_56), (13, .pointer (some ⟨b_59, 0, none⟩)), (46, .slice A_3 tokens_2.length c_4), (47, .int .i64 (tokens_2.length : Int)), (48, .int .i64 x_56), (55, .pointer (some ⟨b_10, 0, none⟩)), (56, .agg ⟨[.int .u64 r_61.Term, .int .u64 r_61.Index]⟩)]) (H' := [⟨47, b_59, [.int .u64 ((rdL tokens_2 x_56).Term), .int .u64 ((rdL tokens_2 x_56).Index)]⟩, ⟨41, b_10, [.int .u64 f_45, .int .u64 f_46, .slice A_48 f_47.length c_49, .map (mA A_51), .map (mA A_54)]⟩, ⟨45, b_17, [.int .u64 k_1.Saga, .int .i64 ((wi64 ((k_1.Step.tmod 64) + 64)).tmod 64), .bool false]⟩, ⟨46, b_18, [.int .u64 k_1.Saga, .int .i64 ((wi64 ((k_1.Step.tmod 64) + 64)).tmod 64), .bool true]⟩]) (B' := [Ow 42 kT_ledger_Effect A_48 c_49 f_47, Mp 43 ky41 (fun v => .bool v) A_51 c_52 f_50, Mp 44 ky41 (fun v => .bool v) A_54 c_55 f_53, Rd 0 kT_api_Token A_3 c_4 tokens_2]) (ks := [2, 7, 8, 9, 10, 11, 12, 13, 46, 47, 48, 55, 56]) (by kernel_rfl) (by kernel_rfl) (by kernel_rfl) ?_
        refine OpTo.go (GoO.new rfl 48 (cs := [.int .u64 0, .int .u64 0]) (by kernel_rfl) _ (fun _ => rfl) (fun b_62 => ?_))
        refine GoO.exec (is := [3]) (hs := [.b 0]) (rest := []) (ks := [2, 7, 8, 9, 10, 11, 12, 13, 14, 46, 47, 48]) (env' := [(2, .bool done_5), (7, .int .u64 k_1.Saga), (8, .int .i64 ((wi64 ((k_1.Step.tmod 64) + 64)).tmod 64)), (9, .pointer (some ⟨b_10, 0, none⟩)), (10, .pointer (some ⟨b_17, 0, none⟩)), (11, .pointer (some ⟨b_18, 0, none⟩)), (12, .int .i64 x_56), (13, .pointer (some ⟨b_59, 0, none⟩)), (14, .pointer (some ⟨b_62, 0, none⟩)), (46, .slice A_3 tokens_2.length c_4), (47, .int .i64 (tokens_2.length : Int)), (48, .int .i64 x_56)]) (H' := [⟨48, b_62, [.int .u64 r_61.Term, .int .u64 r_61.Index]⟩, ⟨47, b_59, [.int .u64 ((rdL tokens_2 x_56).Term), .int .u64 ((rdL tokens_2 x_56).Index)]⟩, ⟨41, b_10, [.int .u64 f_45, .int .u64 f_46, .slice A_48 f_47.length c_49, .map (mA A_51), .map (mA A_54)]⟩, ⟨45, b_17, [.int .u64 k_1.Saga, .int .i64 ((wi64 ((k_1.Step.tmod 64) + 64)).tmod 64), .bool false]⟩, ⟨46, b_18, [.int .u64 k_1.Saga, .int .i64 ((wi64 ((k_1.Step.tmod 64) + 64)).tmod 64), .bool true]⟩]) (ps := [b_62 = b_62]) (by kernel_rfl) (And.intro rfl trivial) ?_
        refine GoO.regionEnd ?_
        refine GoO.seq' c10_49e ?_
        refine GoO.region' (is := [0, 1, 2, 3, 4, 5, 6, 7, 8]) c10_50e (by kernel_rfl) ?_
        refine GoO.exec (is := [0, 1, 2]) (hs := [.p, .b 1, .b 3]) (rest := [3, 4, 5, 6, 7, 8]) (ks := [2, 7, 8, 9, 10, 11, 12, 13, 14, 46, 47, 48, 58, 59, 60]) (env' := [(2, .bool done_5), (7, .int .u64 k_1.Saga), (8, .int .i64 ((wi64 ((k_1.Step.tmod 64) + 64)).tmod 64)), (9, .pointer (some ⟨b_10, 0, none⟩)), (10, .pointer (some ⟨b_17, 0, none⟩)), (11, .pointer (some ⟨b_18, 0, none⟩)), (12, .int .i64 x_56), (13, .pointer (some ⟨b_59, 0, none⟩)), (14, .pointer (some ⟨b_62, 0, none⟩)), (46, .slice A_3 tokens_2.length c_4), (47, .int .i64 (tokens_2.length : Int)), (48, .int .i64 x_56), (58, .pointer (some ⟨b_10, 0, none⟩)), (59, .agg ⟨[.int .u64 ((rdL tokens_2 x_56).Term), .int .u64 ((rdL tokens_2 x_56).Index)]⟩), (60, .agg ⟨[.int .u64 k_1.Saga, .int .i64 ((wi64 ((k_1.Step.tmod 64) + 64)).tmod 64), .bool false]⟩)]) (H' := [⟨48, b_62, [.int .u64 r_61.Term, .int .u64 r_61.Index]⟩, ⟨47, b_59, [.int .u64 ((rdL tokens_2 x_56).Term), .int .u64 ((rdL tokens_2 x_56).Index)]⟩, ⟨41, b_10, [.int .u64 f_45, .int .u64 f_46, .slice A_48 f_47.length c_49, .map (mA A_51), .map (mA A_54)]⟩, ⟨45, b_17, [.int .u64 k_1.Saga, .int .i64 ((wi64 ((k_1.Step.tmod 64) + 64)).tmod 64), .bool false]⟩, ⟨46, b_18, [.int .u64 k_1.Saga, .int .i64 ((wi64 ((k_1.Step.tmod 64) + 64)).tmod 64), .bool true]⟩]) (ps := [b_59 = b_59, b_17 = b_17]) (by kernel_rfl) (And.intro rfl (And.intro rfl trivial)) ?_
        refine OpTo.go (GoO.call rfl (by kernel_rfl) (by kernel_rfl) (ledger_Ledger_Ask_ok n (⟨(⟨f_45, f_46⟩ : T_api_Token), f_47, f_50, f_53⟩ : T_ledger_Ledger) (rdL tokens_2 x_56) (⟨k_1.Saga, (wi64 ((k_1.Step.tmod 64) + 64)).tmod 64, false⟩ : T_api_Key) [110] false b_10 A_48 c_49 A_51 c_52 A_54 c_55) [[0], [41], [42], [43], [44]] [(41, 1), (42, 2), (43, 3), (44, 4)] [(1, 2)] [(2, 0), (3, 1), (4, 2)] (hks := [0, 1, 3, 4]) (bks := [3]) (by kernel_rfl) (by kernel_rfl) (by kernel_rfl) (.inl rfl) rfl rfl (by kernel_rfl) (by kernel_rfl) _ (fun _ _ => rfl) _ _ (fun _ _ => rfl) (fun _ _ => rfl) (fun _ _ => by kernel_rfl) (fun _ _ => by kernel_rfl) (fun r_63 x_93 => ?_))
        obtain ⟨A_64, c_65, A_66, c_67, A_68, c_69⟩ := x_93
        refine GoO.shape (env' := [(2, .bool done_5), (7, .int .u64 k_1.Saga), (8, .int .i64 ((wi64 ((k_1.Step.tmod 64) + 64)).tmod 64)), (9, .pointer (some ⟨b_10, 0, none⟩)), (10, .pointer (some ⟨b_17, 0, none⟩)), (11, .pointer (some ⟨b_18, 0, none⟩)), (12, .int .i64 x_56), (13, .pointer (some ⟨b_59, 0, none⟩)), (14, .pointer (some ⟨b_62, 0, none⟩)), (46, .slice A_3 tokens_2.length c_4), (47, .int .i64 (tokens_2.length : Int)), (48, .int .i64 x_56), (58, .pointer (some ⟨b_10, 0, none⟩)), (59, .agg ⟨[.int .u64 ((rdL tokens_2 x_56).Term), .int .u64 ((rdL tokens_2 x_56).Index)]⟩), (60, .agg ⟨[.int .u64 k_1.Saga, .int .i64 ((wi64 ((k_1.Step.tmod 64) + 64)).tmod 64), .bool false]⟩), (61, .tuple ⟨[.bool r_63.1, .int .i64 r_63.2.1]⟩)]) (H' := [⟨41, b_10, [.int .u64 r_63.2.2.fence.Term, .int .u64 r_63.2.2.fence.Index, .slice A_64 r_63.2.2.effects.length c_65, .map (mA A_66), .map (mA A_68)]⟩, ⟨48, b_62, [.int .u64 r_61.Term, .int .u64 r_61.Index]⟩, ⟨47, b_59, [.int .u64 ((rdL tokens_2 x_56).Term), .int .u64 ((rdL tokens_2 x_56).Index)]⟩, ⟨45, b_17, [.int .u64 k_1.Saga, .int .i64 ((wi64 ((k_1.Step.tmod 64) + 64)).tmod 64), .bool false]⟩, ⟨46, b_18, [.int .u64 k_1.Saga, .int .i64 ((wi64 ((k_1.Step.tmod 64) + 64)).tmod 64), .bool true]⟩]) (B' := [Ow 42 kT_ledger_Effect A_64 c_65 r_63.2.2.effects, Mp 43 ky41 (fun v => .bool v) A_66 c_67 r_63.2.2.said, Mp 44 ky41 (fun v => .bool v) A_68 c_69 r_63.2.2.tombs, Rd 0 kT_api_Token A_3 c_4 tokens_2]) (ks := [2, 7, 8, 9, 10, 11, 12, 13, 14, 46, 47, 48, 58, 59, 60, 61]) (by kernel_rfl) (by kernel_rfl) (by kernel_rfl) ?_
        refine GoO.exec (is := [4, 5, 6, 7, 8]) (hs := [.p, .p, .p, .p, .p]) (rest := []) (ks := [2, 7, 8, 9, 10, 11, 12, 13, 14, 15, 16, 46, 47, 48]) (env' := [(2, .bool done_5), (7, .int .u64 k_1.Saga), (8, .int .i64 ((wi64 ((k_1.Step.tmod 64) + 64)).tmod 64)), (9, .pointer (some ⟨b_10, 0, none⟩)), (10, .pointer (some ⟨b_17, 0, none⟩)), (11, .pointer (some ⟨b_18, 0, none⟩)), (12, .int .i64 x_56), (13, .pointer (some ⟨b_59, 0, none⟩)), (14, .pointer (some ⟨b_62, 0, none⟩)), (15, .bool r_63.1), (16, .int .i64 r_63.2.1), (46, .slice A_3 tokens_2.length c_4), (47, .int .i64 (tokens_2.length : Int)), (48, .int .i64 x_56)]) (H' := [⟨41, b_10, [.int .u64 r_63.2.2.fence.Term, .int .u64 r_63.2.2.fence.Index, .slice A_64 r_63.2.2.effects.length c_65, .map (mA A_66), .map (mA A_68)]⟩, ⟨48, b_62, [.int .u64 r_61.Term, .int .u64 r_61.Index]⟩, ⟨47, b_59, [.int .u64 ((rdL tokens_2 x_56).Term), .int .u64 ((rdL tokens_2 x_56).Index)]⟩, ⟨45, b_17, [.int .u64 k_1.Saga, .int .i64 ((wi64 ((k_1.Step.tmod 64) + 64)).tmod 64), .bool false]⟩, ⟨46, b_18, [.int .u64 k_1.Saga, .int .i64 ((wi64 ((k_1.Step.tmod 64) + 64)).tmod 64), .bool true]⟩]) (ps := []) (by kernel_rfl) trivial ?_
        refine GoO.regionEnd ?_
        refine GoO.seq' c10_51e ?_
        refine GoO.region' (is := [0, 1, 2, 3, 4, 5, 6, 7, 8, 9, 10, 11]) c10_52e (by kernel_rfl) ?_
        refine GoO.exec (is := [0, 1, 2, 3, 4, 5]) (hs := [.p, .b 2, .b 4, .p, .p, .p]) (rest := [6, 7, 8, 9, 10, 11]) (ks := [2, 7, 8, 9, 10, 11, 13, 14, 15, 16, 46, 47, 48, 65, 66, 67, 70]) (env' := [(2, .bool done_5), (7, .int .u64 k_1.Saga), (8, .int .i64 ((wi64 ((k_1.Step.tmod 64) + 64)).tmod 64)), (9, .pointer (some ⟨b_10, 0, none⟩)), (10, .pointer (some ⟨b_17, 0, none⟩)), (11, .pointer (some ⟨b_18, 0, none⟩)), (13, .pointer (some ⟨b_59, 0, none⟩)), (14, .pointer (some ⟨b_62, 0, none⟩)), (15, .bool r_63.1), (16, .int .i64 r_63.2.1), (46, .slice A_3 tokens_2.length c_4), (47, .int .i64 (tokens_2.length : Int)), (48, .int .i64 x_56), (65, .pointer (some ⟨b_10, 0, none⟩)), (66, .agg ⟨[.int .u64 ((rdL tokens_2 x_56).Term), .int .u64 ((rdL tokens_2 x_56).Index)]⟩), (67, .agg ⟨[.int .u64 k_1.Saga, .int .i64 ((wi64 ((k_1.Step.tmod 64) + 64)).tmod 64), .bool true]⟩), (70, .bool ((x_56.tmod 2) == 0))]) (H' := [⟨41, b_10, [.int .u64 r_63.2.2.fence.Term, .int .u64 r_63.2.2.fence.Index, .slice A_64 r_63.2.2.effects.length c_65, .map (mA A_66), .map (mA A_68)]⟩, ⟨48, b_62, [.int .u64 r_61.Term, .int .u64 r_61.Index]⟩, ⟨47, b_59, [.int .u64 ((rdL tokens_2 x_56).Term), .int .u64 ((rdL tokens_2 x_56).Index)]⟩, ⟨45, b_17, [.int .u64 k_1.Saga, .int .i64 ((wi64 ((k_1.Step.tmod 64) + 64)).tmod 64), .bool false]⟩, ⟨46, b_18, [.int .u64 k_1.Saga, .int .i64 ((wi64 ((k_1.Step.tmod 64) + 64)).tmod 64), .bool true]⟩]) (ps := [b_59 = b_59, b_18 = b_18, (2 : Int) ≠ 0]) (by kernel_rfl) (And.intro rfl (And.intro rfl (And.intro (by decide) trivial))) ?_
        refine OpTo.go (GoO.call rfl (by kernel_rfl) (by kernel_rfl) (ledger_Ledger_Ask_ok n (⟨(⟨r_63.2.2.fence.Term, r_63.2.2.fence.Index⟩ : T_api_Token), r_63.2.2.effects, r_63.2.2.said, r_63.2.2.tombs⟩ : T_ledger_Ledger) (rdL tokens_2 x_56) (⟨k_1.Saga, (wi64 ((k_1.Step.tmod 64) + 64)).tmod 64, true⟩ : T_api_Key) [110] ((x_56.tmod 2) == 0) b_10 A_64 c_65 A_66 c_67 A_68 c_69) [[0], [41], [42], [43], [44]] [(41, 1), (42, 2), (43, 3), (44, 4)] [(1, 0)] [(2, 0), (3, 1), (4, 2)] (hks := [1, 2, 3, 4]) (bks := [3]) (by kernel_rfl) (by kernel_rfl) (by kernel_rfl) (.inl rfl) rfl rfl (by kernel_rfl) (by kernel_rfl) _ (fun _ _ => rfl) _ _ (fun _ _ => rfl) (fun _ _ => rfl) (fun _ _ => by kernel_rfl) (fun _ _ => by kernel_rfl) (fun r_70 x_92 => ?_))
        obtain ⟨A_71, c_72, A_73, c_74, A_75, c_76⟩ := x_92
        refine GoO.shape (env' := [(2, .bool done_5), (7, .int .u64 k_1.Saga), (8, .int .i64 ((wi64 ((k_1.Step.tmod 64) + 64)).tmod 64)), (9, .pointer (some ⟨b_10, 0, none⟩)), (10, .pointer (some ⟨b_17, 0, none⟩)), (11, .pointer (some ⟨b_18, 0, none⟩)), (13, .pointer (some ⟨b_59, 0, none⟩)), (14, .pointer (some ⟨b_62, 0, none⟩)), (15, .bool r_63.1), (16, .int .i64 r_63.2.1), (46, .slice A_3 tokens_2.length c_4), (47, .int .i64 (tokens_2.length : Int)), (48, .int .i64 x_56), (65, .pointer (some ⟨b_10, 0, none⟩)), (66, .agg ⟨[.int .u64 ((rdL tokens_2 x_56).Term), .int .u64 ((rdL tokens_2 x_56).Index)]⟩), (67, .agg ⟨[.int .u64 k_1.Saga, .int .i64 ((wi64 ((k_1.Step.tmod 64) + 64)).tmod 64), .bool true]⟩), (70, .bool ((x_56.tmod 2) == 0)), (71, .tuple ⟨[.bool r_70.1, .int .i64 r_70.2.1]⟩)]) (H' := [⟨41, b_10, [.int .u64 r_70.2.2.fence.Term, .int .u64 r_70.2.2.fence.Index, .slice A_71 r_70.2.2.effects.length c_72, .map (mA A_73), .map (mA A_75)]⟩, ⟨48, b_62, [.int .u64 r_61.Term, .int .u64 r_61.Index]⟩, ⟨47, b_59, [.int .u64 ((rdL tokens_2 x_56).Term), .int .u64 ((rdL tokens_2 x_56).Index)]⟩, ⟨45, b_17, [.int .u64 k_1.Saga, .int .i64 ((wi64 ((k_1.Step.tmod 64) + 64)).tmod 64), .bool false]⟩, ⟨46, b_18, [.int .u64 k_1.Saga, .int .i64 ((wi64 ((k_1.Step.tmod 64) + 64)).tmod 64), .bool true]⟩]) (B' := [Ow 42 kT_ledger_Effect A_71 c_72 r_70.2.2.effects, Mp 43 ky41 (fun v => .bool v) A_73 c_74 r_70.2.2.said, Mp 44 ky41 (fun v => .bool v) A_75 c_76 r_70.2.2.tombs, Rd 0 kT_api_Token A_3 c_4 tokens_2]) (ks := [2, 7, 8, 9, 10, 11, 13, 14, 15, 16, 46, 47, 48, 65, 66, 67, 70, 71]) (by kernel_rfl) (by kernel_rfl) (by kernel_rfl) ?_
        refine GoO.exec (is := [7, 8, 9, 10, 11]) (hs := [.p, .p, .p, .p, .p]) (rest := []) (ks := [2, 7, 8, 9, 10, 11, 13, 14, 15, 16, 17, 18, 46, 47, 48]) (env' := [(2, .bool done_5), (7, .int .u64 k_1.Saga), (8, .int .i64 ((wi64 ((k_1.Step.tmod 64) + 64)).tmod 64)), (9, .pointer (some ⟨b_10, 0, none⟩)), (10, .pointer (some ⟨b_17, 0, none⟩)), (11, .pointer (some ⟨b_18, 0, none⟩)), (13, .pointer (some ⟨b_59, 0, none⟩)), (14, .pointer (some ⟨b_62, 0, none⟩)), (15, .bool r_63.1), (16, .int .i64 r_63.2.1), (17, .bool r_70.1), (18, .int .i64 r_70.2.1), (46, .slice A_3 tokens_2.length c_4), (47, .int .i64 (tokens_2.length : Int)), (48, .int .i64 x_56)]) (H' := [⟨41, b_10, [.int .u64 r_70.2.2.fence.Term, .int .u64 r_70.2.2.fence.Index, .slice A_71 r_70.2.2.effects.length c_72, .map (mA A_73), .map (mA A_75)]⟩, ⟨48, b_62, [.int .u64 r_61.Term, .int .u64 r_61.Index]⟩, ⟨47, b_59, [.int .u64 ((rdL tokens_2 x_56).Term), .int .u64 ((rdL tokens_2 x_56).Index)]⟩, ⟨45, b_17, [.int .u64 k_1.Saga, .int .i64 ((wi64 ((k_1.Step.tmod 64) + 64)).tmod 64), .bool false]⟩, ⟨46, b_18, [.int .u64 k_1.Saga, .int .i64 ((wi64 ((k_1.Step.tmod 64) + 64)).tmod 64), .bool true]⟩]) (ps := []) (by kernel_rfl) trivial ?_
        refine GoO.regionEnd ?_
        refine GoO.block' c10_53e ?_
        refine GoO.seq' c10_54e ?_
        refine GoO.region' (is := [0, 1, 2, 3]) c10_55e (by kernel_rfl) ?_
        refine GoO.exec (is := [0, 1]) (hs := [.b 2, .b 1]) (rest := [2, 3]) (ks := [2, 7, 8, 9, 10, 11, 15, 16, 17, 18, 46, 47, 48, 85, 86]) (env' := [(2, .bool done_5), (7, .int .u64 k_1.Saga), (8, .int .i64 ((wi64 ((k_1.Step.tmod 64) + 64)).tmod 64)), (9, .pointer (some ⟨b_10, 0, none⟩)), (10, .pointer (some ⟨b_17, 0, none⟩)), (11, .pointer (some ⟨b_18, 0, none⟩)), (15, .bool r_63.1), (16, .int .i64 r_63.2.1), (17, .bool r_70.1), (18, .int .i64 r_70.2.1), (46, .slice A_3 tokens_2.length c_4), (47, .int .i64 (tokens_2.length : Int)), (48, .int .i64 x_56), (85, .agg ⟨[.int .u64 ((rdL tokens_2 x_56).Term), .int .u64 ((rdL tokens_2 x_56).Index)]⟩), (86, .agg ⟨[.int .u64 r_61.Term, .int .u64 r_61.Index]⟩)]) (H' := [⟨41, b_10, [.int .u64 r_70.2.2.fence.Term, .int .u64 r_70.2.2.fence.Index, .slice A_71 r_70.2.2.effects.length c_72, .map (mA A_73), .map (mA A_75)]⟩, ⟨48, b_62, [.int .u64 r_61.Term, .int .u64 r_61.Index]⟩, ⟨47, b_59, [.int .u64 ((rdL tokens_2 x_56).Term), .int .u64 ((rdL tokens_2 x_56).Index)]⟩, ⟨45, b_17, [.int .u64 k_1.Saga, .int .i64 ((wi64 ((k_1.Step.tmod 64) + 64)).tmod 64), .bool false]⟩, ⟨46, b_18, [.int .u64 k_1.Saga, .int .i64 ((wi64 ((k_1.Step.tmod 64) + 64)).tmod 64), .bool true]⟩]) (ps := [b_59 = b_59, b_62 = b_62]) (by kernel_rfl) (And.intro rfl (And.intro rfl trivial)) ?_
        refine OpTo.go (GoO.call rfl (by kernel_rfl) (by kernel_rfl) (ledger_Less_ok n (rdL tokens_2 x_56) r_61) [[0]] [] [] [] (hks := [0, 1, 2, 3, 4]) (bks := [0, 1, 2, 3]) (by kernel_rfl) (by kernel_rfl) (by kernel_rfl) (.inl rfl) rfl rfl (by kernel_rfl) (by kernel_rfl) _ (fun _ _ => rfl) _ _ (fun _ _ => rfl) (fun _ _ => rfl) (fun _ _ => by kernel_rfl) (fun _ _ => by kernel_rfl) (fun r_77 x_91 => ?_))
        refine GoO.shape (env' := [(2, .bool done_5), (7, .int .u64 k_1.Saga), (8, .int .i64 ((wi64 ((k_1.Step.tmod 64) + 64)).tmod 64)), (9, .pointer (some ⟨b_10, 0, none⟩)), (10, .pointer (some ⟨b_17, 0, none⟩)), (11, .pointer (some ⟨b_18, 0, none⟩)), (15, .bool r_63.1), (16, .int .i64 r_63.2.1), (17, .bool r_70.1), (18, .int .i64 r_70.2.1), (46, .slice A_3 tokens_2.length c_4), (47, .int .i64 (tokens_2.length : Int)), (48, .int .i64 x_56), (85, .agg ⟨[.int .u64 ((rdL tokens_2 x_56).Term), .int .u64 ((rdL tokens_2 x_56).Index)]⟩), (86, .agg ⟨[.int .u64 r_61.Term, .int .u64 r_61.Index]⟩), (87, .bool r_77)]) (H' := [⟨41, b_10, [.int .u64 r_70.2.2.fence.Term, .int .u64 r_70.2.2.fence.Index, .slice A_71 r_70.2.2.effects.length c_72, .map (mA A_73), .map (mA A_75)]⟩, ⟨48, b_62, [.int .u64 r_61.Term, .int .u64 r_61.Index]⟩, ⟨47, b_59, [.int .u64 ((rdL tokens_2 x_56).Term), .int .u64 ((rdL tokens_2 x_56).Index)]⟩, ⟨45, b_17, [.int .u64 k_1.Saga, .int .i64 ((wi64 ((k_1.Step.tmod 64) + 64)).tmod 64), .bool false]⟩, ⟨46, b_18, [.int .u64 k_1.Saga, .int .i64 ((wi64 ((k_1.Step.tmod 64) + 64)).tmod 64), .bool true]⟩]) (B' := [Ow 42 kT_ledger_Effect A_71 c_72 r_70.2.2.effects, Mp 43 ky41 (fun v => .bool v) A_73 c_74 r_70.2.2.said, Mp 44 ky41 (fun v => .bool v) A_75 c_76 r_70.2.2.tombs, Rd 0 kT_api_Token A_3 c_4 tokens_2]) (ks := [2, 7, 8, 9, 10, 11, 15, 16, 17, 18, 46, 47, 48, 85, 86, 87]) (by kernel_rfl) (by kernel_rfl) (by kernel_rfl) ?_
        refine GoO.exec (is := [3]) (hs := [.p]) (rest := []) (ks := [2, 7, 8, 9, 10, 11, 15, 16, 17, 18, 46, 47, 48, 84]) (env' := [(2, .bool done_5), (7, .int .u64 k_1.Saga), (8, .int .i64 ((wi64 ((k_1.Step.tmod 64) + 64)).tmod 64)), (9, .pointer (some ⟨b_10, 0, none⟩)), (10, .pointer (some ⟨b_17, 0, none⟩)), (11, .pointer (some ⟨b_18, 0, none⟩)), (15, .bool r_63.1), (16, .int .i64 r_63.2.1), (17, .bool r_70.1), (18, .int .i64 r_70.2.1), (46, .slice A_3 tokens_2.length c_4), (47, .int .i64 (tokens_2.length : Int)), (48, .int .i64 x_56), (84, .bool r_77)]) (H' := [⟨41, b_10, [.int .u64 r_70.2.2.fence.Term, .int .u64 r_70.2.2.fence.Index, .slice A_71 r_70.2.2.effects.length c_72, .map (mA A_73), .map (mA A_75)]⟩, ⟨48, b_62, [.int .u64 r_61.Term, .int .u64 r_61.Index]⟩, ⟨47, b_59, [.int .u64 ((rdL tokens_2 x_56).Term), .int .u64 ((rdL tokens_2 x_56).Index)]⟩, ⟨45, b_17, [.int .u64 k_1.Saga, .int .i64 ((wi64 ((k_1.Step.tmod 64) + 64)).tmod 64), .bool false]⟩, ⟨46, b_18, [.int .u64 k_1.Saga, .int .i64 ((wi64 ((k_1.Step.tmod 64) + 64)).tmod 64), .bool true]⟩]) (ps := []) (by kernel_rfl) trivial ?_
        refine GoO.regionEnd ?_
        refine GoO.ite' c10_56e (by kernel_rfl) (fun h78 => ?_) (fun h78 => ?_)
        · refine GoO.seq' c10_57e ?_
          refine GoO.region' (is := [0, 1, 2, 3, 4, 5]) c10_58e (by kernel_rfl) ?_
          refine GoO.exec (is := [0, 1, 2]) (hs := [.p, .p, .p]) (rest := [3, 4, 5]) (ks := [2, 7, 8, 9, 10, 11, 18, 46, 47, 48, 90]) (env' := [(2, .bool done_5), (7, .int .u64 k_1.Saga), (8, .int .i64 ((wi64 ((k_1.Step.tmod 64) + 64)).tmod 64)), (9, .pointer (some ⟨b_10, 0, none⟩)), (10, .pointer (some ⟨b_17, 0, none⟩)), (11, .pointer (some ⟨b_18, 0, none⟩)), (18, .int .i64 r_70.2.1), (46, .slice A_3 tokens_2.length c_4), (47, .int .i64 (tokens_2.length : Int)), (48, .int .i64 x_56), (90, .bool (r_63.2.1 != 50))]) (H' := [⟨41, b_10, [.int .u64 r_70.2.2.fence.Term, .int .u64 r_70.2.2.fence.Index, .slice A_71 r_70.2.2.effects.length c_72, .map (mA A_73), .map (mA A_75)]⟩, ⟨48, b_62, [.int .u64 r_61.Term, .int .u64 r_61.Index]⟩, ⟨47, b_59, [.int .u64 ((rdL tokens_2 x_56).Term), .int .u64 ((rdL tokens_2 x_56).Index)]⟩, ⟨45, b_17, [.int .u64 k_1.Saga, .int .i64 ((wi64 ((k_1.Step.tmod 64) + 64)).tmod 64), .bool false]⟩, ⟨46, b_18, [.int .u64 k_1.Saga, .int .i64 ((wi64 ((k_1.Step.tmod 64) + 64)).tmod 64), .bool true]⟩]) (ps := []) (by kernel_rfl) trivial ?_
          refine GoO.bsplit (t := 90) (by kernel_rfl) (fun h79 => ?_) (fun h79 => ?_)
          · refine GoO.exec (is := [3, 4, 5]) (hs := [.p, .p, .p]) (rest := []) (ks := [2, 7, 8, 9, 10, 11, 46, 47, 48, 93]) (env' := [(2, .bool done_5), (7, .int .u64 k_1.Saga), (8, .int .i64 ((wi64 ((k_1.Step.tmod 64) + 64)).tmod 64)), (9, .pointer (some ⟨b_10, 0, none⟩)), (10, .pointer (some ⟨b_17, 0, none⟩)), (11, .pointer (some ⟨b_18, 0, none⟩)), (46, .slice A_3 tokens_2.length c_4), (47, .int .i64 (tokens_2.length : Int)), (48, .int .i64 x_56), (93, .bool true)]) (H' := [⟨41, b_10, [.int .u64 r_70.2.2.fence.Term, .int .u64 r_70.2.2.fence.Index, .slice A_71 r_70.2.2.effects.length c_72, .map (mA A_73), .map (mA A_75)]⟩, ⟨48, b_62, [.int .u64 r_61.Term, .int .u64 r_61.Index]⟩, ⟨47, b_59, [.int .u64 ((rdL tokens_2 x_56).Term), .int .u64 ((rdL tokens_2 x_56).Index)]⟩, ⟨45, b_17, [.int .u64 k_1.Saga, .int .i64 ((wi64 ((k_1.Step.tmod 64) + 64)).tmod 64), .bool false]⟩, ⟨46, b_18, [.int .u64 k_1.Saga, .int .i64 ((wi64 ((k_1.Step.tmod 64) + 64)).tmod 64), .bool true]⟩]) (ps := []) (by kernel_rfl) trivial ?_
            refine GoO.regionEnd ?_
            refine GoO.condT c10_59e (by kernel_rfl) ?_
            refine GoO.seq' c10_60e ?_
            refine GoO.region' (is := [0]) c10_61e (by kernel_rfl) ?_
            refine GoO.exec (is := [0]) (hs := [.p]) (rest := []) (ks := [6]) (env' := [(6, .bool false)]) (H' := [⟨41, b_10, [.int .u64 r_70.2.2.fence.Term, .int .u64 r_70.2.2.fence.Index, .slice A_71 r_70.2.2.effects.length c_72, .map (mA A_73), .map (mA A_75)]⟩, ⟨48, b_62, [.int .u64 r_61.Term, .int .u64 r_61.Index]⟩, ⟨47, b_59, [.int .u64 ((rdL tokens_2 x_56).Term), .int .u64 ((rdL tokens_2 x_56).Index)]⟩, ⟨45, b_17, [.int .u64 k_1.Saga, .int .i64 ((wi64 ((k_1.Step.tmod 64) + 64)).tmod 64), .bool false]⟩, ⟨46, b_18, [.int .u64 k_1.Saga, .int .i64 ((wi64 ((k_1.Step.tmod 64) + 64)).tmod 64), .bool true]⟩]) (ps := []) (by kernel_rfl) trivial ?_
            refine GoO.regionEnd ?_
            exact GoO.ret' (h := c10_62e) (hs := []) (ps := []) (hk := []) (bk := []) Try.func10 () (by kernel_rfl) trivial (by kernel_rfl) (by kernel_rfl)
          · refine GoO.exec (is := [3, 4, 5]) (hs := [.p, .p, .p]) (rest := []) (ks := [2, 7, 8, 9, 10, 11, 46, 47, 48, 93]) (env' := [(2, .bool done_5), (7, .int .u64 k_1.Saga), (8, .int .i64 ((wi64 ((k_1.Step.tmod 64) + 64)).tmod 64)), (9, .pointer (some ⟨b_10, 0, none⟩)), (10, .pointer (some ⟨b_17, 0, none⟩)), (11, .pointer (some ⟨b_18, 0, none⟩)), (46, .slice A_3 tokens_2.length c_4), (47, .int .i64 (tokens_2.length : Int)), (48, .int .i64 x_56), (93, .bool (r_70.2.1 != 50))]) (H' := [⟨41, b_10, [.int .u64 r_70.2.2.fence.Term, .int .u64 r_70.2.2.fence.Index, .slice A_71 r_70.2.2.effects.length c_72, .map (mA A_73), .map (mA A_75)]⟩, ⟨48, b_62, [.int .u64 r_61.Term, .int .u64 r_61.Index]⟩, ⟨47, b_59, [.int .u64 ((rdL tokens_2 x_56).Term), .int .u64 ((rdL tokens_2 x_56).Index)]⟩, ⟨45, b_17, [.int .u64 k_1.Saga, .int .i64 ((wi64 ((k_1.Step.tmod 64) + 64)).tmod 64), .bool false]⟩, ⟨46, b_18, [.int .u64 k_1.Saga, .int .i64 ((wi64 ((k_1.Step.tmod 64) + 64)).tmod 64), .bool true]⟩]) (ps := []) (by kernel_rfl) trivial ?_
            refine GoO.regionEnd ?_
            refine GoO.ite' c10_59e (by kernel_rfl) (fun h80 => ?_) (fun h80 => ?_)
            · refine GoO.seq' c10_60e ?_
              refine GoO.region' (is := [0]) c10_61e (by kernel_rfl) ?_
              refine GoO.exec (is := [0]) (hs := [.p]) (rest := []) (ks := [6]) (env' := [(6, .bool false)]) (H' := [⟨41, b_10, [.int .u64 r_70.2.2.fence.Term, .int .u64 r_70.2.2.fence.Index, .slice A_71 r_70.2.2.effects.length c_72, .map (mA A_73), .map (mA A_75)]⟩, ⟨48, b_62, [.int .u64 r_61.Term, .int .u64 r_61.Index]⟩, ⟨47, b_59, [.int .u64 ((rdL tokens_2 x_56).Term), .int .u64 ((rdL tokens_2 x_56).Index)]⟩, ⟨45, b_17, [.int .u64 k_1.Saga, .int .i64 ((wi64 ((k_1.Step.tmod 64) + 64)).tmod 64), .bool false]⟩, ⟨46, b_18, [.int .u64 k_1.Saga, .int .i64 ((wi64 ((k_1.Step.tmod 64) + 64)).tmod 64), .bool true]⟩]) (ps := []) (by kernel_rfl) trivial ?_
              refine GoO.regionEnd ?_
              exact GoO.ret' (h := c10_62e) (hs := []) (ps := []) (hk := []) (bk := []) Try.func10 () (by kernel_rfl) trivial (by kernel_rfl) (by kernel_rfl)
            · refine GoO.skip' c10_63e ?_
              refine GoO.inBlock ?_
              refine GoO.inBlock ?_
              refine GoO.region' (is := [0, 1]) c10_81e (by kernel_rfl) ?_
              refine GoO.exec (is := [0, 1]) (hs := [.p, .p]) (rest := []) (ks := [2, 7, 8, 9, 10, 11, 46, 47, 48]) (env' := [(2, .bool done_5), (7, .int .u64 k_1.Saga), (8, .int .i64 ((wi64 ((k_1.Step.tmod 64) + 64)).tmod 64)), (9, .pointer (some ⟨b_10, 0, none⟩)), (10, .pointer (some ⟨b_17, 0, none⟩)), (11, .pointer (some ⟨b_18, 0, none⟩)), (46, .slice A_3 tokens_2.length c_4), (47, .int .i64 (tokens_2.length : Int)), (48, .int .i64 (wi64 (x_56 + 1)))]) (H' := [⟨41, b_10, [.int .u64 r_70.2.2.fence.Term, .int .u64 r_70.2.2.fence.Index, .slice A_71 r_70.2.2.effects.length c_72, .map (mA A_73), .map (mA A_75)]⟩, ⟨48, b_62, [.int .u64 r_61.Term, .int .u64 r_61.Index]⟩, ⟨47, b_59, [.int .u64 ((rdL tokens_2 x_56).Term), .int .u64 ((rdL tokens_2 x_56).Index)]⟩, ⟨45, b_17, [.int .u64 k_1.Saga, .int .i64 ((wi64 ((k_1.Step.tmod 64) + 64)).tmod 64), .bool false]⟩, ⟨46, b_18, [.int .u64 k_1.Saga, .int .i64 ((wi64 ((k_1.Step.tmod 64) + 64)).tmod 64), .bool true]⟩]) (ps := []) (by kernel_rfl) trivial ?_
              refine GoO.regionEnd ?_
              refine GoO.inLoop ?_
              exact GoO.sub (ks := [2, 7, 8, 9, 10, 11, 46, 47, 48]) (hk := [0, 3, 4]) (bk := [0, 1, 2, 3]) (by kernel_rfl) (by kernel_rfl) (by kernel_rfl) (ih0 r_70.2.2.fence.Term r_70.2.2.fence.Index r_70.2.2.effects r_70.2.2.said r_70.2.2.tombs (wi64 (x_56 + 1)) A_71 c_72 A_73 c_74 A_75 c_76)
        · refine GoO.seq' c10_64e ?_
          refine GoO.region' (is := [0, 1]) c10_65e (by kernel_rfl) ?_
          refine GoO.exec (is := [0, 1]) (hs := [.p, .p]) (rest := []) (ks := [2, 7, 8, 9, 10, 11, 15, 16, 17, 18, 46, 47, 48, 94]) (env' := [(2, .bool done_5), (7, .int .u64 k_1.Saga), (8, .int .i64 ((wi64 ((k_1.Step.tmod 64) + 64)).tmod 64)), (9, .pointer (some ⟨b_10, 0, none⟩)), (10, .pointer (some ⟨b_17, 0, none⟩)), (11, .pointer (some ⟨b_18, 0, none⟩)), (15, .bool r_63.1), (16, .int .i64 r_63.2.1), (17, .bool r_70.1), (18, .int .i64 r_70.2.1), (46, .slice A_3 tokens_2.length c_4), (47, .int .i64 (tokens_2.length : Int)), (48, .int .i64 x_56), (94, .bool done_5)]) (H' := [⟨41, b_10, [.int .u64 r_70.2.2.fence.Term, .int .u64 r_70.2.2.fence.Index, .slice A_71 r_70.2.2.effects.length c_72, .map (mA A_73), .map (mA A_75)]⟩, ⟨48, b_62, [.int .u64 r_61.Term, .int .u64 r_61.Index]⟩, ⟨47, b_59, [.int .u64 ((rdL tokens_2 x_56).Term), .int .u64 ((rdL tokens_2 x_56).Index)]⟩, ⟨45, b_17, [.int .u64 k_1.Saga, .int .i64 ((wi64 ((k_1.Step.tmod 64) + 64)).tmod 64), .bool false]⟩, ⟨46, b_18, [.int .u64 k_1.Saga, .int .i64 ((wi64 ((k_1.Step.tmod 64) + 64)).tmod 64), .bool true]⟩]) (ps := []) (by kernel_rfl) trivial ?_
          refine GoO.regionEnd ?_
          refine GoO.ite' c10_66e (by kernel_rfl) (fun h81 => ?_) (fun h81 => ?_)
          · refine GoO.seq' c10_67e ?_
            refine GoO.region' (is := [0, 1, 2, 3, 4, 5, 6, 7, 8, 9, 10, 11, 12, 13]) c10_68e (by kernel_rfl) ?_
            refine GoO.exec (is := [0, 1, 2]) (hs := [.p, .p, .p]) (rest := [3, 4, 5, 6, 7, 8, 9, 10, 11, 12, 13]) (ks := [2, 7, 8, 9, 10, 11, 16, 17, 18, 46, 47, 48, 98]) (env' := [(2, .bool done_5), (7, .int .u64 k_1.Saga), (8, .int .i64 ((wi64 ((k_1.Step.tmod 64) + 64)).tmod 64)), (9, .pointer (some ⟨b_10, 0, none⟩)), (10, .pointer (some ⟨b_17, 0, none⟩)), (11, .pointer (some ⟨b_18, 0, none⟩)), (16, .int .i64 r_63.2.1), (17, .bool r_70.1), (18, .int .i64 r_70.2.1), (46, .slice A_3 tokens_2.length c_4), (47, .int .i64 (tokens_2.length : Int)), (48, .int .i64 x_56), (98, .bool (!r_63.1))]) (H' := [⟨41, b_10, [.int .u64 r_70.2.2.fence.Term, .int .u64 r_70.2.2.fence.Index, .slice A_71 r_70.2.2.effects.length c_72, .map (mA A_73), .map (mA A_75)]⟩, ⟨48, b_62, [.int .u64 r_61.Term, .int .u64 r_61.Index]⟩, ⟨47, b_59, [.int .u64 ((rdL tokens_2 x_56).Term), .int .u64 ((rdL tokens_2 x_56).Index)]⟩, ⟨45, b_17, [.int .u64 k_1.Saga, .int .i64 ((wi64 ((k_1.Step.tmod 64) + 64)).tmod 64), .bool false]⟩, ⟨46, b_18, [.int .u64 k_1.Saga, .int .i64 ((wi64 ((k_1.Step.tmod 64) + 64)).tmod 64), .bool true]⟩]) (ps := []) (by kernel_rfl) trivial ?_
            refine GoO.bsplit (t := 98) (by kernel_rfl) (fun h82 => ?_) (fun h82 => ?_)
            · refine GoO.exec (is := [3, 4, 5, 6, 7, 8, 9, 10, 11, 12, 13]) (hs := [.p, .p, .p, .p, .p, .p, .p, .p, .p, .p, .p]) (rest := []) (ks := [2, 7, 8, 9, 10, 11, 46, 47, 48, 109]) (env' := [(2, .bool done_5), (7, .int .u64 k_1.Saga), (8, .int .i64 ((wi64 ((k_1.Step.tmod 64) + 64)).tmod 64)), (9, .pointer (some ⟨b_10, 0, none⟩)), (10, .pointer (some ⟨b_17, 0, none⟩)), (11, .pointer (some ⟨b_18, 0, none⟩)), (46, .slice A_3 tokens_2.length c_4), (47, .int .i64 (tokens_2.length : Int)), (48, .int .i64 x_56), (109, .bool true)]) (H' := [⟨41, b_10, [.int .u64 r_70.2.2.fence.Term, .int .u64 r_70.2.2.fence.Index, .slice A_71 r_70.2.2.effects.length c_72, .map (mA A_73), .map (mA A_75)]⟩, ⟨48, b_62, [.int .u64 r_61.Term, .int .u64 r_61.Index]⟩, ⟨47, b_59, [.int .u64 ((rdL tokens_2 x_56).Term), .int .u64 ((rdL tokens_2 x_56).Index)]⟩, ⟨45, b_17, [.int .u64 k_1.Saga, .int .i64 ((wi64 ((k_1.Step.tmod 64) + 64)).tmod 64), .bool false]⟩, ⟨46, b_18, [.int .u64 k_1.Saga, .int .i64 ((wi64 ((k_1.Step.tmod 64) + 64)).tmod 64), .bool true]⟩]) (ps := []) (by kernel_rfl) trivial ?_
              refine GoO.regionEnd ?_
              exact GoO.sub (ks := [2, 7, 8, 9, 10, 11, 46, 47, 48, 109]) (hk := [0, 3, 4]) (bk := [0, 1, 2, 3]) (by kernel_rfl) (by kernel_rfl) (by kernel_rfl) (tontinelaw18_LedgerDead_j3_ok n (tontinelaw18_LedgerDead.l0 n k_1 tokens_2 done_5 k) k_1 tokens_2 done_5 f_45 f_46 f_47 f_50 f_53 x_56 r_70 A_3 c_4 b_10 b_17 b_18 A_48 c_49 A_51 c_52 A_54 c_55 A_71 c_72 A_73 c_74 A_75 c_76 w0 S0 ih0 true)
            · refine GoO.exec (is := [3, 4, 5, 6]) (hs := [.p, .p, .p, .p]) (rest := [7, 8, 9, 10, 11, 12, 13]) (ks := [2, 7, 8, 9, 10, 11, 17, 18, 46, 47, 48, 102]) (env' := [(2, .bool done_5), (7, .int .u64 k_1.Saga), (8, .int .i64 ((wi64 ((k_1.Step.tmod 64) + 64)).tmod 64)), (9, .pointer (some ⟨b_10, 0, none⟩)), (10, .pointer (some ⟨b_17, 0, none⟩)), (11, .pointer (some ⟨b_18, 0, none⟩)), (17, .bool r_70.1), (18, .int .i64 r_70.2.1), (46, .slice A_3 tokens_2.length c_4), (47, .int .i64 (tokens_2.length : Int)), (48, .int .i64 x_56), (102, .bool (r_63.2.1 != 0))]) (H' := [⟨41, b_10, [.int .u64 r_70.2.2.fence.Term, .int .u64 r_70.2.2.fence.Index, .slice A_71 r_70.2.2.effects.length c_72, .map (mA A_73), .map (mA A_75)]⟩, ⟨48, b_62, [.int .u64 r_61.Term, .int .u64 r_61.Index]⟩, ⟨47, b_59, [.int .u64 ((rdL tokens_2 x_56).Term), .int .u64 ((rdL tokens_2 x_56).Index)]⟩, ⟨45, b_17, [.int .u64 k_1.Saga, .int .i64 ((wi64 ((k_1.Step.tmod 64) + 64)).tmod 64), .bool false]⟩, ⟨46, b_18, [.int .u64 k_1.Saga, .int .i64 ((wi64 ((k_1.Step.tmod 64) + 64)).tmod 64), .bool true]⟩]) (ps := []) (by kernel_rfl) trivial ?_
              refine GoO.bsplit (t := 102) (by kernel_rfl) (fun h83 => ?_) (fun h83 => ?_)
              · refine GoO.exec (is := [7, 8, 9, 10, 11, 12, 13]) (hs := [.p, .p, .p, .p, .p, .p, .p]) (rest := []) (ks := [2, 7, 8, 9, 10, 11, 46, 47, 48, 109]) (env' := [(2, .bool done_5), (7, .int .u64 k_1.Saga), (8, .int .i64 ((wi64 ((k_1.Step.tmod 64) + 64)).tmod 64)), (9, .pointer (some ⟨b_10, 0, none⟩)), (10, .pointer (some ⟨b_17, 0, none⟩)), (11, .pointer (some ⟨b_18, 0, none⟩)), (46, .slice A_3 tokens_2.length c_4), (47, .int .i64 (tokens_2.length : Int)), (48, .int .i64 x_56), (109, .bool true)]) (H' := [⟨41, b_10, [.int .u64 r_70.2.2.fence.Term, .int .u64 r_70.2.2.fence.Index, .slice A_71 r_70.2.2.effects.length c_72, .map (mA A_73), .map (mA A_75)]⟩, ⟨48, b_62, [.int .u64 r_61.Term, .int .u64 r_61.Index]⟩, ⟨47, b_59, [.int .u64 ((rdL tokens_2 x_56).Term), .int .u64 ((rdL tokens_2 x_56).Index)]⟩, ⟨45, b_17, [.int .u64 k_1.Saga, .int .i64 ((wi64 ((k_1.Step.tmod 64) + 64)).tmod 64), .bool false]⟩, ⟨46, b_18, [.int .u64 k_1.Saga, .int .i64 ((wi64 ((k_1.Step.tmod 64) + 64)).tmod 64), .bool true]⟩]) (ps := []) (by kernel_rfl) trivial ?_
                refine GoO.regionEnd ?_
                exact GoO.sub (ks := [2, 7, 8, 9, 10, 11, 46, 47, 48, 109]) (hk := [0, 3, 4]) (bk := [0, 1, 2, 3]) (by kernel_rfl) (by kernel_rfl) (by kernel_rfl) (tontinelaw18_LedgerDead_j3_ok n (tontinelaw18_LedgerDead.l0 n k_1 tokens_2 done_5 k) k_1 tokens_2 done_5 f_45 f_46 f_47 f_50 f_53 x_56 r_70 A_3 c_4 b_10 b_17 b_18 A_48 c_49 A_51 c_52 A_54 c_55 A_71 c_72 A_73 c_74 A_75 c_76 w0 S0 ih0 true)
              · refine GoO.exec (is := [7, 8, 9, 10]) (hs := [.p, .p, .p, .p]) (rest := [11, 12, 13]) (ks := [2, 7, 8, 9, 10, 11, 18, 46, 47, 48, 106]) (env' := [(2, .bool done_5), (7, .int .u64 k_1.Saga), (8, .int .i64 ((wi64 ((k_1.Step.tmod 64) + 64)).tmod 64)), (9, .pointer (some ⟨b_10, 0, none⟩)), (10, .pointer (some ⟨b_17, 0, none⟩)), (11, .pointer (some ⟨b_18, 0, none⟩)), (18, .int .i64 r_70.2.1), (46, .slice A_3 tokens_2.length c_4), (47, .int .i64 (tokens_2.length : Int)), (48, .int .i64 x_56), (106, .bool (!r_70.1))]) (H' := [⟨41, b_10, [.int .u64 r_70.2.2.fence.Term, .int .u64 r_70.2.2.fence.Index, .slice A_71 r_70.2.2.effects.length c_72, .map (mA A_73), .map (mA A_75)]⟩, ⟨48, b_62, [.int .u64 r_61.Term, .int .u64 r_61.Index]⟩, ⟨47, b_59, [.int .u64 ((rdL tokens_2 x_56).Term), .int .u64 ((rdL tokens_2 x_56).Index)]⟩, ⟨45, b_17, [.int .u64 k_1.Saga, .int .i64 ((wi64 ((k_1.Step.tmod 64) + 64)).tmod 64), .bool false]⟩, ⟨46, b_18, [.int .u64 k_1.Saga, .int .i64 ((wi64 ((k_1.Step.tmod 64) + 64)).tmod 64), .bool true]⟩]) (ps := []) (by kernel_rfl) trivial ?_
                refine GoO.bsplit (t := 106) (by kernel_rfl) (fun h84 => ?_) (fun h84 => ?_)
                · refine GoO.exec (is := [11, 12, 13]) (hs := [.p, .p, .p]) (rest := []) (ks := [2, 7, 8, 9, 10, 11, 46, 47, 48, 109]) (env' := [(2, .bool done_5), (7, .int .u64 k_1.Saga), (8, .int .i64 ((wi64 ((k_1.Step.tmod 64) + 64)).tmod 64)), (9, .pointer (some ⟨b_10, 0, none⟩)), (10, .pointer (some ⟨b_17, 0, none⟩)), (11, .pointer (some ⟨b_18, 0, none⟩)), (46, .slice A_3 tokens_2.length c_4), (47, .int .i64 (tokens_2.length : Int)), (48, .int .i64 x_56), (109, .bool true)]) (H' := [⟨41, b_10, [.int .u64 r_70.2.2.fence.Term, .int .u64 r_70.2.2.fence.Index, .slice A_71 r_70.2.2.effects.length c_72, .map (mA A_73), .map (mA A_75)]⟩, ⟨48, b_62, [.int .u64 r_61.Term, .int .u64 r_61.Index]⟩, ⟨47, b_59, [.int .u64 ((rdL tokens_2 x_56).Term), .int .u64 ((rdL tokens_2 x_56).Index)]⟩, ⟨45, b_17, [.int .u64 k_1.Saga, .int .i64 ((wi64 ((k_1.Step.tmod 64) + 64)).tmod 64), .bool false]⟩, ⟨46, b_18, [.int .u64 k_1.Saga, .int .i64 ((wi64 ((k_1.Step.tmod 64) + 64)).tmod 64), .bool true]⟩]) (ps := []) (by kernel_rfl) trivial ?_
                  refine GoO.regionEnd ?_
                  exact GoO.sub (ks := [2, 7, 8, 9, 10, 11, 46, 47, 48, 109]) (hk := [0, 3, 4]) (bk := [0, 1, 2, 3]) (by kernel_rfl) (by kernel_rfl) (by kernel_rfl) (tontinelaw18_LedgerDead_j3_ok n (tontinelaw18_LedgerDead.l0 n k_1 tokens_2 done_5 k) k_1 tokens_2 done_5 f_45 f_46 f_47 f_50 f_53 x_56 r_70 A_3 c_4 b_10 b_17 b_18 A_48 c_49 A_51 c_52 A_54 c_55 A_71 c_72 A_73 c_74 A_75 c_76 w0 S0 ih0 true)
                · refine GoO.exec (is := [11, 12, 13]) (hs := [.p, .p, .p]) (rest := []) (ks := [2, 7, 8, 9, 10, 11, 46, 47, 48, 109]) (env' := [(2, .bool done_5), (7, .int .u64 k_1.Saga), (8, .int .i64 ((wi64 ((k_1.Step.tmod 64) + 64)).tmod 64)), (9, .pointer (some ⟨b_10, 0, none⟩)), (10, .pointer (some ⟨b_17, 0, none⟩)), (11, .pointer (some ⟨b_18, 0, none⟩)), (46, .slice A_3 tokens_2.length c_4), (47, .int .i64 (tokens_2.length : Int)), (48, .int .i64 x_56), (109, .bool (r_70.2.1 != 0))]) (H' := [⟨41, b_10, [.int .u64 r_70.2.2.fence.Term, .int .u64 r_70.2.2.fence.Index, .slice A_71 r_70.2.2.effects.length c_72, .map (mA A_73), .map (mA A_75)]⟩, ⟨48, b_62, [.int .u64 r_61.Term, .int .u64 r_61.Index]⟩, ⟨47, b_59, [.int .u64 ((rdL tokens_2 x_56).Term), .int .u64 ((rdL tokens_2 x_56).Index)]⟩, ⟨45, b_17, [.int .u64 k_1.Saga, .int .i64 ((wi64 ((k_1.Step.tmod 64) + 64)).tmod 64), .bool false]⟩, ⟨46, b_18, [.int .u64 k_1.Saga, .int .i64 ((wi64 ((k_1.Step.tmod 64) + 64)).tmod 64), .bool true]⟩]) (ps := []) (by kernel_rfl) trivial ?_
                  refine GoO.regionEnd ?_
                  exact GoO.sub (ks := [2, 7, 8, 9, 10, 11, 46, 47, 48, 109]) (hk := [0, 3, 4]) (bk := [0, 1, 2, 3]) (by kernel_rfl) (by kernel_rfl) (by kernel_rfl) (tontinelaw18_LedgerDead_j3_ok n (tontinelaw18_LedgerDead.l0 n k_1 tokens_2 done_5 k) k_1 tokens_2 done_5 f_45 f_46 f_47 f_50 f_53 x_56 r_70 A_3 c_4 b_10 b_17 b_18 A_48 c_49 A_51 c_52 A_54 c_55 A_71 c_72 A_73 c_74 A_75 c_76 w0 S0 ih0 (r_70.2.1 != 0))
          · refine GoO.seq' c10_74e ?_
            refine GoO.region' (is := [0, 1, 2, 3, 4, 5, 6, 7, 8, 9]) c10_75e (by kernel_rfl) ?_
            refine GoO.exec (is := [0, 1, 2]) (hs := [.p, .p, .p]) (rest := [3, 4, 5, 6, 7, 8, 9]) (ks := [2, 7, 8, 9, 10, 11, 17, 18, 46, 47, 48, 76]) (env' := [(2, .bool done_5), (7, .int .u64 k_1.Saga), (8, .int .i64 ((wi64 ((k_1.Step.tmod 64) + 64)).tmod 64)), (9, .pointer (some ⟨b_10, 0, none⟩)), (10, .pointer (some ⟨b_17, 0, none⟩)), (11, .pointer (some ⟨b_18, 0, none⟩)), (17, .bool r_70.1), (18, .int .i64 r_70.2.1), (46, .slice A_3 tokens_2.length c_4), (47, .int .i64 (tokens_2.length : Int)), (48, .int .i64 x_56), (76, .bool (r_63.2.1 != 51))]) (H' := [⟨41, b_10, [.int .u64 r_70.2.2.fence.Term, .int .u64 r_70.2.2.fence.Index, .slice A_71 r_70.2.2.effects.length c_72, .map (mA A_73), .map (mA A_75)]⟩, ⟨48, b_62, [.int .u64 r_61.Term, .int .u64 r_61.Index]⟩, ⟨47, b_59, [.int .u64 ((rdL tokens_2 x_56).Term), .int .u64 ((rdL tokens_2 x_56).Index)]⟩, ⟨45, b_17, [.int .u64 k_1.Saga, .int .i64 ((wi64 ((k_1.Step.tmod 64) + 64)).tmod 64), .bool false]⟩, ⟨46, b_18, [.int .u64 k_1.Saga, .int .i64 ((wi64 ((k_1.Step.tmod 64) + 64)).tmod 64), .bool true]⟩]) (ps := []) (by kernel_rfl) trivial ?_
            refine GoO.bsplit (t := 76) (by kernel_rfl) (fun h87 => ?_) (fun h87 => ?_)
            · refine GoO.exec (is := [3, 4, 5, 6, 7, 8, 9]) (hs := [.p, .p, .p, .p, .p, .p, .p]) (rest := []) (ks := [2, 7, 8, 9, 10, 11, 46, 47, 48, 83]) (env' := [(2, .bool done_5), (7, .int .u64 k_1.Saga), (8, .int .i64 ((wi64 ((k_1.Step.tmod 64) + 64)).tmod 64)), (9, .pointer (some ⟨b_10, 0, none⟩)), (10, .pointer (some ⟨b_17, 0, none⟩)), (11, .pointer (some ⟨b_18, 0, none⟩)), (46, .slice A_3 tokens_2.length c_4), (47, .int .i64 (tokens_2.length : Int)), (48, .int .i64 x_56), (83, .bool true)]) (H' := [⟨41, b_10, [.int .u64 r_70.2.2.fence.Term, .int .u64 r_70.2.2.fence.Index, .slice A_71 r_70.2.2.effects.length c_72, .map (mA A_73), .map (mA A_75)]⟩, ⟨48, b_62, [.int .u64 r_61.Term, .int .u64 r_61.Index]⟩, ⟨47, b_59, [.int .u64 ((rdL tokens_2 x_56).Term), .int .u64 ((rdL tokens_2 x_56).Index)]⟩, ⟨45, b_17, [.int .u64 k_1.Saga, .int .i64 ((wi64 ((k_1.Step.tmod 64) + 64)).tmod 64), .bool false]⟩, ⟨46, b_18, [.int .u64 k_1.Saga, .int .i64 ((wi64 ((k_1.Step.tmod 64) + 64)).tmod 64), .bool true]⟩]) (ps := []) (by kernel_rfl) trivial ?_
              refine GoO.regionEnd ?_
              exact GoO.sub (ks := [2, 7, 8, 9, 10, 11, 46, 47, 48, 83]) (hk := [0, 3, 4]) (bk := [0, 1, 2, 3]) (by kernel_rfl) (by kernel_rfl) (by kernel_rfl) (tontinelaw18_LedgerDead_j4_ok n (tontinelaw18_LedgerDead.l0 n k_1 tokens_2 done_5 k) k_1 tokens_2 done_5 f_45 f_46 f_47 f_50 f_53 x_56 r_70 A_3 c_4 b_10 b_17 b_18 A_48 c_49 A_51 c_52 A_54 c_55 A_71 c_72 A_73 c_74 A_75 c_76 w0 S0 ih0 true)
            · refine GoO.exec (is := [3, 4, 5, 6]) (hs := [.p, .p, .p, .p]) (rest := [7, 8, 9]) (ks := [2, 7, 8, 9, 10, 11, 18, 46, 47, 48, 80]) (env' := [(2, .bool done_5), (7, .int .u64 k_1.Saga), (8, .int .i64 ((wi64 ((k_1.Step.tmod 64) + 64)).tmod 64)), (9, .pointer (some ⟨b_10, 0, none⟩)), (10, .pointer (some ⟨b_17, 0, none⟩)), (11, .pointer (some ⟨b_18, 0, none⟩)), (18, .int .i64 r_70.2.1), (46, .slice A_3 tokens_2.length c_4), (47, .int .i64 (tokens_2.length : Int)), (48, .int .i64 x_56), (80, .bool (!r_70.1))]) (H' := [⟨41, b_10, [.int .u64 r_70.2.2.fence.Term, .int .u64 r_70.2.2.fence.Index, .slice A_71 r_70.2.2.effects.length c_72, .map (mA A_73), .map (mA A_75)]⟩, ⟨48, b_62, [.int .u64 r_61.Term, .int .u64 r_61.Index]⟩, ⟨47, b_59, [.int .u64 ((rdL tokens_2 x_56).Term), .int .u64 ((rdL tokens_2 x_56).Index)]⟩, ⟨45, b_17, [.int .u64 k_1.Saga, .int .i64 ((wi64 ((k_1.Step.tmod 64) + 64)).tmod 64), .bool false]⟩, ⟨46, b_18, [.int .u64 k_1.Saga, .int .i64 ((wi64 ((k_1.Step.tmod 64) + 64)).tmod 64), .bool true]⟩]) (ps := []) (by kernel_rfl) trivial ?_
              refine GoO.bsplit (t := 80) (by kernel_rfl) (fun h88 => ?_) (fun h88 => ?_)
              · refine GoO.exec (is := [7, 8, 9]) (hs := [.p, .p, .p]) (rest := []) (ks := [2, 7, 8, 9, 10, 11, 46, 47, 48, 83]) (env' := [(2, .bool done_5), (7, .int .u64 k_1.Saga), (8, .int .i64 ((wi64 ((k_1.Step.tmod 64) + 64)).tmod 64)), (9, .pointer (some ⟨b_10, 0, none⟩)), (10, .pointer (some ⟨b_17, 0, none⟩)), (11, .pointer (some ⟨b_18, 0, none⟩)), (46, .slice A_3 tokens_2.length c_4), (47, .int .i64 (tokens_2.length : Int)), (48, .int .i64 x_56), (83, .bool true)]) (H' := [⟨41, b_10, [.int .u64 r_70.2.2.fence.Term, .int .u64 r_70.2.2.fence.Index, .slice A_71 r_70.2.2.effects.length c_72, .map (mA A_73), .map (mA A_75)]⟩, ⟨48, b_62, [.int .u64 r_61.Term, .int .u64 r_61.Index]⟩, ⟨47, b_59, [.int .u64 ((rdL tokens_2 x_56).Term), .int .u64 ((rdL tokens_2 x_56).Index)]⟩, ⟨45, b_17, [.int .u64 k_1.Saga, .int .i64 ((wi64 ((k_1.Step.tmod 64) + 64)).tmod 64), .bool false]⟩, ⟨46, b_18, [.int .u64 k_1.Saga, .int .i64 ((wi64 ((k_1.Step.tmod 64) + 64)).tmod 64), .bool true]⟩]) (ps := []) (by kernel_rfl) trivial ?_
                refine GoO.regionEnd ?_
                exact GoO.sub (ks := [2, 7, 8, 9, 10, 11, 46, 47, 48, 83]) (hk := [0, 3, 4]) (bk := [0, 1, 2, 3]) (by kernel_rfl) (by kernel_rfl) (by kernel_rfl) (tontinelaw18_LedgerDead_j4_ok n (tontinelaw18_LedgerDead.l0 n k_1 tokens_2 done_5 k) k_1 tokens_2 done_5 f_45 f_46 f_47 f_50 f_53 x_56 r_70 A_3 c_4 b_10 b_17 b_18 A_48 c_49 A_51 c_52 A_54 c_55 A_71 c_72 A_73 c_74 A_75 c_76 w0 S0 ih0 true)
              · refine GoO.exec (is := [7, 8, 9]) (hs := [.p, .p, .p]) (rest := []) (ks := [2, 7, 8, 9, 10, 11, 46, 47, 48, 83]) (env' := [(2, .bool done_5), (7, .int .u64 k_1.Saga), (8, .int .i64 ((wi64 ((k_1.Step.tmod 64) + 64)).tmod 64)), (9, .pointer (some ⟨b_10, 0, none⟩)), (10, .pointer (some ⟨b_17, 0, none⟩)), (11, .pointer (some ⟨b_18, 0, none⟩)), (46, .slice A_3 tokens_2.length c_4), (47, .int .i64 (tokens_2.length : Int)), (48, .int .i64 x_56), (83, .bool (r_70.2.1 != 0))]) (H' := [⟨41, b_10, [.int .u64 r_70.2.2.fence.Term, .int .u64 r_70.2.2.fence.Index, .slice A_71 r_70.2.2.effects.length c_72, .map (mA A_73), .map (mA A_75)]⟩, ⟨48, b_62, [.int .u64 r_61.Term, .int .u64 r_61.Index]⟩, ⟨47, b_59, [.int .u64 ((rdL tokens_2 x_56).Term), .int .u64 ((rdL tokens_2 x_56).Index)]⟩, ⟨45, b_17, [.int .u64 k_1.Saga, .int .i64 ((wi64 ((k_1.Step.tmod 64) + 64)).tmod 64), .bool false]⟩, ⟨46, b_18, [.int .u64 k_1.Saga, .int .i64 ((wi64 ((k_1.Step.tmod 64) + 64)).tmod 64), .bool true]⟩]) (ps := []) (by kernel_rfl) trivial ?_
                refine GoO.regionEnd ?_
                exact GoO.sub (ks := [2, 7, 8, 9, 10, 11, 46, 47, 48, 83]) (hk := [0, 3, 4]) (bk := [0, 1, 2, 3]) (by kernel_rfl) (by kernel_rfl) (by kernel_rfl) (tontinelaw18_LedgerDead_j4_ok n (tontinelaw18_LedgerDead.l0 n k_1 tokens_2 done_5 k) k_1 tokens_2 done_5 f_45 f_46 f_47 f_50 f_53 x_56 r_70 A_3 c_4 b_10 b_17 b_18 A_48 c_49 A_51 c_52 A_54 c_55 A_71 c_72 A_73 c_74 A_75 c_76 w0 S0 ih0 (r_70.2.1 != 0))
    · refine GoO.exit' c10_36e rfl ?_
      exact GoO.sub (ks := [2, 7, 8, 9]) (hk := [0]) (bk := [0, 1, 2]) (by kernel_rfl) (by kernel_rfl) (by kernel_rfl) (tontinelaw18_LedgerDead_j1_ok n k_1 done_5 f_45 f_46 f_47 f_50 f_53 b_10 A_48 c_49 A_51 c_52 A_54 c_55 A_3 c_4 w0 S0)
theorem tontinelaw18_LedgerDead_j0_ok (n : Nat) (k_1 : T_api_Key) (tokens_2 : (List T_api_Token)) (done_5 : Bool) (A_3 : Option Addr) (c_4 : Nat) (b_10 : Nat) (b_17 : Nat) (b_18 : Nat) (w0 : World) (S0 : Fam) (f_27 : Int) (f_28 : Int) (f_29 : (List T_ledger_Effect)) (f_32 : (List (T_api_Key × Bool))) (f_35 : (List (T_api_Key × Bool))) (A_30 : Option Addr) (c_31 : Nat) (A_33 : Option Addr) (c_34 : Nat) (A_36 : Option Addr) (c_37 : Nat) :
    GoO (tontinelaw18_LedgerDead.cx A_3 c_4 w0 S0) [(1, .slice A_3 tokens_2.length c_4), (2, .bool done_5), (7, .int .u64 k_1.Saga), (8, .int .i64 ((wi64 ((k_1.Step.tmod 64) + 64)).tmod 64)), (9, .pointer (some ⟨b_10, 0, none⟩)), (10, .pointer (some ⟨b_17, 0, none⟩)), (11, .pointer (some ⟨b_18, 0, none⟩))] [⟨41, b_10, [.int .u64 f_27, .int .u64 f_28, .slice A_30 f_29.length c_31, .map (mA A_33), .map (mA A_36)]⟩, ⟨45, b_17, [.int .u64 k_1.Saga, .int .i64 ((wi64 ((k_1.Step.tmod 64) + 64)).tmod 64), .bool false]⟩, ⟨46, b_18, [.int .u64 k_1.Saga, .int .i64 ((wi64 ((k_1.Step.tmod 64) + 64)).tmod 64), .bool true]⟩] [Rd 0 kT_api_Token A_3 c_4 tokens_2, Ow 42 kT_ledger_Effect A_30 c_31 f_29, Mp 43 ky41 (fun v => .bool v) A_33 c_34 f_32, Mp 44 ky41 (fun v => .bool v) A_36 c_37 f_35] [.code c10_24] (tontinelaw18_LedgerDead.j0 n k_1 tokens_2 done_5 f_27 f_28 f_29 f_32 f_35) := by
  unfold tontinelaw18_LedgerDead.j0
  refine GoO.seq' c10_24e ?_
  refine GoO.region' (is := [0, 1, 2, 3]) c10_25e (by kernel_rfl) ?_
  refine GoO.exec (is := [0, 1, 2]) (hs := [.p, .p, .b 2]) (rest := [3]) (ks := [1, 2, 7, 8, 9, 10, 11, 42, 43, 44]) (env' := [(1, .slice A_3 tokens_2.length c_4), (2, .bool done_5), (7, .int .u64 k_1.Saga), (8, .int .i64 ((wi64 ((k_1.Step.tmod 64) + 64)).tmod 64)), (9, .pointer (some ⟨b_10, 0, none⟩)), (10, .pointer (some ⟨b_17, 0, none⟩)), (11, .pointer (some ⟨b_18, 0, none⟩)), (42, .pointer (some ⟨b_10, 0, none⟩)), (43, .agg ⟨[.int .u64 0, .int .u64 0]⟩), (44, .agg ⟨[.int .u64 k_1.Saga, .int .i64 ((wi64 ((k_1.Step.tmod 64) + 64)).tmod 64), .bool true]⟩)]) (H' := [⟨41, b_10, [.int .u64 f_27, .int .u64 f_28, .slice A_30 f_29.length c_31, .map (mA A_33), .map (mA A_36)]⟩, ⟨45, b_17, [.int .u64 k_1.Saga, .int .i64 ((wi64 ((k_1.Step.tmod 64) + 64)).tmod 64), .bool false]⟩, ⟨46, b_18, [.int .u64 k_1.Saga, .int .i64 ((wi64 ((k_1.Step.tmod 64) + 64)).tmod 64), .bool true]⟩]) (ps := [b_18 = b_18]) (by kernel_rfl) (And.intro rfl trivial) ?_
  refine OpTo.go (GoO.call rfl (by kernel_rfl) (by kernel_rfl) (ledger_Ledger_Ask_ok n (⟨(⟨f_27, f_28⟩ : T_api_Token), f_29, f_32, f_35⟩ : T_ledger_Ledger) (⟨0, 0⟩ : T_api_Token) (⟨k_1.Saga, (wi64 ((k_1.Step.tmod 64) + 64)).tmod 64, true⟩ : T_api_Key) [110] false b_10 A_30 c_31 A_33 c_34 A_36 c_37) [[0], [41], [42], [43], [44]] [(41, 1), (42, 2), (43, 3), (44, 4)] [(1, 0)] [(2, 1), (3, 2), (4, 3)] (hks := [1, 2]) (bks := [0]) (by kernel_rfl) (by kernel_rfl) (by kernel_rfl) (.inl rfl) rfl rfl (by kernel_rfl) (by kernel_rfl) _ (fun _ _ => rfl) _ _ (fun _ _ => rfl) (fun _ _ => rfl) (fun _ _ => by kernel_rfl) (fun _ _ => by kernel_rfl) (fun r_38 x_101 => ?_))
  obtain ⟨A_39, c_40, A_41, c_42, A_43, c_44⟩ := x_101
  refine GoO.shape (env' := [(1, .slice A_3 tokens_2.length c_4), (2, .bool done_5), (7, .int .u64 k_1.Saga), (8, .int .i64 ((wi64 ((k_1.Step.tmod 64) + 64)).tmod 64)), (9, .pointer (some ⟨b_10, 0, none⟩)), (10, .pointer (some ⟨b_17, 0, none⟩)), (11, .pointer (some ⟨b_18, 0, none⟩)), (42, .pointer (some ⟨b_10, 0, none⟩)), (43, .agg ⟨[.int .u64 0, .int .u64 0]⟩), (44, .agg ⟨[.int .u64 k_1.Saga, .int .i64 ((wi64 ((k_1.Step.tmod 64) + 64)).tmod 64), .bool true]⟩), (45, .tuple ⟨[.bool r_38.1, .int .i64 r_38.2.1]⟩)]) (H' := [⟨41, b_10, [.int .u64 r_38.2.2.fence.Term, .int .u64 r_38.2.2.fence.Index, .slice A_39 r_38.2.2.effects.length c_40, .map (mA A_41), .map (mA A_43)]⟩, ⟨45, b_17, [.int .u64 k_1.Saga, .int .i64 ((wi64 ((k_1.Step.tmod 64) + 64)).tmod 64), .bool false]⟩, ⟨46, b_18, [.int .u64 k_1.Saga, .int .i64 ((wi64 ((k_1.Step.tmod 64) + 64)).tmod 64), .bool true]⟩]) (B' := [Ow 42 kT_ledger_Effect A_39 c_40 r_38.2.2.effects, Mp 43 ky41 (fun v => .bool v) A_41 c_42 r_38.2.2.said, Mp 44 ky41 (fun v => .bool v) A_43 c_44 r_38.2.2.tombs, Rd 0 kT_api_Token A_3 c_4 tokens_2]) (ks := [1, 2, 7, 8, 9, 10, 11, 42, 43, 44, 45]) (by kernel_rfl) (by kernel_rfl) (by kernel_rfl) ?_
  refine GoO.regionEnd ?_
  refine GoO.seq' c10_26e ?_
  refine GoO.seq' c10_27e ?_
  refine GoO.region' (is := [0, 1, 2]) c10_28e (by kernel_rfl) ?_
  refine GoO.exec (is := [0, 1, 2]) (hs := [.p, .p, .p]) (rest := []) (ks := [2, 7, 8, 9, 10, 11, 46, 47, 48]) (env' := [(2, .bool done_5), (7, .int .u64 k_1.Saga), (8, .int .i64 ((wi64 ((k_1.Step.tmod 64) + 64)).tmod 64)), (9, .pointer (some ⟨b_10, 0, none⟩)), (10, .pointer (some ⟨b_17, 0, none⟩)), (11, .pointer (some ⟨b_18, 0, none⟩)), (46, .slice A_3 tokens_2.length c_4), (47, .int .i64 (tokens_2.length : Int)), (48, .int .i64 0)]) (H' := [⟨41, b_10, [.int .u64 r_38.2.2.fence.Term, .int .u64 r_38.2.2.fence.Index, .slice A_39 r_38.2.2.effects.length c_40, .map (mA A_41), .map (mA A_43)]⟩, ⟨45, b_17, [.int .u64 k_1.Saga, .int .i64 ((wi64 ((k_1.Step.tmod 64) + 64)).tmod 64), .bool false]⟩, ⟨46, b_18, [.int .u64 k_1.Saga, .int .i64 ((wi64 ((k_1.Step.tmod 64) + 64)).tmod 64), .bool true]⟩]) (ps := []) (by kernel_rfl) trivial ?_
  refine GoO.regionEnd ?_
  refine GoO.block' c10_29e ?_
  refine GoO.loop' c10_30e ?_
  exact GoO.sub (ks := [2, 7, 8, 9, 10, 11, 46, 47, 48]) (hk := [0, 1, 2]) (bk := [0, 1, 2, 3]) (by kernel_rfl) (by kernel_rfl) (by kernel_rfl) (tontinelaw18_LedgerDead_l0_ok n k_1 tokens_2 done_5 A_3 c_4 b_10 b_17 b_18 w0 S0 n r_38.2.2.fence.Term r_38.2.2.fence.Index r_38.2.2.effects r_38.2.2.said r_38.2.2.tombs 0 A_39 c_40 A_41 c_42 A_43 c_44)
theorem tontinelaw18_LedgerDead_ok (n : Nat) (k_1 : T_api_Key) (tokens_2 : (List T_api_Token)) (done_5 : Bool) (A_3 : Option Addr) (c_4 : Nat) :
    Meets Try.prog 10 [.agg ⟨[.int .u64 k_1.Saga, .int .i64 k_1.Step, .bool k_1.Back]⟩, .slice A_3 tokens_2.length c_4, .bool done_5] 0 [] [] [Rd 0 kT_api_Token A_3 c_4 tokens_2] (tontinelaw18_LedgerDead.f n k_1 tokens_2 done_5) (tontinelaw18_LedgerDead.R A_3 c_4) := by
  refine Meets.of (c := c10_0) (n := 126) Try.func10 (by kernel_rfl) (by kernel_rfl) (by kernel_rfl) fun w0 S0 => ?_
  unfold tontinelaw18_LedgerDead.f
  show GoO (tontinelaw18_LedgerDead.cx A_3 c_4 w0 S0) [(0, .agg ⟨[.int .u64 k_1.Saga, .int .i64 k_1.Step, .bool k_1.Back]⟩), (1, .slice A_3 tokens_2.length c_4), (2, .bool done_5)] [] [Rd 0 kT_api_Token A_3 c_4 tokens_2] [.code c10_0] _
  refine GoO.seq' c10_0e ?_
  refine GoO.region' (is := [0, 1]) c10_1e (by kernel_rfl) ?_
  refine OpTo.go (GoO.new rfl 40 (cs := [.int .u64 k_1.Saga, .int .i64 k_1.Step, .bool k_1.Back]) (by kernel_rfl) _ (fun _ => rfl) (fun b_6 => ?_))
  refine GoO.exec (is := [1]) (hs := [.p]) (rest := []) (ks := [1, 2, 3]) (env' := [(1, .slice A_3 tokens_2.length c_4), (2, .bool done_5), (3, .pointer (some ⟨b_6, 0, none⟩))]) (H' := [⟨40, b_6, [.int .u64 k_1.Saga, .int .i64 k_1.Step, .bool k_1.Back]⟩]) (ps := []) (by kernel_rfl) trivial ?_
  refine GoO.regionEnd ?_
  refine GoO.seq' c10_2e ?_
  refine GoO.draw c10_3e (by kernel_rfl) [5] [⟨40, b_6, [.int .u64 k_1.Saga, .int .i64 k_1.Step, .bool k_1.Back]⟩] [] (n := 6) (by kernel_rfl) ?_
  simp only [List.replicate]
  refine GoF.take [0, 1, 2, 3, 4] [.p, .b 0, .p, .b 0, .p] (ks := [1, 2, 7, 23]) (fu := 1) (li := [true, true, true, true, true, false]) (env' := [(1, .slice A_3 tokens_2.length c_4), (2, .bool done_5), (7, .int .u64 k_1.Saga), (23, .int .i64 k_1.Step)]) (ps := [b_6 = b_6, b_6 = b_6]) (hk := [0]) (bk := []) (by kernel_rfl) (And.intro rfl (And.intro rfl trivial)) rfl rfl ?_
  refine GoF.fin1 (i := 5) (hint := .p) (ps := []) (hk := []) (bk := []) (by kernel_rfl) rfl trivial (.inl rfl) ?_
  refine GoF.done (by kernel_rfl) ?_
  refine GoO.seq' c10_4e ?_
  refine GoO.seq' c10_5e ?_
  refine GoO.region' (is := [0, 1]) c10_6e (by kernel_rfl) ?_
  refine OpTo.go (GoO.call rfl (by kernel_rfl) (by kernel_rfl) (tontinelaw18_begun_ok n) [[0]] [] [] [] (hks := [0]) (bks := [0]) (by kernel_rfl) (by kernel_rfl) (by kernel_rfl) (.inl rfl) rfl rfl (by kernel_rfl) (by kernel_rfl) _ (fun _ _ => rfl) _ _ (fun _ _ => rfl) (fun _ _ => rfl) (fun _ _ => by kernel_rfl) (fun _ _ => by kernel_rfl) (fun r_7 x_103 => ?_))
  refine GoO.shape (env' := [(1, .slice A_3 tokens_2.length c_4), (2, .bool done_5), (7, .int .u64 k_1.Saga), (8, .int .i64 k_1.Step), (23, .int .i64 k_1.Step), (24, .bool r_7)]) (H' := [⟨40, b_6, [.int .u64 k_1.Saga, .int .i64 k_1.Step, .bool k_1.Back]⟩]) (B' := [Rd 0 kT_api_Token A_3 c_4 tokens_2]) (ks := [1, 2, 7, 8, 23, 24]) (by kernel_rfl) (by kernel_rfl) (by kernel_rfl) ?_
  refine GoO.exec (is := [1]) (hs := [.p]) (rest := []) (ks := [1, 2, 7, 8, 25]) (env' := [(1, .slice A_3 tokens_2.length c_4), (2, .bool done_5), (7, .int .u64 k_1.Saga), (8, .int .i64 k_1.Step), (25, .bool (!r_7))]) (H' := [⟨40, b_6, [.int .u64 k_1.Saga, .int .i64 k_1.Step, .bool k_1.Back]⟩]) (ps := []) (by kernel_rfl) trivial ?_
  refine GoO.regionEnd ?_
  refine GoO.ite' c10_7e (by kernel_rfl) (fun h8 => ?_) (fun h8 => ?_)
  · refine GoO.seq' c10_8e ?_
    refine GoO.region' (is := [0]) c10_9e (by kernel_rfl) ?_
    refine GoO.exec (is := [0]) (hs := [.p]) (rest := []) (ks := [6]) (env' := [(6, .bool false)]) (H' := [⟨40, b_6, [.int .u64 k_1.Saga, .int .i64 k_1.Step, .bool k_1.Back]⟩]) (ps := []) (by kernel_rfl) trivial ?_
    refine GoO.regionEnd ?_
    exact GoO.ret' (h := c10_10e) (hs := []) (ps := []) (hk := []) (bk := []) Try.func10 () (by kernel_rfl) trivial (by kernel_rfl) (by kernel_rfl)
  · refine GoO.skip' c10_11e ?_
    refine GoO.seq' c10_12e ?_
    refine GoO.region' (is := [0, 1, 2, 3, 4]) c10_13e (by kernel_rfl) ?_
    refine GoO.exec (is := [0, 1, 2, 3, 4]) (hs := [.p, .p, .p, .p, .p]) (rest := []) (ks := [1, 2, 7, 8]) (env' := [(1, .slice A_3 tokens_2.length c_4), (2, .bool done_5), (7, .int .u64 k_1.Saga), (8, .int .i64 ((wi64 ((k_1.Step.tmod 64) + 64)).tmod 64))]) (H' := [⟨40, b_6, [.int .u64 k_1.Saga, .int .i64 k_1.Step, .bool k_1.Back]⟩]) (ps := [(64 : Int) ≠ 0, (64 : Int) ≠ 0]) (by kernel_rfl) (And.intro (by decide) (And.intro (by decide) trivial)) ?_
    refine GoO.regionEnd ?_
    refine GoO.seq' c10_14e ?_
    refine GoO.region' (is := [0, 1]) c10_15e (by kernel_rfl) ?_
    refine OpTo.go (GoO.call rfl (by kernel_rfl) (by kernel_rfl) (ledger_New_ok n) [[0]] [(41, 1), (42, 2), (43, 3), (44, 4)] [] [] (hks := [0]) (bks := [0]) (by kernel_rfl) (by kernel_rfl) (by kernel_rfl) (.inl rfl) rfl rfl (by kernel_rfl) (by kernel_rfl) _ (fun _ _ => rfl) _ _ (fun _ _ => rfl) (fun _ _ => rfl) (fun _ _ => by kernel_rfl) (fun _ _ => by kernel_rfl) (fun r_9 x_102 => ?_))
    obtain ⟨b_10, A_11, c_12, A_13, c_14, A_15, c_16⟩ := x_102
    refine GoO.shape (env' := [(1, .slice A_3 tokens_2.length c_4), (2, .bool done_5), (7, .int .u64 k_1.Saga), (8, .int .i64 ((wi64 ((k_1.Step.tmod 64) + 64)).tmod 64)), (30, .pointer (some ⟨b_10, 0, none⟩))]) (H' := [⟨41, b_10, [.int .u64 r_9.fence.Term, .int .u64 r_9.fence.Index, .slice A_11 r_9.effects.length c_12, .map (mA A_13), .map (mA A_15)]⟩, ⟨40, b_6, [.int .u64 k_1.Saga, .int .i64 k_1.Step, .bool k_1.Back]⟩]) (B' := [Ow 42 kT_ledger_Effect A_11 c_12 r_9.effects, Mp 43 ky41 (fun v => .bool v) A_13 c_14 r_9.said, Mp 44 ky41 (fun v => .bool v) A_15 c_16 r_9.tombs, Rd 0 kT_api_Token A_3 c_4 tokens_2]) (ks := [1, 2, 7, 8, 30]) (by kernel_rfl) (by kernel_rfl) (by kernel_rfl) ?_
    refine GoO.exec (is := [1]) (hs := [.p]) (rest := []) (ks := [1, 2, 7, 8, 9]) (env' := [(1, .slice A_3 tokens_2.length c_4), (2, .bool done_5), (7, .int .u64 k_1.Saga), (8, .int .i64 ((wi64 ((k_1.Step.tmod 64) + 64)).tmod 64)), (9, .pointer (some ⟨b_10, 0, none⟩))]) (H' := [⟨41, b_10, [.int .u64 r_9.fence.Term, .int .u64 r_9.fence.Index, .slice A_11 r_9.effects.length c_12, .map (mA A_13), .map (mA A_15)]⟩, ⟨40, b_6, [.int .u64 k_1.Saga, .int .i64 k_1.Step, .bool k_1.Back]⟩]) (ps := []) (by kernel_rfl) trivial ?_
    refine GoO.regionEnd ?_
    refine GoO.seq' c10_16e ?_
    refine GoO.region' (is := [0, 1, 2, 3, 4, 5, 6, 7, 8, 9]) c10_17e (by kernel_rfl) ?_
    refine GoO.exec (is := [0, 1, 2, 3, 4, 5]) (hs := [.p, .p, .p, .p, .p, .p]) (rest := [6, 7, 8, 9]) (ks := [1, 2, 7, 8, 9, 33, 36]) (env' := [(1, .slice A_3 tokens_2.length c_4), (2, .bool done_5), (7, .int .u64 k_1.Saga), (8, .int .i64 ((wi64 ((k_1.Step.tmod 64) + 64)).tmod 64)), (9, .pointer (some ⟨b_10, 0, none⟩)), (33, .agg ⟨[.int .u64 k_1.Saga, .int .i64 ((wi64 ((k_1.Step.tmod 64) + 64)).tmod 64), .bool false]⟩), (36, .agg ⟨[.int .u64 k_1.Saga, .int .i64 ((wi64 ((k_1.Step.tmod 64) + 64)).tmod 64), .bool true]⟩)]) (H' := [⟨41, b_10, [.int .u64 r_9.fence.Term, .int .u64 r_9.fence.Index, .slice A_11 r_9.effects.length c_12, .map (mA A_13), .map (mA A_15)]⟩, ⟨40, b_6, [.int .u64 k_1.Saga, .int .i64 k_1.Step, .bool k_1.Back]⟩]) (ps := []) (by kernel_rfl) trivial ?_
    refine OpTo.go (GoO.new rfl 45 (cs := [.int .u64 0, .int .i64 0, .bool false]) (by kernel_rfl) _ (fun _ => rfl) (fun b_17 => ?_))
    refine OpTo.go (GoO.new rfl 46 (cs := [.int .u64 0, .int .i64 0, .bool false]) (by kernel_rfl) _ (fun _ => rfl) (fun b_18 => ?_))
    refine GoO.exec (is := [8, 9]) (hs := [.b 1, .b 0]) (rest := []) (ks := [1, 2, 7, 8, 9, 10, 11]) (env' := [(1, .slice A_3 tokens_2.length c_4), (2, .bool done_5), (7, .int .u64 k_1.Saga), (8, .int .i64 ((wi64 ((k_1.Step.tmod 64) + 64)).tmod 64)), (9, .pointer (some ⟨b_10, 0, none⟩)), (10, .pointer (some ⟨b_17, 0, none⟩)), (11, .pointer (some ⟨b_18, 0, none⟩))]) (H' := [⟨46, b_18, [.int .u64 k_1.Saga, .int .i64 ((wi64 ((k_1.Step.tmod 64) + 64)).tmod 64), .bool true]⟩, ⟨45, b_17, [.int .u64 k_1.Saga, .int .i64 ((wi64 ((k_1.Step.tmod 64) + 64)).tmod 64), .bool false]⟩, ⟨41, b_10, [.int .u64 r_9.fence.Term, .int .u64 r_9.fence.Index, .slice A_11 r_9.effects.length c_12, .map (mA A_13), .map (mA A_15)]⟩, ⟨40, b_6, [.int .u64 k_1.Saga, .int .i64 k_1.Step, .bool k_1.Back]⟩]) (ps := [b_17 = b_17, b_18 = b_18]) (by kernel_rfl) (And.intro rfl (And.intro rfl trivial)) ?_
    refine GoO.regionEnd ?_
    refine GoO.seq' c10_18e ?_
    refine GoO.seq' c10_19e ?_
    refine GoO.region' (is := [0]) c10_20e (by kernel_rfl) ?_
    refine GoO.exec (is := [0]) (hs := [.p]) (rest := []) (ks := [1, 2, 7, 8, 9, 10, 11, 37]) (env' := [(1, .slice A_3 tokens_2.length c_4), (2, .bool done_5), (7, .int .u64 k_1.Saga), (8, .int .i64 ((wi64 ((k_1.Step.tmod 64) + 64)).tmod 64)), (9, .pointer (some ⟨b_10, 0, none⟩)), (10, .pointer (some ⟨b_17, 0, none⟩)), (11, .pointer (some ⟨b_18, 0, none⟩)), (37, .bool done_5)]) (H' := [⟨46, b_18, [.int .u64 k_1.Saga, .int .i64 ((wi64 ((k_1.Step.tmod 64) + 64)).tmod 64), .bool true]⟩, ⟨45, b_17, [.int .u64 k_1.Saga, .int .i64 ((wi64 ((k_1.Step.tmod 64) + 64)).tmod 64), .bool false]⟩, ⟨41, b_10, [.int .u64 r_9.fence.Term, .int .u64 r_9.fence.Index, .slice A_11 r_9.effects.length c_12, .map (mA A_13), .map (mA A_15)]⟩, ⟨40, b_6, [.int .u64 k_1.Saga, .int .i64 k_1.Step, .bool k_1.Back]⟩]) (ps := []) (by kernel_rfl) trivial ?_
    refine GoO.regionEnd ?_
    refine GoO.ite' c10_21e (by kernel_rfl) (fun h19 => ?_) (fun h19 => ?_)
    · refine GoO.region' (is := [0, 1, 2, 3]) c10_22e (by kernel_rfl) ?_
      refine GoO.exec (is := [0, 1, 2]) (hs := [.p, .p, .b 1]) (rest := [3]) (ks := [1, 2, 7, 8, 9, 10, 11, 38, 39, 40]) (env' := [(1, .slice A_3 tokens_2.length c_4), (2, .bool done_5), (7, .int .u64 k_1.Saga), (8, .int .i64 ((wi64 ((k_1.Step.tmod 64) + 64)).tmod 64)), (9, .pointer (some ⟨b_10, 0, none⟩)), (10, .pointer (some ⟨b_17, 0, none⟩)), (11, .pointer (some ⟨b_18, 0, none⟩)), (38, .pointer (some ⟨b_10, 0, none⟩)), (39, .agg ⟨[.int .u64 0, .int .u64 0]⟩), (40, .agg ⟨[.int .u64 k_1.Saga, .int .i64 ((wi64 ((k_1.Step.tmod 64) + 64)).tmod 64), .bool false]⟩)]) (H' := [⟨46, b_18, [.int .u64 k_1.Saga, .int .i64 ((wi64 ((k_1.Step.tmod 64) + 64)).tmod 64), .bool true]⟩, ⟨45, b_17, [.int .u64 k_1.Saga, .int .i64 ((wi64 ((k_1.Step.tmod 64) + 64)).tmod 64), .bool false]⟩, ⟨41, b_10, [.int .u64 r_9.fence.Term, .int .u64 r_9.fence.Index, .slice A_11 r_9.effects.length c_12, .map (mA A_13), .map (mA A_15)]⟩, ⟨40, b_6, [.int .u64 k_1.Saga, .int .i64 k_1.Step, .bool k_1.Back]⟩]) (ps := [b_17 = b_17]) (by kernel_rfl) (And.intro rfl trivial) ?_
      refine OpTo.go (GoO.call rfl (by kernel_rfl) (by kernel_rfl) (ledger_Ledger_Ask_ok n (⟨(⟨r_9.fence.Term, r_9.fence.Index⟩ : T_api_Token), r_9.effects, r_9.said, r_9.tombs⟩ : T_ledger_Ledger) (⟨0, 0⟩ : T_api_Token) (⟨k_1.Saga, (wi64 ((k_1.Step.tmod 64) + 64)).tmod 64, false⟩ : T_api_Key) [110] false b_10 A_11 c_12 A_13 c_14 A_15 c_16) [[0], [41], [42], [43], [44]] [(41, 1), (42, 2), (43, 3), (44, 4)] [(1, 2)] [(2, 0), (3, 1), (4, 2)] (hks := [0, 1, 3]) (bks := [3]) (by kernel_rfl) (by kernel_rfl) (by kernel_rfl) (.inl rfl) rfl rfl (by kernel_rfl) (by kernel_rfl) _ (fun _ _ => rfl) _ _ (fun _ _ => rfl) (fun _ _ => rfl) (fun _ _ => by kernel_rfl) (fun _ _ => by kernel_rfl) (fun r_20 x_27 => ?_))
      obtain ⟨A_21, c_22, A_23, c_24, A_25, c_26⟩ := x_27
      refine GoO.shape (env' := [(1, .slice A_3 tokens_2.length c_4), (2, .bool done_5), (7, .int .u64 k_1.Saga), (8, .int .i64 ((wi64 ((k_1.Step.tmod 64) + 64)).tmod 64)), (9, .pointer (some ⟨b_10, 0, none⟩)), (10, .pointer (some ⟨b_17, 0, none⟩)), (11, .pointer (some ⟨b_18, 0, none⟩)), (38, .pointer (some ⟨b_10, 0, none⟩)), (39, .agg ⟨[.int .u64 0, .int .u64 0]⟩), (40, .agg ⟨[.int .u64 k_1.Saga, .int .i64 ((wi64 ((k_1.Step.tmod 64) + 64)).tmod 64), .bool false]⟩), (41, .tuple ⟨[.bool r_20.1, .int .i64 r_20.2.1]⟩)]) (H' := [⟨41, b_10, [.int .u64 r_20.2.2.fence.Term, .int .u64 r_20.2.2.fence.Index, .slice A_21 r_20.2.2.effects.length c_22, .map (mA A_23), .map (mA A_25)]⟩, ⟨46, b_18, [.int .u64 k_1.Saga, .int .i64 ((wi64 ((k_1.Step.tmod 64) + 64)).tmod 64), .bool true]⟩, ⟨45, b_17, [.int .u64 k_1.Saga, .int .i64 ((wi64 ((k_1.Step.tmod 64) + 64)).tmod 64), .bool false]⟩, ⟨40, b_6, [.int .u64 k_1.Saga, .int .i64 k_1.Step, .bool k_1.Back]⟩]) (B' := [Ow 42 kT_ledger_Effect A_21 c_22 r_20.2.2.effects, Mp 43 ky41 (fun v => .bool v) A_23 c_24 r_20.2.2.said, Mp 44 ky41 (fun v => .bool v) A_25 c_26 r_20.2.2.tombs, Rd 0 kT_api_Token A_3 c_4 tokens_2]) (ks := [1, 2, 7, 8, 9, 10, 11, 38, 39, 40, 41]) (by kernel_rfl) (by kernel_rfl) (by kernel_rfl) ?_
      refine GoO.regionEnd ?_
      exact GoO.sub (ks := [1, 2, 7, 8, 9, 10, 11]) (hk := [0, 2, 1]) (bk := [3, 0, 1, 2]) (by kernel_rfl) (by kernel_rfl) (by kernel_rfl) (tontinelaw18_LedgerDead_j0_ok n k_1 tokens_2 done_5 A_3 c_4 b_10 b_17 b_18 w0 S0 r_20.2.2.fence.Term r_20.2.2.fence.Index r_20.2.2.effects r_20.2.2.said r_20.2.2.tombs A_21 c_22 A_23 c_24 A_25 c_26)
    · refine GoO.skip' c10_23e ?_
      exact GoO.sub (ks := [1, 2, 7, 8, 9, 10, 11]) (hk := [2, 1, 0]) (bk := [3, 0, 1, 2]) (by kernel_rfl) (by kernel_rfl) (by kernel_rfl) (tontinelaw18_LedgerDead_j0_ok n k_1 tokens_2 done_5 A_3 c_4 b_10 b_17 b_18 w0 S0 r_9.fence.Term r_9.fence.Index r_9.effects r_9.said r_9.tombs A_11 c_12 A_13 c_14 A_15 c_16)
end Go.GL
