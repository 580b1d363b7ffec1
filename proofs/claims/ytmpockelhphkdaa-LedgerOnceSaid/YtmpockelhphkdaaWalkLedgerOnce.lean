import Derived.Test.YtmpockelhphkdaaKindsT2
import Derived.Test.YtmpockelhphkdaaProg
set_option linter.unusedVariables false
set_option linter.unusedSimpArgs false
set_option maxRecDepth 100000
namespace Go.GL
open Go Go.Proofs

theorem ky52_dec (a b : T_api_Key) : decide (a = b) = ((a.Saga == b.Saga) && ((a.Step == b.Step) && ((a.Back == b.Back) && true))) := by cases a; cases b; rw [Bool.eq_iff_iff]; simp

noncomputable def ky52 : Ky Try.prog 45 T_api_Key where
  enc := fun k => .agg ⟨[.int .u64 k.Saga, .int .i64 k.Step, .bool k.Back]⟩
  eq := fun a b w => by
    have h : eqV Try.prog 2 45 (.agg ⟨[.int .u64 a.Saga, .int .i64 a.Step, .bool a.Back]⟩) (.agg ⟨[.int .u64 b.Saga, .int .i64 b.Step, .bool b.Back]⟩) = some ((a.Saga == b.Saga) && ((a.Step == b.Step) && ((a.Back == b.Back) && true))) := by kernel_rfl
    rw [ky52_dec a b]; exact eqV_ok 9998 2 45 _ _ _ h w
  chk := fun a e w => by kernel_rfl
  td := (Try.prog.underlying 45).getD default
  und := by kernel_rfl
  now := fun a b => .inl (by kernel_rfl)
  same := fun a => by simp [Instr.sameBits]

theorem ky41_dec (a b : T_api_Key) : decide (a = b) = ((a.Saga == b.Saga) && ((a.Step == b.Step) && ((a.Back == b.Back) && true))) := by cases a; cases b; rw [Bool.eq_iff_iff]; simp

noncomputable def ky41 : Ky Try.prog 45 T_api_Key where
  enc := fun k => .agg ⟨[.int .u64 k.Saga, .int .i64 k.Step, .bool k.Back]⟩
  eq := fun a b w => by
    have h : eqV Try.prog 2 45 (.agg ⟨[.int .u64 a.Saga, .int .i64 a.Step, .bool a.Back]⟩) (.agg ⟨[.int .u64 b.Saga, .int .i64 b.Step, .bool b.Back]⟩) = some ((a.Saga == b.Saga) && ((a.Step == b.Step) && ((a.Back == b.Back) && true))) := by kernel_rfl
    rw [ky41_dec a b]; exact eqV_ok 9998 2 45 _ _ _ h w
  chk := fun a e w => by kernel_rfl
  td := (Try.prog.underlying 45).getD default
  und := by kernel_rfl
  now := fun a b => .inl (by kernel_rfl)
  same := fun a => by simp [Instr.sameBits]

/-! tontine/ledger.New -/
noncomputable def c22_0 : Code := bodyOf Try.f22
noncomputable def c22_1 : Code := cdL c22_0
noncomputable def c22_2 : Code := cdR c22_0
noncomputable def c22_3 : Code := cdL c22_2
noncomputable def c22_4 : Code := cdR c22_2
noncomputable def r22_1 : Array Oper := cdO c22_1
noncomputable def r22_3 : Array Oper := cdO c22_3
theorem c22_0e : c22_0 = .seq c22_1 c22_2 := by kernel_rfl
theorem c22_1e : c22_1 = .region 0 r22_1 false := by kernel_rfl
theorem c22_2e : c22_2 = .seq c22_3 c22_4 := by kernel_rfl
theorem c22_3e : c22_3 = .region 1 r22_3 false := by kernel_rfl
theorem c22_4e : c22_4 = .ret := by kernel_rfl
noncomputable def ledger_New.R : Pst T_ledger_Ledger where
  ε := Nat × Option Addr × Nat × Option Addr × Nat × Option Addr × Nat
  v := fun r x => .pointer (some ⟨x.1, 0, none⟩)
  H := fun r x => [⟨1, x.1, [.int .u64 r.fence.Term, .int .u64 r.fence.Index, .slice x.2.1 r.effects.length x.2.2.1, .map (mA x.2.2.2.1), .map (mA x.2.2.2.2.2.1)]⟩]
  B := fun r x => [Ow 2 kT_ledger_Effect x.2.1 x.2.2.1 r.effects, Mp 3 ky41 (fun v => .bool v) x.2.2.2.1 x.2.2.2.2.1 r.said, Mp 4 ky41 (fun v => .bool v) x.2.2.2.2.2.1 x.2.2.2.2.2.2 r.tombs]
noncomputable def ledger_New.cx (w0 : World) (S0 : Fam) : Cx T_ledger_Ledger := ⟨Try.prog, 22, Try.f22, 5, w0, S0, [], 0, ledger_New.R⟩
theorem ledger_New_ok (n : Nat) :
    Meets Try.prog 22 [] 0 [] [] [] (ledger_New.f n) (ledger_New.R) := by
  refine Meets.of (c := c22_0) (n := 5) Try.func22 (by kernel_rfl) (by kernel_rfl) (by kernel_rfl) fun w0 S0 => ?_
  unfold ledger_New.f
  show GoO (ledger_New.cx w0 S0) [] [] [] [.code c22_0] _
  refine GoO.seq' c22_0e ?_
  refine GoO.region' (is := [0]) c22_1e (by kernel_rfl) ?_
  refine GoO.exec (is := [0]) (hs := [.p]) (rest := []) (ks := []) (env' := []) (H' := []) (ps := []) (by kernel_rfl) trivial ?_
  refine GoO.regionEnd ?_
  refine GoO.seq' c22_2e ?_
  refine GoO.region' (is := [0, 1, 2, 3, 4]) c22_3e (by kernel_rfl) ?_
  refine OpTo.go (GoO.mkMap rfl 40 ky41 (fun v => .bool v) _ (fun _ _ => rfl) (fun A_1 c_2 => ?_))
  refine OpTo.go (GoO.mkMap rfl 41 ky41 (fun v => .bool v) _ (fun _ _ => rfl) (fun A_3 c_4 => ?_))
  refine GoO.exec (is := [2]) (hs := [.p]) (rest := [3, 4]) (ks := [3]) (env' := [(3, .agg ⟨[.int .u64 0, .int .u64 0, .slice none ([] : List T_ledger_Effect).length 0, .map (mA A_1), .map (mA A_3)]⟩)]) (H' := []) (ps := []) (by kernel_rfl) trivial ?_
  refine OpTo.go (GoO.new rfl 42 (cs := [.int .u64 0, .int .u64 0, .slice none ([] : List T_ledger_Effect).length 0, .map (mA A_1), .map (mA A_3)]) (by kernel_rfl) _ (fun _ => rfl) (fun b_5 => ?_))
  refine GoO.exec (is := [4]) (hs := [.p]) (rest := []) (ks := [0]) (env' := [(0, .pointer (some ⟨b_5, 0, none⟩))]) (H' := [⟨42, b_5, [.int .u64 0, .int .u64 0, .slice none ([] : List T_ledger_Effect).length 0, .map (mA A_1), .map (mA A_3)]⟩]) (ps := []) (by kernel_rfl) trivial ?_
  refine GoO.regionEnd ?_
  refine GoO.nilOwn kT_ledger_Effect 2 ?_
  refine GoO.retag (t := 40) (u := 3) (j := 2) (hk := [0]) (bk := [0, 1]) rfl rfl rfl rfl rfl rfl (by kernel_rfl) (by kernel_rfl) ?_
  refine GoO.retag (t := 41) (u := 4) (j := 2) (hk := [0]) (bk := [0, 1]) rfl rfl rfl rfl rfl rfl (by kernel_rfl) (by kernel_rfl) ?_
  refine GoO.retagB (t := 42) (u := 1) (j := 0) (hk := []) (bk := [0, 1, 2]) rfl rfl rfl rfl rfl rfl (by kernel_rfl) (by kernel_rfl) ?_
  exact GoO.ret' (h := c22_4e) (hs := []) (ps := []) (hk := [0]) (bk := [2, 1, 0]) Try.func22 (⟨b_5, none, 0, A_1, c_2, A_3, c_4⟩ : Nat × Option Addr × Nat × Option Addr × Nat × Option Addr × Nat) (by kernel_rfl) trivial (by kernel_rfl) (by kernel_rfl)

/-! tontine/ledger.Less -/
noncomputable def c26_0 : Code := bodyOf Try.f26
noncomputable def c26_1 : Code := cdL c26_0
noncomputable def c26_2 : Code := cdR c26_0
noncomputable def c26_3 : Code := cdL c26_2
noncomputable def c26_4 : Code := cdR c26_2
noncomputable def r26_1 : Array Oper := cdO c26_1
noncomputable def r26_3 : Array Oper := cdO c26_3
theorem c26_0e : c26_0 = .seq c26_1 c26_2 := by kernel_rfl
theorem c26_1e : c26_1 = .region 0 r26_1 false := by kernel_rfl
theorem c26_2e : c26_2 = .seq c26_3 c26_4 := by kernel_rfl
theorem c26_3e : c26_3 = .region 1 r26_3 false := by kernel_rfl
theorem c26_4e : c26_4 = .ret := by kernel_rfl
noncomputable def ledger_Less.R : Pst Bool where
  ε := Unit
  v := fun r x => .bool r
  H := fun r x => []
  B := fun r x => []
noncomputable def ledger_Less.cx (w0 : World) (S0 : Fam) : Cx Bool := ⟨Try.prog, 26, Try.f26, 24, w0, S0, [], 0, ledger_Less.R⟩
theorem ledger_Less_ok (n : Nat) (a_1 : T_api_Token) (b_2 : T_api_Token) :
    Meets Try.prog 26 [.agg ⟨[.int .u64 a_1.Term, .int .u64 a_1.Index]⟩, .agg ⟨[.int .u64 b_2.Term, .int .u64 b_2.Index]⟩] 0 [] [] [] (ledger_Less.f n a_1 b_2) (ledger_Less.R) := by
  refine Meets.of (c := c26_0) (n := 24) Try.func26 (by kernel_rfl) (by kernel_rfl) (by kernel_rfl) fun w0 S0 => ?_
  unfold ledger_Less.f
  show GoO (ledger_Less.cx w0 S0) [(0, .agg ⟨[.int .u64 a_1.Term, .int .u64 a_1.Index]⟩), (1, .agg ⟨[.int .u64 b_2.Term, .int .u64 b_2.Index]⟩)] [] [] [.code c26_0] _
  refine GoO.seq' c26_0e ?_
  refine GoO.region' (is := [0, 1, 2]) c26_1e (by kernel_rfl) ?_
  refine OpTo.go (GoO.new rfl 40 (cs := [.int .u64 a_1.Term, .int .u64 a_1.Index]) (by kernel_rfl) _ (fun _ => rfl) (fun b_3 => ?_))
  refine OpTo.go (GoO.new rfl 41 (cs := [.int .u64 b_2.Term, .int .u64 b_2.Index]) (by kernel_rfl) _ (fun _ => rfl) (fun b_4 => ?_))
  refine GoO.exec (is := [2]) (hs := [.p]) (rest := []) (ks := [2, 3]) (env' := [(2, .pointer (some ⟨b_3, 0, none⟩)), (3, .pointer (some ⟨b_4, 0, none⟩))]) (H' := [⟨41, b_4, [.int .u64 b_2.Term, .int .u64 b_2.Index]⟩, ⟨40, b_3, [.int .u64 a_1.Term, .int .u64 a_1.Index]⟩]) (ps := []) (by kernel_rfl) trivial ?_
  refine GoO.regionEnd ?_
  refine GoO.seq' c26_2e ?_
  refine GoO.region' (is := [0, 1, 2, 3, 4, 5, 6, 7, 8, 9, 10, 11, 12, 13, 14, 15, 16, 17, 18, 19]) c26_3e (by kernel_rfl) ?_
  refine GoO.exec (is := [0, 1, 2, 3, 4, 5]) (hs := [.p, .b 1, .p, .b 0, .p, .p]) (rest := [6, 7, 8, 9, 10, 11, 12, 13, 14, 15, 16, 17, 18, 19]) (ks := [2, 3, 10]) (env' := [(2, .pointer (some ⟨b_3, 0, none⟩)), (3, .pointer (some ⟨b_4, 0, none⟩)), (10, .bool (decide (a_1.Term < b_2.Term)))]) (H' := [⟨41, b_4, [.int .u64 b_2.Term, .int .u64 b_2.Index]⟩, ⟨40, b_3, [.int .u64 a_1.Term, .int .u64 a_1.Index]⟩]) (ps := [b_3 = b_3, b_4 = b_4]) (by kernel_rfl) (And.intro rfl (And.intro rfl trivial)) ?_
  refine GoO.bsplit (t := 10) (by kernel_rfl) (fun h5 => ?_) (fun h5 => ?_)
  · refine GoO.exec (is := [6, 7, 8, 9, 10, 11, 12, 13, 14, 15, 16, 17, 18, 19]) (hs := [.p, .p, .p, .p, .p, .p, .p, .p, .p, .p, .p, .p, .p, .p]) (rest := []) (ks := [4]) (env' := [(4, .bool true)]) (H' := [⟨41, b_4, [.int .u64 b_2.Term, .int .u64 b_2.Index]⟩, ⟨40, b_3, [.int .u64 a_1.Term, .int .u64 a_1.Index]⟩]) (ps := []) (by kernel_rfl) trivial ?_
    refine GoO.regionEnd ?_
    exact GoO.ret' (h := c26_4e) (hs := []) (ps := []) (hk := []) (bk := []) Try.func26 () (by kernel_rfl) trivial (by kernel_rfl) (by kernel_rfl)
  · refine GoO.exec (is := [6, 7, 8, 9, 10, 11]) (hs := [.p, .b 1, .p, .b 0, .p, .p]) (rest := [12, 13, 14, 15, 16, 17, 18, 19]) (ks := [2, 3, 10, 16]) (env' := [(2, .pointer (some ⟨b_3, 0, none⟩)), (3, .pointer (some ⟨b_4, 0, none⟩)), (10, .bool false), (16, .bool (a_1.Term == b_2.Term))]) (H' := [⟨41, b_4, [.int .u64 b_2.Term, .int .u64 b_2.Index]⟩, ⟨40, b_3, [.int .u64 a_1.Term, .int .u64 a_1.Index]⟩]) (ps := [b_3 = b_3, b_4 = b_4]) (by kernel_rfl) (And.intro rfl (And.intro rfl trivial)) ?_
    refine GoO.bsplit (t := 16) (by kernel_rfl) (fun h6 => ?_) (fun h6 => ?_)
    · refine GoO.exec (is := [12, 13, 14, 15, 16, 17, 18, 19]) (hs := [.p, .b 1, .p, .b 0, .p, .p, .p, .p]) (rest := []) (ks := [4]) (env' := [(4, .bool (decide (a_1.Index < b_2.Index)))]) (H' := [⟨41, b_4, [.int .u64 b_2.Term, .int .u64 b_2.Index]⟩, ⟨40, b_3, [.int .u64 a_1.Term, .int .u64 a_1.Index]⟩]) (ps := [b_3 = b_3, b_4 = b_4]) (by kernel_rfl) (And.intro rfl (And.intro rfl trivial)) ?_
      refine GoO.regionEnd ?_
      exact GoO.ret' (h := c26_4e) (hs := []) (ps := []) (hk := []) (bk := []) Try.func26 () (by kernel_rfl) trivial (by kernel_rfl) (by kernel_rfl)
    · refine GoO.exec (is := [12, 13, 14, 15, 16, 17, 18, 19]) (hs := [.p, .p, .p, .p, .p, .p, .p, .p]) (rest := []) (ks := [4]) (env' := [(4, .bool false)]) (H' := [⟨41, b_4, [.int .u64 b_2.Term, .int .u64 b_2.Index]⟩, ⟨40, b_3, [.int .u64 a_1.Term, .int .u64 a_1.Index]⟩]) (ps := []) (by kernel_rfl) trivial ?_
      refine GoO.regionEnd ?_
      exact GoO.ret' (h := c26_4e) (hs := []) (ps := []) (hk := []) (bk := []) Try.func26 () (by kernel_rfl) trivial (by kernel_rfl) (by kernel_rfl)

/-! (*tontine/ledger.Ledger).undo -/
noncomputable def c41_0 : Code := bodyOf Try.f41
noncomputable def c41_1 : Code := cdL c41_0
noncomputable def c41_2 : Code := cdR c41_0
noncomputable def c41_3 : Code := cdL c41_2
noncomputable def c41_4 : Code := cdL c41_3
noncomputable def c41_5 : Code := cdR c41_3
noncomputable def c41_6 : Code := cdL c41_5
noncomputable def c41_7 : Code := cdL c41_6
noncomputable def c41_8 : Code := cdR c41_6
noncomputable def c41_9 : Code := cdR c41_5
noncomputable def c41_10 : Code := cdR c41_2
noncomputable def c41_11 : Code := cdL c41_10
noncomputable def c41_12 : Code := cdR c41_10
noncomputable def c41_13 : Code := cdL c41_12
noncomputable def c41_14 : Code := cdR c41_12
noncomputable def c41_15 : Code := cdL c41_14
noncomputable def c41_16 : Code := cdL c41_15
noncomputable def c41_17 : Code := cdR c41_15
noncomputable def c41_18 : Code := cdL c41_17
noncomputable def c41_19 : Code := cdR c41_17
noncomputable def c41_20 : Code := cdR c41_14
noncomputable def c41_21 : Code := cdL c41_20
noncomputable def c41_22 : Code := cdR c41_20
noncomputable def c41_23 : Code := cdL c41_22
noncomputable def c41_24 : Code := cdR c41_22
noncomputable def r41_1 : Array Oper := cdO c41_1
noncomputable def r41_4 : Array Oper := cdO c41_4
noncomputable def r41_7 : Array Oper := cdO c41_7
noncomputable def r41_11 : Array Oper := cdO c41_11
noncomputable def r41_13 : Array Oper := cdO c41_13
noncomputable def r41_16 : Array Oper := cdO c41_16
noncomputable def r41_18 : Array Oper := cdO c41_18
noncomputable def r41_19 : Array Oper := cdO c41_19
noncomputable def r41_21 : Array Oper := cdO c41_21
noncomputable def r41_23 : Array Oper := cdO c41_23
theorem c41_0e : c41_0 = .seq c41_1 c41_2 := by kernel_rfl
theorem c41_1e : c41_1 = .region 0 r41_1 false := by kernel_rfl
theorem c41_2e : c41_2 = .seq c41_3 c41_10 := by kernel_rfl
theorem c41_3e : c41_3 = .seq c41_4 c41_5 := by kernel_rfl
theorem c41_4e : c41_4 = .region 1 r41_4 false := by kernel_rfl
theorem c41_5e : c41_5 = .cond (cdC c41_5) c41_6 c41_9 := by kernel_rfl
theorem c41_6e : c41_6 = .seq c41_7 c41_8 := by kernel_rfl
theorem c41_7e : c41_7 = .region 2 r41_7 false := by kernel_rfl
theorem c41_8e : c41_8 = .ret := by kernel_rfl
theorem c41_9e : c41_9 = .skip := by kernel_rfl
theorem c41_10e : c41_10 = .seq c41_11 c41_12 := by kernel_rfl
theorem c41_11e : c41_11 = .region 3 r41_11 false := by kernel_rfl
theorem c41_12e : c41_12 = .seq c41_13 c41_14 := by kernel_rfl
theorem c41_13e : c41_13 = .region 4 r41_13 false := by kernel_rfl
theorem c41_14e : c41_14 = .seq c41_15 c41_20 := by kernel_rfl
theorem c41_15e : c41_15 = .seq c41_16 c41_17 := by kernel_rfl
theorem c41_16e : c41_16 = .region 5 r41_16 true := by kernel_rfl
theorem c41_17e : c41_17 = .cond (cdC c41_17) c41_18 c41_19 := by kernel_rfl
theorem c41_18e : c41_18 = .region 6 r41_18 true := by kernel_rfl
theorem c41_19e : c41_19 = .region 7 r41_19 true := by kernel_rfl
theorem c41_20e : c41_20 = .seq c41_21 c41_22 := by kernel_rfl
theorem c41_21e : c41_21 = .region 8 r41_21 true := by kernel_rfl
theorem c41_22e : c41_22 = .seq c41_23 c41_24 := by kernel_rfl
theorem c41_23e : c41_23 = .region 9 r41_23 false := by kernel_rfl
theorem c41_24e : c41_24 = .ret := by kernel_rfl
noncomputable def ledger_Ledger_undo.R (b_2 : Nat) (A_3 : Option Addr) (c_4 : Nat) (A_5 : Option Addr) (c_6 : Nat) (A_7 : Option Addr) (c_8 : Nat) : Pst (Bool × Int × T_ledger_Ledger) where
  ε := Option Addr × Nat × Option Addr × Nat × Option Addr × Nat
  v := fun r x => .tuple ⟨[.bool r.1, .int .i64 r.2.1]⟩
  H := fun r x => [⟨1, b_2, [.int .u64 r.2.2.fence.Term, .int .u64 r.2.2.fence.Index, .slice x.1 r.2.2.effects.length x.2.1, .map (mA x.2.2.1), .map (mA x.2.2.2.2.1)]⟩]
  B := fun r x => [Ow 2 kT_ledger_Effect x.1 x.2.1 r.2.2.effects, Mp 3 ky41 (fun v => .bool v) x.2.2.1 x.2.2.2.1 r.2.2.said, Mp 4 ky41 (fun v => .bool v) x.2.2.2.2.1 x.2.2.2.2.2 r.2.2.tombs]
noncomputable def ledger_Ledger_undo.cx (b_2 : Nat) (A_3 : Option Addr) (c_4 : Nat) (A_5 : Option Addr) (c_6 : Nat) (A_7 : Option Addr) (c_8 : Nat) (w0 : World) (S0 : Fam) : Cx (Bool × Int × T_ledger_Ledger) := ⟨Try.prog, 41, Try.f41, 42, w0, S0, [1, 2, 3, 4], 4, ledger_Ledger_undo.R b_2 A_3 c_4 A_5 c_6 A_7 c_8⟩
theorem ledger_Ledger_undo_j0_ok (n : Nat) (l_1 : T_ledger_Ledger) (k_9 : T_api_Key) (b_2 : Nat) (A_5 : Option Addr) (c_6 : Nat) (b_12 : Nat) (A_3 : Option Addr) (c_4 : Nat) (A_7 : Option Addr) (c_8 : Nat) (w0 : World) (S0 : Fam) (f_21 : (List T_ledger_Effect)) (f_24 : (List (T_api_Key × Bool))) (A_22 : Option Addr) (c_23 : Nat) (A_25 : Option Addr) (c_26 : Nat) :
    GoO (ledger_Ledger_undo.cx b_2 A_3 c_4 A_5 c_6 A_7 c_8 w0 S0) [(0, .pointer (some ⟨b_2, 0, none⟩)), (5, .pointer (some ⟨b_12, 0, none⟩))] [⟨1, b_2, [.int .u64 l_1.fence.Term, .int .u64 l_1.fence.Index, .slice A_22 f_21.length c_23, .map (mA A_5), .map (mA A_25)]⟩, ⟨40, b_12, [.int .u64 k_9.Saga, .int .i64 k_9.Step, .bool k_9.Back]⟩] [Ow 2 kT_ledger_Effect A_22 c_23 f_21, Mp 3 ky41 (fun v => .bool v) A_5 c_6 l_1.said, Mp 4 ky41 (fun v => .bool v) A_25 c_26 f_24] [.code c41_20] (ledger_Ledger_undo.j0 n l_1 k_9 f_21 f_24) := by
  unfold ledger_Ledger_undo.j0
  refine GoO.seq' c41_20e ?_
  refine GoO.draw c41_21e (by kernel_rfl) [5] [⟨1, b_2, [.int .u64 l_1.fence.Term, .int .u64 l_1.fence.Index, .slice A_22 f_21.length c_23, .map (mA A_5), .map (mA A_25)]⟩, ⟨40, b_12, [.int .u64 k_9.Saga, .int .i64 k_9.Step, .bool k_9.Back]⟩] [] (n := 6) (by kernel_rfl) ?_
  simp only [List.replicate]
  refine GoF.take [0, 1, 2, 3, 4] [.p, .p, .p, .b 0, .b 1] (ks := [40, 41]) (fu := 1) (li := [true, true, true, true, true, false]) (env' := [(40, .map (mA A_5)), (41, .agg ⟨[.int .u64 k_9.Saga, .int .i64 k_9.Step, .bool k_9.Back]⟩)]) (ps := [b_2 = b_2, b_12 = b_12]) (hk := [0, 1]) (bk := []) (by kernel_rfl) (And.intro rfl (And.intro rfl trivial)) rfl rfl ?_
  refine OpTo.goE (i := 5) (by kernel_rfl) rfl (GoO.mapUp (vt := 4) (K := ky41) (ev := (fun v => .bool v)) (A := A_5) (c := c_6) (tg := 3) (l := l_1.said) (key := k_9) (v := true) (j := 1) rfl (by kernel_rfl) (by kernel_rfl) (by kernel_rfl) (by kernel_rfl) rfl (by kernel_rfl) (by kernel_rfl) (by kernel_rfl) rfl ?_)
  refine GoF.done (by kernel_rfl) ?_
  refine GoO.seq' c41_22e ?_
  refine GoO.region' (is := [0, 1]) c41_23e (by kernel_rfl) ?_
  refine GoO.exec (is := [0, 1]) (hs := [.p, .p]) (rest := []) (ks := [8, 9]) (env' := [(8, .bool true), (9, .int .i64 0)]) (H' := [⟨1, b_2, [.int .u64 l_1.fence.Term, .int .u64 l_1.fence.Index, .slice A_22 f_21.length c_23, .map (mA A_5), .map (mA A_25)]⟩, ⟨40, b_12, [.int .u64 k_9.Saga, .int .i64 k_9.Step, .bool k_9.Back]⟩]) (ps := []) (by kernel_rfl) trivial ?_
  refine GoO.regionEnd ?_
  exact GoO.ret' (h := c41_24e) (hs := []) (ps := []) (hk := [0]) (bk := [0, 1, 2]) Try.func41 (⟨A_22, c_23, A_5, c_6, A_25, c_26⟩ : Option Addr × Nat × Option Addr × Nat × Option Addr × Nat) (by kernel_rfl) trivial (by kernel_rfl) (by kernel_rfl)
theorem ledger_Ledger_undo_ok (n : Nat) (l_1 : T_ledger_Ledger) (k_9 : T_api_Key) (name_10 : (List UInt8)) (fail_11 : Bool) (b_2 : Nat) (A_3 : Option Addr) (c_4 : Nat) (A_5 : Option Addr) (c_6 : Nat) (A_7 : Option Addr) (c_8 : Nat) :
    Meets Try.prog 41 [.pointer (some ⟨b_2, 0, none⟩), .agg ⟨[.int .u64 k_9.Saga, .int .i64 k_9.Step, .bool k_9.Back]⟩, .string (bs name_10), .bool fail_11] 4 [1, 2, 3, 4] [⟨1, b_2, [.int .u64 l_1.fence.Term, .int .u64 l_1.fence.Index, .slice A_3 l_1.effects.length c_4, .map (mA A_5), .map (mA A_7)]⟩] [Ow 2 kT_ledger_Effect A_3 c_4 l_1.effects, Mp 3 ky41 (fun v => .bool v) A_5 c_6 l_1.said, Mp 4 ky41 (fun v => .bool v) A_7 c_8 l_1.tombs] (ledger_Ledger_undo.f n l_1 k_9 name_10 fail_11) (ledger_Ledger_undo.R b_2 A_3 c_4 A_5 c_6 A_7 c_8) := by
  refine Meets.of (c := c41_0) (n := 42) Try.func41 (by kernel_rfl) (by kernel_rfl) (by kernel_rfl) fun w0 S0 => ?_
  unfold ledger_Ledger_undo.f
  show GoO (ledger_Ledger_undo.cx b_2 A_3 c_4 A_5 c_6 A_7 c_8 w0 S0) [(0, .pointer (some ⟨b_2, 0, none⟩)), (1, .agg ⟨[.int .u64 k_9.Saga, .int .i64 k_9.Step, .bool k_9.Back]⟩), (2, .string (bs name_10)), (3, .bool fail_11)] [⟨1, b_2, [.int .u64 l_1.fence.Term, .int .u64 l_1.fence.Index, .slice A_3 l_1.effects.length c_4, .map (mA A_5), .map (mA A_7)]⟩] [Ow 2 kT_ledger_Effect A_3 c_4 l_1.effects, Mp 3 ky41 (fun v => .bool v) A_5 c_6 l_1.said, Mp 4 ky41 (fun v => .bool v) A_7 c_8 l_1.tombs] [.code c41_0] _
  refine GoO.seq' c41_0e ?_
  refine GoO.region' (is := [0, 1, 2]) c41_1e (by kernel_rfl) ?_
  refine OpTo.go (GoO.new rfl 40 (cs := [.int .u64 k_9.Saga, .int .i64 k_9.Step, .bool k_9.Back]) (by kernel_rfl) _ (fun _ => rfl) (fun b_12 => ?_))
  refine GoO.exec (is := [1, 2]) (hs := [.p, .p]) (rest := []) (ks := [0, 2, 3, 5]) (env' := [(0, .pointer (some ⟨b_2, 0, none⟩)), (2, .string (bs name_10)), (3, .bool fail_11), (5, .pointer (some ⟨b_12, 0, none⟩))]) (H' := [⟨40, b_12, [.int .u64 k_9.Saga, .int .i64 k_9.Step, .bool k_9.Back]⟩, ⟨1, b_2, [.int .u64 l_1.fence.Term, .int .u64 l_1.fence.Index, .slice A_3 l_1.effects.length c_4, .map (mA A_5), .map (mA A_7)]⟩]) (ps := []) (by kernel_rfl) trivial ?_
  refine GoO.regionEnd ?_
  refine GoO.seq' c41_2e ?_
  refine GoO.seq' c41_3e ?_
  refine GoO.region' (is := [0]) c41_4e (by kernel_rfl) ?_
  refine GoO.exec (is := [0]) (hs := [.p]) (rest := []) (ks := [0, 2, 5, 11]) (env' := [(0, .pointer (some ⟨b_2, 0, none⟩)), (2, .string (bs name_10)), (5, .pointer (some ⟨b_12, 0, none⟩)), (11, .bool fail_11)]) (H' := [⟨40, b_12, [.int .u64 k_9.Saga, .int .i64 k_9.Step, .bool k_9.Back]⟩, ⟨1, b_2, [.int .u64 l_1.fence.Term, .int .u64 l_1.fence.Index, .slice A_3 l_1.effects.length c_4, .map (mA A_5), .map (mA A_7)]⟩]) (ps := []) (by kernel_rfl) trivial ?_
  refine GoO.regionEnd ?_
  refine GoO.ite' c41_5e (by kernel_rfl) (fun h13 => ?_) (fun h13 => ?_)
  · refine GoO.seq' c41_6e ?_
    refine GoO.region' (is := [0, 1]) c41_7e (by kernel_rfl) ?_
    refine GoO.exec (is := [0, 1]) (hs := [.p, .p]) (rest := []) (ks := [8, 9]) (env' := [(8, .bool false), (9, .int .i64 0)]) (H' := [⟨40, b_12, [.int .u64 k_9.Saga, .int .i64 k_9.Step, .bool k_9.Back]⟩, ⟨1, b_2, [.int .u64 l_1.fence.Term, .int .u64 l_1.fence.Index, .slice A_3 l_1.effects.length c_4, .map (mA A_5), .map (mA A_7)]⟩]) (ps := []) (by kernel_rfl) trivial ?_
    refine GoO.regionEnd ?_
    exact GoO.ret' (h := c41_8e) (hs := []) (ps := []) (hk := [1]) (bk := [0, 1, 2]) Try.func41 (⟨A_3, c_4, A_5, c_6, A_7, c_8⟩ : Option Addr × Nat × Option Addr × Nat × Option Addr × Nat) (by kernel_rfl) trivial (by kernel_rfl) (by kernel_rfl)
  · refine GoO.skip' c41_9e ?_
    refine GoO.seq' c41_10e ?_
    refine GoO.region' (is := [0, 1, 2]) c41_11e (by kernel_rfl) ?_
    refine GoO.exec (is := [0]) (hs := [.b 0]) (rest := [1, 2]) (ks := [0, 2, 5, 12]) (env' := [(0, .pointer (some ⟨b_2, 0, none⟩)), (2, .string (bs name_10)), (5, .pointer (some ⟨b_12, 0, none⟩)), (12, .agg ⟨[.int .u64 k_9.Saga, .int .i64 k_9.Step, .bool k_9.Back]⟩)]) (H' := [⟨40, b_12, [.int .u64 k_9.Saga, .int .i64 k_9.Step, .bool k_9.Back]⟩, ⟨1, b_2, [.int .u64 l_1.fence.Term, .int .u64 l_1.fence.Index, .slice A_3 l_1.effects.length c_4, .map (mA A_5), .map (mA A_7)]⟩]) (ps := [b_12 = b_12]) (by kernel_rfl) (And.intro rfl trivial) ?_
    refine OpTo.go (GoO.new rfl 41 (cs := [.int .u64 0, .int .i64 0, .bool false]) (by kernel_rfl) _ (fun _ => rfl) (fun b_14 => ?_))
    refine GoO.exec (is := [2]) (hs := [.b 0]) (rest := []) (ks := [0, 2, 5, 10]) (env' := [(0, .pointer (some ⟨b_2, 0, none⟩)), (2, .string (bs name_10)), (5, .pointer (some ⟨b_12, 0, none⟩)), (10, .pointer (some ⟨b_14, 0, none⟩))]) (H' := [⟨41, b_14, [.int .u64 k_9.Saga, .int .i64 k_9.Step, .bool k_9.Back]⟩, ⟨40, b_12, [.int .u64 k_9.Saga, .int .i64 k_9.Step, .bool k_9.Back]⟩, ⟨1, b_2, [.int .u64 l_1.fence.Term, .int .u64 l_1.fence.Index, .slice A_3 l_1.effects.length c_4, .map (mA A_5), .map (mA A_7)]⟩]) (ps := [b_14 = b_14]) (by kernel_rfl) (And.intro rfl trivial) ?_
    refine GoO.regionEnd ?_
    refine GoO.seq' c41_12e ?_
    refine GoO.region' (is := [0, 1]) c41_13e (by kernel_rfl) ?_
    refine GoO.exec (is := [0, 1]) (hs := [.p, .b 0]) (rest := []) (ks := [0, 2, 5, 10]) (env' := [(0, .pointer (some ⟨b_2, 0, none⟩)), (2, .string (bs name_10)), (5, .pointer (some ⟨b_12, 0, none⟩)), (10, .pointer (some ⟨b_14, 0, none⟩))]) (H' := [⟨41, b_14, [.int .u64 k_9.Saga, .int .i64 k_9.Step, .bool false]⟩, ⟨40, b_12, [.int .u64 k_9.Saga, .int .i64 k_9.Step, .bool k_9.Back]⟩, ⟨1, b_2, [.int .u64 l_1.fence.Term, .int .u64 l_1.fence.Index, .slice A_3 l_1.effects.length c_4, .map (mA A_5), .map (mA A_7)]⟩]) (ps := [b_14 = b_14]) (by kernel_rfl) (And.intro rfl trivial) ?_
    refine GoO.regionEnd ?_
    refine GoO.seq' c41_14e ?_
    refine GoO.seq' c41_15e ?_
    refine GoO.draw c41_16e (by kernel_rfl) [] [⟨41, b_14, [.int .u64 k_9.Saga, .int .i64 k_9.Step, .bool false]⟩, ⟨1, b_2, [.int .u64 l_1.fence.Term, .int .u64 l_1.fence.Index, .slice A_3 l_1.effects.length c_4, .map (mA A_5), .map (mA A_7)]⟩] [Mp 3 ky41 (fun v => .bool v) A_5 c_6 l_1.said] (n := 6) (by kernel_rfl) ?_
    simp only [List.replicate]
    refine GoF.take [0, 1, 2, 3, 4] [.p, .p, .p, .b 1, .b 0] (ks := [0, 2, 5, 10, 17, 18]) (fu := 1) (li := [true, true, true, true, true, false]) (env' := [(0, .pointer (some ⟨b_2, 0, none⟩)), (2, .string (bs name_10)), (5, .pointer (some ⟨b_12, 0, none⟩)), (10, .pointer (some ⟨b_14, 0, none⟩)), (17, .map (mA A_5)), (18, .agg ⟨[.int .u64 k_9.Saga, .int .i64 k_9.Step, .bool false]⟩)]) (ps := [b_2 = b_2, b_14 = b_14]) (hk := [0, 2]) (bk := [1]) (by kernel_rfl) (And.intro rfl (And.intro rfl trivial)) rfl rfl ?_
    refine OpTo.goF (i := 5) (by kernel_rfl) (hk := [0, 2]) (bk := [1]) (GoO.mapLk (vt := 4) (K := ky41) (ev := (fun v => .bool v)) (A := A_5) (c := c_6) (l := l_1.said) (key := (⟨k_9.Saga, k_9.Step, false⟩ : T_api_Key)) (j := 1) rfl (by kernel_rfl) (by kernel_rfl) (by kernel_rfl) rfl false (fun _ => by kernel_rfl) rfl ⟨rfl, rfl, ?_⟩)
    refine GoF.done (by kernel_rfl) ?_
    refine GoO.ite' c41_17e (by kernel_rfl) (fun h15 => ?_) (fun h15 => ?_)
    · refine GoO.draw c41_18e (by kernel_rfl) [10, 11, 12] [⟨40, b_12, [.int .u64 k_9.Saga, .int .i64 k_9.Step, .bool k_9.Back]⟩, ⟨1, b_2, [.int .u64 l_1.fence.Term, .int .u64 l_1.fence.Index, .slice A_3 l_1.effects.length c_4, .map (mA A_5), .map (mA A_7)]⟩] [] (n := 13) (by kernel_rfl) ?_
      simp only [List.replicate]
      refine GoF.take [0, 1, 2, 3, 4, 5, 6, 7] [.p, .p, .p, .p, .b 1, .b 0, .p, .p] (ks := [0, 5, 20, 24, 27]) (fu := 5) (li := [true, true, true, true, true, true, true, true, false, false, false, false, false]) (env' := [(0, .pointer (some ⟨b_2, 0, none⟩)), (5, .pointer (some ⟨b_12, 0, none⟩)), (20, .pointer (some ⟨b_2, 0, none⟩)), (24, .slice A_3 l_1.effects.length c_4), (27, .agg ⟨[.int .u64 k_9.Saga, .int .i64 k_9.Step, .bool k_9.Back, .string (bs name_10)]⟩)]) (ps := [b_2 = b_2, b_12 = b_12]) (hk := [1, 2]) (bk := []) (by kernel_rfl) (And.intro rfl (And.intro rfl trivial)) rfl rfl ?_
      refine OpTo.goF (i := 8) (by kernel_rfl) (hk := [1, 2]) (bk := []) (GoO.lit (e := 56) (K := kT_ledger_Effect) rfl (by kernel_rfl) (by kernel_rfl) (cs := [.int .u64 k_9.Saga, .int .i64 k_9.Step, .bool k_9.Back, .string (bs name_10)]) (by kernel_rfl) [(⟨k_9, name_10⟩ : T_ledger_Effect)] (by kernel_rfl) (by kernel_rfl) (fun w S hB => ⟨[.int .u64 k_9.Saga, .int .i64 k_9.Step, .bool k_9.Back, .string (bs name_10)], _, rfl, rfl, rfl⟩) 42 _ (fun _ _ => rfl) (fun A_16 c_17 => ⟨rfl, rfl, ?_⟩))
      refine GoF.guard (fun h18 => ?_)
      refine OpTo.goF (i := 9) (by kernel_rfl) (hk := [1, 2]) (bk := []) (GoO.appW (e := 56) (K := kT_ledger_Effect) (A := A_3) (c := c_4) (tg := 2) (bytes := 40) (zs := [.int .u64 0, .int .i64 0, .bool false, .string (bs [])]) (xs := l_1.effects) (ys := [(⟨k_9, name_10⟩ : T_ledger_Effect)]) (xv := .slice A_16 [(⟨k_9, name_10⟩ : T_ledger_Effect)].length c_17) (j := 1) (bk := [0, 2, 3]) rfl (by kernel_rfl) (by kernel_rfl) (by kernel_rfl) (by kernel_rfl) rfl (by kernel_rfl) rfl (fun w S hB => SrcIs.row (Reads.own w S (hB _ (List.mem_of_getElem? (i := 0) rfl)))) h18 rfl rfl rfl rfl _ (fun _ _ => rfl) (fun A_19 c_20 => ⟨rfl, rfl, ?_⟩))
      refine GoF.fin1 (i := 10) (hint := .p) (ps := []) (hk := []) (bk := []) (by kernel_rfl) rfl trivial (.inl rfl) ?_
      refine GoF.fin1 (i := 11) (hint := .p) (ps := []) (hk := []) (bk := []) (by kernel_rfl) rfl trivial (.inl rfl) ?_
      refine GoF.fin1 (i := 12) (hint := .b 2) (ps := [b_2 = b_2]) (hk := []) (bk := []) (by kernel_rfl) rfl (And.intro rfl trivial) (.inl rfl) ?_
      refine GoF.done (by kernel_rfl) ?_
      exact GoO.sub (ks := [0, 5]) (hk := [2, 1]) (bk := [0, 2, 3]) (by kernel_rfl) (by kernel_rfl) (by kernel_rfl) (ledger_Ledger_undo_j0_ok n l_1 k_9 b_2 A_5 c_6 b_12 A_3 c_4 A_7 c_8 w0 S0 (l_1.effects ++ [(⟨k_9, name_10⟩ : T_ledger_Effect)]) l_1.tombs A_19 c_20 A_7 c_8)
    · refine GoO.draw c41_19e (by kernel_rfl) [5] [⟨41, b_14, [.int .u64 k_9.Saga, .int .i64 k_9.Step, .bool false]⟩, ⟨1, b_2, [.int .u64 l_1.fence.Term, .int .u64 l_1.fence.Index, .slice A_3 l_1.effects.length c_4, .map (mA A_5), .map (mA A_7)]⟩] [] (n := 6) (by kernel_rfl) ?_
      simp only [List.replicate]
      refine GoF.take [0, 1, 2, 3, 4] [.p, .p, .p, .b 1, .b 0] (ks := [0, 5, 35, 36]) (fu := 1) (li := [true, true, true, true, true, false]) (env' := [(0, .pointer (some ⟨b_2, 0, none⟩)), (5, .pointer (some ⟨b_12, 0, none⟩)), (35, .map (mA A_7)), (36, .agg ⟨[.int .u64 k_9.Saga, .int .i64 k_9.Step, .bool false]⟩)]) (ps := [b_2 = b_2, b_14 = b_14]) (hk := [0, 2]) (bk := []) (by kernel_rfl) (And.intro rfl (And.intro rfl trivial)) rfl rfl ?_
      refine OpTo.goE (i := 5) (by kernel_rfl) rfl (GoO.mapUp (vt := 4) (K := ky41) (ev := (fun v => .bool v)) (A := A_7) (c := c_8) (tg := 4) (l := l_1.tombs) (key := (⟨k_9.Saga, k_9.Step, false⟩ : T_api_Key)) (v := true) (j := 2) rfl (by kernel_rfl) (by kernel_rfl) (by kernel_rfl) (by kernel_rfl) rfl (by kernel_rfl) (by kernel_rfl) (by kernel_rfl) rfl ?_)
      refine GoF.done (by kernel_rfl) ?_
      exact GoO.sub (ks := [0, 5]) (hk := [2, 1]) (bk := [0, 1, 2]) (by kernel_rfl) (by kernel_rfl) (by kernel_rfl) (ledger_Ledger_undo_j0_ok n l_1 k_9 b_2 A_5 c_6 b_12 A_3 c_4 A_7 c_8 w0 S0 l_1.effects (putA (⟨k_9.Saga, k_9.Step, false⟩ : T_api_Key) true l_1.tombs) A_3 c_4 A_7 c_8)

/-! (*tontine/ledger.Ledger).Ask -/
noncomputable def c23_0 : Code := bodyOf Try.f23
noncomputable def c23_1 : Code := cdL c23_0
noncomputable def c23_2 : Code := cdR c23_0
noncomputable def c23_3 : Code := cdL c23_2
noncomputable def c23_4 : Code := cdL c23_3
noncomputable def c23_5 : Code := cdR c23_3
noncomputable def c23_6 : Code := cdL c23_5
noncomputable def c23_7 : Code := cdL c23_6
noncomputable def c23_8 : Code := cdR c23_6
noncomputable def c23_9 : Code := cdR c23_5
noncomputable def c23_10 : Code := cdR c23_2
noncomputable def c23_11 : Code := cdL c23_10
noncomputable def c23_12 : Code := cdL c23_11
noncomputable def c23_13 : Code := cdR c23_11
noncomputable def c23_14 : Code := cdL c23_13
noncomputable def c23_15 : Code := cdL c23_14
noncomputable def c23_16 : Code := cdR c23_14
noncomputable def c23_17 : Code := cdR c23_13
noncomputable def c23_18 : Code := cdR c23_10
noncomputable def c23_19 : Code := cdL c23_18
noncomputable def c23_20 : Code := cdR c23_18
noncomputable def c23_21 : Code := cdL c23_20
noncomputable def c23_22 : Code := cdL c23_21
noncomputable def c23_23 : Code := cdR c23_21
noncomputable def c23_24 : Code := cdL c23_23
noncomputable def c23_25 : Code := cdR c23_23
noncomputable def c23_26 : Code := cdL c23_25
noncomputable def c23_27 : Code := cdL c23_26
noncomputable def c23_28 : Code := cdR c23_26
noncomputable def c23_29 : Code := cdR c23_25
noncomputable def c23_30 : Code := cdR c23_20
noncomputable def c23_31 : Code := cdL c23_30
noncomputable def c23_32 : Code := cdL c23_31
noncomputable def c23_33 : Code := cdR c23_31
noncomputable def c23_34 : Code := cdL c23_33
noncomputable def c23_35 : Code := cdL c23_34
noncomputable def c23_36 : Code := cdR c23_34
noncomputable def c23_37 : Code := cdR c23_33
noncomputable def c23_38 : Code := cdR c23_30
noncomputable def c23_39 : Code := cdL c23_38
noncomputable def c23_40 : Code := cdL c23_39
noncomputable def c23_41 : Code := cdR c23_39
noncomputable def c23_42 : Code := cdL c23_41
noncomputable def c23_43 : Code := cdL c23_42
noncomputable def c23_44 : Code := cdR c23_42
noncomputable def c23_45 : Code := cdR c23_41
noncomputable def c23_46 : Code := cdR c23_38
noncomputable def c23_47 : Code := cdL c23_46
noncomputable def c23_48 : Code := cdR c23_46
noncomputable def c23_49 : Code := cdL c23_48
noncomputable def c23_50 : Code := cdL c23_49
noncomputable def c23_51 : Code := cdR c23_49
noncomputable def c23_52 : Code := cdL c23_51
noncomputable def c23_53 : Code := cdR c23_51
noncomputable def c23_54 : Code := cdR c23_48
noncomputable def c23_55 : Code := cdL c23_54
noncomputable def c23_56 : Code := cdR c23_54
noncomputable def r23_1 : Array Oper := cdO c23_1
noncomputable def r23_4 : Array Oper := cdO c23_4
noncomputable def r23_7 : Array Oper := cdO c23_7
noncomputable def r23_12 : Array Oper := cdO c23_12
noncomputable def r23_15 : Array Oper := cdO c23_15
noncomputable def r23_19 : Array Oper := cdO c23_19
noncomputable def r23_22 : Array Oper := cdO c23_22
noncomputable def r23_24 : Array Oper := cdO c23_24
noncomputable def r23_27 : Array Oper := cdO c23_27
noncomputable def r23_32 : Array Oper := cdO c23_32
noncomputable def r23_35 : Array Oper := cdO c23_35
noncomputable def r23_40 : Array Oper := cdO c23_40
noncomputable def r23_43 : Array Oper := cdO c23_43
noncomputable def r23_47 : Array Oper := cdO c23_47
noncomputable def r23_50 : Array Oper := cdO c23_50
noncomputable def r23_52 : Array Oper := cdO c23_52
noncomputable def r23_55 : Array Oper := cdO c23_55
theorem c23_0e : c23_0 = .seq c23_1 c23_2 := by kernel_rfl
theorem c23_1e : c23_1 = .region 0 r23_1 false := by kernel_rfl
theorem c23_2e : c23_2 = .seq c23_3 c23_10 := by kernel_rfl
theorem c23_3e : c23_3 = .seq c23_4 c23_5 := by kernel_rfl
theorem c23_4e : c23_4 = .region 1 r23_4 false := by kernel_rfl
theorem c23_5e : c23_5 = .cond (cdC c23_5) c23_6 c23_9 := by kernel_rfl
theorem c23_6e : c23_6 = .seq c23_7 c23_8 := by kernel_rfl
theorem c23_7e : c23_7 = .region 2 r23_7 false := by kernel_rfl
theorem c23_8e : c23_8 = .ret := by kernel_rfl
theorem c23_9e : c23_9 = .skip := by kernel_rfl
theorem c23_10e : c23_10 = .seq c23_11 c23_18 := by kernel_rfl
theorem c23_11e : c23_11 = .seq c23_12 c23_13 := by kernel_rfl
theorem c23_12e : c23_12 = .region 3 r23_12 true := by kernel_rfl
theorem c23_13e : c23_13 = .cond (cdC c23_13) c23_14 c23_17 := by kernel_rfl
theorem c23_14e : c23_14 = .seq c23_15 c23_16 := by kernel_rfl
theorem c23_15e : c23_15 = .region 4 r23_15 false := by kernel_rfl
theorem c23_16e : c23_16 = .ret := by kernel_rfl
theorem c23_17e : c23_17 = .skip := by kernel_rfl
theorem c23_18e : c23_18 = .seq c23_19 c23_20 := by kernel_rfl
theorem c23_19e : c23_19 = .region 5 r23_19 false := by kernel_rfl
theorem c23_20e : c23_20 = .seq c23_21 c23_30 := by kernel_rfl
theorem c23_21e : c23_21 = .seq c23_22 c23_23 := by kernel_rfl
theorem c23_22e : c23_22 = .region 6 r23_22 true := by kernel_rfl
theorem c23_23e : c23_23 = .seq c23_24 c23_25 := by kernel_rfl
theorem c23_24e : c23_24 = .region 7 r23_24 false := by kernel_rfl
theorem c23_25e : c23_25 = .cond (cdC c23_25) c23_26 c23_29 := by kernel_rfl
theorem c23_26e : c23_26 = .seq c23_27 c23_28 := by kernel_rfl
theorem c23_27e : c23_27 = .region 8 r23_27 false := by kernel_rfl
theorem c23_28e : c23_28 = .ret := by kernel_rfl
theorem c23_29e : c23_29 = .skip := by kernel_rfl
theorem c23_30e : c23_30 = .seq c23_31 c23_38 := by kernel_rfl
theorem c23_31e : c23_31 = .seq c23_32 c23_33 := by kernel_rfl
theorem c23_32e : c23_32 = .region 9 r23_32 false := by kernel_rfl
theorem c23_33e : c23_33 = .cond (cdC c23_33) c23_34 c23_37 := by kernel_rfl
theorem c23_34e : c23_34 = .seq c23_35 c23_36 := by kernel_rfl
theorem c23_35e : c23_35 = .region 10 r23_35 false := by kernel_rfl
theorem c23_36e : c23_36 = .ret := by kernel_rfl
theorem c23_37e : c23_37 = .skip := by kernel_rfl
theorem c23_38e : c23_38 = .seq c23_39 c23_46 := by kernel_rfl
theorem c23_39e : c23_39 = .seq c23_40 c23_41 := by kernel_rfl
theorem c23_40e : c23_40 = .region 11 r23_40 true := by kernel_rfl
theorem c23_41e : c23_41 = .cond (cdC c23_41) c23_42 c23_45 := by kernel_rfl
theorem c23_42e : c23_42 = .seq c23_43 c23_44 := by kernel_rfl
theorem c23_43e : c23_43 = .region 12 r23_43 false := by kernel_rfl
theorem c23_44e : c23_44 = .ret := by kernel_rfl
theorem c23_45e : c23_45 = .skip := by kernel_rfl
theorem c23_46e : c23_46 = .seq c23_47 c23_48 := by kernel_rfl
theorem c23_47e : c23_47 = .region 13 r23_47 true := by kernel_rfl
theorem c23_48e : c23_48 = .seq c23_49 c23_54 := by kernel_rfl
theorem c23_49e : c23_49 = .seq c23_50 c23_51 := by kernel_rfl
theorem c23_50e : c23_50 = .region 14 r23_50 false := by kernel_rfl
theorem c23_51e : c23_51 = .cond (cdC c23_51) c23_52 c23_53 := by kernel_rfl
theorem c23_52e : c23_52 = .region 15 r23_52 true := by kernel_rfl
theorem c23_53e : c23_53 = .skip := by kernel_rfl
theorem c23_54e : c23_54 = .seq c23_55 c23_56 := by kernel_rfl
theorem c23_55e : c23_55 = .region 16 r23_55 false := by kernel_rfl
theorem c23_56e : c23_56 = .ret := by kernel_rfl
noncomputable def ledger_Ledger_Ask.R (b_2 : Nat) (A_3 : Option Addr) (c_4 : Nat) (A_5 : Option Addr) (c_6 : Nat) (A_7 : Option Addr) (c_8 : Nat) : Pst (Bool × Int × T_ledger_Ledger) where
  ε := Option Addr × Nat × Option Addr × Nat × Option Addr × Nat
  v := fun r x => .tuple ⟨[.bool r.1, .int .i64 r.2.1]⟩
  H := fun r x => [⟨1, b_2, [.int .u64 r.2.2.fence.Term, .int .u64 r.2.2.fence.Index, .slice x.1 r.2.2.effects.length x.2.1, .map (mA x.2.2.1), .map (mA x.2.2.2.2.1)]⟩]
  B := fun r x => [Ow 2 kT_ledger_Effect x.1 x.2.1 r.2.2.effects, Mp 3 ky41 (fun v => .bool v) x.2.2.1 x.2.2.2.1 r.2.2.said, Mp 4 ky41 (fun v => .bool v) x.2.2.2.2.1 x.2.2.2.2.2 r.2.2.tombs]
noncomputable def ledger_Ledger_Ask.cx (b_2 : Nat) (A_3 : Option Addr) (c_4 : Nat) (A_5 : Option Addr) (c_6 : Nat) (A_7 : Option Addr) (c_8 : Nat) (w0 : World) (S0 : Fam) : Cx (Bool × Int × T_ledger_Ledger) := ⟨Try.prog, 23, Try.f23, 90, w0, S0, [1, 2, 3, 4], 4, ledger_Ledger_Ask.R b_2 A_3 c_4 A_5 c_6 A_7 c_8⟩
theorem ledger_Ledger_Ask_j0_ok (n : Nat) (l_1 : T_ledger_Ledger) (t_9 : T_api_Token) (k_10 : T_api_Key) (name_11 : (List UInt8)) (fail_12 : Bool) (b_2 : Nat) (A_3 : Option Addr) (c_4 : Nat) (A_5 : Option Addr) (c_6 : Nat) (A_7 : Option Addr) (c_8 : Nat) (b_13 : Nat) (b_14 : Nat) (w0 : World) (S0 : Fam) (b_17 : Bool) :
    GoO (ledger_Ledger_Ask.cx b_2 A_3 c_4 A_5 c_6 A_7 c_8 w0 S0) [(0, .pointer (some ⟨b_2, 0, none⟩)), (3, .string (bs name_11)), (4, .bool fail_12), (6, .pointer (some ⟨b_13, 0, none⟩)), (7, .pointer (some ⟨b_14, 0, none⟩)), (30, .bool b_17)] [⟨1, b_2, [.int .u64 l_1.fence.Term, .int .u64 l_1.fence.Index, .slice A_3 l_1.effects.length c_4, .map (mA A_5), .map (mA A_7)]⟩, ⟨40, b_13, [.int .u64 t_9.Term, .int .u64 t_9.Index]⟩, ⟨41, b_14, [.int .u64 k_10.Saga, .int .i64 k_10.Step, .bool k_10.Back]⟩] [Ow 2 kT_ledger_Effect A_3 c_4 l_1.effects, Mp 3 ky41 (fun v => .bool v) A_5 c_6 l_1.said, Mp 4 ky41 (fun v => .bool v) A_7 c_8 l_1.tombs] [.code c23_5, .code c23_10] (ledger_Ledger_Ask.j0 n l_1 t_9 k_10 name_11 fail_12 b_17) := by
  unfold ledger_Ledger_Ask.j0
  refine GoO.ite' c23_5e (by kernel_rfl) (fun h18 => ?_) (fun h18 => ?_)
  · refine GoO.seq' c23_6e ?_
    refine GoO.region' (is := [0, 1]) c23_7e (by kernel_rfl) ?_
    refine GoO.exec (is := [0, 1]) (hs := [.p, .p]) (rest := []) (ks := [10, 11]) (env' := [(10, .bool false), (11, .int .i64 1)]) (H' := [⟨1, b_2, [.int .u64 l_1.fence.Term, .int .u64 l_1.fence.Index, .slice A_3 l_1.effects.length c_4, .map (mA A_5), .map (mA A_7)]⟩, ⟨40, b_13, [.int .u64 t_9.Term, .int .u64 t_9.Index]⟩, ⟨41, b_14, [.int .u64 k_10.Saga, .int .i64 k_10.Step, .bool k_10.Back]⟩]) (ps := []) (by kernel_rfl) trivial ?_
    refine GoO.regionEnd ?_
    exact GoO.ret' (h := c23_8e) (hs := []) (ps := []) (hk := [0]) (bk := [0, 1, 2]) Try.func23 (⟨A_3, c_4, A_5, c_6, A_7, c_8⟩ : Option Addr × Nat × Option Addr × Nat × Option Addr × Nat) (by kernel_rfl) trivial (by kernel_rfl) (by kernel_rfl)
  · refine GoO.skip' c23_9e ?_
    refine GoO.seq' c23_10e ?_
    refine GoO.seq' c23_11e ?_
    refine GoO.draw c23_12e (by kernel_rfl) [] [⟨1, b_2, [.int .u64 l_1.fence.Term, .int .u64 l_1.fence.Index, .slice A_3 l_1.effects.length c_4, .map (mA A_5), .map (mA A_7)]⟩, ⟨40, b_13, [.int .u64 t_9.Term, .int .u64 t_9.Index]⟩] [] (n := 6) (by kernel_rfl) ?_
    simp only [List.replicate]
    refine GoF.take [0, 1, 2, 3, 4] [.b 1, .p, .p, .p, .b 0] (ks := [0, 3, 4, 6, 7, 31, 35]) (fu := 1) (li := [true, true, true, true, true, false]) (env' := [(0, .pointer (some ⟨b_2, 0, none⟩)), (3, .string (bs name_11)), (4, .bool fail_12), (6, .pointer (some ⟨b_13, 0, none⟩)), (7, .pointer (some ⟨b_14, 0, none⟩)), (31, .agg ⟨[.int .u64 t_9.Term, .int .u64 t_9.Index]⟩), (35, .agg ⟨[.int .u64 l_1.fence.Term, .int .u64 l_1.fence.Index]⟩)]) (ps := [b_13 = b_13, b_2 = b_2]) (hk := [0, 1]) (bk := []) (by kernel_rfl) (And.intro rfl (And.intro rfl trivial)) rfl rfl ?_
    refine OpTo.goF (i := 5) (by kernel_rfl) (hk := [0, 1]) (bk := []) (GoO.call rfl (by kernel_rfl) (by kernel_rfl) (ledger_Less_ok n t_9 (⟨l_1.fence.Term, l_1.fence.Index⟩ : T_api_Token)) [[0]] [] [] [] (hks := [0, 1, 2]) (bks := [0, 1, 2]) (by kernel_rfl) (by kernel_rfl) (by kernel_rfl) (.inl rfl) rfl rfl (by kernel_rfl) (by kernel_rfl) _ (fun _ _ => rfl) _ _ (fun _ _ => rfl) (fun _ _ => rfl) (fun _ _ => by kernel_rfl) (fun _ _ => by kernel_rfl) (fun r_19 x_38 => ⟨rfl, rfl, ?_⟩))
    refine GoF.shape (env' := [(0, .pointer (some ⟨b_2, 0, none⟩)), (3, .string (bs name_11)), (4, .bool fail_12), (6, .pointer (some ⟨b_13, 0, none⟩)), (7, .pointer (some ⟨b_14, 0, none⟩)), (31, .agg ⟨[.int .u64 t_9.Term, .int .u64 t_9.Index]⟩), (35, .agg ⟨[.int .u64 l_1.fence.Term, .int .u64 l_1.fence.Index]⟩), (36, .bool r_19)]) (H' := [⟨1, b_2, [.int .u64 l_1.fence.Term, .int .u64 l_1.fence.Index, .slice A_3 l_1.effects.length c_4, .map (mA A_5), .map (mA A_7)]⟩, ⟨40, b_13, [.int .u64 t_9.Term, .int .u64 t_9.Index]⟩, ⟨41, b_14, [.int .u64 k_10.Saga, .int .i64 k_10.Step, .bool k_10.Back]⟩]) (B' := [Ow 2 kT_ledger_Effect A_3 c_4 l_1.effects, Mp 3 ky41 (fun v => .bool v) A_5 c_6 l_1.said, Mp 4 ky41 (fun v => .bool v) A_7 c_8 l_1.tombs]) (ks := [0, 3, 4, 6, 7, 31, 35, 36]) (by kernel_rfl) (by kernel_rfl) (by kernel_rfl) ?_
    refine GoF.done (by kernel_rfl) ?_
    refine GoO.ite' c23_13e (by kernel_rfl) (fun h20 => ?_) (fun h20 => ?_)
    · refine GoO.seq' c23_14e ?_
      refine GoO.region' (is := [0, 1]) c23_15e (by kernel_rfl) ?_
      refine GoO.exec (is := [0, 1]) (hs := [.p, .p]) (rest := []) (ks := [10, 11]) (env' := [(10, .bool false), (11, .int .i64 50)]) (H' := [⟨1, b_2, [.int .u64 l_1.fence.Term, .int .u64 l_1.fence.Index, .slice A_3 l_1.effects.length c_4, .map (mA A_5), .map (mA A_7)]⟩, ⟨40, b_13, [.int .u64 t_9.Term, .int .u64 t_9.Index]⟩, ⟨41, b_14, [.int .u64 k_10.Saga, .int .i64 k_10.Step, .bool k_10.Back]⟩]) (ps := []) (by kernel_rfl) trivial ?_
      refine GoO.regionEnd ?_
      exact GoO.ret' (h := c23_16e) (hs := []) (ps := []) (hk := [0]) (bk := [0, 1, 2]) Try.func23 (⟨A_3, c_4, A_5, c_6, A_7, c_8⟩ : Option Addr × Nat × Option Addr × Nat × Option Addr × Nat) (by kernel_rfl) trivial (by kernel_rfl) (by kernel_rfl)
    · refine GoO.skip' c23_17e ?_
      refine GoO.seq' c23_18e ?_
      refine GoO.region' (is := [0, 1, 2, 3, 4]) c23_19e (by kernel_rfl) ?_
      refine GoO.exec (is := [0, 1, 2, 3, 4]) (hs := [.p, .b 1, .p, .p, .b 0]) (rest := []) (ks := [0, 3, 4, 7]) (env' := [(0, .pointer (some ⟨b_2, 0, none⟩)), (3, .string (bs name_11)), (4, .bool fail_12), (7, .pointer (some ⟨b_14, 0, none⟩))]) (H' := [⟨1, b_2, [.int .u64 t_9.Term, .int .u64 t_9.Index, .slice A_3 l_1.effects.length c_4, .map (mA A_5), .map (mA A_7)]⟩, ⟨40, b_13, [.int .u64 t_9.Term, .int .u64 t_9.Index]⟩, ⟨41, b_14, [.int .u64 k_10.Saga, .int .i64 k_10.Step, .bool k_10.Back]⟩]) (ps := [b_13 = b_13, b_2 = b_2]) (by kernel_rfl) (And.intro rfl (And.intro rfl trivial)) ?_
      refine GoO.regionEnd ?_
      refine GoO.seq' c23_20e ?_
      refine GoO.seq' c23_21e ?_
      refine GoO.draw c23_22e (by kernel_rfl) [10] [⟨1, b_2, [.int .u64 t_9.Term, .int .u64 t_9.Index, .slice A_3 l_1.effects.length c_4, .map (mA A_5), .map (mA A_7)]⟩, ⟨41, b_14, [.int .u64 k_10.Saga, .int .i64 k_10.Step, .bool k_10.Back]⟩] [Mp 3 ky41 (fun v => .bool v) A_5 c_6 l_1.said] (n := 11) (by kernel_rfl) ?_
      simp only [List.replicate]
      refine GoF.take [0, 1, 2, 3, 4] [.p, .p, .p, .b 0, .b 1] (ks := [0, 3, 4, 7, 45, 46]) (fu := 6) (li := [true, true, true, true, true, false, false, false, false, false, false]) (env' := [(0, .pointer (some ⟨b_2, 0, none⟩)), (3, .string (bs name_11)), (4, .bool fail_12), (7, .pointer (some ⟨b_14, 0, none⟩)), (45, .map (mA A_5)), (46, .agg ⟨[.int .u64 k_10.Saga, .int .i64 k_10.Step, .bool k_10.Back]⟩)]) (ps := [b_2 = b_2, b_14 = b_14]) (hk := [0, 2]) (bk := [1]) (by kernel_rfl) (And.intro rfl (And.intro rfl trivial)) rfl rfl ?_
      refine OpTo.goF (i := 5) (by kernel_rfl) (hk := [0, 2]) (bk := [1]) (GoO.mapLk (vt := 4) (K := ky41) (ev := (fun v => .bool v)) (A := A_5) (c := c_6) (l := l_1.said) (key := k_10) (j := 1) rfl (by kernel_rfl) (by kernel_rfl) (by kernel_rfl) rfl false (fun _ => by kernel_rfl) rfl ⟨rfl, rfl, ?_⟩)
      refine GoF.take [6, 7, 8, 9] [.p, .p, .p, .p] (ks := [0, 3, 4, 7, 12, 49]) (fu := 1) (li := [true, true, true, true, true, true, true, true, true, true, false]) (env' := [(0, .pointer (some ⟨b_2, 0, none⟩)), (3, .string (bs name_11)), (4, .bool fail_12), (7, .pointer (some ⟨b_14, 0, none⟩)), (12, .bool ((getA k_10 l_1.said).getD false)), (49, .bool ((getA k_10 l_1.said).isSome))]) (ps := []) (hk := [0, 2]) (bk := [1]) (by kernel_rfl) trivial rfl rfl ?_
      refine GoF.fin1 (i := 10) (hint := .p) (ps := []) (hk := []) (bk := []) (by kernel_rfl) rfl trivial (.inl rfl) ?_
      refine GoF.done (by kernel_rfl) ?_
      refine GoO.seq' c23_23e ?_
      refine GoO.region' (is := [0]) c23_24e (by kernel_rfl) ?_
      refine GoO.exec (is := [0]) (hs := [.p]) (rest := []) (ks := [0, 3, 4, 7, 12, 50]) (env' := [(0, .pointer (some ⟨b_2, 0, none⟩)), (3, .string (bs name_11)), (4, .bool fail_12), (7, .pointer (some ⟨b_14, 0, none⟩)), (12, .bool ((getA k_10 l_1.said).getD false)), (50, .bool ((getA k_10 l_1.said).isSome))]) (H' := [⟨1, b_2, [.int .u64 t_9.Term, .int .u64 t_9.Index, .slice A_3 l_1.effects.length c_4, .map (mA A_5), .map (mA A_7)]⟩, ⟨40, b_13, [.int .u64 t_9.Term, .int .u64 t_9.Index]⟩, ⟨41, b_14, [.int .u64 k_10.Saga, .int .i64 k_10.Step, .bool k_10.Back]⟩]) (ps := []) (by kernel_rfl) trivial ?_
      refine GoO.regionEnd ?_
      refine GoO.ite' c23_25e (by kernel_rfl) (fun h21 => ?_) (fun h21 => ?_)
      · refine GoO.seq' c23_26e ?_
        refine GoO.region' (is := [0, 1, 2]) c23_27e (by kernel_rfl) ?_
        refine GoO.exec (is := [0, 1, 2]) (hs := [.p, .p, .p]) (rest := []) (ks := [10, 11]) (env' := [(10, .bool ((getA k_10 l_1.said).getD false)), (11, .int .i64 0)]) (H' := [⟨1, b_2, [.int .u64 t_9.Term, .int .u64 t_9.Index, .slice A_3 l_1.effects.length c_4, .map (mA A_5), .map (mA A_7)]⟩, ⟨40, b_13, [.int .u64 t_9.Term, .int .u64 t_9.Index]⟩, ⟨41, b_14, [.int .u64 k_10.Saga, .int .i64 k_10.Step, .bool k_10.Back]⟩]) (ps := []) (by kernel_rfl) trivial ?_
        refine GoO.regionEnd ?_
        exact GoO.ret' (h := c23_28e) (hs := []) (ps := []) (hk := [0]) (bk := [0, 1, 2]) Try.func23 (⟨A_3, c_4, A_5, c_6, A_7, c_8⟩ : Option Addr × Nat × Option Addr × Nat × Option Addr × Nat) (by kernel_rfl) trivial (by kernel_rfl) (by kernel_rfl)
      · refine GoO.skip' c23_29e ?_
        refine GoO.seq' c23_30e ?_
        refine GoO.seq' c23_31e ?_
        refine GoO.region' (is := [0, 1]) c23_32e (by kernel_rfl) ?_
        refine GoO.exec (is := [0, 1]) (hs := [.p, .b 2]) (rest := []) (ks := [0, 3, 4, 7, 53]) (env' := [(0, .pointer (some ⟨b_2, 0, none⟩)), (3, .string (bs name_11)), (4, .bool fail_12), (7, .pointer (some ⟨b_14, 0, none⟩)), (53, .bool k_10.Back)]) (H' := [⟨1, b_2, [.int .u64 t_9.Term, .int .u64 t_9.Index, .slice A_3 l_1.effects.length c_4, .map (mA A_5), .map (mA A_7)]⟩, ⟨40, b_13, [.int .u64 t_9.Term, .int .u64 t_9.Index]⟩, ⟨41, b_14, [.int .u64 k_10.Saga, .int .i64 k_10.Step, .bool k_10.Back]⟩]) (ps := [b_14 = b_14]) (by kernel_rfl) (And.intro rfl trivial) ?_
        refine GoO.regionEnd ?_
        refine GoO.ite' c23_33e (by kernel_rfl) (fun h22 => ?_) (fun h22 => ?_)
        · refine GoO.seq' c23_34e ?_
          refine GoO.region' (is := [0, 1, 2, 3, 4, 5, 6, 7, 8]) c23_35e (by kernel_rfl) ?_
          refine GoO.exec (is := [0, 1, 2, 3]) (hs := [.p, .b 2, .p, .p]) (rest := [4, 5, 6, 7, 8]) (ks := [54, 55, 56, 57]) (env' := [(54, .pointer (some ⟨b_2, 0, none⟩)), (55, .agg ⟨[.int .u64 k_10.Saga, .int .i64 k_10.Step, .bool k_10.Back]⟩), (56, .string (bs name_11)), (57, .bool fail_12)]) (H' := [⟨1, b_2, [.int .u64 t_9.Term, .int .u64 t_9.Index, .slice A_3 l_1.effects.length c_4, .map (mA A_5), .map (mA A_7)]⟩, ⟨40, b_13, [.int .u64 t_9.Term, .int .u64 t_9.Index]⟩, ⟨41, b_14, [.int .u64 k_10.Saga, .int .i64 k_10.Step, .bool k_10.Back]⟩]) (ps := [b_14 = b_14]) (by kernel_rfl) (And.intro rfl trivial) ?_
          refine OpTo.go (GoO.call rfl (by kernel_rfl) (by kernel_rfl) (ledger_Ledger_undo_ok n (⟨t_9, l_1.effects, l_1.said, l_1.tombs⟩ : T_ledger_Ledger) k_10 name_11 fail_12 b_2 A_3 c_4 A_5 c_6 A_7 c_8) [[0], [1], [2], [3], [4]] [(1, 1), (2, 2), (3, 3), (4, 4)] [(1, 0)] [(2, 0), (3, 1), (4, 2)] (hks := [1, 2]) (bks := []) (by kernel_rfl) (by kernel_rfl) (by kernel_rfl) (.inl rfl) rfl rfl (by kernel_rfl) (by kernel_rfl) _ (fun _ _ => rfl) _ _ (fun _ _ => rfl) (fun _ _ => rfl) (fun _ _ => by kernel_rfl) (fun _ _ => by kernel_rfl) (fun r_23 x_30 => ?_))
          obtain ⟨A_24, c_25, A_26, c_27, A_28, c_29⟩ := x_30
          refine GoO.shape (env' := [(54, .pointer (some ⟨b_2, 0, none⟩)), (55, .agg ⟨[.int .u64 k_10.Saga, .int .i64 k_10.Step, .bool k_10.Back]⟩), (56, .string (bs name_11)), (57, .bool fail_12), (58, .tuple ⟨[.bool r_23.1, .int .i64 r_23.2.1]⟩)]) (H' := [⟨1, b_2, [.int .u64 r_23.2.2.fence.Term, .int .u64 r_23.2.2.fence.Index, .slice A_24 r_23.2.2.effects.length c_25, .map (mA A_26), .map (mA A_28)]⟩, ⟨40, b_13, [.int .u64 t_9.Term, .int .u64 t_9.Index]⟩, ⟨41, b_14, [.int .u64 k_10.Saga, .int .i64 k_10.Step, .bool k_10.Back]⟩]) (B' := [Ow 2 kT_ledger_Effect A_24 c_25 r_23.2.2.effects, Mp 3 ky41 (fun v => .bool v) A_26 c_27 r_23.2.2.said, Mp 4 ky41 (fun v => .bool v) A_28 c_29 r_23.2.2.tombs]) (ks := [54, 55, 56, 57, 58]) (by kernel_rfl) (by kernel_rfl) (by kernel_rfl) ?_
          refine GoO.exec (is := [5, 6, 7, 8]) (hs := [.p, .p, .p, .p]) (rest := []) (ks := [10, 11]) (env' := [(10, .bool r_23.1), (11, .int .i64 r_23.2.1)]) (H' := [⟨1, b_2, [.int .u64 r_23.2.2.fence.Term, .int .u64 r_23.2.2.fence.Index, .slice A_24 r_23.2.2.effects.length c_25, .map (mA A_26), .map (mA A_28)]⟩, ⟨40, b_13, [.int .u64 t_9.Term, .int .u64 t_9.Index]⟩, ⟨41, b_14, [.int .u64 k_10.Saga, .int .i64 k_10.Step, .bool k_10.Back]⟩]) (ps := []) (by kernel_rfl) trivial ?_
          refine GoO.regionEnd ?_
          exact GoO.ret' (h := c23_36e) (hs := []) (ps := []) (hk := [0]) (bk := [0, 1, 2]) Try.func23 (⟨A_24, c_25, A_26, c_27, A_28, c_29⟩ : Option Addr × Nat × Option Addr × Nat × Option Addr × Nat) (by kernel_rfl) trivial (by kernel_rfl) (by kernel_rfl)
        · refine GoO.skip' c23_37e ?_
          refine GoO.seq' c23_38e ?_
          refine GoO.seq' c23_39e ?_
          refine GoO.draw c23_40e (by kernel_rfl) [] [⟨1, b_2, [.int .u64 t_9.Term, .int .u64 t_9.Index, .slice A_3 l_1.effects.length c_4, .map (mA A_5), .map (mA A_7)]⟩, ⟨41, b_14, [.int .u64 k_10.Saga, .int .i64 k_10.Step, .bool k_10.Back]⟩] [Mp 4 ky41 (fun v => .bool v) A_7 c_8 l_1.tombs] (n := 6) (by kernel_rfl) ?_
          simp only [List.replicate]
          refine GoF.take [0, 1, 2, 3, 4] [.p, .p, .p, .b 0, .b 1] (ks := [0, 3, 4, 7, 64, 65]) (fu := 1) (li := [true, true, true, true, true, false]) (env' := [(0, .pointer (some ⟨b_2, 0, none⟩)), (3, .string (bs name_11)), (4, .bool fail_12), (7, .pointer (some ⟨b_14, 0, none⟩)), (64, .map (mA A_7)), (65, .agg ⟨[.int .u64 k_10.Saga, .int .i64 k_10.Step, .bool k_10.Back]⟩)]) (ps := [b_2 = b_2, b_14 = b_14]) (hk := [0, 2]) (bk := [2]) (by kernel_rfl) (And.intro rfl (And.intro rfl trivial)) rfl rfl ?_
          refine OpTo.goF (i := 5) (by kernel_rfl) (hk := [0, 2]) (bk := [2]) (GoO.mapLk (vt := 4) (K := ky41) (ev := (fun v => .bool v)) (A := A_7) (c := c_8) (l := l_1.tombs) (key := k_10) (j := 2) rfl (by kernel_rfl) (by kernel_rfl) (by kernel_rfl) rfl false (fun _ => by kernel_rfl) rfl ⟨rfl, rfl, ?_⟩)
          refine GoF.done (by kernel_rfl) ?_
          refine GoO.ite' c23_41e (by kernel_rfl) (fun h31 => ?_) (fun h31 => ?_)
          · refine GoO.seq' c23_42e ?_
            refine GoO.region' (is := [0, 1]) c23_43e (by kernel_rfl) ?_
            refine GoO.exec (is := [0, 1]) (hs := [.p, .p]) (rest := []) (ks := [10, 11]) (env' := [(10, .bool false), (11, .int .i64 51)]) (H' := [⟨1, b_2, [.int .u64 t_9.Term, .int .u64 t_9.Index, .slice A_3 l_1.effects.length c_4, .map (mA A_5), .map (mA A_7)]⟩, ⟨40, b_13, [.int .u64 t_9.Term, .int .u64 t_9.Index]⟩, ⟨41, b_14, [.int .u64 k_10.Saga, .int .i64 k_10.Step, .bool k_10.Back]⟩]) (ps := []) (by kernel_rfl) trivial ?_
            refine GoO.regionEnd ?_
            exact GoO.ret' (h := c23_44e) (hs := []) (ps := []) (hk := [0]) (bk := [0, 1, 2]) Try.func23 (⟨A_3, c_4, A_5, c_6, A_7, c_8⟩ : Option Addr × Nat × Option Addr × Nat × Option Addr × Nat) (by kernel_rfl) trivial (by kernel_rfl) (by kernel_rfl)
          · refine GoO.skip' c23_45e ?_
            refine GoO.seq' c23_46e ?_
            refine GoO.draw c23_47e (by kernel_rfl) [7] [⟨1, b_2, [.int .u64 t_9.Term, .int .u64 t_9.Index, .slice A_3 l_1.effects.length c_4, .map (mA A_5), .map (mA A_7)]⟩, ⟨41, b_14, [.int .u64 k_10.Saga, .int .i64 k_10.Step, .bool k_10.Back]⟩] [] (n := 8) (by kernel_rfl) ?_
            simp only [List.replicate]
            refine GoF.take [0, 1, 2, 3, 4, 5, 6] [.p, .p, .p, .b 0, .b 1, .p, .p] (ks := [0, 3, 4, 7, 70, 71, 73]) (fu := 1) (li := [true, true, true, true, true, true, true, false]) (env' := [(0, .pointer (some ⟨b_2, 0, none⟩)), (3, .string (bs name_11)), (4, .bool fail_12), (7, .pointer (some ⟨b_14, 0, none⟩)), (70, .map (mA A_5)), (71, .agg ⟨[.int .u64 k_10.Saga, .int .i64 k_10.Step, .bool k_10.Back]⟩), (73, .bool (!fail_12))]) (ps := [b_2 = b_2, b_14 = b_14]) (hk := [0, 2]) (bk := []) (by kernel_rfl) (And.intro rfl (And.intro rfl trivial)) rfl rfl ?_
            refine OpTo.goE (i := 7) (by kernel_rfl) rfl (GoO.mapUp (vt := 4) (K := ky41) (ev := (fun v => .bool v)) (A := A_5) (c := c_6) (tg := 3) (l := l_1.said) (key := k_10) (v := (!fail_12)) (j := 1) rfl (by kernel_rfl) (by kernel_rfl) (by kernel_rfl) (by kernel_rfl) rfl (by kernel_rfl) (by kernel_rfl) (by kernel_rfl) rfl ?_)
            refine GoF.done (by kernel_rfl) ?_
            refine GoO.seq' c23_48e ?_
            refine GoO.seq' c23_49e ?_
            refine GoO.region' (is := [0, 1]) c23_50e (by kernel_rfl) ?_
            refine GoO.exec (is := [0, 1]) (hs := [.p, .p]) (rest := []) (ks := [0, 3, 4, 7, 75]) (env' := [(0, .pointer (some ⟨b_2, 0, none⟩)), (3, .string (bs name_11)), (4, .bool fail_12), (7, .pointer (some ⟨b_14, 0, none⟩)), (75, .bool (!fail_12))]) (H' := [⟨1, b_2, [.int .u64 t_9.Term, .int .u64 t_9.Index, .slice A_3 l_1.effects.length c_4, .map (mA A_5), .map (mA A_7)]⟩, ⟨40, b_13, [.int .u64 t_9.Term, .int .u64 t_9.Index]⟩, ⟨41, b_14, [.int .u64 k_10.Saga, .int .i64 k_10.Step, .bool k_10.Back]⟩]) (ps := []) (by kernel_rfl) trivial ?_
            refine GoO.regionEnd ?_
            refine GoO.ite' c23_51e (by kernel_rfl) (fun h32 => ?_) (fun h32 => ?_)
            · refine GoO.draw c23_52e (by kernel_rfl) [10, 11, 12] [⟨1, b_2, [.int .u64 t_9.Term, .int .u64 t_9.Index, .slice A_3 l_1.effects.length c_4, .map (mA A_5), .map (mA A_7)]⟩, ⟨41, b_14, [.int .u64 k_10.Saga, .int .i64 k_10.Step, .bool k_10.Back]⟩] [] (n := 13) (by kernel_rfl) ?_
              simp only [List.replicate]
              refine GoF.take [0, 1, 2, 3, 4, 5, 6, 7] [.p, .p, .p, .p, .b 0, .b 1, .p, .p] (ks := [4, 76, 80, 83]) (fu := 5) (li := [true, true, true, true, true, true, true, true, false, false, false, false, false]) (env' := [(4, .bool fail_12), (76, .pointer (some ⟨b_2, 0, none⟩)), (80, .slice A_3 l_1.effects.length c_4), (83, .agg ⟨[.int .u64 k_10.Saga, .int .i64 k_10.Step, .bool k_10.Back, .string (bs name_11)]⟩)]) (ps := [b_2 = b_2, b_14 = b_14]) (hk := [0, 2]) (bk := []) (by kernel_rfl) (And.intro rfl (And.intro rfl trivial)) rfl rfl ?_
              refine OpTo.goF (i := 8) (by kernel_rfl) (hk := [0, 2]) (bk := []) (GoO.lit (e := 56) (K := kT_ledger_Effect) rfl (by kernel_rfl) (by kernel_rfl) (cs := [.int .u64 k_10.Saga, .int .i64 k_10.Step, .bool k_10.Back, .string (bs name_11)]) (by kernel_rfl) [(⟨k_10, name_11⟩ : T_ledger_Effect)] (by kernel_rfl) (by kernel_rfl) (fun w S hB => ⟨[.int .u64 k_10.Saga, .int .i64 k_10.Step, .bool k_10.Back, .string (bs name_11)], _, rfl, rfl, rfl⟩) 42 _ (fun _ _ => rfl) (fun A_33 c_34 => ⟨rfl, rfl, ?_⟩))
              refine GoF.guard (fun h35 => ?_)
              refine OpTo.goF (i := 9) (by kernel_rfl) (hk := [0, 2]) (bk := []) (GoO.appW (e := 56) (K := kT_ledger_Effect) (A := A_3) (c := c_4) (tg := 2) (bytes := 40) (zs := [.int .u64 0, .int .i64 0, .bool false, .string (bs [])]) (xs := l_1.effects) (ys := [(⟨k_10, name_11⟩ : T_ledger_Effect)]) (xv := .slice A_33 [(⟨k_10, name_11⟩ : T_ledger_Effect)].length c_34) (j := 1) (bk := [0, 2, 3]) rfl (by kernel_rfl) (by kernel_rfl) (by kernel_rfl) (by kernel_rfl) rfl (by kernel_rfl) rfl (fun w S hB => SrcIs.row (Reads.own w S (hB _ (List.mem_of_getElem? (i := 0) rfl)))) h35 rfl rfl rfl rfl _ (fun _ _ => rfl) (fun A_36 c_37 => ⟨rfl, rfl, ?_⟩))
              refine GoF.fin1 (i := 10) (hint := .p) (ps := []) (hk := []) (bk := []) (by kernel_rfl) rfl trivial (.inl rfl) ?_
              refine GoF.fin1 (i := 11) (hint := .p) (ps := []) (hk := []) (bk := []) (by kernel_rfl) rfl trivial (.inl rfl) ?_
              refine GoF.fin1 (i := 12) (hint := .b 0) (ps := [b_2 = b_2]) (hk := []) (bk := []) (by kernel_rfl) rfl (And.intro rfl trivial) (.inl rfl) ?_
              refine GoF.done (by kernel_rfl) ?_
              refine GoO.seq' c23_54e ?_
              refine GoO.region' (is := [0, 1, 2, 3]) c23_55e (by kernel_rfl) ?_
              refine GoO.exec (is := [0, 1, 2, 3]) (hs := [.p, .p, .p, .p]) (rest := []) (ks := [10, 11]) (env' := [(10, .bool (!fail_12)), (11, .int .i64 0)]) (H' := [⟨1, b_2, [.int .u64 t_9.Term, .int .u64 t_9.Index, .slice A_36 (l_1.effects ++ [(⟨k_10, name_11⟩ : T_ledger_Effect)]).length c_37, .map (mA A_5), .map (mA A_7)]⟩, ⟨40, b_13, [.int .u64 t_9.Term, .int .u64 t_9.Index]⟩, ⟨41, b_14, [.int .u64 k_10.Saga, .int .i64 k_10.Step, .bool k_10.Back]⟩]) (ps := []) (by kernel_rfl) trivial ?_
              refine GoO.regionEnd ?_
              exact GoO.ret' (h := c23_56e) (hs := []) (ps := []) (hk := [0]) (bk := [0, 2, 3]) Try.func23 (⟨A_36, c_37, A_5, c_6, A_7, c_8⟩ : Option Addr × Nat × Option Addr × Nat × Option Addr × Nat) (by kernel_rfl) trivial (by kernel_rfl) (by kernel_rfl)
            · refine GoO.skip' c23_53e ?_
              refine GoO.seq' c23_54e ?_
              refine GoO.region' (is := [0, 1, 2, 3]) c23_55e (by kernel_rfl) ?_
              refine GoO.exec (is := [0, 1, 2, 3]) (hs := [.p, .p, .p, .p]) (rest := []) (ks := [10, 11]) (env' := [(10, .bool (!fail_12)), (11, .int .i64 0)]) (H' := [⟨1, b_2, [.int .u64 t_9.Term, .int .u64 t_9.Index, .slice A_3 l_1.effects.length c_4, .map (mA A_5), .map (mA A_7)]⟩, ⟨40, b_13, [.int .u64 t_9.Term, .int .u64 t_9.Index]⟩, ⟨41, b_14, [.int .u64 k_10.Saga, .int .i64 k_10.Step, .bool k_10.Back]⟩]) (ps := []) (by kernel_rfl) trivial ?_
              refine GoO.regionEnd ?_
              exact GoO.ret' (h := c23_56e) (hs := []) (ps := []) (hk := [0]) (bk := [0, 1, 2]) Try.func23 (⟨A_3, c_4, A_5, c_6, A_7, c_8⟩ : Option Addr × Nat × Option Addr × Nat × Option Addr × Nat) (by kernel_rfl) trivial (by kernel_rfl) (by kernel_rfl)
theorem ledger_Ledger_Ask_ok (n : Nat) (l_1 : T_ledger_Ledger) (t_9 : T_api_Token) (k_10 : T_api_Key) (name_11 : (List UInt8)) (fail_12 : Bool) (b_2 : Nat) (A_3 : Option Addr) (c_4 : Nat) (A_5 : Option Addr) (c_6 : Nat) (A_7 : Option Addr) (c_8 : Nat) :
    Meets Try.prog 23 [.pointer (some ⟨b_2, 0, none⟩), .agg ⟨[.int .u64 t_9.Term, .int .u64 t_9.Index]⟩, .agg ⟨[.int .u64 k_10.Saga, .int .i64 k_10.Step, .bool k_10.Back]⟩, .string (bs name_11), .bool fail_12] 4 [1, 2, 3, 4] [⟨1, b_2, [.int .u64 l_1.fence.Term, .int .u64 l_1.fence.Index, .slice A_3 l_1.effects.length c_4, .map (mA A_5), .map (mA A_7)]⟩] [Ow 2 kT_ledger_Effect A_3 c_4 l_1.effects, Mp 3 ky41 (fun v => .bool v) A_5 c_6 l_1.said, Mp 4 ky41 (fun v => .bool v) A_7 c_8 l_1.tombs] (ledger_Ledger_Ask.f n l_1 t_9 k_10 name_11 fail_12) (ledger_Ledger_Ask.R b_2 A_3 c_4 A_5 c_6 A_7 c_8) := by
  refine Meets.of (c := c23_0) (n := 90) Try.func23 (by kernel_rfl) (by kernel_rfl) (by kernel_rfl) fun w0 S0 => ?_
  unfold ledger_Ledger_Ask.f
  show GoO (ledger_Ledger_Ask.cx b_2 A_3 c_4 A_5 c_6 A_7 c_8 w0 S0) [(0, .pointer (some ⟨b_2, 0, none⟩)), (1, .agg ⟨[.int .u64 t_9.Term, .int .u64 t_9.Index]⟩), (2, .agg ⟨[.int .u64 k_10.Saga, .int .i64 k_10.Step, .bool k_10.Back]⟩), (3, .string (bs name_11)), (4, .bool fail_12)] [⟨1, b_2, [.int .u64 l_1.fence.Term, .int .u64 l_1.fence.Index, .slice A_3 l_1.effects.length c_4, .map (mA A_5), .map (mA A_7)]⟩] [Ow 2 kT_ledger_Effect A_3 c_4 l_1.effects, Mp 3 ky41 (fun v => .bool v) A_5 c_6 l_1.said, Mp 4 ky41 (fun v => .bool v) A_7 c_8 l_1.tombs] [.code c23_0] _
  refine GoO.seq' c23_0e ?_
  refine GoO.region' (is := [0, 1, 2, 3]) c23_1e (by kernel_rfl) ?_
  refine OpTo.go (GoO.new rfl 40 (cs := [.int .u64 t_9.Term, .int .u64 t_9.Index]) (by kernel_rfl) _ (fun _ => rfl) (fun b_13 => ?_))
  refine OpTo.go (GoO.new rfl 41 (cs := [.int .u64 k_10.Saga, .int .i64 k_10.Step, .bool k_10.Back]) (by kernel_rfl) _ (fun _ => rfl) (fun b_14 => ?_))
  refine GoO.exec (is := [2, 3]) (hs := [.p, .p]) (rest := []) (ks := [0, 3, 4, 6, 7]) (env' := [(0, .pointer (some ⟨b_2, 0, none⟩)), (3, .string (bs name_11)), (4, .bool fail_12), (6, .pointer (some ⟨b_13, 0, none⟩)), (7, .pointer (some ⟨b_14, 0, none⟩))]) (H' := [⟨41, b_14, [.int .u64 k_10.Saga, .int .i64 k_10.Step, .bool k_10.Back]⟩, ⟨40, b_13, [.int .u64 t_9.Term, .int .u64 t_9.Index]⟩, ⟨1, b_2, [.int .u64 l_1.fence.Term, .int .u64 l_1.fence.Index, .slice A_3 l_1.effects.length c_4, .map (mA A_5), .map (mA A_7)]⟩]) (ps := []) (by kernel_rfl) trivial ?_
  refine GoO.regionEnd ?_
  refine GoO.seq' c23_2e ?_
  refine GoO.seq' c23_3e ?_
  refine GoO.region' (is := [0, 1, 2, 3, 4, 5, 6, 7, 8, 9, 10, 11, 12, 13, 14, 15, 16]) c23_4e (by kernel_rfl) ?_
  refine GoO.exec (is := [0, 1, 2, 3, 4, 5, 6, 7]) (hs := [.p, .p, .p, .p, .b 0, .p, .p, .p]) (rest := [8, 9, 10, 11, 12, 13, 14, 15, 16]) (ks := [0, 3, 4, 6, 7, 21]) (env' := [(0, .pointer (some ⟨b_2, 0, none⟩)), (3, .string (bs name_11)), (4, .bool fail_12), (6, .pointer (some ⟨b_13, 0, none⟩)), (7, .pointer (some ⟨b_14, 0, none⟩)), (21, .bool (decide (k_10.Step < 0)))]) (H' := [⟨41, b_14, [.int .u64 k_10.Saga, .int .i64 k_10.Step, .bool k_10.Back]⟩, ⟨40, b_13, [.int .u64 t_9.Term, .int .u64 t_9.Index]⟩, ⟨1, b_2, [.int .u64 l_1.fence.Term, .int .u64 l_1.fence.Index, .slice A_3 l_1.effects.length c_4, .map (mA A_5), .map (mA A_7)]⟩]) (ps := [b_14 = b_14]) (by kernel_rfl) (And.intro rfl trivial) ?_
  refine GoO.bsplit (t := 21) (by kernel_rfl) (fun h15 => ?_) (fun h15 => ?_)
  · refine GoO.exec (is := [8, 9, 10, 11, 12, 13, 14, 15, 16]) (hs := [.p, .p, .p, .p, .p, .p, .p, .p, .p]) (rest := []) (ks := [0, 3, 4, 6, 7, 30]) (env' := [(0, .pointer (some ⟨b_2, 0, none⟩)), (3, .string (bs name_11)), (4, .bool fail_12), (6, .pointer (some ⟨b_13, 0, none⟩)), (7, .pointer (some ⟨b_14, 0, none⟩)), (30, .bool true)]) (H' := [⟨41, b_14, [.int .u64 k_10.Saga, .int .i64 k_10.Step, .bool k_10.Back]⟩, ⟨40, b_13, [.int .u64 t_9.Term, .int .u64 t_9.Index]⟩, ⟨1, b_2, [.int .u64 l_1.fence.Term, .int .u64 l_1.fence.Index, .slice A_3 l_1.effects.length c_4, .map (mA A_5), .map (mA A_7)]⟩]) (ps := []) (by kernel_rfl) trivial ?_
    refine GoO.regionEnd ?_
    exact GoO.sub (ks := [0, 3, 4, 6, 7, 30]) (hk := [2, 1, 0]) (bk := [0, 1, 2]) (by kernel_rfl) (by kernel_rfl) (by kernel_rfl) (ledger_Ledger_Ask_j0_ok n l_1 t_9 k_10 name_11 fail_12 b_2 A_3 c_4 A_5 c_6 A_7 c_8 b_13 b_14 w0 S0 true)
  · refine GoO.exec (is := [8, 9, 10, 11, 12]) (hs := [.p, .b 0, .p, .p, .p]) (rest := [13, 14, 15, 16]) (ks := [0, 3, 4, 6, 7, 26]) (env' := [(0, .pointer (some ⟨b_2, 0, none⟩)), (3, .string (bs name_11)), (4, .bool fail_12), (6, .pointer (some ⟨b_13, 0, none⟩)), (7, .pointer (some ⟨b_14, 0, none⟩)), (26, .bool (decide (k_10.Step ≥ 64)))]) (H' := [⟨41, b_14, [.int .u64 k_10.Saga, .int .i64 k_10.Step, .bool k_10.Back]⟩, ⟨40, b_13, [.int .u64 t_9.Term, .int .u64 t_9.Index]⟩, ⟨1, b_2, [.int .u64 l_1.fence.Term, .int .u64 l_1.fence.Index, .slice A_3 l_1.effects.length c_4, .map (mA A_5), .map (mA A_7)]⟩]) (ps := [b_14 = b_14]) (by kernel_rfl) (And.intro rfl trivial) ?_
    refine GoO.bsplit (t := 26) (by kernel_rfl) (fun h16 => ?_) (fun h16 => ?_)
    · refine GoO.exec (is := [13, 14, 15, 16]) (hs := [.p, .p, .p, .p]) (rest := []) (ks := [0, 3, 4, 6, 7, 30]) (env' := [(0, .pointer (some ⟨b_2, 0, none⟩)), (3, .string (bs name_11)), (4, .bool fail_12), (6, .pointer (some ⟨b_13, 0, none⟩)), (7, .pointer (some ⟨b_14, 0, none⟩)), (30, .bool true)]) (H' := [⟨41, b_14, [.int .u64 k_10.Saga, .int .i64 k_10.Step, .bool k_10.Back]⟩, ⟨40, b_13, [.int .u64 t_9.Term, .int .u64 t_9.Index]⟩, ⟨1, b_2, [.int .u64 l_1.fence.Term, .int .u64 l_1.fence.Index, .slice A_3 l_1.effects.length c_4, .map (mA A_5), .map (mA A_7)]⟩]) (ps := []) (by kernel_rfl) trivial ?_
      refine GoO.regionEnd ?_
      exact GoO.sub (ks := [0, 3, 4, 6, 7, 30]) (hk := [2, 1, 0]) (bk := [0, 1, 2]) (by kernel_rfl) (by kernel_rfl) (by kernel_rfl) (ledger_Ledger_Ask_j0_ok n l_1 t_9 k_10 name_11 fail_12 b_2 A_3 c_4 A_5 c_6 A_7 c_8 b_13 b_14 w0 S0 true)
    · refine GoO.exec (is := [13, 14, 15, 16]) (hs := [.p, .p, .p, .p]) (rest := []) (ks := [0, 3, 4, 6, 7, 30]) (env' := [(0, .pointer (some ⟨b_2, 0, none⟩)), (3, .string (bs name_11)), (4, .bool fail_12), (6, .pointer (some ⟨b_13, 0, none⟩)), (7, .pointer (some ⟨b_14, 0, none⟩)), (30, .bool (decide ((name_11.length : Int) > 16)))]) (H' := [⟨41, b_14, [.int .u64 k_10.Saga, .int .i64 k_10.Step, .bool k_10.Back]⟩, ⟨40, b_13, [.int .u64 t_9.Term, .int .u64 t_9.Index]⟩, ⟨1, b_2, [.int .u64 l_1.fence.Term, .int .u64 l_1.fence.Index, .slice A_3 l_1.effects.length c_4, .map (mA A_5), .map (mA A_7)]⟩]) (ps := []) (by kernel_rfl) trivial ?_
      refine GoO.regionEnd ?_
      exact GoO.sub (ks := [0, 3, 4, 6, 7, 30]) (hk := [2, 1, 0]) (bk := [0, 1, 2]) (by kernel_rfl) (by kernel_rfl) (by kernel_rfl) (ledger_Ledger_Ask_j0_ok n l_1 t_9 k_10 name_11 fail_12 b_2 A_3 c_4 A_5 c_6 A_7 c_8 b_13 b_14 w0 S0 (decide ((name_11.length : Int) > 16)))

/-! (*tontine/ledger.Ledger).Dead -/
noncomputable def c25_0 : Code := bodyOf Try.f25
noncomputable def c25_1 : Code := cdL c25_0
noncomputable def c25_2 : Code := cdR c25_0
noncomputable def c25_3 : Code := cdL c25_2
noncomputable def c25_4 : Code := cdR c25_2
noncomputable def r25_1 : Array Oper := cdO c25_1
noncomputable def r25_3 : Array Oper := cdO c25_3
theorem c25_0e : c25_0 = .seq c25_1 c25_2 := by kernel_rfl
theorem c25_1e : c25_1 = .region 0 r25_1 false := by kernel_rfl
theorem c25_2e : c25_2 = .seq c25_3 c25_4 := by kernel_rfl
theorem c25_3e : c25_3 = .region 1 r25_3 false := by kernel_rfl
theorem c25_4e : c25_4 = .ret := by kernel_rfl
noncomputable def ledger_Ledger_Dead.R (b_2 : Nat) (A_3 : Option Addr) (c_4 : Nat) (A_5 : Option Addr) (c_6 : Nat) (A_7 : Option Addr) (c_8 : Nat) : Pst Bool where
  ε := Unit
  v := fun r x => .bool r
  H := fun r x => []
  B := fun r x => []
noncomputable def ledger_Ledger_Dead.cx (b_2 : Nat) (A_3 : Option Addr) (c_4 : Nat) (A_5 : Option Addr) (c_6 : Nat) (A_7 : Option Addr) (c_8 : Nat) (w0 : World) (S0 : Fam) : Cx Bool := ⟨Try.prog, 25, Try.f25, 19, w0, S0, [], 4, ledger_Ledger_Dead.R b_2 A_3 c_4 A_5 c_6 A_7 c_8⟩
theorem ledger_Ledger_Dead_ok (n : Nat) (l_1 : T_ledger_Ledger) (saga_9 : Int) (step_10 : Int) (b_2 : Nat) (A_3 : Option Addr) (c_4 : Nat) (A_5 : Option Addr) (c_6 : Nat) (A_7 : Option Addr) (c_8 : Nat) :
    Meets Try.prog 25 [.pointer (some ⟨b_2, 0, none⟩), .int .u64 saga_9, .int .i64 step_10] 4 [] [⟨1, b_2, [.int .u64 l_1.fence.Term, .int .u64 l_1.fence.Index, .slice A_3 l_1.effects.length c_4, .map (mA A_5), .map (mA A_7)]⟩] [Ow 2 kT_ledger_Effect A_3 c_4 l_1.effects, Mp 3 ky41 (fun v => .bool v) A_5 c_6 l_1.said, Mp 4 ky41 (fun v => .bool v) A_7 c_8 l_1.tombs] (ledger_Ledger_Dead.f n l_1 saga_9 step_10) (ledger_Ledger_Dead.R b_2 A_3 c_4 A_5 c_6 A_7 c_8) := by
  refine Meets.of (c := c25_0) (n := 19) Try.func25 (by kernel_rfl) (by kernel_rfl) (by kernel_rfl) fun w0 S0 => ?_
  unfold ledger_Ledger_Dead.f
  show GoO (ledger_Ledger_Dead.cx b_2 A_3 c_4 A_5 c_6 A_7 c_8 w0 S0) [(0, .pointer (some ⟨b_2, 0, none⟩)), (1, .int .u64 saga_9), (2, .int .i64 step_10)] [⟨1, b_2, [.int .u64 l_1.fence.Term, .int .u64 l_1.fence.Index, .slice A_3 l_1.effects.length c_4, .map (mA A_5), .map (mA A_7)]⟩] [Ow 2 kT_ledger_Effect A_3 c_4 l_1.effects, Mp 3 ky41 (fun v => .bool v) A_5 c_6 l_1.said, Mp 4 ky41 (fun v => .bool v) A_7 c_8 l_1.tombs] [.code c25_0] _
  refine GoO.seq' c25_0e ?_
  refine GoO.region' (is := [0]) c25_1e (by kernel_rfl) ?_
  refine GoO.exec (is := [0]) (hs := [.p]) (rest := []) (ks := [0, 1, 2]) (env' := [(0, .pointer (some ⟨b_2, 0, none⟩)), (1, .int .u64 saga_9), (2, .int .i64 step_10)]) (H' := [⟨1, b_2, [.int .u64 l_1.fence.Term, .int .u64 l_1.fence.Index, .slice A_3 l_1.effects.length c_4, .map (mA A_5), .map (mA A_7)]⟩]) (ps := []) (by kernel_rfl) trivial ?_
  refine GoO.regionEnd ?_
  refine GoO.seq' c25_2e ?_
  refine GoO.region' (is := [0, 1, 2, 3, 4, 5, 6, 7, 8, 9, 10, 11, 12]) c25_3e (by kernel_rfl) ?_
  refine GoO.exec (is := [0, 1, 2, 3, 4, 5, 6, 7, 8, 9]) (hs := [.p, .p, .p, .p, .p, .p, .b 0, .p, .p, .p]) (rest := [10, 11, 12]) (ks := [9, 13, 16]) (env' := [(9, .bool true), (13, .map (mA A_7)), (16, .agg ⟨[.int .u64 saga_9, .int .i64 step_10, .bool false]⟩)]) (H' := [⟨1, b_2, [.int .u64 l_1.fence.Term, .int .u64 l_1.fence.Index, .slice A_3 l_1.effects.length c_4, .map (mA A_5), .map (mA A_7)]⟩]) (ps := [b_2 = b_2]) (by kernel_rfl) (And.intro rfl trivial) ?_
  refine OpTo.go (GoO.mapLk (vt := 4) (K := ky41) (ev := (fun v => .bool v)) (A := A_7) (c := c_8) (l := l_1.tombs) (key := (⟨saga_9, step_10, false⟩ : T_api_Key)) (j := 2) rfl (by kernel_rfl) (by kernel_rfl) (by kernel_rfl) rfl false (fun _ => by kernel_rfl) rfl ?_)
  refine GoO.exec (is := [11, 12]) (hs := [.p, .p]) (rest := []) (ks := [6]) (env' := [(6, .bool ((getA (⟨saga_9, step_10, false⟩ : T_api_Key) l_1.tombs).getD false))]) (H' := [⟨1, b_2, [.int .u64 l_1.fence.Term, .int .u64 l_1.fence.Index, .slice A_3 l_1.effects.length c_4, .map (mA A_5), .map (mA A_7)]⟩]) (ps := []) (by kernel_rfl) trivial ?_
  refine GoO.regionEnd ?_
  exact GoO.ret' (h := c25_4e) (hs := []) (ps := []) (hk := []) (bk := []) Try.func25 () (by kernel_rfl) trivial (by kernel_rfl) (by kernel_rfl)

/-! (*tontine/ledger.Ledger).Effects -/
noncomputable def c24_0 : Code := bodyOf Try.f24
noncomputable def c24_1 : Code := cdL c24_0
noncomputable def c24_2 : Code := cdR c24_0
noncomputable def c24_3 : Code := cdL c24_2
noncomputable def c24_4 : Code := cdL c24_3
noncomputable def c24_5 : Code := cdR c24_3
noncomputable def c24_9 : Code := cdR c24_5
noncomputable def c24_10 : Code := cdR c24_2
noncomputable def c24_11 : Code := cdL c24_10
noncomputable def c24_12 : Code := cdR c24_10
noncomputable def c24_6 : Code := cdL c24_5
noncomputable def r24_1 : Array Oper := cdO c24_1
noncomputable def r24_4 : Array Oper := cdO c24_4
noncomputable def r24_11 : Array Oper := cdO c24_11
theorem c24_0e : c24_0 = .seq c24_1 c24_2 := by kernel_rfl
theorem c24_1e : c24_1 = .region 0 r24_1 false := by kernel_rfl
theorem c24_2e : c24_2 = .seq c24_3 c24_10 := by kernel_rfl
theorem c24_3e : c24_3 = .seq c24_4 c24_5 := by kernel_rfl
theorem c24_4e : c24_4 = .region 1 r24_4 false := by kernel_rfl
theorem c24_5e : c24_5 = .cond (cdC c24_5) c24_6 c24_9 := by kernel_rfl
theorem c24_9e : c24_9 = .skip := by kernel_rfl
theorem c24_10e : c24_10 = .seq c24_11 c24_12 := by kernel_rfl
theorem c24_11e : c24_11 = .region 3 r24_11 false := by kernel_rfl
theorem c24_12e : c24_12 = .ret := by kernel_rfl
noncomputable def ledger_Ledger_Effects.R (b_2 : Nat) (A_3 : Option Addr) (c_4 : Nat) (A_5 : Option Addr) (c_6 : Nat) (A_7 : Option Addr) (c_8 : Nat) : Pst (List T_ledger_Effect) where
  ε := Option Addr × Nat
  v := fun r x => .slice x.1 r.length x.2
  H := fun r x => []
  B := fun r x => [Ow 5 kT_ledger_Effect x.1 x.2 r]
noncomputable def ledger_Ledger_Effects.cx (b_2 : Nat) (A_3 : Option Addr) (c_4 : Nat) (A_5 : Option Addr) (c_6 : Nat) (A_7 : Option Addr) (c_8 : Nat) (w0 : World) (S0 : Fam) : Cx (List T_ledger_Effect) := ⟨Try.prog, 24, Try.f24, 10, w0, S0, [], 4, ledger_Ledger_Effects.R b_2 A_3 c_4 A_5 c_6 A_7 c_8⟩
theorem ledger_Ledger_Effects_ok (n : Nat) (l_1 : T_ledger_Ledger) (b_2 : Nat) (A_3 : Option Addr) (c_4 : Nat) (A_5 : Option Addr) (c_6 : Nat) (A_7 : Option Addr) (c_8 : Nat) :
    Meets Try.prog 24 [.pointer (some ⟨b_2, 0, none⟩)] 4 [] [⟨1, b_2, [.int .u64 l_1.fence.Term, .int .u64 l_1.fence.Index, .slice A_3 l_1.effects.length c_4, .map (mA A_5), .map (mA A_7)]⟩] [Ow 2 kT_ledger_Effect A_3 c_4 l_1.effects, Mp 3 ky41 (fun v => .bool v) A_5 c_6 l_1.said, Mp 4 ky41 (fun v => .bool v) A_7 c_8 l_1.tombs] (ledger_Ledger_Effects.f n l_1) (ledger_Ledger_Effects.R b_2 A_3 c_4 A_5 c_6 A_7 c_8) := by
  refine Meets.of (c := c24_0) (n := 10) Try.func24 (by kernel_rfl) (by kernel_rfl) (by kernel_rfl) fun w0 S0 => ?_
  unfold ledger_Ledger_Effects.f
  show GoO (ledger_Ledger_Effects.cx b_2 A_3 c_4 A_5 c_6 A_7 c_8 w0 S0) [(0, .pointer (some ⟨b_2, 0, none⟩))] [⟨1, b_2, [.int .u64 l_1.fence.Term, .int .u64 l_1.fence.Index, .slice A_3 l_1.effects.length c_4, .map (mA A_5), .map (mA A_7)]⟩] [Ow 2 kT_ledger_Effect A_3 c_4 l_1.effects, Mp 3 ky41 (fun v => .bool v) A_5 c_6 l_1.said, Mp 4 ky41 (fun v => .bool v) A_7 c_8 l_1.tombs] [.code c24_0] _
  refine GoO.seq' c24_0e ?_
  refine GoO.region' (is := [0]) c24_1e (by kernel_rfl) ?_
  refine GoO.exec (is := [0]) (hs := [.p]) (rest := []) (ks := [0]) (env' := [(0, .pointer (some ⟨b_2, 0, none⟩))]) (H' := [⟨1, b_2, [.int .u64 l_1.fence.Term, .int .u64 l_1.fence.Index, .slice A_3 l_1.effects.length c_4, .map (mA A_5), .map (mA A_7)]⟩]) (ps := []) (by kernel_rfl) trivial ?_
  refine GoO.regionEnd ?_
  refine GoO.seq' c24_2e ?_
  refine GoO.seq' c24_3e ?_
  refine GoO.region' (is := [0, 1]) c24_4e (by kernel_rfl) ?_
  refine GoO.exec (is := [0, 1]) (hs := [.p, .p]) (rest := []) (ks := [0, 4]) (env' := [(0, .pointer (some ⟨b_2, 0, none⟩)), (4, .bool false)]) (H' := [⟨1, b_2, [.int .u64 l_1.fence.Term, .int .u64 l_1.fence.Index, .slice A_3 l_1.effects.length c_4, .map (mA A_5), .map (mA A_7)]⟩]) (ps := []) (by kernel_rfl) trivial ?_
  refine GoO.regionEnd ?_
  refine GoO.condF c24_5e (by kernel_rfl) ?_
  refine GoO.skip' c24_9e ?_
  refine GoO.seq' c24_10e ?_
  refine GoO.region' (is := [0, 1, 2, 3, 4, 5]) c24_11e (by kernel_rfl) ?_
  refine GoO.exec (is := [0, 1, 2, 3]) (hs := [.p, .p, .p, .b 0]) (rest := [4, 5]) (ks := [8]) (env' := [(8, .slice A_3 l_1.effects.length c_4)]) (H' := [⟨1, b_2, [.int .u64 l_1.fence.Term, .int .u64 l_1.fence.Index, .slice A_3 l_1.effects.length c_4, .map (mA A_5), .map (mA A_7)]⟩]) (ps := [b_2 = b_2]) (by kernel_rfl) (And.intro rfl trivial) ?_
  refine GoO.nilOwn kT_ledger_Effect 40 ?_
  refine GoO.guard (fun h9 => ?_)
  refine OpTo.go (GoO.appW (e := 56) (K := kT_ledger_Effect) (A := none) (c := 0) (tg := 40) (bytes := 40) (zs := [.int .u64 0, .int .i64 0, .bool false, .string (bs [])]) (xs := ([] : List T_ledger_Effect)) (ys := l_1.effects) (xv := .slice A_3 l_1.effects.length c_4) (j := 0) (bk := [1, 2, 3]) rfl (by kernel_rfl) (by kernel_rfl) (by kernel_rfl) (by kernel_rfl) rfl (by kernel_rfl) rfl (fun w S hB => SrcIs.row (Reads.own w S (hB _ (List.mem_of_getElem? (i := 1) rfl)))) h9 rfl rfl rfl rfl _ (fun _ _ => rfl) (fun A_10 c_11 => ?_))
  refine GoO.exec (is := [5]) (hs := [.p]) (rest := []) (ks := [2]) (env' := [(2, .slice A_10 (([] : List T_ledger_Effect) ++ l_1.effects).length c_11)]) (H' := [⟨1, b_2, [.int .u64 l_1.fence.Term, .int .u64 l_1.fence.Index, .slice A_3 l_1.effects.length c_4, .map (mA A_5), .map (mA A_7)]⟩]) (ps := []) (by kernel_rfl) trivial ?_
  refine GoO.regionEnd ?_
  refine GoO.retag (t := 40) (u := 5) (j := 0) (hk := [0]) (bk := [1, 2, 3]) rfl rfl rfl rfl rfl rfl (by kernel_rfl) (by kernel_rfl) ?_
  exact GoO.ret' (h := c24_12e) (hs := []) (ps := []) (hk := []) (bk := [0]) Try.func24 (⟨A_10, c_11⟩ : Option Addr × Nat) (by kernel_rfl) trivial (by kernel_rfl) (by kernel_rfl)

/-! tontine/tontinelaw18.begun -/
noncomputable def c21_0 : Code := bodyOf Try.f21
noncomputable def c21_1 : Code := cdL c21_0
noncomputable def c21_2 : Code := cdR c21_0
noncomputable def c21_3 : Code := cdL c21_2
noncomputable def c21_4 : Code := cdR c21_2
noncomputable def c21_5 : Code := cdL c21_4
noncomputable def c21_6 : Code := cdR c21_4
noncomputable def c21_7 : Code := cdL c21_6
noncomputable def c21_8 : Code := cdR c21_6
noncomputable def c21_9 : Code := cdL c21_8
noncomputable def c21_10 : Code := cdR c21_8
noncomputable def c21_11 : Code := cdL c21_10
noncomputable def c21_12 : Code := cdR c21_10
noncomputable def r21_1 : Array Oper := cdO c21_1
noncomputable def r21_3 : Array Oper := cdO c21_3
noncomputable def r21_5 : Array Oper := cdO c21_5
noncomputable def r21_7 : Array Oper := cdO c21_7
noncomputable def r21_9 : Array Oper := cdO c21_9
noncomputable def r21_11 : Array Oper := cdO c21_11
theorem c21_0e : c21_0 = .seq c21_1 c21_2 := by kernel_rfl
theorem c21_1e : c21_1 = .region 0 r21_1 false := by kernel_rfl
theorem c21_2e : c21_2 = .seq c21_3 c21_4 := by kernel_rfl
theorem c21_3e : c21_3 = .region 1 r21_3 false := by kernel_rfl
theorem c21_4e : c21_4 = .seq c21_5 c21_6 := by kernel_rfl
theorem c21_5e : c21_5 = .region 2 r21_5 false := by kernel_rfl
theorem c21_6e : c21_6 = .seq c21_7 c21_8 := by kernel_rfl
theorem c21_7e : c21_7 = .region 3 r21_7 false := by kernel_rfl
theorem c21_8e : c21_8 = .seq c21_9 c21_10 := by kernel_rfl
theorem c21_9e : c21_9 = .region 4 r21_9 false := by kernel_rfl
theorem c21_10e : c21_10 = .seq c21_11 c21_12 := by kernel_rfl
theorem c21_11e : c21_11 = .region 5 r21_11 false := by kernel_rfl
theorem c21_12e : c21_12 = .ret := by kernel_rfl
noncomputable def tontinelaw18_begun.R : Pst Bool where
  ε := Unit
  v := fun r x => .bool r
  H := fun r x => []
  B := fun r x => []
noncomputable def tontinelaw18_begun.cx (w0 : World) (S0 : Fam) : Cx Bool := ⟨Try.prog, 21, Try.f21, 56, w0, S0, [], 0, tontinelaw18_begun.R⟩
theorem tontinelaw18_begun_ok (n : Nat) :
    Meets Try.prog 21 [] 0 [] [] [] (tontinelaw18_begun.f n) (tontinelaw18_begun.R) := by
  refine Meets.of (c := c21_0) (n := 56) Try.func21 (by kernel_rfl) (by kernel_rfl) (by kernel_rfl) fun w0 S0 => ?_
  unfold tontinelaw18_begun.f
  show GoO (tontinelaw18_begun.cx w0 S0) [] [] [] [.code c21_0] _
  refine GoO.seq' c21_0e ?_
  refine GoO.region' (is := [0]) c21_1e (by kernel_rfl) ?_
  refine GoO.exec (is := [0]) (hs := [.p]) (rest := []) (ks := []) (env' := []) (H' := []) (ps := []) (by kernel_rfl) trivial ?_
  refine GoO.regionEnd ?_
  refine GoO.seq' c21_2e ?_
  refine GoO.region' (is := [0, 1]) c21_3e (by kernel_rfl) ?_
  refine OpTo.go (GoO.call rfl (by kernel_rfl) (by kernel_rfl) (ledger_New_ok n) [[0]] [(40, 1), (41, 2), (42, 3), (43, 4)] [] [] (hks := []) (bks := []) (by kernel_rfl) (by kernel_rfl) (by kernel_rfl) (.inl rfl) rfl rfl (by kernel_rfl) (by kernel_rfl) _ (fun _ _ => rfl) _ _ (fun _ _ => rfl) (fun _ _ => rfl) (fun _ _ => by kernel_rfl) (fun _ _ => by kernel_rfl) (fun r_1 x_45 => ?_))
  obtain ⟨b_2, A_3, c_4, A_5, c_6, A_7, c_8⟩ := x_45
  refine GoO.shape (env' := [(8, .pointer (some ⟨b_2, 0, none⟩))]) (H' := [⟨40, b_2, [.int .u64 r_1.fence.Term, .int .u64 r_1.fence.Index, .slice A_3 r_1.effects.length c_4, .map (mA A_5), .map (mA A_7)]⟩]) (B' := [Ow 41 kT_ledger_Effect A_3 c_4 r_1.effects, Mp 42 ky41 (fun v => .bool v) A_5 c_6 r_1.said, Mp 43 ky41 (fun v => .bool v) A_7 c_8 r_1.tombs]) (ks := [8]) (by kernel_rfl) (by kernel_rfl) (by kernel_rfl) ?_
  refine GoO.exec (is := [1]) (hs := [.p]) (rest := []) (ks := [1]) (env' := [(1, .pointer (some ⟨b_2, 0, none⟩))]) (H' := [⟨40, b_2, [.int .u64 r_1.fence.Term, .int .u64 r_1.fence.Index, .slice A_3 r_1.effects.length c_4, .map (mA A_5), .map (mA A_7)]⟩]) (ps := []) (by kernel_rfl) trivial ?_
  refine GoO.regionEnd ?_
  refine GoO.seq' c21_4e ?_
  refine GoO.region' (is := [0, 1, 2, 3, 4, 5, 6, 7, 8]) c21_5e (by kernel_rfl) ?_
  refine GoO.exec (is := [0, 1, 2]) (hs := [.p, .p, .p]) (rest := [3, 4, 5, 6, 7, 8]) (ks := [1, 10, 11, 12]) (env' := [(1, .pointer (some ⟨b_2, 0, none⟩)), (10, .pointer (some ⟨b_2, 0, none⟩)), (11, .agg ⟨[.int .u64 2, .int .u64 5]⟩), (12, .agg ⟨[.int .u64 1, .int .i64 0, .bool false]⟩)]) (H' := [⟨40, b_2, [.int .u64 r_1.fence.Term, .int .u64 r_1.fence.Index, .slice A_3 r_1.effects.length c_4, .map (mA A_5), .map (mA A_7)]⟩]) (ps := []) (by kernel_rfl) trivial ?_
  refine OpTo.go (GoO.call rfl (by kernel_rfl) (by kernel_rfl) (ledger_Ledger_Ask_ok n (⟨(⟨r_1.fence.Term, r_1.fence.Index⟩ : T_api_Token), r_1.effects, r_1.said, r_1.tombs⟩ : T_ledger_Ledger) (⟨2, 5⟩ : T_api_Token) (⟨1, 0, false⟩ : T_api_Key) [115] false b_2 A_3 c_4 A_5 c_6 A_7 c_8) [[0], [40], [41], [42], [43]] [(40, 1), (41, 2), (42, 3), (43, 4)] [(1, 0)] [(2, 0), (3, 1), (4, 2)] (hks := []) (bks := []) (by kernel_rfl) (by kernel_rfl) (by kernel_rfl) (.inl rfl) rfl rfl (by kernel_rfl) (by kernel_rfl) _ (fun _ _ => rfl) _ _ (fun _ _ => rfl) (fun _ _ => rfl) (fun _ _ => by kernel_rfl) (fun _ _ => by kernel_rfl) (fun r_9 x_44 => ?_))
  obtain ⟨A_10, c_11, A_12, c_13, A_14, c_15⟩ := x_44
  refine GoO.shape (env' := [(1, .pointer (some ⟨b_2, 0, none⟩)), (10, .pointer (some ⟨b_2, 0, none⟩)), (11, .agg ⟨[.int .u64 2, .int .u64 5]⟩), (12, .agg ⟨[.int .u64 1, .int .i64 0, .bool false]⟩), (13, .tuple ⟨[.bool r_9.1, .int .i64 r_9.2.1]⟩)]) (H' := [⟨40, b_2, [.int .u64 r_9.2.2.fence.Term, .int .u64 r_9.2.2.fence.Index, .slice A_10 r_9.2.2.effects.length c_11, .map (mA A_12), .map (mA A_14)]⟩]) (B' := [Ow 41 kT_ledger_Effect A_10 c_11 r_9.2.2.effects, Mp 42 ky41 (fun v => .bool v) A_12 c_13 r_9.2.2.said, Mp 43 ky41 (fun v => .bool v) A_14 c_15 r_9.2.2.tombs]) (ks := [1, 10, 11, 12, 13]) (by kernel_rfl) (by kernel_rfl) (by kernel_rfl) ?_
  refine GoO.exec (is := [4, 5, 6, 7, 8]) (hs := [.p, .p, .p, .p, .p]) (rest := []) (ks := [1, 2, 3]) (env' := [(1, .pointer (some ⟨b_2, 0, none⟩)), (2, .bool r_9.1), (3, .int .i64 r_9.2.1)]) (H' := [⟨40, b_2, [.int .u64 r_9.2.2.fence.Term, .int .u64 r_9.2.2.fence.Index, .slice A_10 r_9.2.2.effects.length c_11, .map (mA A_12), .map (mA A_14)]⟩]) (ps := []) (by kernel_rfl) trivial ?_
  refine GoO.regionEnd ?_
  refine GoO.seq' c21_6e ?_
  refine GoO.region' (is := [0, 1, 2, 3, 4, 5, 6, 7, 8]) c21_7e (by kernel_rfl) ?_
  refine GoO.exec (is := [0, 1, 2]) (hs := [.p, .p, .p]) (rest := [3, 4, 5, 6, 7, 8]) (ks := [1, 2, 3, 17, 18, 19]) (env' := [(1, .pointer (some ⟨b_2, 0, none⟩)), (2, .bool r_9.1), (3, .int .i64 r_9.2.1), (17, .pointer (some ⟨b_2, 0, none⟩)), (18, .agg ⟨[.int .u64 1, .int .u64 9]⟩), (19, .agg ⟨[.int .u64 1, .int .i64 1, .bool false]⟩)]) (H' := [⟨40, b_2, [.int .u64 r_9.2.2.fence.Term, .int .u64 r_9.2.2.fence.Index, .slice A_10 r_9.2.2.effects.length c_11, .map (mA A_12), .map (mA A_14)]⟩]) (ps := []) (by kernel_rfl) trivial ?_
  refine OpTo.go (GoO.call rfl (by kernel_rfl) (by kernel_rfl) (ledger_Ledger_Ask_ok n (⟨(⟨r_9.2.2.fence.Term, r_9.2.2.fence.Index⟩ : T_api_Token), r_9.2.2.effects, r_9.2.2.said, r_9.2.2.tombs⟩ : T_ledger_Ledger) (⟨1, 9⟩ : T_api_Token) (⟨1, 1, false⟩ : T_api_Key) [116] false b_2 A_10 c_11 A_12 c_13 A_14 c_15) [[0], [40], [41], [42], [43]] [(40, 1), (41, 2), (42, 3), (43, 4)] [(1, 0)] [(2, 0), (3, 1), (4, 2)] (hks := []) (bks := []) (by kernel_rfl) (by kernel_rfl) (by kernel_rfl) (.inl rfl) rfl rfl (by kernel_rfl) (by kernel_rfl) _ (fun _ _ => rfl) _ _ (fun _ _ => rfl) (fun _ _ => rfl) (fun _ _ => by kernel_rfl) (fun _ _ => by kernel_rfl) (fun r_16 x_43 => ?_))
  obtain ⟨A_17, c_18, A_19, c_20, A_21, c_22⟩ := x_43
  refine GoO.shape (env' := [(1, .pointer (some ⟨b_2, 0, none⟩)), (2, .bool r_9.1), (3, .int .i64 r_9.2.1), (17, .pointer (some ⟨b_2, 0, none⟩)), (18, .agg ⟨[.int .u64 1, .int .u64 9]⟩), (19, .agg ⟨[.int .u64 1, .int .i64 1, .bool false]⟩), (20, .tuple ⟨[.bool r_16.1, .int .i64 r_16.2.1]⟩)]) (H' := [⟨40, b_2, [.int .u64 r_16.2.2.fence.Term, .int .u64 r_16.2.2.fence.Index, .slice A_17 r_16.2.2.effects.length c_18, .map (mA A_19), .map (mA A_21)]⟩]) (B' := [Ow 41 kT_ledger_Effect A_17 c_18 r_16.2.2.effects, Mp 42 ky41 (fun v => .bool v) A_19 c_20 r_16.2.2.said, Mp 43 ky41 (fun v => .bool v) A_21 c_22 r_16.2.2.tombs]) (ks := [1, 2, 3, 17, 18, 19, 20]) (by kernel_rfl) (by kernel_rfl) (by kernel_rfl) ?_
  refine GoO.exec (is := [4, 5, 6, 7, 8]) (hs := [.p, .p, .p, .p, .p]) (rest := []) (ks := [1, 2, 3, 5]) (env' := [(1, .pointer (some ⟨b_2, 0, none⟩)), (2, .bool r_9.1), (3, .int .i64 r_9.2.1), (5, .int .i64 r_16.2.1)]) (H' := [⟨40, b_2, [.int .u64 r_16.2.2.fence.Term, .int .u64 r_16.2.2.fence.Index, .slice A_17 r_16.2.2.effects.length c_18, .map (mA A_19), .map (mA A_21)]⟩]) (ps := []) (by kernel_rfl) trivial ?_
  refine GoO.regionEnd ?_
  refine GoO.seq' c21_8e ?_
  refine GoO.region' (is := [0, 1, 2, 3, 4, 5, 6, 7, 8]) c21_9e (by kernel_rfl) ?_
  refine GoO.exec (is := [0, 1, 2]) (hs := [.p, .p, .p]) (rest := [3, 4, 5, 6, 7, 8]) (ks := [1, 2, 3, 5, 24, 25, 26]) (env' := [(1, .pointer (some ⟨b_2, 0, none⟩)), (2, .bool r_9.1), (3, .int .i64 r_9.2.1), (5, .int .i64 r_16.2.1), (24, .pointer (some ⟨b_2, 0, none⟩)), (25, .agg ⟨[.int .u64 2, .int .u64 5]⟩), (26, .agg ⟨[.int .u64 1, .int .i64 1, .bool true]⟩)]) (H' := [⟨40, b_2, [.int .u64 r_16.2.2.fence.Term, .int .u64 r_16.2.2.fence.Index, .slice A_17 r_16.2.2.effects.length c_18, .map (mA A_19), .map (mA A_21)]⟩]) (ps := []) (by kernel_rfl) trivial ?_
  refine OpTo.go (GoO.call rfl (by kernel_rfl) (by kernel_rfl) (ledger_Ledger_Ask_ok n (⟨(⟨r_16.2.2.fence.Term, r_16.2.2.fence.Index⟩ : T_api_Token), r_16.2.2.effects, r_16.2.2.said, r_16.2.2.tombs⟩ : T_ledger_Ledger) (⟨2, 5⟩ : T_api_Token) (⟨1, 1, true⟩ : T_api_Key) [116] false b_2 A_17 c_18 A_19 c_20 A_21 c_22) [[0], [40], [41], [42], [43]] [(40, 1), (41, 2), (42, 3), (43, 4)] [(1, 0)] [(2, 0), (3, 1), (4, 2)] (hks := []) (bks := []) (by kernel_rfl) (by kernel_rfl) (by kernel_rfl) (.inl rfl) rfl rfl (by kernel_rfl) (by kernel_rfl) _ (fun _ _ => rfl) _ _ (fun _ _ => rfl) (fun _ _ => rfl) (fun _ _ => by kernel_rfl) (fun _ _ => by kernel_rfl) (fun r_23 x_42 => ?_))
  obtain ⟨A_24, c_25, A_26, c_27, A_28, c_29⟩ := x_42
  refine GoO.shape (env' := [(1, .pointer (some ⟨b_2, 0, none⟩)), (2, .bool r_9.1), (3, .int .i64 r_9.2.1), (5, .int .i64 r_16.2.1), (24, .pointer (some ⟨b_2, 0, none⟩)), (25, .agg ⟨[.int .u64 2, .int .u64 5]⟩), (26, .agg ⟨[.int .u64 1, .int .i64 1, .bool true]⟩), (27, .tuple ⟨[.bool r_23.1, .int .i64 r_23.2.1]⟩)]) (H' := [⟨40, b_2, [.int .u64 r_23.2.2.fence.Term, .int .u64 r_23.2.2.fence.Index, .slice A_24 r_23.2.2.effects.length c_25, .map (mA A_26), .map (mA A_28)]⟩]) (B' := [Ow 41 kT_ledger_Effect A_24 c_25 r_23.2.2.effects, Mp 42 ky41 (fun v => .bool v) A_26 c_27 r_23.2.2.said, Mp 43 ky41 (fun v => .bool v) A_28 c_29 r_23.2.2.tombs]) (ks := [1, 2, 3, 5, 24, 25, 26, 27]) (by kernel_rfl) (by kernel_rfl) (by kernel_rfl) ?_
  refine GoO.exec (is := [4, 5, 6, 7, 8]) (hs := [.p, .p, .p, .p, .p]) (rest := []) (ks := [1, 2, 3, 5, 6, 7]) (env' := [(1, .pointer (some ⟨b_2, 0, none⟩)), (2, .bool r_9.1), (3, .int .i64 r_9.2.1), (5, .int .i64 r_16.2.1), (6, .bool r_23.1), (7, .int .i64 r_23.2.1)]) (H' := [⟨40, b_2, [.int .u64 r_23.2.2.fence.Term, .int .u64 r_23.2.2.fence.Index, .slice A_24 r_23.2.2.effects.length c_25, .map (mA A_26), .map (mA A_28)]⟩]) (ps := []) (by kernel_rfl) trivial ?_
  refine GoO.regionEnd ?_
  refine GoO.seq' c21_10e ?_
  refine GoO.region' (is := [0, 1, 2, 3, 4, 5, 6, 7, 8, 9, 10, 11, 12, 13, 14, 15, 16, 17, 18, 19, 20, 21, 22, 23, 24, 25, 26]) c21_11e (by kernel_rfl) ?_
  refine GoO.exec (is := [0, 1]) (hs := [.p, .p]) (rest := [2, 3, 4, 5, 6, 7, 8, 9, 10, 11, 12, 13, 14, 15, 16, 17, 18, 19, 20, 21, 22, 23, 24, 25, 26]) (ks := [1, 3, 5, 6, 7, 31]) (env' := [(1, .pointer (some ⟨b_2, 0, none⟩)), (3, .int .i64 r_9.2.1), (5, .int .i64 r_16.2.1), (6, .bool r_23.1), (7, .int .i64 r_23.2.1), (31, .bool r_9.1)]) (H' := [⟨40, b_2, [.int .u64 r_23.2.2.fence.Term, .int .u64 r_23.2.2.fence.Index, .slice A_24 r_23.2.2.effects.length c_25, .map (mA A_26), .map (mA A_28)]⟩]) (ps := []) (by kernel_rfl) trivial ?_
  refine GoO.bsplit (t := 31) (by kernel_rfl) (fun h30 => ?_) (fun h30 => ?_)
  · refine GoO.exec (is := [2, 3, 4, 5]) (hs := [.p, .p, .p, .p]) (rest := [6, 7, 8, 9, 10, 11, 12, 13, 14, 15, 16, 17, 18, 19, 20, 21, 22, 23, 24, 25, 26]) (ks := [1, 5, 6, 7, 35]) (env' := [(1, .pointer (some ⟨b_2, 0, none⟩)), (5, .int .i64 r_16.2.1), (6, .bool r_23.1), (7, .int .i64 r_23.2.1), (35, .bool (r_9.2.1 == 0))]) (H' := [⟨40, b_2, [.int .u64 r_23.2.2.fence.Term, .int .u64 r_23.2.2.fence.Index, .slice A_24 r_23.2.2.effects.length c_25, .map (mA A_26), .map (mA A_28)]⟩]) (ps := []) (by kernel_rfl) trivial ?_
    refine GoO.bsplit (t := 35) (by kernel_rfl) (fun h31 => ?_) (fun h31 => ?_)
    · refine GoO.exec (is := [6, 7, 8, 9]) (hs := [.p, .p, .p, .p]) (rest := [10, 11, 12, 13, 14, 15, 16, 17, 18, 19, 20, 21, 22, 23, 24, 25, 26]) (ks := [1, 6, 7, 39]) (env' := [(1, .pointer (some ⟨b_2, 0, none⟩)), (6, .bool r_23.1), (7, .int .i64 r_23.2.1), (39, .bool (r_16.2.1 == 50))]) (H' := [⟨40, b_2, [.int .u64 r_23.2.2.fence.Term, .int .u64 r_23.2.2.fence.Index, .slice A_24 r_23.2.2.effects.length c_25, .map (mA A_26), .map (mA A_28)]⟩]) (ps := []) (by kernel_rfl) trivial ?_
      refine GoO.bsplit (t := 39) (by kernel_rfl) (fun h32 => ?_) (fun h32 => ?_)
      · refine GoO.exec (is := [10, 11, 12]) (hs := [.p, .p, .p]) (rest := [13, 14, 15, 16, 17, 18, 19, 20, 21, 22, 23, 24, 25, 26]) (ks := [1, 7, 42]) (env' := [(1, .pointer (some ⟨b_2, 0, none⟩)), (7, .int .i64 r_23.2.1), (42, .bool r_23.1)]) (H' := [⟨40, b_2, [.int .u64 r_23.2.2.fence.Term, .int .u64 r_23.2.2.fence.Index, .slice A_24 r_23.2.2.effects.length c_25, .map (mA A_26), .map (mA A_28)]⟩]) (ps := []) (by kernel_rfl) trivial ?_
        refine GoO.bsplit (t := 42) (by kernel_rfl) (fun h33 => ?_) (fun h33 => ?_)
        · refine GoO.exec (is := [13, 14, 15, 16]) (hs := [.p, .p, .p, .p]) (rest := [17, 18, 19, 20, 21, 22, 23, 24, 25, 26]) (ks := [1, 46]) (env' := [(1, .pointer (some ⟨b_2, 0, none⟩)), (46, .bool (r_23.2.1 == 0))]) (H' := [⟨40, b_2, [.int .u64 r_23.2.2.fence.Term, .int .u64 r_23.2.2.fence.Index, .slice A_24 r_23.2.2.effects.length c_25, .map (mA A_26), .map (mA A_28)]⟩]) (ps := []) (by kernel_rfl) trivial ?_
          refine GoO.bsplit (t := 46) (by kernel_rfl) (fun h34 => ?_) (fun h34 => ?_)
          · refine GoO.exec (is := [17]) (hs := [.p]) (rest := [18, 19, 20, 21, 22, 23, 24, 25, 26]) (ks := [1, 46, 47]) (env' := [(1, .pointer (some ⟨b_2, 0, none⟩)), (46, .bool true), (47, .pointer (some ⟨b_2, 0, none⟩))]) (H' := [⟨40, b_2, [.int .u64 r_23.2.2.fence.Term, .int .u64 r_23.2.2.fence.Index, .slice A_24 r_23.2.2.effects.length c_25, .map (mA A_26), .map (mA A_28)]⟩]) (ps := []) (by kernel_rfl) trivial ?_
            refine OpTo.go (GoO.call rfl (by kernel_rfl) (by kernel_rfl) (ledger_Ledger_Dead_ok n (⟨(⟨r_23.2.2.fence.Term, r_23.2.2.fence.Index⟩ : T_api_Token), r_23.2.2.effects, r_23.2.2.said, r_23.2.2.tombs⟩ : T_ledger_Ledger) 1 1 b_2 A_24 c_25 A_26 c_27 A_28 c_29) [[0], [40], [41], [42], [43]] [] [(1, 0)] [(2, 0), (3, 1), (4, 2)] (hks := [0]) (bks := [0, 1, 2]) (by kernel_rfl) (by kernel_rfl) (by kernel_rfl) (.inl rfl) rfl rfl (by kernel_rfl) (by kernel_rfl) _ (fun _ _ => rfl) _ _ (fun _ _ => rfl) (fun _ _ => rfl) (fun _ _ => by kernel_rfl) (fun _ _ => by kernel_rfl) (fun r_35 x_41 => ?_))
            refine GoO.shape (env' := [(1, .pointer (some ⟨b_2, 0, none⟩)), (46, .bool true), (47, .pointer (some ⟨b_2, 0, none⟩)), (48, .bool r_35)]) (H' := [⟨40, b_2, [.int .u64 r_23.2.2.fence.Term, .int .u64 r_23.2.2.fence.Index, .slice A_24 r_23.2.2.effects.length c_25, .map (mA A_26), .map (mA A_28)]⟩]) (B' := [Ow 41 kT_ledger_Effect A_24 c_25 r_23.2.2.effects, Mp 42 ky41 (fun v => .bool v) A_26 c_27 r_23.2.2.said, Mp 43 ky41 (fun v => .bool v) A_28 c_29 r_23.2.2.tombs]) (ks := [1, 46, 47, 48]) (by kernel_rfl) (by kernel_rfl) (by kernel_rfl) ?_
            refine GoO.exec (is := [19, 20]) (hs := [.p, .p]) (rest := [21, 22, 23, 24, 25, 26]) (ks := [1, 50]) (env' := [(1, .pointer (some ⟨b_2, 0, none⟩)), (50, .bool r_35)]) (H' := [⟨40, b_2, [.int .u64 r_23.2.2.fence.Term, .int .u64 r_23.2.2.fence.Index, .slice A_24 r_23.2.2.effects.length c_25, .map (mA A_26), .map (mA A_28)]⟩]) (ps := []) (by kernel_rfl) trivial ?_
            refine GoO.bsplit (t := 50) (by kernel_rfl) (fun h36 => ?_) (fun h36 => ?_)
            · refine GoO.exec (is := [21]) (hs := [.p]) (rest := [22, 23, 24, 25, 26]) (ks := [50, 51]) (env' := [(50, .bool true), (51, .pointer (some ⟨b_2, 0, none⟩))]) (H' := [⟨40, b_2, [.int .u64 r_23.2.2.fence.Term, .int .u64 r_23.2.2.fence.Index, .slice A_24 r_23.2.2.effects.length c_25, .map (mA A_26), .map (mA A_28)]⟩]) (ps := []) (by kernel_rfl) trivial ?_
              refine OpTo.go (GoO.call rfl (by kernel_rfl) (by kernel_rfl) (ledger_Ledger_Effects_ok n (⟨(⟨r_23.2.2.fence.Term, r_23.2.2.fence.Index⟩ : T_api_Token), r_23.2.2.effects, r_23.2.2.said, r_23.2.2.tombs⟩ : T_ledger_Ledger) b_2 A_24 c_25 A_26 c_27 A_28 c_29) [[0], [40], [41], [42], [43]] [(44, 5)] [(1, 0)] [(2, 0), (3, 1), (4, 2)] (hks := [0]) (bks := [0, 1, 2]) (by kernel_rfl) (by kernel_rfl) (by kernel_rfl) (.inl rfl) rfl rfl (by kernel_rfl) (by kernel_rfl) _ (fun _ _ => rfl) _ _ (fun _ _ => rfl) (fun _ _ => rfl) (fun _ _ => by kernel_rfl) (fun _ _ => by kernel_rfl) (fun r_37 x_40 => ?_))
              obtain ⟨A_38, c_39⟩ := x_40
              refine GoO.shape (env' := [(50, .bool true), (51, .pointer (some ⟨b_2, 0, none⟩)), (52, .slice A_38 r_37.length c_39)]) (H' := [⟨40, b_2, [.int .u64 r_23.2.2.fence.Term, .int .u64 r_23.2.2.fence.Index, .slice A_24 r_23.2.2.effects.length c_25, .map (mA A_26), .map (mA A_28)]⟩]) (B' := [Ow 44 kT_ledger_Effect A_38 c_39 r_37, Ow 41 kT_ledger_Effect A_24 c_25 r_23.2.2.effects, Mp 42 ky41 (fun v => .bool v) A_26 c_27 r_23.2.2.said, Mp 43 ky41 (fun v => .bool v) A_28 c_29 r_23.2.2.tombs]) (ks := [50, 51, 52]) (by kernel_rfl) (by kernel_rfl) (by kernel_rfl) ?_
              refine GoO.exec (is := [23, 24, 25, 26]) (hs := [.p, .p, .p, .p]) (rest := []) (ks := [0]) (env' := [(0, .bool ((r_37.length : Int) == 1))]) (H' := [⟨40, b_2, [.int .u64 r_23.2.2.fence.Term, .int .u64 r_23.2.2.fence.Index, .slice A_24 r_23.2.2.effects.length c_25, .map (mA A_26), .map (mA A_28)]⟩]) (ps := []) (by kernel_rfl) trivial ?_
              refine GoO.regionEnd ?_
              exact GoO.ret' (h := c21_12e) (hs := []) (ps := []) (hk := []) (bk := []) Try.func21 () (by kernel_rfl) trivial (by kernel_rfl) (by kernel_rfl)
            · refine GoO.exec (is := [21, 22, 23, 24, 25, 26]) (hs := [.p, .p, .p, .p, .p, .p]) (rest := []) (ks := [0]) (env' := [(0, .bool false)]) (H' := [⟨40, b_2, [.int .u64 r_23.2.2.fence.Term, .int .u64 r_23.2.2.fence.Index, .slice A_24 r_23.2.2.effects.length c_25, .map (mA A_26), .map (mA A_28)]⟩]) (ps := []) (by kernel_rfl) trivial ?_
              refine GoO.regionEnd ?_
              exact GoO.ret' (h := c21_12e) (hs := []) (ps := []) (hk := []) (bk := []) Try.func21 () (by kernel_rfl) trivial (by kernel_rfl) (by kernel_rfl)
          · refine GoO.exec (is := [17, 18, 19, 20, 21, 22, 23, 24, 25, 26]) (hs := [.p, .p, .p, .p, .p, .p, .p, .p, .p, .p]) (rest := []) (ks := [0]) (env' := [(0, .bool false)]) (H' := [⟨40, b_2, [.int .u64 r_23.2.2.fence.Term, .int .u64 r_23.2.2.fence.Index, .slice A_24 r_23.2.2.effects.length c_25, .map (mA A_26), .map (mA A_28)]⟩]) (ps := []) (by kernel_rfl) trivial ?_
            refine GoO.regionEnd ?_
            exact GoO.ret' (h := c21_12e) (hs := []) (ps := []) (hk := []) (bk := []) Try.func21 () (by kernel_rfl) trivial (by kernel_rfl) (by kernel_rfl)
        · refine GoO.exec (is := [13, 14, 15, 16, 17, 18, 19, 20, 21, 22, 23, 24, 25, 26]) (hs := [.p, .p, .p, .p, .p, .p, .p, .p, .p, .p, .p, .p, .p, .p]) (rest := []) (ks := [0]) (env' := [(0, .bool false)]) (H' := [⟨40, b_2, [.int .u64 r_23.2.2.fence.Term, .int .u64 r_23.2.2.fence.Index, .slice A_24 r_23.2.2.effects.length c_25, .map (mA A_26), .map (mA A_28)]⟩]) (ps := []) (by kernel_rfl) trivial ?_
          refine GoO.regionEnd ?_
          exact GoO.ret' (h := c21_12e) (hs := []) (ps := []) (hk := []) (bk := []) Try.func21 () (by kernel_rfl) trivial (by kernel_rfl) (by kernel_rfl)
      · refine GoO.exec (is := [10, 11, 12, 13, 14, 15, 16, 17, 18, 19, 20, 21, 22, 23, 24, 25, 26]) (hs := [.p, .p, .p, .p, .p, .p, .p, .p, .p, .p, .p, .p, .p, .p, .p, .p, .p]) (rest := []) (ks := [0]) (env' := [(0, .bool false)]) (H' := [⟨40, b_2, [.int .u64 r_23.2.2.fence.Term, .int .u64 r_23.2.2.fence.Index, .slice A_24 r_23.2.2.effects.length c_25, .map (mA A_26), .map (mA A_28)]⟩]) (ps := []) (by kernel_rfl) trivial ?_
        refine GoO.regionEnd ?_
        exact GoO.ret' (h := c21_12e) (hs := []) (ps := []) (hk := []) (bk := []) Try.func21 () (by kernel_rfl) trivial (by kernel_rfl) (by kernel_rfl)
    · refine GoO.exec (is := [6, 7, 8, 9, 10, 11, 12, 13, 14, 15, 16, 17, 18, 19, 20, 21, 22, 23, 24, 25, 26]) (hs := [.p, .p, .p, .p, .p, .p, .p, .p, .p, .p, .p, .p, .p, .p, .p, .p, .p, .p, .p, .p, .p]) (rest := []) (ks := [0]) (env' := [(0, .bool false)]) (H' := [⟨40, b_2, [.int .u64 r_23.2.2.fence.Term, .int .u64 r_23.2.2.fence.Index, .slice A_24 r_23.2.2.effects.length c_25, .map (mA A_26), .map (mA A_28)]⟩]) (ps := []) (by kernel_rfl) trivial ?_
      refine GoO.regionEnd ?_
      exact GoO.ret' (h := c21_12e) (hs := []) (ps := []) (hk := []) (bk := []) Try.func21 () (by kernel_rfl) trivial (by kernel_rfl) (by kernel_rfl)
  · refine GoO.exec (is := [2, 3, 4, 5, 6, 7, 8, 9, 10, 11, 12, 13, 14, 15, 16, 17, 18, 19, 20, 21, 22, 23, 24, 25, 26]) (hs := [.p, .p, .p, .p, .p, .p, .p, .p, .p, .p, .p, .p, .p, .p, .p, .p, .p, .p, .p, .p, .p, .p, .p, .p, .p]) (rest := []) (ks := [0]) (env' := [(0, .bool false)]) (H' := [⟨40, b_2, [.int .u64 r_23.2.2.fence.Term, .int .u64 r_23.2.2.fence.Index, .slice A_24 r_23.2.2.effects.length c_25, .map (mA A_26), .map (mA A_28)]⟩]) (ps := []) (by kernel_rfl) trivial ?_
    refine GoO.regionEnd ?_
    exact GoO.ret' (h := c21_12e) (hs := []) (ps := []) (hk := []) (bk := []) Try.func21 () (by kernel_rfl) trivial (by kernel_rfl) (by kernel_rfl)

/-! tontine/tontinelaw18.LedgerOnce -/
noncomputable def c5_0 : Code := bodyOf Try.f5
noncomputable def c5_1 : Code := cdL c5_0
noncomputable def c5_2 : Code := cdR c5_0
noncomputable def c5_3 : Code := cdL c5_2
noncomputable def c5_4 : Code := cdL c5_3
noncomputable def c5_5 : Code := cdR c5_3
noncomputable def c5_6 : Code := cdL c5_5
noncomputable def c5_7 : Code := cdL c5_6
noncomputable def c5_8 : Code := cdR c5_6
noncomputable def c5_9 : Code := cdR c5_5
noncomputable def c5_10 : Code := cdR c5_2
noncomputable def c5_11 : Code := cdL c5_10
noncomputable def c5_12 : Code := cdR c5_10
noncomputable def c5_13 : Code := cdL c5_12
noncomputable def c5_14 : Code := cdR c5_12
noncomputable def c5_15 : Code := cdL c5_14
noncomputable def c5_16 : Code := cdL c5_15
noncomputable def c5_17 : Code := cdR c5_15
noncomputable def c5_18 : Code := cdL c5_17
noncomputable def c5_19 : Code := cdL c5_18
noncomputable def c5_20 : Code := cdL c5_19
noncomputable def c5_21 : Code := cdR c5_19
noncomputable def c5_22 : Code := cdL c5_21
noncomputable def c5_23 : Code := cdL c5_22
noncomputable def c5_24 : Code := cdR c5_22
noncomputable def c5_25 : Code := cdR c5_21
noncomputable def c5_26 : Code := cdL c5_25
noncomputable def c5_27 : Code := cdL c5_26
noncomputable def c5_28 : Code := cdL c5_27
noncomputable def c5_29 : Code := cdR c5_27
noncomputable def c5_30 : Code := cdL c5_29
noncomputable def c5_31 : Code := cdL c5_30
noncomputable def c5_32 : Code := cdR c5_30
noncomputable def c5_33 : Code := cdL c5_32
noncomputable def c5_34 : Code := cdR c5_32
noncomputable def c5_35 : Code := cdR c5_29
noncomputable def c5_36 : Code := cdL c5_35
noncomputable def c5_37 : Code := cdR c5_35
noncomputable def c5_38 : Code := cdL c5_37
noncomputable def c5_39 : Code := cdL c5_38
noncomputable def c5_40 : Code := cdR c5_38
noncomputable def c5_41 : Code := cdL c5_40
noncomputable def c5_42 : Code := cdR c5_40
noncomputable def c5_43 : Code := cdR c5_37
noncomputable def c5_44 : Code := cdL c5_43
noncomputable def c5_45 : Code := cdL c5_44
noncomputable def c5_46 : Code := cdR c5_44
noncomputable def c5_47 : Code := cdL c5_46
noncomputable def c5_48 : Code := cdR c5_46
noncomputable def c5_49 : Code := cdL c5_48
noncomputable def c5_50 : Code := cdL c5_49
noncomputable def c5_51 : Code := cdR c5_49
noncomputable def c5_52 : Code := cdR c5_48
noncomputable def c5_53 : Code := cdR c5_43
noncomputable def c5_54 : Code := cdL c5_53
noncomputable def c5_55 : Code := cdR c5_53
noncomputable def c5_56 : Code := cdL c5_55
noncomputable def c5_57 : Code := cdR c5_55
noncomputable def c5_58 : Code := cdR c5_25
noncomputable def c5_59 : Code := cdR c5_14
noncomputable def c5_60 : Code := cdL c5_59
noncomputable def c5_61 : Code := cdR c5_59
noncomputable def c5_62 : Code := cdL c5_61
noncomputable def c5_63 : Code := cdL c5_62
noncomputable def c5_64 : Code := cdR c5_62
noncomputable def c5_65 : Code := cdL c5_64
noncomputable def c5_66 : Code := cdL c5_65
noncomputable def c5_67 : Code := cdL c5_66
noncomputable def c5_68 : Code := cdR c5_66
noncomputable def c5_69 : Code := cdL c5_68
noncomputable def c5_70 : Code := cdL c5_69
noncomputable def c5_71 : Code := cdR c5_69
noncomputable def c5_72 : Code := cdR c5_68
noncomputable def c5_73 : Code := cdL c5_72
noncomputable def c5_74 : Code := cdL c5_73
noncomputable def c5_75 : Code := cdL c5_74
noncomputable def c5_76 : Code := cdR c5_74
noncomputable def c5_77 : Code := cdL c5_76
noncomputable def c5_78 : Code := cdL c5_77
noncomputable def c5_79 : Code := cdR c5_77
noncomputable def c5_80 : Code := cdL c5_79
noncomputable def c5_81 : Code := cdL c5_80
noncomputable def c5_82 : Code := cdR c5_80
noncomputable def c5_83 : Code := cdR c5_79
noncomputable def c5_84 : Code := cdR c5_76
noncomputable def c5_85 : Code := cdR c5_72
noncomputable def c5_86 : Code := cdR c5_61
noncomputable def c5_87 : Code := cdL c5_86
noncomputable def c5_88 : Code := cdL c5_87
noncomputable def c5_89 : Code := cdR c5_87
noncomputable def c5_90 : Code := cdL c5_89
noncomputable def c5_91 : Code := cdL c5_90
noncomputable def c5_92 : Code := cdL c5_91
noncomputable def c5_93 : Code := cdR c5_91
noncomputable def c5_94 : Code := cdL c5_93
noncomputable def c5_95 : Code := cdL c5_94
noncomputable def c5_96 : Code := cdR c5_94
noncomputable def c5_97 : Code := cdR c5_93
noncomputable def c5_98 : Code := cdL c5_97
noncomputable def c5_99 : Code := cdL c5_98
noncomputable def c5_100 : Code := cdR c5_98
noncomputable def c5_101 : Code := cdL c5_100
noncomputable def c5_102 : Code := cdR c5_100
noncomputable def c5_103 : Code := cdL c5_102
noncomputable def c5_104 : Code := cdR c5_102
noncomputable def c5_105 : Code := cdL c5_104
noncomputable def c5_106 : Code := cdL c5_105
noncomputable def c5_107 : Code := cdR c5_105
noncomputable def c5_108 : Code := cdL c5_107
noncomputable def c5_109 : Code := cdL c5_108
noncomputable def c5_110 : Code := cdR c5_108
noncomputable def c5_111 : Code := cdR c5_107
noncomputable def c5_112 : Code := cdR c5_104
noncomputable def c5_113 : Code := cdL c5_112
noncomputable def c5_114 : Code := cdR c5_112
noncomputable def c5_115 : Code := cdL c5_114
noncomputable def c5_116 : Code := cdL c5_115
noncomputable def c5_117 : Code := cdR c5_115
noncomputable def c5_118 : Code := cdR c5_114
noncomputable def c5_119 : Code := cdR c5_86
noncomputable def c5_120 : Code := cdL c5_119
noncomputable def c5_121 : Code := cdR c5_119
noncomputable def r5_1 : Array Oper := cdO c5_1
noncomputable def r5_4 : Array Oper := cdO c5_4
noncomputable def r5_7 : Array Oper := cdO c5_7
noncomputable def r5_11 : Array Oper := cdO c5_11
noncomputable def r5_13 : Array Oper := cdO c5_13
noncomputable def r5_16 : Array Oper := cdO c5_16
noncomputable def r5_20 : Array Oper := cdO c5_20
noncomputable def r5_28 : Array Oper := cdO c5_28
noncomputable def r5_31 : Array Oper := cdO c5_31
noncomputable def r5_36 : Array Oper := cdO c5_36
noncomputable def r5_39 : Array Oper := cdO c5_39
noncomputable def r5_45 : Array Oper := cdO c5_45
noncomputable def r5_47 : Array Oper := cdO c5_47
noncomputable def r5_50 : Array Oper := cdO c5_50
noncomputable def r5_54 : Array Oper := cdO c5_54
noncomputable def r5_56 : Array Oper := cdO c5_56
noncomputable def r5_58 : Array Oper := cdO c5_58
noncomputable def r5_60 : Array Oper := cdO c5_60
noncomputable def r5_63 : Array Oper := cdO c5_63
noncomputable def r5_67 : Array Oper := cdO c5_67
noncomputable def r5_75 : Array Oper := cdO c5_75
noncomputable def r5_78 : Array Oper := cdO c5_78
noncomputable def r5_81 : Array Oper := cdO c5_81
noncomputable def r5_84 : Array Oper := cdO c5_84
noncomputable def r5_85 : Array Oper := cdO c5_85
noncomputable def r5_88 : Array Oper := cdO c5_88
noncomputable def r5_92 : Array Oper := cdO c5_92
noncomputable def r5_99 : Array Oper := cdO c5_99
noncomputable def r5_101 : Array Oper := cdO c5_101
noncomputable def r5_103 : Array Oper := cdO c5_103
noncomputable def r5_106 : Array Oper := cdO c5_106
noncomputable def r5_109 : Array Oper := cdO c5_109
noncomputable def r5_113 : Array Oper := cdO c5_113
noncomputable def r5_116 : Array Oper := cdO c5_116
noncomputable def r5_120 : Array Oper := cdO c5_120
theorem c5_0e : c5_0 = .seq c5_1 c5_2 := by kernel_rfl
theorem c5_1e : c5_1 = .region 0 r5_1 false := by kernel_rfl
theorem c5_2e : c5_2 = .seq c5_3 c5_10 := by kernel_rfl
theorem c5_3e : c5_3 = .seq c5_4 c5_5 := by kernel_rfl
theorem c5_4e : c5_4 = .region 1 r5_4 false := by kernel_rfl
theorem c5_5e : c5_5 = .cond (cdC c5_5) c5_6 c5_9 := by kernel_rfl
theorem c5_6e : c5_6 = .seq c5_7 c5_8 := by kernel_rfl
theorem c5_7e : c5_7 = .region 2 r5_7 false := by kernel_rfl
theorem c5_8e : c5_8 = .ret := by kernel_rfl
theorem c5_9e : c5_9 = .skip := by kernel_rfl
theorem c5_10e : c5_10 = .seq c5_11 c5_12 := by kernel_rfl
theorem c5_11e : c5_11 = .region 3 r5_11 false := by kernel_rfl
theorem c5_12e : c5_12 = .seq c5_13 c5_14 := by kernel_rfl
theorem c5_13e : c5_13 = .region 4 r5_13 false := by kernel_rfl
theorem c5_14e : c5_14 = .seq c5_15 c5_59 := by kernel_rfl
theorem c5_15e : c5_15 = .seq c5_16 c5_17 := by kernel_rfl
theorem c5_16e : c5_16 = .region 5 r5_16 false := by kernel_rfl
theorem c5_17e : c5_17 = .block 0 c5_18 := by kernel_rfl
theorem c5_18e : c5_18 = .loop c5_19 := by kernel_rfl
theorem c5_19e : c5_19 = .seq c5_20 c5_21 := by kernel_rfl
theorem c5_20e : c5_20 = .region 6 r5_20 false := by kernel_rfl
theorem c5_21e : c5_21 = .seq c5_22 c5_25 := by kernel_rfl
theorem c5_22e : c5_22 = .cond (cdC c5_22) c5_23 c5_24 := by kernel_rfl
theorem c5_23e : c5_23 = .skip := by kernel_rfl
theorem c5_24e : c5_24 = .exit 0 := by kernel_rfl
theorem c5_25e : c5_25 = .seq c5_26 c5_58 := by kernel_rfl
theorem c5_26e : c5_26 = .block 1 c5_27 := by kernel_rfl
theorem c5_27e : c5_27 = .seq c5_28 c5_29 := by kernel_rfl
theorem c5_28e : c5_28 = .region 7 r5_28 false := by kernel_rfl
theorem c5_29e : c5_29 = .seq c5_30 c5_35 := by kernel_rfl
theorem c5_30e : c5_30 = .seq c5_31 c5_32 := by kernel_rfl
theorem c5_31e : c5_31 = .region 8 r5_31 false := by kernel_rfl
theorem c5_32e : c5_32 = .cond (cdC c5_32) c5_33 c5_34 := by kernel_rfl
theorem c5_33e : c5_33 = .exit 0 := by kernel_rfl
theorem c5_34e : c5_34 = .skip := by kernel_rfl
theorem c5_35e : c5_35 = .seq c5_36 c5_37 := by kernel_rfl
theorem c5_36e : c5_36 = .region 9 r5_36 false := by kernel_rfl
theorem c5_37e : c5_37 = .seq c5_38 c5_43 := by kernel_rfl
theorem c5_38e : c5_38 = .seq c5_39 c5_40 := by kernel_rfl
theorem c5_39e : c5_39 = .region 10 r5_39 false := by kernel_rfl
theorem c5_40e : c5_40 = .cond (cdC c5_40) c5_41 c5_42 := by kernel_rfl
theorem c5_41e : c5_41 = .exit 1 := by kernel_rfl
theorem c5_42e : c5_42 = .skip := by kernel_rfl
theorem c5_43e : c5_43 = .seq c5_44 c5_53 := by kernel_rfl
theorem c5_44e : c5_44 = .seq c5_45 c5_46 := by kernel_rfl
theorem c5_45e : c5_45 = .region 11 r5_45 false := by kernel_rfl
theorem c5_46e : c5_46 = .seq c5_47 c5_48 := by kernel_rfl
theorem c5_47e : c5_47 = .region 12 r5_47 false := by kernel_rfl
theorem c5_48e : c5_48 = .cond (cdC c5_48) c5_49 c5_52 := by kernel_rfl
theorem c5_49e : c5_49 = .seq c5_50 c5_51 := by kernel_rfl
theorem c5_50e : c5_50 = .region 13 r5_50 false := by kernel_rfl
theorem c5_51e : c5_51 = .ret := by kernel_rfl
theorem c5_52e : c5_52 = .skip := by kernel_rfl
theorem c5_53e : c5_53 = .seq c5_54 c5_55 := by kernel_rfl
theorem c5_54e : c5_54 = .region 14 r5_54 false := by kernel_rfl
theorem c5_55e : c5_55 = .cond (cdC c5_55) c5_56 c5_57 := by kernel_rfl
theorem c5_56e : c5_56 = .region 15 r5_56 false := by kernel_rfl
theorem c5_57e : c5_57 = .skip := by kernel_rfl
theorem c5_58e : c5_58 = .region 16 r5_58 false := by kernel_rfl
theorem c5_59e : c5_59 = .seq c5_60 c5_61 := by kernel_rfl
theorem c5_60e : c5_60 = .region 17 r5_60 false := by kernel_rfl
theorem c5_61e : c5_61 = .seq c5_62 c5_86 := by kernel_rfl
theorem c5_62e : c5_62 = .seq c5_63 c5_64 := by kernel_rfl
theorem c5_63e : c5_63 = .region 18 r5_63 false := by kernel_rfl
theorem c5_64e : c5_64 = .block 2 c5_65 := by kernel_rfl
theorem c5_65e : c5_65 = .loop c5_66 := by kernel_rfl
theorem c5_66e : c5_66 = .seq c5_67 c5_68 := by kernel_rfl
theorem c5_67e : c5_67 = .region 19 r5_67 false := by kernel_rfl
theorem c5_68e : c5_68 = .seq c5_69 c5_72 := by kernel_rfl
theorem c5_69e : c5_69 = .cond (cdC c5_69) c5_70 c5_71 := by kernel_rfl
theorem c5_70e : c5_70 = .skip := by kernel_rfl
theorem c5_71e : c5_71 = .exit 2 := by kernel_rfl
theorem c5_72e : c5_72 = .seq c5_73 c5_85 := by kernel_rfl
theorem c5_73e : c5_73 = .block 3 c5_74 := by kernel_rfl
theorem c5_74e : c5_74 = .seq c5_75 c5_76 := by kernel_rfl
theorem c5_75e : c5_75 = .region 20 r5_75 false := by kernel_rfl
theorem c5_76e : c5_76 = .seq c5_77 c5_84 := by kernel_rfl
theorem c5_77e : c5_77 = .seq c5_78 c5_79 := by kernel_rfl
theorem c5_78e : c5_78 = .region 21 r5_78 false := by kernel_rfl
theorem c5_79e : c5_79 = .cond (cdC c5_79) c5_80 c5_83 := by kernel_rfl
theorem c5_80e : c5_80 = .seq c5_81 c5_82 := by kernel_rfl
theorem c5_81e : c5_81 = .region 22 r5_81 false := by kernel_rfl
theorem c5_82e : c5_82 = .ret := by kernel_rfl
theorem c5_83e : c5_83 = .skip := by kernel_rfl
theorem c5_84e : c5_84 = .region 23 r5_84 false := by kernel_rfl
theorem c5_85e : c5_85 = .region 24 r5_85 false := by kernel_rfl
theorem c5_86e : c5_86 = .seq c5_87 c5_119 := by kernel_rfl
theorem c5_87e : c5_87 = .seq c5_88 c5_89 := by kernel_rfl
theorem c5_88e : c5_88 = .region 25 r5_88 false := by kernel_rfl
theorem c5_89e : c5_89 = .block 4 c5_90 := by kernel_rfl
theorem c5_90e : c5_90 = .loop c5_91 := by kernel_rfl
theorem c5_91e : c5_91 = .seq c5_92 c5_93 := by kernel_rfl
theorem c5_92e : c5_92 = .region 26 r5_92 false := by kernel_rfl
theorem c5_93e : c5_93 = .seq c5_94 c5_97 := by kernel_rfl
theorem c5_94e : c5_94 = .cond (cdC c5_94) c5_95 c5_96 := by kernel_rfl
theorem c5_95e : c5_95 = .skip := by kernel_rfl
theorem c5_96e : c5_96 = .exit 4 := by kernel_rfl
theorem c5_97e : c5_97 = .block 5 c5_98 := by kernel_rfl
theorem c5_98e : c5_98 = .seq c5_99 c5_100 := by kernel_rfl
theorem c5_99e : c5_99 = .region 27 r5_99 false := by kernel_rfl
theorem c5_100e : c5_100 = .seq c5_101 c5_102 := by kernel_rfl
theorem c5_101e : c5_101 = .region 28 r5_101 false := by kernel_rfl
theorem c5_102e : c5_102 = .seq c5_103 c5_104 := by kernel_rfl
theorem c5_103e : c5_103 = .region 29 r5_103 true := by kernel_rfl
theorem c5_104e : c5_104 = .seq c5_105 c5_112 := by kernel_rfl
theorem c5_105e : c5_105 = .seq c5_106 c5_107 := by kernel_rfl
theorem c5_106e : c5_106 = .region 30 r5_106 false := by kernel_rfl
theorem c5_107e : c5_107 = .cond (cdC c5_107) c5_108 c5_111 := by kernel_rfl
theorem c5_108e : c5_108 = .seq c5_109 c5_110 := by kernel_rfl
theorem c5_109e : c5_109 = .region 31 r5_109 false := by kernel_rfl
theorem c5_110e : c5_110 = .ret := by kernel_rfl
theorem c5_111e : c5_111 = .skip := by kernel_rfl
theorem c5_112e : c5_112 = .seq c5_113 c5_114 := by kernel_rfl
theorem c5_113e : c5_113 = .region 32 r5_113 true := by kernel_rfl
theorem c5_114e : c5_114 = .cond (cdC c5_114) c5_115 c5_118 := by kernel_rfl
theorem c5_115e : c5_115 = .seq c5_116 c5_117 := by kernel_rfl
theorem c5_116e : c5_116 = .region 33 r5_116 false := by kernel_rfl
theorem c5_117e : c5_117 = .ret := by kernel_rfl
theorem c5_118e : c5_118 = .skip := by kernel_rfl
theorem c5_119e : c5_119 = .seq c5_120 c5_121 := by kernel_rfl
theorem c5_120e : c5_120 = .region 34 r5_120 false := by kernel_rfl
theorem c5_121e : c5_121 = .ret := by kernel_rfl
noncomputable def tontinelaw18_LedgerOnce.R (A_2 : Option Addr) (c_3 : Nat) : Pst Bool where
  ε := Unit
  v := fun r x => .bool r
  H := fun r x => []
  B := fun r x => []
noncomputable def tontinelaw18_LedgerOnce.cx (A_2 : Option Addr) (c_3 : Nat) (w0 : World) (S0 : Fam) : Cx Bool := ⟨Try.prog, 5, Try.f5, 185, w0, S0, [], 0, tontinelaw18_LedgerOnce.R A_2 c_3⟩
theorem tontinelaw18_LedgerOnce_j5_ok (n : Nat) (L1 : (List (T_api_Key × Bool)) → Option Bool) (f_16 : Int) (f_17 : Int) (f_18 : (List T_ledger_Effect)) (f_21 : (List (T_api_Key × Bool))) (f_24 : (List (T_api_Key × Bool))) (good_27 : (List (T_api_Key × Bool))) (at_60 : (List (T_api_Key × Int))) (rem_69 : (List (T_api_Key × Bool))) (kv_70 : (T_api_Key × Bool)) (rem_71 : (List (T_api_Key × Bool))) (A_2 : Option Addr) (c_3 : Nat) (b_7 : Nat) (A_19 : Option Addr) (c_20 : Nat) (A_22 : Option Addr) (c_23 : Nat) (A_25 : Option Addr) (c_26 : Nat) (A_28 : Option Addr) (A_61 : Option Addr) (c_62 : Nat) (I_68 : Option Addr) (b_72 : Nat) (b_73 : Nat) (w0 : World) (S0 : Fam) (ih1 : ∀ (rem_69 : (List (T_api_Key × Bool))), GoO (tontinelaw18_LedgerOnce.cx A_2 c_3 w0 S0) [(3, .pointer (some ⟨b_7, 0, none⟩)), (11, .map (mA A_61)), (93, .pointer I_68)] [⟨40, b_7, [.int .u64 f_16, .int .u64 f_17, .slice A_19 f_18.length c_20, .map (mA A_22), .map (mA A_25)]⟩] [Ow 41 kT_ledger_Effect A_19 c_20 f_18, Mp 42 ky41 (fun v => .bool v) A_22 c_23 f_21, Mp 43 ky41 (fun v => .bool v) A_25 c_26 f_24, Mp 46 ky52 (fun v => .int .i64 v) A_61 c_62 at_60, MI 44 ky41 (fun v => .bool v) A_28 I_68 good_27 rem_69 none] [.code c5_91, .inLoop c5_91, .inBlock 4, .code c5_119] (L1 rem_69)) (b_99 : Bool) :
    GoF (tontinelaw18_LedgerOnce.cx A_2 c_3 w0 S0) r5_113 [] [⟨49, b_72, [.int .u64 kv_70.1.Saga, .int .i64 kv_70.1.Step, .bool kv_70.1.Back]⟩, ⟨50, b_73, [.int .u64 kv_70.1.Saga, .int .i64 kv_70.1.Step, .bool false]⟩] [Mp 46 ky52 (fun v => .int .i64 v) A_61 c_62 at_60] [.code c5_114, .inBlock 5, .inLoop c5_91, .inBlock 4, .code c5_119] 10 [true, true, true, true, true, true, true, true, true, true, true, true, true, true, true, true, true, true, true, true, true, true, true, true, true, true, true, true, true, true, true, true, true, true, true, true, true, false, false, false, false, false, false, false, false, false, false] [(3, .pointer (some ⟨b_7, 0, none⟩)), (11, .map (mA A_61)), (14, .pointer (some ⟨b_72, 0, none⟩)), (16, .pointer (some ⟨b_73, 0, none⟩)), (93, .pointer I_68), (166, .bool false), (174, .bool b_99)] [⟨40, b_7, [.int .u64 f_16, .int .u64 f_17, .slice A_19 f_18.length c_20, .map (mA A_22), .map (mA A_25)]⟩, ⟨49, b_72, [.int .u64 kv_70.1.Saga, .int .i64 kv_70.1.Step, .bool kv_70.1.Back]⟩, ⟨50, b_73, [.int .u64 kv_70.1.Saga, .int .i64 kv_70.1.Step, .bool false]⟩] [Ow 41 kT_ledger_Effect A_19 c_20 f_18, Mp 42 ky41 (fun v => .bool v) A_22 c_23 f_21, Mp 43 ky41 (fun v => .bool v) A_25 c_26 f_24, Mp 46 ky52 (fun v => .int .i64 v) A_61 c_62 at_60, MI 44 ky41 (fun v => .bool v) A_28 I_68 good_27 rem_71 none] (tontinelaw18_LedgerOnce.j5 n L1 at_60 kv_70 rem_71 b_99) := by
  unfold tontinelaw18_LedgerOnce.j5
  refine GoF.take [37] [.p] (ks := [3, 11, 14, 16, 93, 166, 175]) (fu := 9) (li := [true, true, true, true, true, true, true, true, true, true, true, true, true, true, true, true, true, true, true, true, true, true, true, true, true, true, true, true, true, true, true, true, true, true, true, true, true, true, false, false, false, false, false, false, false, false, false]) (env' := [(3, .pointer (some ⟨b_7, 0, none⟩)), (11, .map (mA A_61)), (14, .pointer (some ⟨b_72, 0, none⟩)), (16, .pointer (some ⟨b_73, 0, none⟩)), (93, .pointer I_68), (166, .bool false), (175, .bool b_99)]) (ps := []) (hk := [1, 2]) (bk := [3]) (by kernel_rfl) trivial rfl rfl ?_
  refine GoF.bsplit (t := 175) (by kernel_rfl) (fun h100 => ?_) (fun h100 => ?_)
  · refine GoF.take [38, 39, 41, 42] [.p, .b 0, .p, .b 1] (ks := [3, 11, 93, 166, 175, 176, 177, 179, 180]) (fu := 5) (li := [true, true, true, true, true, true, true, true, true, true, true, true, true, true, true, true, true, true, true, true, true, true, true, true, true, true, true, true, true, true, true, true, true, true, true, true, true, true, true, true, false, true, true, false, false, false, false]) (env' := [(3, .pointer (some ⟨b_7, 0, none⟩)), (11, .map (mA A_61)), (93, .pointer I_68), (166, .bool false), (175, .bool true), (176, .map (mA A_61)), (177, .agg ⟨[.int .u64 kv_70.1.Saga, .int .i64 kv_70.1.Step, .bool kv_70.1.Back]⟩), (179, .map (mA A_61)), (180, .agg ⟨[.int .u64 kv_70.1.Saga, .int .i64 kv_70.1.Step, .bool false]⟩)]) (ps := [b_72 = b_72, b_73 = b_73]) (hk := [1, 2]) (bk := [3]) (by kernel_rfl) (And.intro rfl (And.intro rfl trivial)) rfl rfl ?_
    refine GoF.mapLk1 (i := 40) (hk := [1, 2]) (bk := [3]) (vt := 3) (K := ky52) (ev := (fun v => .int .i64 v)) (A := A_61) (c := c_62) (l := at_60) (key := kv_70.1) (j := 0) (by kernel_rfl) rfl rfl rfl (by kernel_rfl) (by kernel_rfl) (by kernel_rfl) rfl 0 (fun _ => by kernel_rfl) rfl ?_
    refine OpTo.goF (i := 43) (by kernel_rfl) (hk := [1, 2]) (bk := [3]) (GoO.mapLk (vt := 3) (K := ky52) (ev := (fun v => .int .i64 v)) (A := A_61) (c := c_62) (l := at_60) (key := (⟨kv_70.1.Saga, kv_70.1.Step, false⟩ : T_api_Key)) (j := 3) rfl (by kernel_rfl) (by kernel_rfl) (by kernel_rfl) rfl 0 (fun _ => by kernel_rfl) rfl ⟨rfl, rfl, ?_⟩)
    refine GoF.take [44, 45, 46] [.p, .p, .p] (ks := [3, 11, 93, 184]) (fu := 0) (li := [true, true, true, true, true, true, true, true, true, true, true, true, true, true, true, true, true, true, true, true, true, true, true, true, true, true, true, true, true, true, true, true, true, true, true, true, true, true, true, true, true, true, true, true, true, true, true]) (env' := [(3, .pointer (some ⟨b_7, 0, none⟩)), (11, .map (mA A_61)), (93, .pointer I_68), (184, .bool (decide (((getA kv_70.1 at_60).getD 0) ≤ ((getA (⟨kv_70.1.Saga, kv_70.1.Step, false⟩ : T_api_Key) at_60).getD 0))))]) (ps := []) (hk := [1, 2]) (bk := [3]) (by kernel_rfl) trivial rfl rfl ?_
    refine GoF.done (by kernel_rfl) ?_
    refine GoO.ite' c5_114e (by kernel_rfl) (fun h101 => ?_) (fun h101 => ?_)
    · refine GoO.seq' c5_115e ?_
      refine GoO.region' (is := [0]) c5_116e (by kernel_rfl) ?_
      refine GoO.exec (is := [0]) (hs := [.p]) (rest := []) (ks := [2]) (env' := [(2, .bool false)]) (H' := [⟨40, b_7, [.int .u64 f_16, .int .u64 f_17, .slice A_19 f_18.length c_20, .map (mA A_22), .map (mA A_25)]⟩, ⟨49, b_72, [.int .u64 kv_70.1.Saga, .int .i64 kv_70.1.Step, .bool kv_70.1.Back]⟩, ⟨50, b_73, [.int .u64 kv_70.1.Saga, .int .i64 kv_70.1.Step, .bool false]⟩]) (ps := []) (by kernel_rfl) trivial ?_
      refine GoO.regionEnd ?_
      exact GoO.ret' (h := c5_117e) (hs := []) (ps := []) (hk := []) (bk := []) Try.func5 () (by kernel_rfl) trivial (by kernel_rfl) (by kernel_rfl)
    · refine GoO.skip' c5_118e ?_
      refine GoO.inBlock ?_
      refine GoO.inLoop ?_
      exact GoO.sub (ks := [3, 11, 93]) (hk := [0]) (bk := [0, 1, 2, 3, 4]) (by kernel_rfl) (by kernel_rfl) (by kernel_rfl) (ih1 rem_71)
  · refine GoF.take [38, 39, 40, 41, 42, 43, 44, 45, 46] [.p, .p, .p, .p, .p, .p, .p, .p, .p] (ks := [3, 11, 93, 184]) (fu := 0) (li := [true, true, true, true, true, true, true, true, true, true, true, true, true, true, true, true, true, true, true, true, true, true, true, true, true, true, true, true, true, true, true, true, true, true, true, true, true, true, true, true, true, true, true, true, true, true, true]) (env' := [(3, .pointer (some ⟨b_7, 0, none⟩)), (11, .map (mA A_61)), (93, .pointer I_68), (184, .bool false)]) (ps := []) (hk := [1, 2]) (bk := [3]) (by kernel_rfl) trivial rfl rfl ?_
    refine GoF.done (by kernel_rfl) ?_
    refine GoO.condF c5_114e (by kernel_rfl) ?_
    refine GoO.skip' c5_118e ?_
    refine GoO.inBlock ?_
    refine GoO.inLoop ?_
    exact GoO.sub (ks := [3, 11, 93]) (hk := [0]) (bk := [0, 1, 2, 3, 4]) (by kernel_rfl) (by kernel_rfl) (by kernel_rfl) (ih1 rem_71)
theorem tontinelaw18_LedgerOnce_j4_ok (n : Nat) (L1 : (List (T_api_Key × Bool)) → Option Bool) (f_16 : Int) (f_17 : Int) (f_18 : (List T_ledger_Effect)) (f_21 : (List (T_api_Key × Bool))) (f_24 : (List (T_api_Key × Bool))) (good_27 : (List (T_api_Key × Bool))) (at_60 : (List (T_api_Key × Int))) (rem_69 : (List (T_api_Key × Bool))) (kv_70 : (T_api_Key × Bool)) (rem_71 : (List (T_api_Key × Bool))) (A_2 : Option Addr) (c_3 : Nat) (b_7 : Nat) (A_19 : Option Addr) (c_20 : Nat) (A_22 : Option Addr) (c_23 : Nat) (A_25 : Option Addr) (c_26 : Nat) (A_28 : Option Addr) (A_61 : Option Addr) (c_62 : Nat) (I_68 : Option Addr) (b_72 : Nat) (b_73 : Nat) (w0 : World) (S0 : Fam) (ih1 : ∀ (rem_69 : (List (T_api_Key × Bool))), GoO (tontinelaw18_LedgerOnce.cx A_2 c_3 w0 S0) [(3, .pointer (some ⟨b_7, 0, none⟩)), (11, .map (mA A_61)), (93, .pointer I_68)] [⟨40, b_7, [.int .u64 f_16, .int .u64 f_17, .slice A_19 f_18.length c_20, .map (mA A_22), .map (mA A_25)]⟩] [Ow 41 kT_ledger_Effect A_19 c_20 f_18, Mp 42 ky41 (fun v => .bool v) A_22 c_23 f_21, Mp 43 ky41 (fun v => .bool v) A_25 c_26 f_24, Mp 46 ky52 (fun v => .int .i64 v) A_61 c_62 at_60, MI 44 ky41 (fun v => .bool v) A_28 I_68 good_27 rem_69 none] [.code c5_91, .inLoop c5_91, .inBlock 4, .code c5_119] (L1 rem_69)) (b_96 : Bool) :
    GoF (tontinelaw18_LedgerOnce.cx A_2 c_3 w0 S0) r5_113 [] [⟨49, b_72, [.int .u64 kv_70.1.Saga, .int .i64 kv_70.1.Step, .bool kv_70.1.Back]⟩, ⟨50, b_73, [.int .u64 kv_70.1.Saga, .int .i64 kv_70.1.Step, .bool false]⟩] [Mp 46 ky52 (fun v => .int .i64 v) A_61 c_62 at_60] [.code c5_114, .inBlock 5, .inLoop c5_91, .inBlock 4, .code c5_119] 19 [true, true, true, true, true, true, true, true, true, true, true, true, true, true, true, true, true, true, true, true, true, true, true, true, true, true, true, true, false, false, false, false, false, false, false, false, false, false, false, false, false, false, false, false, false, false, false] [(3, .pointer (some ⟨b_7, 0, none⟩)), (11, .map (mA A_61)), (14, .pointer (some ⟨b_72, 0, none⟩)), (16, .pointer (some ⟨b_73, 0, none⟩)), (93, .pointer I_68), (165, .bool b_96)] [⟨40, b_7, [.int .u64 f_16, .int .u64 f_17, .slice A_19 f_18.length c_20, .map (mA A_22), .map (mA A_25)]⟩, ⟨49, b_72, [.int .u64 kv_70.1.Saga, .int .i64 kv_70.1.Step, .bool kv_70.1.Back]⟩, ⟨50, b_73, [.int .u64 kv_70.1.Saga, .int .i64 kv_70.1.Step, .bool false]⟩] [Ow 41 kT_ledger_Effect A_19 c_20 f_18, Mp 42 ky41 (fun v => .bool v) A_22 c_23 f_21, Mp 43 ky41 (fun v => .bool v) A_25 c_26 f_24, Mp 46 ky52 (fun v => .int .i64 v) A_61 c_62 at_60, MI 44 ky41 (fun v => .bool v) A_28 I_68 good_27 rem_71 none] (tontinelaw18_LedgerOnce.j4 n L1 at_60 kv_70 rem_71 b_96) := by
  unfold tontinelaw18_LedgerOnce.j4
  refine GoF.take [28] [.p] (ks := [3, 11, 14, 16, 93, 166]) (fu := 18) (li := [true, true, true, true, true, true, true, true, true, true, true, true, true, true, true, true, true, true, true, true, true, true, true, true, true, true, true, true, true, false, false, false, false, false, false, false, false, false, false, false, false, false, false, false, false, false, false]) (env' := [(3, .pointer (some ⟨b_7, 0, none⟩)), (11, .map (mA A_61)), (14, .pointer (some ⟨b_72, 0, none⟩)), (16, .pointer (some ⟨b_73, 0, none⟩)), (93, .pointer I_68), (166, .bool b_96)]) (ps := []) (hk := [1, 2]) (bk := [3]) (by kernel_rfl) trivial rfl rfl ?_
  refine GoF.bsplit (t := 166) (by kernel_rfl) (fun h97 => ?_) (fun h97 => ?_)
  · refine GoF.take [29, 30, 31, 32, 33, 34, 35, 36, 37, 38, 39, 40, 41, 42, 43, 44, 45, 46] [.p, .p, .p, .p, .p, .p, .p, .p, .p, .p, .p, .p, .p, .p, .p, .p, .p, .p] (ks := [3, 11, 93, 184]) (fu := 0) (li := [true, true, true, true, true, true, true, true, true, true, true, true, true, true, true, true, true, true, true, true, true, true, true, true, true, true, true, true, true, true, true, true, true, true, true, true, true, true, true, true, true, true, true, true, true, true, true]) (env' := [(3, .pointer (some ⟨b_7, 0, none⟩)), (11, .map (mA A_61)), (93, .pointer I_68), (184, .bool true)]) (ps := []) (hk := [1, 2]) (bk := [3]) (by kernel_rfl) trivial rfl rfl ?_
    refine GoF.done (by kernel_rfl) ?_
    refine GoO.condT c5_114e (by kernel_rfl) ?_
    refine GoO.seq' c5_115e ?_
    refine GoO.region' (is := [0]) c5_116e (by kernel_rfl) ?_
    refine GoO.exec (is := [0]) (hs := [.p]) (rest := []) (ks := [2]) (env' := [(2, .bool false)]) (H' := [⟨40, b_7, [.int .u64 f_16, .int .u64 f_17, .slice A_19 f_18.length c_20, .map (mA A_22), .map (mA A_25)]⟩, ⟨49, b_72, [.int .u64 kv_70.1.Saga, .int .i64 kv_70.1.Step, .bool kv_70.1.Back]⟩, ⟨50, b_73, [.int .u64 kv_70.1.Saga, .int .i64 kv_70.1.Step, .bool false]⟩]) (ps := []) (by kernel_rfl) trivial ?_
    refine GoO.regionEnd ?_
    exact GoO.ret' (h := c5_117e) (hs := []) (ps := []) (hk := []) (bk := []) Try.func5 () (by kernel_rfl) trivial (by kernel_rfl) (by kernel_rfl)
  · refine GoF.take [29, 30, 31] [.p, .b 0, .p] (ks := [3, 11, 14, 16, 93, 166, 169]) (fu := 15) (li := [true, true, true, true, true, true, true, true, true, true, true, true, true, true, true, true, true, true, true, true, true, true, true, true, true, true, true, true, true, true, true, true, false, false, false, false, false, false, false, false, false, false, false, false, false, false, false]) (env' := [(3, .pointer (some ⟨b_7, 0, none⟩)), (11, .map (mA A_61)), (14, .pointer (some ⟨b_72, 0, none⟩)), (16, .pointer (some ⟨b_73, 0, none⟩)), (93, .pointer I_68), (166, .bool false), (169, .bool kv_70.1.Back)]) (ps := [b_72 = b_72]) (hk := [1, 2]) (bk := [3]) (by kernel_rfl) (And.intro rfl trivial) rfl rfl ?_
    refine GoF.bsplit (t := 169) (by kernel_rfl) (fun h98 => ?_) (fun h98 => ?_)
    · refine GoF.take [32, 33] [.p, .b 0] (ks := [3, 11, 14, 16, 93, 166, 169, 170, 171]) (fu := 13) (li := [true, true, true, true, true, true, true, true, true, true, true, true, true, true, true, true, true, true, true, true, true, true, true, true, true, true, true, true, true, true, true, true, true, true, false, false, false, false, false, false, false, false, false, false, false, false, false]) (env' := [(3, .pointer (some ⟨b_7, 0, none⟩)), (11, .map (mA A_61)), (14, .pointer (some ⟨b_72, 0, none⟩)), (16, .pointer (some ⟨b_73, 0, none⟩)), (93, .pointer I_68), (166, .bool false), (169, .bool true), (170, .map (mA A_61)), (171, .agg ⟨[.int .u64 kv_70.1.Saga, .int .i64 kv_70.1.Step, .bool kv_70.1.Back]⟩)]) (ps := [b_72 = b_72]) (hk := [1, 2]) (bk := [3]) (by kernel_rfl) (And.intro rfl trivial) rfl rfl ?_
      refine OpTo.goF (i := 34) (by kernel_rfl) (hk := [1, 2]) (bk := [3]) (GoO.mapLk (vt := 3) (K := ky52) (ev := (fun v => .int .i64 v)) (A := A_61) (c := c_62) (l := at_60) (key := kv_70.1) (j := 3) rfl (by kernel_rfl) (by kernel_rfl) (by kernel_rfl) rfl 0 (fun _ => by kernel_rfl) rfl ⟨rfl, rfl, ?_⟩)
      refine GoF.take [35, 36] [.p, .p] (ks := [3, 11, 14, 16, 93, 166, 174]) (fu := 10) (li := [true, true, true, true, true, true, true, true, true, true, true, true, true, true, true, true, true, true, true, true, true, true, true, true, true, true, true, true, true, true, true, true, true, true, true, true, true, false, false, false, false, false, false, false, false, false, false]) (env' := [(3, .pointer (some ⟨b_7, 0, none⟩)), (11, .map (mA A_61)), (14, .pointer (some ⟨b_72, 0, none⟩)), (16, .pointer (some ⟨b_73, 0, none⟩)), (93, .pointer I_68), (166, .bool false), (174, .bool (decide (((getA kv_70.1 at_60).getD 0) > 0)))]) (ps := []) (hk := [1, 2]) (bk := [3]) (by kernel_rfl) trivial rfl rfl ?_
      exact GoF.sub (ks := [3, 11, 14, 16, 93, 166, 174]) (hk := [0, 1, 2]) (bk := [0, 1, 2, 3, 4]) (by kernel_rfl) (by kernel_rfl) (by kernel_rfl) (tontinelaw18_LedgerOnce_j5_ok n L1 f_16 f_17 f_18 f_21 f_24 good_27 at_60 rem_69 kv_70 rem_71 A_2 c_3 b_7 A_19 c_20 A_22 c_23 A_25 c_26 A_28 A_61 c_62 I_68 b_72 b_73 w0 S0 ih1 (decide (((getA kv_70.1 at_60).getD 0) > 0)))
    · refine GoF.take [32, 33, 34, 35, 36] [.p, .p, .p, .p, .p] (ks := [3, 11, 14, 16, 93, 166, 174]) (fu := 10) (li := [true, true, true, true, true, true, true, true, true, true, true, true, true, true, true, true, true, true, true, true, true, true, true, true, true, true, true, true, true, true, true, true, true, true, true, true, true, false, false, false, false, false, false, false, false, false, false]) (env' := [(3, .pointer (some ⟨b_7, 0, none⟩)), (11, .map (mA A_61)), (14, .pointer (some ⟨b_72, 0, none⟩)), (16, .pointer (some ⟨b_73, 0, none⟩)), (93, .pointer I_68), (166, .bool false), (174, .bool false)]) (ps := []) (hk := [1, 2]) (bk := [3]) (by kernel_rfl) trivial rfl rfl ?_
      exact GoF.sub (ks := [3, 11, 14, 16, 93, 166, 174]) (hk := [0, 1, 2]) (bk := [0, 1, 2, 3, 4]) (by kernel_rfl) (by kernel_rfl) (by kernel_rfl) (tontinelaw18_LedgerOnce_j5_ok n L1 f_16 f_17 f_18 f_21 f_24 good_27 at_60 rem_69 kv_70 rem_71 A_2 c_3 b_7 A_19 c_20 A_22 c_23 A_25 c_26 A_28 A_61 c_62 I_68 b_72 b_73 w0 S0 ih1 false)
theorem tontinelaw18_LedgerOnce_j8_ok (n : Nat) (L1 : (List (T_api_Key × Bool)) → Option Bool) (f_16 : Int) (f_17 : Int) (f_18 : (List T_ledger_Effect)) (f_21 : (List (T_api_Key × Bool))) (f_24 : (List (T_api_Key × Bool))) (good_27 : (List (T_api_Key × Bool))) (at_60 : (List (T_api_Key × Int))) (rem_69 : (List (T_api_Key × Bool))) (kv_70 : (T_api_Key × Bool)) (rem_71 : (List (T_api_Key × Bool))) (A_2 : Option Addr) (c_3 : Nat) (b_7 : Nat) (A_19 : Option Addr) (c_20 : Nat) (A_22 : Option Addr) (c_23 : Nat) (A_25 : Option Addr) (c_26 : Nat) (A_28 : Option Addr) (A_61 : Option Addr) (c_62 : Nat) (I_68 : Option Addr) (b_72 : Nat) (b_73 : Nat) (w0 : World) (S0 : Fam) (ih1 : ∀ (rem_69 : (List (T_api_Key × Bool))), GoO (tontinelaw18_LedgerOnce.cx A_2 c_3 w0 S0) [(3, .pointer (some ⟨b_7, 0, none⟩)), (11, .map (mA A_61)), (93, .pointer I_68)] [⟨40, b_7, [.int .u64 f_16, .int .u64 f_17, .slice A_19 f_18.length c_20, .map (mA A_22), .map (mA A_25)]⟩] [Ow 41 kT_ledger_Effect A_19 c_20 f_18, Mp 42 ky41 (fun v => .bool v) A_22 c_23 f_21, Mp 43 ky41 (fun v => .bool v) A_25 c_26 f_24, Mp 46 ky52 (fun v => .int .i64 v) A_61 c_62 at_60, MI 44 ky41 (fun v => .bool v) A_28 I_68 good_27 rem_69 none] [.code c5_91, .inLoop c5_91, .inBlock 4, .code c5_119] (L1 rem_69)) (b_95 : Bool) :
    GoF (tontinelaw18_LedgerOnce.cx A_2 c_3 w0 S0) r5_113 [] [⟨49, b_72, [.int .u64 kv_70.1.Saga, .int .i64 kv_70.1.Step, .bool kv_70.1.Back]⟩, ⟨50, b_73, [.int .u64 kv_70.1.Saga, .int .i64 kv_70.1.Step, .bool false]⟩] [Mp 46 ky52 (fun v => .int .i64 v) A_61 c_62 at_60] [.code c5_114, .inBlock 5, .inLoop c5_91, .inBlock 4, .code c5_119] 20 [true, true, true, true, true, true, true, true, true, true, true, true, true, true, true, true, true, true, true, true, true, true, true, true, true, true, true, false, false, false, false, false, false, false, false, false, false, false, false, false, false, false, false, false, false, false, false] [(3, .pointer (some ⟨b_7, 0, none⟩)), (11, .map (mA A_61)), (14, .pointer (some ⟨b_72, 0, none⟩)), (16, .pointer (some ⟨b_73, 0, none⟩)), (93, .pointer I_68), (151, .bool false), (164, .bool b_95)] [⟨40, b_7, [.int .u64 f_16, .int .u64 f_17, .slice A_19 f_18.length c_20, .map (mA A_22), .map (mA A_25)]⟩, ⟨49, b_72, [.int .u64 kv_70.1.Saga, .int .i64 kv_70.1.Step, .bool kv_70.1.Back]⟩, ⟨50, b_73, [.int .u64 kv_70.1.Saga, .int .i64 kv_70.1.Step, .bool false]⟩] [Ow 41 kT_ledger_Effect A_19 c_20 f_18, Mp 42 ky41 (fun v => .bool v) A_22 c_23 f_21, Mp 43 ky41 (fun v => .bool v) A_25 c_26 f_24, Mp 46 ky52 (fun v => .int .i64 v) A_61 c_62 at_60, MI 44 ky41 (fun v => .bool v) A_28 I_68 good_27 rem_71 none] (tontinelaw18_LedgerOnce.j8 n L1 at_60 kv_70 rem_71 b_95) := by
  unfold tontinelaw18_LedgerOnce.j8
  refine GoF.take [27] [.p] (ks := [3, 11, 14, 16, 93, 165]) (fu := 19) (li := [true, true, true, true, true, true, true, true, true, true, true, true, true, true, true, true, true, true, true, true, true, true, true, true, true, true, true, true, false, false, false, false, false, false, false, false, false, false, false, false, false, false, false, false, false, false, false]) (env' := [(3, .pointer (some ⟨b_7, 0, none⟩)), (11, .map (mA A_61)), (14, .pointer (some ⟨b_72, 0, none⟩)), (16, .pointer (some ⟨b_73, 0, none⟩)), (93, .pointer I_68), (165, .bool b_95)]) (ps := []) (hk := [1, 2]) (bk := [3]) (by kernel_rfl) trivial rfl rfl ?_
  exact GoF.sub (ks := [3, 11, 14, 16, 93, 165]) (hk := [0, 1, 2]) (bk := [0, 1, 2, 3, 4]) (by kernel_rfl) (by kernel_rfl) (by kernel_rfl) (tontinelaw18_LedgerOnce_j4_ok n L1 f_16 f_17 f_18 f_21 f_24 good_27 at_60 rem_69 kv_70 rem_71 A_2 c_3 b_7 A_19 c_20 A_22 c_23 A_25 c_26 A_28 A_61 c_62 I_68 b_72 b_73 w0 S0 ih1 b_95)
theorem tontinelaw18_LedgerOnce_j7_ok (n : Nat) (L1 : (List (T_api_Key × Bool)) → Option Bool) (f_16 : Int) (f_17 : Int) (f_18 : (List T_ledger_Effect)) (f_21 : (List (T_api_Key × Bool))) (f_24 : (List (T_api_Key × Bool))) (good_27 : (List (T_api_Key × Bool))) (at_60 : (List (T_api_Key × Int))) (rem_69 : (List (T_api_Key × Bool))) (kv_70 : (T_api_Key × Bool)) (rem_71 : (List (T_api_Key × Bool))) (r_74 : Bool) (A_2 : Option Addr) (c_3 : Nat) (b_7 : Nat) (A_19 : Option Addr) (c_20 : Nat) (A_22 : Option Addr) (c_23 : Nat) (A_25 : Option Addr) (c_26 : Nat) (A_28 : Option Addr) (A_61 : Option Addr) (c_62 : Nat) (I_68 : Option Addr) (b_72 : Nat) (b_73 : Nat) (w0 : World) (S0 : Fam) (ih1 : ∀ (rem_69 : (List (T_api_Key × Bool))), GoO (tontinelaw18_LedgerOnce.cx A_2 c_3 w0 S0) [(3, .pointer (some ⟨b_7, 0, none⟩)), (11, .map (mA A_61)), (93, .pointer I_68)] [⟨40, b_7, [.int .u64 f_16, .int .u64 f_17, .slice A_19 f_18.length c_20, .map (mA A_22), .map (mA A_25)]⟩] [Ow 41 kT_ledger_Effect A_19 c_20 f_18, Mp 42 ky41 (fun v => .bool v) A_22 c_23 f_21, Mp 43 ky41 (fun v => .bool v) A_25 c_26 f_24, Mp 46 ky52 (fun v => .int .i64 v) A_61 c_62 at_60, MI 44 ky41 (fun v => .bool v) A_28 I_68 good_27 rem_69 none] [.code c5_91, .inLoop c5_91, .inBlock 4, .code c5_119] (L1 rem_69)) (b_93 : Bool) :
    GoF (tontinelaw18_LedgerOnce.cx A_2 c_3 w0 S0) r5_113 [] [⟨49, b_72, [.int .u64 kv_70.1.Saga, .int .i64 kv_70.1.Step, .bool kv_70.1.Back]⟩, ⟨50, b_73, [.int .u64 kv_70.1.Saga, .int .i64 kv_70.1.Step, .bool false]⟩] [Mp 46 ky52 (fun v => .int .i64 v) A_61 c_62 at_60] [.code c5_114, .inBlock 5, .inLoop c5_91, .inBlock 4, .code c5_119] 24 [true, true, true, true, true, true, true, true, true, true, true, true, true, true, true, true, true, true, true, true, true, true, true, false, false, false, false, false, false, false, false, false, false, false, false, false, false, false, false, false, false, false, false, false, false, false, false] [(3, .pointer (some ⟨b_7, 0, none⟩)), (11, .map (mA A_61)), (14, .pointer (some ⟨b_72, 0, none⟩)), (16, .pointer (some ⟨b_73, 0, none⟩)), (18, .bool r_74), (93, .pointer I_68), (151, .bool false), (160, .bool b_93)] [⟨40, b_7, [.int .u64 f_16, .int .u64 f_17, .slice A_19 f_18.length c_20, .map (mA A_22), .map (mA A_25)]⟩, ⟨49, b_72, [.int .u64 kv_70.1.Saga, .int .i64 kv_70.1.Step, .bool kv_70.1.Back]⟩, ⟨50, b_73, [.int .u64 kv_70.1.Saga, .int .i64 kv_70.1.Step, .bool false]⟩] [Ow 41 kT_ledger_Effect A_19 c_20 f_18, Mp 42 ky41 (fun v => .bool v) A_22 c_23 f_21, Mp 43 ky41 (fun v => .bool v) A_25 c_26 f_24, Mp 46 ky52 (fun v => .int .i64 v) A_61 c_62 at_60, MI 44 ky41 (fun v => .bool v) A_28 I_68 good_27 rem_71 none] (tontinelaw18_LedgerOnce.j7 n L1 at_60 kv_70 rem_71 r_74 b_93) := by
  unfold tontinelaw18_LedgerOnce.j7
  refine GoF.take [23] [.p] (ks := [3, 11, 14, 16, 18, 93, 151, 161]) (fu := 23) (li := [true, true, true, true, true, true, true, true, true, true, true, true, true, true, true, true, true, true, true, true, true, true, true, true, false, false, false, false, false, false, false, false, false, false, false, false, false, false, false, false, false, false, false, false, false, false, false]) (env' := [(3, .pointer (some ⟨b_7, 0, none⟩)), (11, .map (mA A_61)), (14, .pointer (some ⟨b_72, 0, none⟩)), (16, .pointer (some ⟨b_73, 0, none⟩)), (18, .bool r_74), (93, .pointer I_68), (151, .bool false), (161, .bool b_93)]) (ps := []) (hk := [1, 2]) (bk := [3]) (by kernel_rfl) trivial rfl rfl ?_
  refine GoF.bsplit (t := 161) (by kernel_rfl) (fun h94 => ?_) (fun h94 => ?_)
  · refine GoF.take [24, 25, 26] [.p, .p, .p] (ks := [3, 11, 14, 16, 93, 151, 164]) (fu := 20) (li := [true, true, true, true, true, true, true, true, true, true, true, true, true, true, true, true, true, true, true, true, true, true, true, true, true, true, true, false, false, false, false, false, false, false, false, false, false, false, false, false, false, false, false, false, false, false, false]) (env' := [(3, .pointer (some ⟨b_7, 0, none⟩)), (11, .map (mA A_61)), (14, .pointer (some ⟨b_72, 0, none⟩)), (16, .pointer (some ⟨b_73, 0, none⟩)), (93, .pointer I_68), (151, .bool false), (164, .bool (!r_74))]) (ps := []) (hk := [1, 2]) (bk := [3]) (by kernel_rfl) trivial rfl rfl ?_
    exact GoF.sub (ks := [3, 11, 14, 16, 93, 151, 164]) (hk := [0, 1, 2]) (bk := [0, 1, 2, 3, 4]) (by kernel_rfl) (by kernel_rfl) (by kernel_rfl) (tontinelaw18_LedgerOnce_j8_ok n L1 f_16 f_17 f_18 f_21 f_24 good_27 at_60 rem_69 kv_70 rem_71 A_2 c_3 b_7 A_19 c_20 A_22 c_23 A_25 c_26 A_28 A_61 c_62 I_68 b_72 b_73 w0 S0 ih1 (!r_74))
  · refine GoF.take [24, 25, 26] [.p, .p, .p] (ks := [3, 11, 14, 16, 93, 151, 164]) (fu := 20) (li := [true, true, true, true, true, true, true, true, true, true, true, true, true, true, true, true, true, true, true, true, true, true, true, true, true, true, true, false, false, false, false, false, false, false, false, false, false, false, false, false, false, false, false, false, false, false, false]) (env' := [(3, .pointer (some ⟨b_7, 0, none⟩)), (11, .map (mA A_61)), (14, .pointer (some ⟨b_72, 0, none⟩)), (16, .pointer (some ⟨b_73, 0, none⟩)), (93, .pointer I_68), (151, .bool false), (164, .bool false)]) (ps := []) (hk := [1, 2]) (bk := [3]) (by kernel_rfl) trivial rfl rfl ?_
    exact GoF.sub (ks := [3, 11, 14, 16, 93, 151, 164]) (hk := [0, 1, 2]) (bk := [0, 1, 2, 3, 4]) (by kernel_rfl) (by kernel_rfl) (by kernel_rfl) (tontinelaw18_LedgerOnce_j8_ok n L1 f_16 f_17 f_18 f_21 f_24 good_27 at_60 rem_69 kv_70 rem_71 A_2 c_3 b_7 A_19 c_20 A_22 c_23 A_25 c_26 A_28 A_61 c_62 I_68 b_72 b_73 w0 S0 ih1 false)
theorem tontinelaw18_LedgerOnce_j6_ok (n : Nat) (L1 : (List (T_api_Key × Bool)) → Option Bool) (f_16 : Int) (f_17 : Int) (f_18 : (List T_ledger_Effect)) (f_21 : (List (T_api_Key × Bool))) (f_24 : (List (T_api_Key × Bool))) (good_27 : (List (T_api_Key × Bool))) (at_60 : (List (T_api_Key × Int))) (rem_69 : (List (T_api_Key × Bool))) (kv_70 : (T_api_Key × Bool)) (rem_71 : (List (T_api_Key × Bool))) (r_74 : Bool) (A_2 : Option Addr) (c_3 : Nat) (b_7 : Nat) (A_19 : Option Addr) (c_20 : Nat) (A_22 : Option Addr) (c_23 : Nat) (A_25 : Option Addr) (c_26 : Nat) (A_28 : Option Addr) (A_61 : Option Addr) (c_62 : Nat) (I_68 : Option Addr) (b_72 : Nat) (b_73 : Nat) (w0 : World) (S0 : Fam) (ih1 : ∀ (rem_69 : (List (T_api_Key × Bool))), GoO (tontinelaw18_LedgerOnce.cx A_2 c_3 w0 S0) [(3, .pointer (some ⟨b_7, 0, none⟩)), (11, .map (mA A_61)), (93, .pointer I_68)] [⟨40, b_7, [.int .u64 f_16, .int .u64 f_17, .slice A_19 f_18.length c_20, .map (mA A_22), .map (mA A_25)]⟩] [Ow 41 kT_ledger_Effect A_19 c_20 f_18, Mp 42 ky41 (fun v => .bool v) A_22 c_23 f_21, Mp 43 ky41 (fun v => .bool v) A_25 c_26 f_24, Mp 46 ky52 (fun v => .int .i64 v) A_61 c_62 at_60, MI 44 ky41 (fun v => .bool v) A_28 I_68 good_27 rem_69 none] [.code c5_91, .inLoop c5_91, .inBlock 4, .code c5_119] (L1 rem_69)) (b_91 : Bool) :
    GoF (tontinelaw18_LedgerOnce.cx A_2 c_3 w0 S0) r5_113 [] [⟨49, b_72, [.int .u64 kv_70.1.Saga, .int .i64 kv_70.1.Step, .bool kv_70.1.Back]⟩, ⟨50, b_73, [.int .u64 kv_70.1.Saga, .int .i64 kv_70.1.Step, .bool false]⟩] [Mp 46 ky52 (fun v => .int .i64 v) A_61 c_62 at_60] [.code c5_114, .inBlock 5, .inLoop c5_91, .inBlock 4, .code c5_119] 28 [true, true, true, true, true, true, true, true, true, true, true, true, true, true, true, true, true, true, true, false, false, false, false, false, false, false, false, false, false, false, false, false, false, false, false, false, false, false, false, false, false, false, false, false, false, false, false] [(3, .pointer (some ⟨b_7, 0, none⟩)), (11, .map (mA A_61)), (14, .pointer (some ⟨b_72, 0, none⟩)), (16, .pointer (some ⟨b_73, 0, none⟩)), (17, .bool (decide (((getA (⟨kv_70.1.Saga, kv_70.1.Step, false⟩ : T_api_Key) at_60).getD 0) > 0))), (18, .bool r_74), (93, .pointer I_68), (151, .bool false), (156, .bool b_91)] [⟨40, b_7, [.int .u64 f_16, .int .u64 f_17, .slice A_19 f_18.length c_20, .map (mA A_22), .map (mA A_25)]⟩, ⟨49, b_72, [.int .u64 kv_70.1.Saga, .int .i64 kv_70.1.Step, .bool kv_70.1.Back]⟩, ⟨50, b_73, [.int .u64 kv_70.1.Saga, .int .i64 kv_70.1.Step, .bool false]⟩] [Ow 41 kT_ledger_Effect A_19 c_20 f_18, Mp 42 ky41 (fun v => .bool v) A_22 c_23 f_21, Mp 43 ky41 (fun v => .bool v) A_25 c_26 f_24, Mp 46 ky52 (fun v => .int .i64 v) A_61 c_62 at_60, MI 44 ky41 (fun v => .bool v) A_28 I_68 good_27 rem_71 none] (tontinelaw18_LedgerOnce.j6 n L1 at_60 kv_70 rem_71 r_74 b_91) := by
  unfold tontinelaw18_LedgerOnce.j6
  refine GoF.take [19] [.p] (ks := [3, 11, 14, 16, 17, 18, 93, 151, 157]) (fu := 27) (li := [true, true, true, true, true, true, true, true, true, true, true, true, true, true, true, true, true, true, true, true, false, false, false, false, false, false, false, false, false, false, false, false, false, false, false, false, false, false, false, false, false, false, false, false, false, false, false]) (env' := [(3, .pointer (some ⟨b_7, 0, none⟩)), (11, .map (mA A_61)), (14, .pointer (some ⟨b_72, 0, none⟩)), (16, .pointer (some ⟨b_73, 0, none⟩)), (17, .bool (decide (((getA (⟨kv_70.1.Saga, kv_70.1.Step, false⟩ : T_api_Key) at_60).getD 0) > 0))), (18, .bool r_74), (93, .pointer I_68), (151, .bool false), (157, .bool b_91)]) (ps := []) (hk := [1, 2]) (bk := [3]) (by kernel_rfl) trivial rfl rfl ?_
  refine GoF.bsplit (t := 157) (by kernel_rfl) (fun h92 => ?_) (fun h92 => ?_)
  · refine GoF.take [20, 21, 22] [.p, .p, .p] (ks := [3, 11, 14, 16, 18, 93, 151, 160]) (fu := 24) (li := [true, true, true, true, true, true, true, true, true, true, true, true, true, true, true, true, true, true, true, true, true, true, true, false, false, false, false, false, false, false, false, false, false, false, false, false, false, false, false, false, false, false, false, false, false, false, false]) (env' := [(3, .pointer (some ⟨b_7, 0, none⟩)), (11, .map (mA A_61)), (14, .pointer (some ⟨b_72, 0, none⟩)), (16, .pointer (some ⟨b_73, 0, none⟩)), (18, .bool r_74), (93, .pointer I_68), (151, .bool false), (160, .bool (!(decide (((getA (⟨kv_70.1.Saga, kv_70.1.Step, false⟩ : T_api_Key) at_60).getD 0) > 0))))]) (ps := []) (hk := [1, 2]) (bk := [3]) (by kernel_rfl) trivial rfl rfl ?_
    exact GoF.sub (ks := [3, 11, 14, 16, 18, 93, 151, 160]) (hk := [0, 1, 2]) (bk := [0, 1, 2, 3, 4]) (by kernel_rfl) (by kernel_rfl) (by kernel_rfl) (tontinelaw18_LedgerOnce_j7_ok n L1 f_16 f_17 f_18 f_21 f_24 good_27 at_60 rem_69 kv_70 rem_71 r_74 A_2 c_3 b_7 A_19 c_20 A_22 c_23 A_25 c_26 A_28 A_61 c_62 I_68 b_72 b_73 w0 S0 ih1 (!(decide (((getA (⟨kv_70.1.Saga, kv_70.1.Step, false⟩ : T_api_Key) at_60).getD 0) > 0))))
  · refine GoF.take [20, 21, 22] [.p, .p, .p] (ks := [3, 11, 14, 16, 18, 93, 151, 160]) (fu := 24) (li := [true, true, true, true, true, true, true, true, true, true, true, true, true, true, true, true, true, true, true, true, true, true, true, false, false, false, false, false, false, false, false, false, false, false, false, false, false, false, false, false, false, false, false, false, false, false, false]) (env' := [(3, .pointer (some ⟨b_7, 0, none⟩)), (11, .map (mA A_61)), (14, .pointer (some ⟨b_72, 0, none⟩)), (16, .pointer (some ⟨b_73, 0, none⟩)), (18, .bool r_74), (93, .pointer I_68), (151, .bool false), (160, .bool false)]) (ps := []) (hk := [1, 2]) (bk := [3]) (by kernel_rfl) trivial rfl rfl ?_
    exact GoF.sub (ks := [3, 11, 14, 16, 18, 93, 151, 160]) (hk := [0, 1, 2]) (bk := [0, 1, 2, 3, 4]) (by kernel_rfl) (by kernel_rfl) (by kernel_rfl) (tontinelaw18_LedgerOnce_j7_ok n L1 f_16 f_17 f_18 f_21 f_24 good_27 at_60 rem_69 kv_70 rem_71 r_74 A_2 c_3 b_7 A_19 c_20 A_22 c_23 A_25 c_26 A_28 A_61 c_62 I_68 b_72 b_73 w0 S0 ih1 false)
theorem tontinelaw18_LedgerOnce_j3_ok (n : Nat) (L1 : (List (T_api_Key × Bool)) → Option Bool) (f_16 : Int) (f_17 : Int) (f_18 : (List T_ledger_Effect)) (f_21 : (List (T_api_Key × Bool))) (f_24 : (List (T_api_Key × Bool))) (good_27 : (List (T_api_Key × Bool))) (at_60 : (List (T_api_Key × Int))) (rem_69 : (List (T_api_Key × Bool))) (kv_70 : (T_api_Key × Bool)) (rem_71 : (List (T_api_Key × Bool))) (r_74 : Bool) (A_2 : Option Addr) (c_3 : Nat) (b_7 : Nat) (A_19 : Option Addr) (c_20 : Nat) (A_22 : Option Addr) (c_23 : Nat) (A_25 : Option Addr) (c_26 : Nat) (A_28 : Option Addr) (A_61 : Option Addr) (c_62 : Nat) (I_68 : Option Addr) (b_72 : Nat) (b_73 : Nat) (w0 : World) (S0 : Fam) (ih1 : ∀ (rem_69 : (List (T_api_Key × Bool))), GoO (tontinelaw18_LedgerOnce.cx A_2 c_3 w0 S0) [(3, .pointer (some ⟨b_7, 0, none⟩)), (11, .map (mA A_61)), (93, .pointer I_68)] [⟨40, b_7, [.int .u64 f_16, .int .u64 f_17, .slice A_19 f_18.length c_20, .map (mA A_22), .map (mA A_25)]⟩] [Ow 41 kT_ledger_Effect A_19 c_20 f_18, Mp 42 ky41 (fun v => .bool v) A_22 c_23 f_21, Mp 43 ky41 (fun v => .bool v) A_25 c_26 f_24, Mp 46 ky52 (fun v => .int .i64 v) A_61 c_62 at_60, MI 44 ky41 (fun v => .bool v) A_28 I_68 good_27 rem_69 none] [.code c5_91, .inLoop c5_91, .inBlock 4, .code c5_119] (L1 rem_69)) (b_88 : Bool) :
    GoF (tontinelaw18_LedgerOnce.cx A_2 c_3 w0 S0) r5_113 [] [⟨49, b_72, [.int .u64 kv_70.1.Saga, .int .i64 kv_70.1.Step, .bool kv_70.1.Back]⟩, ⟨50, b_73, [.int .u64 kv_70.1.Saga, .int .i64 kv_70.1.Step, .bool false]⟩] [Mp 46 ky52 (fun v => .int .i64 v) A_61 c_62 at_60] [.code c5_114, .inBlock 5, .inLoop c5_91, .inBlock 4, .code c5_119] 34 [true, true, true, true, true, true, true, true, true, true, true, true, true, false, false, false, false, false, false, false, false, false, false, false, false, false, false, false, false, false, false, false, false, false, false, false, false, false, false, false, false, false, false, false, false, false, false] [(3, .pointer (some ⟨b_7, 0, none⟩)), (11, .map (mA A_61)), (14, .pointer (some ⟨b_72, 0, none⟩)), (15, .bool kv_70.2), (16, .pointer (some ⟨b_73, 0, none⟩)), (17, .bool (decide (((getA (⟨kv_70.1.Saga, kv_70.1.Step, false⟩ : T_api_Key) at_60).getD 0) > 0))), (18, .bool r_74), (93, .pointer I_68), (150, .bool b_88)] [⟨40, b_7, [.int .u64 f_16, .int .u64 f_17, .slice A_19 f_18.length c_20, .map (mA A_22), .map (mA A_25)]⟩, ⟨49, b_72, [.int .u64 kv_70.1.Saga, .int .i64 kv_70.1.Step, .bool kv_70.1.Back]⟩, ⟨50, b_73, [.int .u64 kv_70.1.Saga, .int .i64 kv_70.1.Step, .bool false]⟩] [Ow 41 kT_ledger_Effect A_19 c_20 f_18, Mp 42 ky41 (fun v => .bool v) A_22 c_23 f_21, Mp 43 ky41 (fun v => .bool v) A_25 c_26 f_24, Mp 46 ky52 (fun v => .int .i64 v) A_61 c_62 at_60, MI 44 ky41 (fun v => .bool v) A_28 I_68 good_27 rem_71 none] (tontinelaw18_LedgerOnce.j3 n L1 at_60 kv_70 rem_71 r_74 b_88) := by
  unfold tontinelaw18_LedgerOnce.j3
  refine GoF.take [13] [.p] (ks := [3, 11, 14, 15, 16, 17, 18, 93, 151]) (fu := 33) (li := [true, true, true, true, true, true, true, true, true, true, true, true, true, true, false, false, false, false, false, false, false, false, false, false, false, false, false, false, false, false, false, false, false, false, false, false, false, false, false, false, false, false, false, false, false, false, false]) (env' := [(3, .pointer (some ⟨b_7, 0, none⟩)), (11, .map (mA A_61)), (14, .pointer (some ⟨b_72, 0, none⟩)), (15, .bool kv_70.2), (16, .pointer (some ⟨b_73, 0, none⟩)), (17, .bool (decide (((getA (⟨kv_70.1.Saga, kv_70.1.Step, false⟩ : T_api_Key) at_60).getD 0) > 0))), (18, .bool r_74), (93, .pointer I_68), (151, .bool b_88)]) (ps := []) (hk := [1, 2]) (bk := [3]) (by kernel_rfl) trivial rfl rfl ?_
  refine GoF.bsplit (t := 151) (by kernel_rfl) (fun h89 => ?_) (fun h89 => ?_)
  · refine GoF.take [14, 15, 16, 17, 18, 19, 20, 21, 22, 23, 24, 25, 26, 27] [.p, .p, .p, .p, .p, .p, .p, .p, .p, .p, .p, .p, .p, .p] (ks := [3, 11, 14, 16, 93, 165]) (fu := 19) (li := [true, true, true, true, true, true, true, true, true, true, true, true, true, true, true, true, true, true, true, true, true, true, true, true, true, true, true, true, false, false, false, false, false, false, false, false, false, false, false, false, false, false, false, false, false, false, false]) (env' := [(3, .pointer (some ⟨b_7, 0, none⟩)), (11, .map (mA A_61)), (14, .pointer (some ⟨b_72, 0, none⟩)), (16, .pointer (some ⟨b_73, 0, none⟩)), (93, .pointer I_68), (165, .bool true)]) (ps := []) (hk := [1, 2]) (bk := [3]) (by kernel_rfl) trivial rfl rfl ?_
    exact GoF.sub (ks := [3, 11, 14, 16, 93, 165]) (hk := [0, 1, 2]) (bk := [0, 1, 2, 3, 4]) (by kernel_rfl) (by kernel_rfl) (by kernel_rfl) (tontinelaw18_LedgerOnce_j4_ok n L1 f_16 f_17 f_18 f_21 f_24 good_27 at_60 rem_69 kv_70 rem_71 A_2 c_3 b_7 A_19 c_20 A_22 c_23 A_25 c_26 A_28 A_61 c_62 I_68 b_72 b_73 w0 S0 ih1 true)
  · refine GoF.take [14, 15, 16] [.p, .b 0, .p] (ks := [3, 11, 14, 15, 16, 17, 18, 93, 151, 154]) (fu := 30) (li := [true, true, true, true, true, true, true, true, true, true, true, true, true, true, true, true, true, false, false, false, false, false, false, false, false, false, false, false, false, false, false, false, false, false, false, false, false, false, false, false, false, false, false, false, false, false, false]) (env' := [(3, .pointer (some ⟨b_7, 0, none⟩)), (11, .map (mA A_61)), (14, .pointer (some ⟨b_72, 0, none⟩)), (15, .bool kv_70.2), (16, .pointer (some ⟨b_73, 0, none⟩)), (17, .bool (decide (((getA (⟨kv_70.1.Saga, kv_70.1.Step, false⟩ : T_api_Key) at_60).getD 0) > 0))), (18, .bool r_74), (93, .pointer I_68), (151, .bool false), (154, .bool kv_70.1.Back)]) (ps := [b_72 = b_72]) (hk := [1, 2]) (bk := [3]) (by kernel_rfl) (And.intro rfl trivial) rfl rfl ?_
    refine GoF.bsplit (t := 154) (by kernel_rfl) (fun h90 => ?_) (fun h90 => ?_)
    · refine GoF.take [17, 18] [.p, .p] (ks := [3, 11, 14, 16, 17, 18, 93, 151, 156]) (fu := 28) (li := [true, true, true, true, true, true, true, true, true, true, true, true, true, true, true, true, true, true, true, false, false, false, false, false, false, false, false, false, false, false, false, false, false, false, false, false, false, false, false, false, false, false, false, false, false, false, false]) (env' := [(3, .pointer (some ⟨b_7, 0, none⟩)), (11, .map (mA A_61)), (14, .pointer (some ⟨b_72, 0, none⟩)), (16, .pointer (some ⟨b_73, 0, none⟩)), (17, .bool (decide (((getA (⟨kv_70.1.Saga, kv_70.1.Step, false⟩ : T_api_Key) at_60).getD 0) > 0))), (18, .bool r_74), (93, .pointer I_68), (151, .bool false), (156, .bool kv_70.2)]) (ps := []) (hk := [1, 2]) (bk := [3]) (by kernel_rfl) trivial rfl rfl ?_
      exact GoF.sub (ks := [3, 11, 14, 16, 17, 18, 93, 151, 156]) (hk := [0, 1, 2]) (bk := [0, 1, 2, 3, 4]) (by kernel_rfl) (by kernel_rfl) (by kernel_rfl) (tontinelaw18_LedgerOnce_j6_ok n L1 f_16 f_17 f_18 f_21 f_24 good_27 at_60 rem_69 kv_70 rem_71 r_74 A_2 c_3 b_7 A_19 c_20 A_22 c_23 A_25 c_26 A_28 A_61 c_62 I_68 b_72 b_73 w0 S0 ih1 kv_70.2)
    · refine GoF.take [17, 18] [.p, .p] (ks := [3, 11, 14, 16, 17, 18, 93, 151, 156]) (fu := 28) (li := [true, true, true, true, true, true, true, true, true, true, true, true, true, true, true, true, true, true, true, false, false, false, false, false, false, false, false, false, false, false, false, false, false, false, false, false, false, false, false, false, false, false, false, false, false, false, false]) (env' := [(3, .pointer (some ⟨b_7, 0, none⟩)), (11, .map (mA A_61)), (14, .pointer (some ⟨b_72, 0, none⟩)), (16, .pointer (some ⟨b_73, 0, none⟩)), (17, .bool (decide (((getA (⟨kv_70.1.Saga, kv_70.1.Step, false⟩ : T_api_Key) at_60).getD 0) > 0))), (18, .bool r_74), (93, .pointer I_68), (151, .bool false), (156, .bool false)]) (ps := []) (hk := [1, 2]) (bk := [3]) (by kernel_rfl) trivial rfl rfl ?_
      exact GoF.sub (ks := [3, 11, 14, 16, 17, 18, 93, 151, 156]) (hk := [0, 1, 2]) (bk := [0, 1, 2, 3, 4]) (by kernel_rfl) (by kernel_rfl) (by kernel_rfl) (tontinelaw18_LedgerOnce_j6_ok n L1 f_16 f_17 f_18 f_21 f_24 good_27 at_60 rem_69 kv_70 rem_71 r_74 A_2 c_3 b_7 A_19 c_20 A_22 c_23 A_25 c_26 A_28 A_61 c_62 I_68 b_72 b_73 w0 S0 ih1 false)
theorem tontinelaw18_LedgerOnce_j2_ok (n : Nat) (L1 : (List (T_api_Key × Bool)) → Option Bool) (f_16 : Int) (f_17 : Int) (f_18 : (List T_ledger_Effect)) (f_21 : (List (T_api_Key × Bool))) (f_24 : (List (T_api_Key × Bool))) (good_27 : (List (T_api_Key × Bool))) (at_60 : (List (T_api_Key × Int))) (rem_69 : (List (T_api_Key × Bool))) (kv_70 : (T_api_Key × Bool)) (rem_71 : (List (T_api_Key × Bool))) (r_74 : Bool) (A_2 : Option Addr) (c_3 : Nat) (b_7 : Nat) (A_19 : Option Addr) (c_20 : Nat) (A_22 : Option Addr) (c_23 : Nat) (A_25 : Option Addr) (c_26 : Nat) (A_28 : Option Addr) (A_61 : Option Addr) (c_62 : Nat) (I_68 : Option Addr) (b_72 : Nat) (b_73 : Nat) (w0 : World) (S0 : Fam) (ih1 : ∀ (rem_69 : (List (T_api_Key × Bool))), GoO (tontinelaw18_LedgerOnce.cx A_2 c_3 w0 S0) [(3, .pointer (some ⟨b_7, 0, none⟩)), (11, .map (mA A_61)), (93, .pointer I_68)] [⟨40, b_7, [.int .u64 f_16, .int .u64 f_17, .slice A_19 f_18.length c_20, .map (mA A_22), .map (mA A_25)]⟩] [Ow 41 kT_ledger_Effect A_19 c_20 f_18, Mp 42 ky41 (fun v => .bool v) A_22 c_23 f_21, Mp 43 ky41 (fun v => .bool v) A_25 c_26 f_24, Mp 46 ky52 (fun v => .int .i64 v) A_61 c_62 at_60, MI 44 ky41 (fun v => .bool v) A_28 I_68 good_27 rem_69 none] [.code c5_91, .inLoop c5_91, .inBlock 4, .code c5_119] (L1 rem_69)) (b_86 : Bool) :
    GoF (tontinelaw18_LedgerOnce.cx A_2 c_3 w0 S0) r5_113 [] [⟨49, b_72, [.int .u64 kv_70.1.Saga, .int .i64 kv_70.1.Step, .bool kv_70.1.Back]⟩, ⟨50, b_73, [.int .u64 kv_70.1.Saga, .int .i64 kv_70.1.Step, .bool false]⟩] [Mp 46 ky52 (fun v => .int .i64 v) A_61 c_62 at_60] [.code c5_114, .inBlock 5, .inLoop c5_91, .inBlock 4, .code c5_119] 42 [true, true, true, true, true, false, false, false, false, false, false, false, false, false, false, false, false, false, false, false, false, false, false, false, false, false, false, false, false, false, false, false, false, false, false, false, false, false, false, false, false, false, false, false, false, false, false] [(3, .pointer (some ⟨b_7, 0, none⟩)), (11, .map (mA A_61)), (14, .pointer (some ⟨b_72, 0, none⟩)), (15, .bool kv_70.2), (16, .pointer (some ⟨b_73, 0, none⟩)), (17, .bool (decide (((getA (⟨kv_70.1.Saga, kv_70.1.Step, false⟩ : T_api_Key) at_60).getD 0) > 0))), (18, .bool r_74), (93, .pointer I_68), (142, .bool b_86)] [⟨40, b_7, [.int .u64 f_16, .int .u64 f_17, .slice A_19 f_18.length c_20, .map (mA A_22), .map (mA A_25)]⟩, ⟨49, b_72, [.int .u64 kv_70.1.Saga, .int .i64 kv_70.1.Step, .bool kv_70.1.Back]⟩, ⟨50, b_73, [.int .u64 kv_70.1.Saga, .int .i64 kv_70.1.Step, .bool false]⟩] [Ow 41 kT_ledger_Effect A_19 c_20 f_18, Mp 42 ky41 (fun v => .bool v) A_22 c_23 f_21, Mp 43 ky41 (fun v => .bool v) A_25 c_26 f_24, Mp 46 ky52 (fun v => .int .i64 v) A_61 c_62 at_60, MI 44 ky41 (fun v => .bool v) A_28 I_68 good_27 rem_71 none] (tontinelaw18_LedgerOnce.j2 n L1 at_60 kv_70 rem_71 r_74 b_86) := by
  unfold tontinelaw18_LedgerOnce.j2
  refine GoF.take [5] [.p] (ks := [3, 11, 14, 15, 16, 17, 18, 93, 143]) (fu := 41) (li := [true, true, true, true, true, true, false, false, false, false, false, false, false, false, false, false, false, false, false, false, false, false, false, false, false, false, false, false, false, false, false, false, false, false, false, false, false, false, false, false, false, false, false, false, false, false, false]) (env' := [(3, .pointer (some ⟨b_7, 0, none⟩)), (11, .map (mA A_61)), (14, .pointer (some ⟨b_72, 0, none⟩)), (15, .bool kv_70.2), (16, .pointer (some ⟨b_73, 0, none⟩)), (17, .bool (decide (((getA (⟨kv_70.1.Saga, kv_70.1.Step, false⟩ : T_api_Key) at_60).getD 0) > 0))), (18, .bool r_74), (93, .pointer I_68), (143, .bool b_86)]) (ps := []) (hk := [1, 2]) (bk := [3]) (by kernel_rfl) trivial rfl rfl ?_
  refine GoF.bsplit (t := 143) (by kernel_rfl) (fun h87 => ?_) (fun h87 => ?_)
  · refine GoF.take [6, 7, 10] [.p, .b 0, .p] (ks := [3, 11, 14, 15, 16, 17, 18, 93, 143, 144, 145, 148]) (fu := 38) (li := [true, true, true, true, true, true, true, true, false, false, true, false, false, false, false, false, false, false, false, false, false, false, false, false, false, false, false, false, false, false, false, false, false, false, false, false, false, false, false, false, false, false, false, false, false, false, false]) (env' := [(3, .pointer (some ⟨b_7, 0, none⟩)), (11, .map (mA A_61)), (14, .pointer (some ⟨b_72, 0, none⟩)), (15, .bool kv_70.2), (16, .pointer (some ⟨b_73, 0, none⟩)), (17, .bool (decide (((getA (⟨kv_70.1.Saga, kv_70.1.Step, false⟩ : T_api_Key) at_60).getD 0) > 0))), (18, .bool r_74), (93, .pointer I_68), (143, .bool true), (144, .map (mA A_61)), (145, .agg ⟨[.int .u64 kv_70.1.Saga, .int .i64 kv_70.1.Step, .bool kv_70.1.Back]⟩), (148, .bool (decide (((getA (⟨kv_70.1.Saga, kv_70.1.Step, false⟩ : T_api_Key) at_60).getD 0) > 0)))]) (ps := [b_72 = b_72]) (hk := [1, 2]) (bk := [3]) (by kernel_rfl) (And.intro rfl trivial) rfl rfl ?_
    refine OpTo.goF (i := 8) (by kernel_rfl) (hk := [1, 2]) (bk := [3]) (GoO.mapLk (vt := 3) (K := ky52) (ev := (fun v => .int .i64 v)) (A := A_61) (c := c_62) (l := at_60) (key := kv_70.1) (j := 3) rfl (by kernel_rfl) (by kernel_rfl) (by kernel_rfl) rfl 0 (fun _ => by kernel_rfl) rfl ⟨rfl, rfl, ?_⟩)
    refine GoF.take [9, 11, 12] [.p, .p, .p] (ks := [3, 11, 14, 15, 16, 17, 18, 93, 150]) (fu := 34) (li := [true, true, true, true, true, true, true, true, true, true, true, true, true, false, false, false, false, false, false, false, false, false, false, false, false, false, false, false, false, false, false, false, false, false, false, false, false, false, false, false, false, false, false, false, false, false, false]) (env' := [(3, .pointer (some ⟨b_7, 0, none⟩)), (11, .map (mA A_61)), (14, .pointer (some ⟨b_72, 0, none⟩)), (15, .bool kv_70.2), (16, .pointer (some ⟨b_73, 0, none⟩)), (17, .bool (decide (((getA (⟨kv_70.1.Saga, kv_70.1.Step, false⟩ : T_api_Key) at_60).getD 0) > 0))), (18, .bool r_74), (93, .pointer I_68), (150, .bool (!((decide (((getA kv_70.1 at_60).getD 0) > 0)) == (decide (((getA (⟨kv_70.1.Saga, kv_70.1.Step, false⟩ : T_api_Key) at_60).getD 0) > 0)))))]) (ps := []) (hk := [1, 2]) (bk := [3]) (by kernel_rfl) trivial rfl rfl ?_
    exact GoF.sub (ks := [3, 11, 14, 15, 16, 17, 18, 93, 150]) (hk := [0, 1, 2]) (bk := [0, 1, 2, 3, 4]) (by kernel_rfl) (by kernel_rfl) (by kernel_rfl) (tontinelaw18_LedgerOnce_j3_ok n L1 f_16 f_17 f_18 f_21 f_24 good_27 at_60 rem_69 kv_70 rem_71 r_74 A_2 c_3 b_7 A_19 c_20 A_22 c_23 A_25 c_26 A_28 A_61 c_62 I_68 b_72 b_73 w0 S0 ih1 (!((decide (((getA kv_70.1 at_60).getD 0) > 0)) == (decide (((getA (⟨kv_70.1.Saga, kv_70.1.Step, false⟩ : T_api_Key) at_60).getD 0) > 0)))))
  · refine GoF.take [6, 7, 8, 9, 10, 11, 12] [.p, .p, .p, .p, .p, .p, .p] (ks := [3, 11, 14, 15, 16, 17, 18, 93, 150]) (fu := 34) (li := [true, true, true, true, true, true, true, true, true, true, true, true, true, false, false, false, false, false, false, false, false, false, false, false, false, false, false, false, false, false, false, false, false, false, false, false, false, false, false, false, false, false, false, false, false, false, false]) (env' := [(3, .pointer (some ⟨b_7, 0, none⟩)), (11, .map (mA A_61)), (14, .pointer (some ⟨b_72, 0, none⟩)), (15, .bool kv_70.2), (16, .pointer (some ⟨b_73, 0, none⟩)), (17, .bool (decide (((getA (⟨kv_70.1.Saga, kv_70.1.Step, false⟩ : T_api_Key) at_60).getD 0) > 0))), (18, .bool r_74), (93, .pointer I_68), (150, .bool false)]) (ps := []) (hk := [1, 2]) (bk := [3]) (by kernel_rfl) trivial rfl rfl ?_
    exact GoF.sub (ks := [3, 11, 14, 15, 16, 17, 18, 93, 150]) (hk := [0, 1, 2]) (bk := [0, 1, 2, 3, 4]) (by kernel_rfl) (by kernel_rfl) (by kernel_rfl) (tontinelaw18_LedgerOnce_j3_ok n L1 f_16 f_17 f_18 f_21 f_24 good_27 at_60 rem_69 kv_70 rem_71 r_74 A_2 c_3 b_7 A_19 c_20 A_22 c_23 A_25 c_26 A_28 A_61 c_62 I_68 b_72 b_73 w0 S0 ih1 false)
theorem tontinelaw18_LedgerOnce_j1_ok (n : Nat) (L1 : (List (T_api_Key × Bool)) → Option Bool) (f_16 : Int) (f_17 : Int) (f_18 : (List T_ledger_Effect)) (f_21 : (List (T_api_Key × Bool))) (f_24 : (List (T_api_Key × Bool))) (good_27 : (List (T_api_Key × Bool))) (at_60 : (List (T_api_Key × Int))) (rem_69 : (List (T_api_Key × Bool))) (kv_70 : (T_api_Key × Bool)) (rem_71 : (List (T_api_Key × Bool))) (r_74 : Bool) (A_2 : Option Addr) (c_3 : Nat) (b_7 : Nat) (A_19 : Option Addr) (c_20 : Nat) (A_22 : Option Addr) (c_23 : Nat) (A_25 : Option Addr) (c_26 : Nat) (A_28 : Option Addr) (A_61 : Option Addr) (c_62 : Nat) (I_68 : Option Addr) (b_72 : Nat) (b_73 : Nat) (w0 : World) (S0 : Fam) (ih1 : ∀ (rem_69 : (List (T_api_Key × Bool))), GoO (tontinelaw18_LedgerOnce.cx A_2 c_3 w0 S0) [(3, .pointer (some ⟨b_7, 0, none⟩)), (11, .map (mA A_61)), (93, .pointer I_68)] [⟨40, b_7, [.int .u64 f_16, .int .u64 f_17, .slice A_19 f_18.length c_20, .map (mA A_22), .map (mA A_25)]⟩] [Ow 41 kT_ledger_Effect A_19 c_20 f_18, Mp 42 ky41 (fun v => .bool v) A_22 c_23 f_21, Mp 43 ky41 (fun v => .bool v) A_25 c_26 f_24, Mp 46 ky52 (fun v => .int .i64 v) A_61 c_62 at_60, MI 44 ky41 (fun v => .bool v) A_28 I_68 good_27 rem_69 none] [.code c5_91, .inLoop c5_91, .inBlock 4, .code c5_119] (L1 rem_69)) (b_83 : Bool) :
    GoO (tontinelaw18_LedgerOnce.cx A_2 c_3 w0 S0) [(3, .pointer (some ⟨b_7, 0, none⟩)), (11, .map (mA A_61)), (14, .pointer (some ⟨b_72, 0, none⟩)), (15, .bool kv_70.2), (16, .pointer (some ⟨b_73, 0, none⟩)), (17, .bool (decide (((getA (⟨kv_70.1.Saga, kv_70.1.Step, false⟩ : T_api_Key) at_60).getD 0) > 0))), (18, .bool r_74), (93, .pointer I_68), (137, .bool b_83)] [⟨40, b_7, [.int .u64 f_16, .int .u64 f_17, .slice A_19 f_18.length c_20, .map (mA A_22), .map (mA A_25)]⟩, ⟨49, b_72, [.int .u64 kv_70.1.Saga, .int .i64 kv_70.1.Step, .bool kv_70.1.Back]⟩, ⟨50, b_73, [.int .u64 kv_70.1.Saga, .int .i64 kv_70.1.Step, .bool false]⟩] [Ow 41 kT_ledger_Effect A_19 c_20 f_18, Mp 42 ky41 (fun v => .bool v) A_22 c_23 f_21, Mp 43 ky41 (fun v => .bool v) A_25 c_26 f_24, Mp 46 ky52 (fun v => .int .i64 v) A_61 c_62 at_60, MI 44 ky41 (fun v => .bool v) A_28 I_68 good_27 rem_71 none] [.code c5_107, .code c5_112, .inBlock 5, .inLoop c5_91, .inBlock 4, .code c5_119] (tontinelaw18_LedgerOnce.j1 n L1 at_60 kv_70 rem_71 r_74 b_83) := by
  unfold tontinelaw18_LedgerOnce.j1
  refine GoO.ite' c5_107e (by kernel_rfl) (fun h84 => ?_) (fun h84 => ?_)
  · refine GoO.seq' c5_108e ?_
    refine GoO.region' (is := [0]) c5_109e (by kernel_rfl) ?_
    refine GoO.exec (is := [0]) (hs := [.p]) (rest := []) (ks := [2]) (env' := [(2, .bool false)]) (H' := [⟨40, b_7, [.int .u64 f_16, .int .u64 f_17, .slice A_19 f_18.length c_20, .map (mA A_22), .map (mA A_25)]⟩, ⟨49, b_72, [.int .u64 kv_70.1.Saga, .int .i64 kv_70.1.Step, .bool kv_70.1.Back]⟩, ⟨50, b_73, [.int .u64 kv_70.1.Saga, .int .i64 kv_70.1.Step, .bool false]⟩]) (ps := []) (by kernel_rfl) trivial ?_
    refine GoO.regionEnd ?_
    exact GoO.ret' (h := c5_110e) (hs := []) (ps := []) (hk := []) (bk := []) Try.func5 () (by kernel_rfl) trivial (by kernel_rfl) (by kernel_rfl)
  · refine GoO.skip' c5_111e ?_
    refine GoO.seq' c5_112e ?_
    refine GoO.draw c5_113e (by kernel_rfl) [] [⟨49, b_72, [.int .u64 kv_70.1.Saga, .int .i64 kv_70.1.Step, .bool kv_70.1.Back]⟩, ⟨50, b_73, [.int .u64 kv_70.1.Saga, .int .i64 kv_70.1.Step, .bool false]⟩] [Mp 46 ky52 (fun v => .int .i64 v) A_61 c_62 at_60] (n := 47) (by kernel_rfl) ?_
    simp only [List.replicate]
    refine GoF.take [0, 1, 2] [.p, .b 0, .p] (ks := [3, 11, 14, 15, 16, 17, 18, 93, 140]) (fu := 44) (li := [true, true, true, false, false, false, false, false, false, false, false, false, false, false, false, false, false, false, false, false, false, false, false, false, false, false, false, false, false, false, false, false, false, false, false, false, false, false, false, false, false, false, false, false, false, false, false]) (env' := [(3, .pointer (some ⟨b_7, 0, none⟩)), (11, .map (mA A_61)), (14, .pointer (some ⟨b_72, 0, none⟩)), (15, .bool kv_70.2), (16, .pointer (some ⟨b_73, 0, none⟩)), (17, .bool (decide (((getA (⟨kv_70.1.Saga, kv_70.1.Step, false⟩ : T_api_Key) at_60).getD 0) > 0))), (18, .bool r_74), (93, .pointer I_68), (140, .bool kv_70.1.Back)]) (ps := [b_72 = b_72]) (hk := [1, 2]) (bk := [3]) (by kernel_rfl) (And.intro rfl trivial) rfl rfl ?_
    refine GoF.bsplit (t := 140) (by kernel_rfl) (fun h85 => ?_) (fun h85 => ?_)
    · refine GoF.take [3, 4] [.p, .p] (ks := [3, 11, 14, 15, 16, 17, 18, 93, 142]) (fu := 42) (li := [true, true, true, true, true, false, false, false, false, false, false, false, false, false, false, false, false, false, false, false, false, false, false, false, false, false, false, false, false, false, false, false, false, false, false, false, false, false, false, false, false, false, false, false, false, false, false]) (env' := [(3, .pointer (some ⟨b_7, 0, none⟩)), (11, .map (mA A_61)), (14, .pointer (some ⟨b_72, 0, none⟩)), (15, .bool kv_70.2), (16, .pointer (some ⟨b_73, 0, none⟩)), (17, .bool (decide (((getA (⟨kv_70.1.Saga, kv_70.1.Step, false⟩ : T_api_Key) at_60).getD 0) > 0))), (18, .bool r_74), (93, .pointer I_68), (142, .bool kv_70.2)]) (ps := []) (hk := [1, 2]) (bk := [3]) (by kernel_rfl) trivial rfl rfl ?_
      exact GoF.sub (ks := [3, 11, 14, 15, 16, 17, 18, 93, 142]) (hk := [0, 1, 2]) (bk := [0, 1, 2, 3, 4]) (by kernel_rfl) (by kernel_rfl) (by kernel_rfl) (tontinelaw18_LedgerOnce_j2_ok n L1 f_16 f_17 f_18 f_21 f_24 good_27 at_60 rem_69 kv_70 rem_71 r_74 A_2 c_3 b_7 A_19 c_20 A_22 c_23 A_25 c_26 A_28 A_61 c_62 I_68 b_72 b_73 w0 S0 ih1 kv_70.2)
    · refine GoF.take [3, 4] [.p, .p] (ks := [3, 11, 14, 15, 16, 17, 18, 93, 142]) (fu := 42) (li := [true, true, true, true, true, false, false, false, false, false, false, false, false, false, false, false, false, false, false, false, false, false, false, false, false, false, false, false, false, false, false, false, false, false, false, false, false, false, false, false, false, false, false, false, false, false, false]) (env' := [(3, .pointer (some ⟨b_7, 0, none⟩)), (11, .map (mA A_61)), (14, .pointer (some ⟨b_72, 0, none⟩)), (15, .bool kv_70.2), (16, .pointer (some ⟨b_73, 0, none⟩)), (17, .bool (decide (((getA (⟨kv_70.1.Saga, kv_70.1.Step, false⟩ : T_api_Key) at_60).getD 0) > 0))), (18, .bool r_74), (93, .pointer I_68), (142, .bool false)]) (ps := []) (hk := [1, 2]) (bk := [3]) (by kernel_rfl) trivial rfl rfl ?_
      exact GoF.sub (ks := [3, 11, 14, 15, 16, 17, 18, 93, 142]) (hk := [0, 1, 2]) (bk := [0, 1, 2, 3, 4]) (by kernel_rfl) (by kernel_rfl) (by kernel_rfl) (tontinelaw18_LedgerOnce_j2_ok n L1 f_16 f_17 f_18 f_21 f_24 good_27 at_60 rem_69 kv_70 rem_71 r_74 A_2 c_3 b_7 A_19 c_20 A_22 c_23 A_25 c_26 A_28 A_61 c_62 I_68 b_72 b_73 w0 S0 ih1 false)
theorem tontinelaw18_LedgerOnce_j10_ok (n : Nat) (L1 : (List (T_api_Key × Bool)) → Option Bool) (f_16 : Int) (f_17 : Int) (f_18 : (List T_ledger_Effect)) (f_21 : (List (T_api_Key × Bool))) (f_24 : (List (T_api_Key × Bool))) (good_27 : (List (T_api_Key × Bool))) (at_60 : (List (T_api_Key × Int))) (rem_69 : (List (T_api_Key × Bool))) (kv_70 : (T_api_Key × Bool)) (rem_71 : (List (T_api_Key × Bool))) (r_74 : Bool) (A_2 : Option Addr) (c_3 : Nat) (b_7 : Nat) (A_19 : Option Addr) (c_20 : Nat) (A_22 : Option Addr) (c_23 : Nat) (A_25 : Option Addr) (c_26 : Nat) (A_28 : Option Addr) (A_61 : Option Addr) (c_62 : Nat) (I_68 : Option Addr) (b_72 : Nat) (b_73 : Nat) (w0 : World) (S0 : Fam) (ih1 : ∀ (rem_69 : (List (T_api_Key × Bool))), GoO (tontinelaw18_LedgerOnce.cx A_2 c_3 w0 S0) [(3, .pointer (some ⟨b_7, 0, none⟩)), (11, .map (mA A_61)), (93, .pointer I_68)] [⟨40, b_7, [.int .u64 f_16, .int .u64 f_17, .slice A_19 f_18.length c_20, .map (mA A_22), .map (mA A_25)]⟩] [Ow 41 kT_ledger_Effect A_19 c_20 f_18, Mp 42 ky41 (fun v => .bool v) A_22 c_23 f_21, Mp 43 ky41 (fun v => .bool v) A_25 c_26 f_24, Mp 46 ky52 (fun v => .int .i64 v) A_61 c_62 at_60, MI 44 ky41 (fun v => .bool v) A_28 I_68 good_27 rem_69 none] [.code c5_91, .inLoop c5_91, .inBlock 4, .code c5_119] (L1 rem_69)) (b_80 : Bool) :
    GoO (tontinelaw18_LedgerOnce.cx A_2 c_3 w0 S0) [(3, .pointer (some ⟨b_7, 0, none⟩)), (11, .map (mA A_61)), (14, .pointer (some ⟨b_72, 0, none⟩)), (15, .bool kv_70.2), (16, .pointer (some ⟨b_73, 0, none⟩)), (17, .bool (decide (((getA (⟨kv_70.1.Saga, kv_70.1.Step, false⟩ : T_api_Key) at_60).getD 0) > 0))), (18, .bool r_74), (93, .pointer I_68), (127, .bool b_80)] [⟨40, b_7, [.int .u64 f_16, .int .u64 f_17, .slice A_19 f_18.length c_20, .map (mA A_22), .map (mA A_25)]⟩, ⟨49, b_72, [.int .u64 kv_70.1.Saga, .int .i64 kv_70.1.Step, .bool kv_70.1.Back]⟩, ⟨50, b_73, [.int .u64 kv_70.1.Saga, .int .i64 kv_70.1.Step, .bool false]⟩] [Ow 41 kT_ledger_Effect A_19 c_20 f_18, Mp 42 ky41 (fun v => .bool v) A_22 c_23 f_21, Mp 43 ky41 (fun v => .bool v) A_25 c_26 f_24, Mp 46 ky52 (fun v => .int .i64 v) A_61 c_62 at_60, MI 44 ky41 (fun v => .bool v) A_28 I_68 good_27 rem_71 none] [.inRegion r5_106 [14, 15, 16, 17, 18, 19, 20, 21, 22, 23], .code c5_107, .code c5_112, .inBlock 5, .inLoop c5_91, .inBlock 4, .code c5_119] (tontinelaw18_LedgerOnce.j10 n L1 at_60 kv_70 rem_71 r_74 b_80) := by
  unfold tontinelaw18_LedgerOnce.j10
  refine GoO.exec (is := [14]) (hs := [.p]) (rest := [15, 16, 17, 18, 19, 20, 21, 22, 23]) (ks := [3, 11, 14, 15, 16, 17, 18, 93, 128]) (env' := [(3, .pointer (some ⟨b_7, 0, none⟩)), (11, .map (mA A_61)), (14, .pointer (some ⟨b_72, 0, none⟩)), (15, .bool kv_70.2), (16, .pointer (some ⟨b_73, 0, none⟩)), (17, .bool (decide (((getA (⟨kv_70.1.Saga, kv_70.1.Step, false⟩ : T_api_Key) at_60).getD 0) > 0))), (18, .bool r_74), (93, .pointer I_68), (128, .bool b_80)]) (H' := [⟨40, b_7, [.int .u64 f_16, .int .u64 f_17, .slice A_19 f_18.length c_20, .map (mA A_22), .map (mA A_25)]⟩, ⟨49, b_72, [.int .u64 kv_70.1.Saga, .int .i64 kv_70.1.Step, .bool kv_70.1.Back]⟩, ⟨50, b_73, [.int .u64 kv_70.1.Saga, .int .i64 kv_70.1.Step, .bool false]⟩]) (ps := []) (by kernel_rfl) trivial ?_
  refine GoO.bsplit (t := 128) (by kernel_rfl) (fun h81 => ?_) (fun h81 => ?_)
  · refine GoO.exec (is := [15, 16, 17, 18, 19, 20, 21, 22, 23]) (hs := [.p, .p, .p, .p, .p, .p, .p, .p, .p]) (rest := []) (ks := [3, 11, 14, 15, 16, 17, 18, 93, 137]) (env' := [(3, .pointer (some ⟨b_7, 0, none⟩)), (11, .map (mA A_61)), (14, .pointer (some ⟨b_72, 0, none⟩)), (15, .bool kv_70.2), (16, .pointer (some ⟨b_73, 0, none⟩)), (17, .bool (decide (((getA (⟨kv_70.1.Saga, kv_70.1.Step, false⟩ : T_api_Key) at_60).getD 0) > 0))), (18, .bool r_74), (93, .pointer I_68), (137, .bool true)]) (H' := [⟨40, b_7, [.int .u64 f_16, .int .u64 f_17, .slice A_19 f_18.length c_20, .map (mA A_22), .map (mA A_25)]⟩, ⟨49, b_72, [.int .u64 kv_70.1.Saga, .int .i64 kv_70.1.Step, .bool kv_70.1.Back]⟩, ⟨50, b_73, [.int .u64 kv_70.1.Saga, .int .i64 kv_70.1.Step, .bool false]⟩]) (ps := []) (by kernel_rfl) trivial ?_
    refine GoO.regionEnd ?_
    exact GoO.sub (ks := [3, 11, 14, 15, 16, 17, 18, 93, 137]) (hk := [0, 1, 2]) (bk := [0, 1, 2, 3, 4]) (by kernel_rfl) (by kernel_rfl) (by kernel_rfl) (tontinelaw18_LedgerOnce_j1_ok n L1 f_16 f_17 f_18 f_21 f_24 good_27 at_60 rem_69 kv_70 rem_71 r_74 A_2 c_3 b_7 A_19 c_20 A_22 c_23 A_25 c_26 A_28 A_61 c_62 I_68 b_72 b_73 w0 S0 ih1 true)
  · refine GoO.exec (is := [15, 16, 17, 18]) (hs := [.p, .b 1, .p, .p]) (rest := [19, 20, 21, 22, 23]) (ks := [3, 11, 14, 15, 16, 17, 18, 93, 128, 132]) (env' := [(3, .pointer (some ⟨b_7, 0, none⟩)), (11, .map (mA A_61)), (14, .pointer (some ⟨b_72, 0, none⟩)), (15, .bool kv_70.2), (16, .pointer (some ⟨b_73, 0, none⟩)), (17, .bool (decide (((getA (⟨kv_70.1.Saga, kv_70.1.Step, false⟩ : T_api_Key) at_60).getD 0) > 0))), (18, .bool r_74), (93, .pointer I_68), (128, .bool false), (132, .bool (!kv_70.1.Back))]) (H' := [⟨40, b_7, [.int .u64 f_16, .int .u64 f_17, .slice A_19 f_18.length c_20, .map (mA A_22), .map (mA A_25)]⟩, ⟨49, b_72, [.int .u64 kv_70.1.Saga, .int .i64 kv_70.1.Step, .bool kv_70.1.Back]⟩, ⟨50, b_73, [.int .u64 kv_70.1.Saga, .int .i64 kv_70.1.Step, .bool false]⟩]) (ps := [b_72 = b_72]) (by kernel_rfl) (And.intro rfl trivial) ?_
    refine GoO.bsplit (t := 132) (by kernel_rfl) (fun h82 => ?_) (fun h82 => ?_)
    · refine GoO.exec (is := [19, 20, 21, 22, 23]) (hs := [.p, .p, .p, .p, .p]) (rest := []) (ks := [3, 11, 14, 15, 16, 17, 18, 93, 137]) (env' := [(3, .pointer (some ⟨b_7, 0, none⟩)), (11, .map (mA A_61)), (14, .pointer (some ⟨b_72, 0, none⟩)), (15, .bool kv_70.2), (16, .pointer (some ⟨b_73, 0, none⟩)), (17, .bool (decide (((getA (⟨kv_70.1.Saga, kv_70.1.Step, false⟩ : T_api_Key) at_60).getD 0) > 0))), (18, .bool r_74), (93, .pointer I_68), (137, .bool (!(kv_70.2 == (decide (((getA (⟨kv_70.1.Saga, kv_70.1.Step, false⟩ : T_api_Key) at_60).getD 0) > 0)))))]) (H' := [⟨40, b_7, [.int .u64 f_16, .int .u64 f_17, .slice A_19 f_18.length c_20, .map (mA A_22), .map (mA A_25)]⟩, ⟨49, b_72, [.int .u64 kv_70.1.Saga, .int .i64 kv_70.1.Step, .bool kv_70.1.Back]⟩, ⟨50, b_73, [.int .u64 kv_70.1.Saga, .int .i64 kv_70.1.Step, .bool false]⟩]) (ps := []) (by kernel_rfl) trivial ?_
      refine GoO.regionEnd ?_
      exact GoO.sub (ks := [3, 11, 14, 15, 16, 17, 18, 93, 137]) (hk := [0, 1, 2]) (bk := [0, 1, 2, 3, 4]) (by kernel_rfl) (by kernel_rfl) (by kernel_rfl) (tontinelaw18_LedgerOnce_j1_ok n L1 f_16 f_17 f_18 f_21 f_24 good_27 at_60 rem_69 kv_70 rem_71 r_74 A_2 c_3 b_7 A_19 c_20 A_22 c_23 A_25 c_26 A_28 A_61 c_62 I_68 b_72 b_73 w0 S0 ih1 (!(kv_70.2 == (decide (((getA (⟨kv_70.1.Saga, kv_70.1.Step, false⟩ : T_api_Key) at_60).getD 0) > 0)))))
    · refine GoO.exec (is := [19, 20, 21, 22, 23]) (hs := [.p, .p, .p, .p, .p]) (rest := []) (ks := [3, 11, 14, 15, 16, 17, 18, 93, 137]) (env' := [(3, .pointer (some ⟨b_7, 0, none⟩)), (11, .map (mA A_61)), (14, .pointer (some ⟨b_72, 0, none⟩)), (15, .bool kv_70.2), (16, .pointer (some ⟨b_73, 0, none⟩)), (17, .bool (decide (((getA (⟨kv_70.1.Saga, kv_70.1.Step, false⟩ : T_api_Key) at_60).getD 0) > 0))), (18, .bool r_74), (93, .pointer I_68), (137, .bool false)]) (H' := [⟨40, b_7, [.int .u64 f_16, .int .u64 f_17, .slice A_19 f_18.length c_20, .map (mA A_22), .map (mA A_25)]⟩, ⟨49, b_72, [.int .u64 kv_70.1.Saga, .int .i64 kv_70.1.Step, .bool kv_70.1.Back]⟩, ⟨50, b_73, [.int .u64 kv_70.1.Saga, .int .i64 kv_70.1.Step, .bool false]⟩]) (ps := []) (by kernel_rfl) trivial ?_
      refine GoO.regionEnd ?_
      exact GoO.sub (ks := [3, 11, 14, 15, 16, 17, 18, 93, 137]) (hk := [0, 1, 2]) (bk := [0, 1, 2, 3, 4]) (by kernel_rfl) (by kernel_rfl) (by kernel_rfl) (tontinelaw18_LedgerOnce_j1_ok n L1 f_16 f_17 f_18 f_21 f_24 good_27 at_60 rem_69 kv_70 rem_71 r_74 A_2 c_3 b_7 A_19 c_20 A_22 c_23 A_25 c_26 A_28 A_61 c_62 I_68 b_72 b_73 w0 S0 ih1 false)
theorem tontinelaw18_LedgerOnce_j11_ok (n : Nat) (L1 : (List (T_api_Key × Bool)) → Option Bool) (f_16 : Int) (f_17 : Int) (f_18 : (List T_ledger_Effect)) (f_21 : (List (T_api_Key × Bool))) (f_24 : (List (T_api_Key × Bool))) (good_27 : (List (T_api_Key × Bool))) (at_60 : (List (T_api_Key × Int))) (rem_69 : (List (T_api_Key × Bool))) (kv_70 : (T_api_Key × Bool)) (rem_71 : (List (T_api_Key × Bool))) (r_74 : Bool) (A_2 : Option Addr) (c_3 : Nat) (b_7 : Nat) (A_19 : Option Addr) (c_20 : Nat) (A_22 : Option Addr) (c_23 : Nat) (A_25 : Option Addr) (c_26 : Nat) (A_28 : Option Addr) (A_61 : Option Addr) (c_62 : Nat) (I_68 : Option Addr) (b_72 : Nat) (b_73 : Nat) (w0 : World) (S0 : Fam) (ih1 : ∀ (rem_69 : (List (T_api_Key × Bool))), GoO (tontinelaw18_LedgerOnce.cx A_2 c_3 w0 S0) [(3, .pointer (some ⟨b_7, 0, none⟩)), (11, .map (mA A_61)), (93, .pointer I_68)] [⟨40, b_7, [.int .u64 f_16, .int .u64 f_17, .slice A_19 f_18.length c_20, .map (mA A_22), .map (mA A_25)]⟩] [Ow 41 kT_ledger_Effect A_19 c_20 f_18, Mp 42 ky41 (fun v => .bool v) A_22 c_23 f_21, Mp 43 ky41 (fun v => .bool v) A_25 c_26 f_24, Mp 46 ky52 (fun v => .int .i64 v) A_61 c_62 at_60, MI 44 ky41 (fun v => .bool v) A_28 I_68 good_27 rem_69 none] [.code c5_91, .inLoop c5_91, .inBlock 4, .code c5_119] (L1 rem_69)) (b_79 : Bool) :
    GoO (tontinelaw18_LedgerOnce.cx A_2 c_3 w0 S0) [(3, .pointer (some ⟨b_7, 0, none⟩)), (11, .map (mA A_61)), (14, .pointer (some ⟨b_72, 0, none⟩)), (15, .bool kv_70.2), (16, .pointer (some ⟨b_73, 0, none⟩)), (17, .bool (decide (((getA (⟨kv_70.1.Saga, kv_70.1.Step, false⟩ : T_api_Key) at_60).getD 0) > 0))), (18, .bool r_74), (93, .pointer I_68), (118, .bool false), (126, .bool b_79)] [⟨40, b_7, [.int .u64 f_16, .int .u64 f_17, .slice A_19 f_18.length c_20, .map (mA A_22), .map (mA A_25)]⟩, ⟨49, b_72, [.int .u64 kv_70.1.Saga, .int .i64 kv_70.1.Step, .bool kv_70.1.Back]⟩, ⟨50, b_73, [.int .u64 kv_70.1.Saga, .int .i64 kv_70.1.Step, .bool false]⟩] [Ow 41 kT_ledger_Effect A_19 c_20 f_18, Mp 42 ky41 (fun v => .bool v) A_22 c_23 f_21, Mp 43 ky41 (fun v => .bool v) A_25 c_26 f_24, Mp 46 ky52 (fun v => .int .i64 v) A_61 c_62 at_60, MI 44 ky41 (fun v => .bool v) A_28 I_68 good_27 rem_71 none] [.inRegion r5_106 [13, 14, 15, 16, 17, 18, 19, 20, 21, 22, 23], .code c5_107, .code c5_112, .inBlock 5, .inLoop c5_91, .inBlock 4, .code c5_119] (tontinelaw18_LedgerOnce.j11 n L1 at_60 kv_70 rem_71 r_74 b_79) := by
  unfold tontinelaw18_LedgerOnce.j11
  refine GoO.exec (is := [13]) (hs := [.p]) (rest := [14, 15, 16, 17, 18, 19, 20, 21, 22, 23]) (ks := [3, 11, 14, 15, 16, 17, 18, 93, 127]) (env' := [(3, .pointer (some ⟨b_7, 0, none⟩)), (11, .map (mA A_61)), (14, .pointer (some ⟨b_72, 0, none⟩)), (15, .bool kv_70.2), (16, .pointer (some ⟨b_73, 0, none⟩)), (17, .bool (decide (((getA (⟨kv_70.1.Saga, kv_70.1.Step, false⟩ : T_api_Key) at_60).getD 0) > 0))), (18, .bool r_74), (93, .pointer I_68), (127, .bool b_79)]) (H' := [⟨40, b_7, [.int .u64 f_16, .int .u64 f_17, .slice A_19 f_18.length c_20, .map (mA A_22), .map (mA A_25)]⟩, ⟨49, b_72, [.int .u64 kv_70.1.Saga, .int .i64 kv_70.1.Step, .bool kv_70.1.Back]⟩, ⟨50, b_73, [.int .u64 kv_70.1.Saga, .int .i64 kv_70.1.Step, .bool false]⟩]) (ps := []) (by kernel_rfl) trivial ?_
  exact GoO.sub (ks := [3, 11, 14, 15, 16, 17, 18, 93, 127]) (hk := [0, 1, 2]) (bk := [0, 1, 2, 3, 4]) (by kernel_rfl) (by kernel_rfl) (by kernel_rfl) (tontinelaw18_LedgerOnce_j10_ok n L1 f_16 f_17 f_18 f_21 f_24 good_27 at_60 rem_69 kv_70 rem_71 r_74 A_2 c_3 b_7 A_19 c_20 A_22 c_23 A_25 c_26 A_28 A_61 c_62 I_68 b_72 b_73 w0 S0 ih1 b_79)
theorem tontinelaw18_LedgerOnce_j9_ok (n : Nat) (L1 : (List (T_api_Key × Bool)) → Option Bool) (f_16 : Int) (f_17 : Int) (f_18 : (List T_ledger_Effect)) (f_21 : (List (T_api_Key × Bool))) (f_24 : (List (T_api_Key × Bool))) (good_27 : (List (T_api_Key × Bool))) (at_60 : (List (T_api_Key × Int))) (rem_69 : (List (T_api_Key × Bool))) (kv_70 : (T_api_Key × Bool)) (rem_71 : (List (T_api_Key × Bool))) (r_74 : Bool) (A_2 : Option Addr) (c_3 : Nat) (b_7 : Nat) (A_19 : Option Addr) (c_20 : Nat) (A_22 : Option Addr) (c_23 : Nat) (A_25 : Option Addr) (c_26 : Nat) (A_28 : Option Addr) (A_61 : Option Addr) (c_62 : Nat) (I_68 : Option Addr) (b_72 : Nat) (b_73 : Nat) (w0 : World) (S0 : Fam) (ih1 : ∀ (rem_69 : (List (T_api_Key × Bool))), GoO (tontinelaw18_LedgerOnce.cx A_2 c_3 w0 S0) [(3, .pointer (some ⟨b_7, 0, none⟩)), (11, .map (mA A_61)), (93, .pointer I_68)] [⟨40, b_7, [.int .u64 f_16, .int .u64 f_17, .slice A_19 f_18.length c_20, .map (mA A_22), .map (mA A_25)]⟩] [Ow 41 kT_ledger_Effect A_19 c_20 f_18, Mp 42 ky41 (fun v => .bool v) A_22 c_23 f_21, Mp 43 ky41 (fun v => .bool v) A_25 c_26 f_24, Mp 46 ky52 (fun v => .int .i64 v) A_61 c_62 at_60, MI 44 ky41 (fun v => .bool v) A_28 I_68 good_27 rem_69 none] [.code c5_91, .inLoop c5_91, .inBlock 4, .code c5_119] (L1 rem_69)) (b_76 : Bool) :
    GoO (tontinelaw18_LedgerOnce.cx A_2 c_3 w0 S0) [(3, .pointer (some ⟨b_7, 0, none⟩)), (11, .map (mA A_61)), (14, .pointer (some ⟨b_72, 0, none⟩)), (15, .bool kv_70.2), (16, .pointer (some ⟨b_73, 0, none⟩)), (17, .bool (decide (((getA (⟨kv_70.1.Saga, kv_70.1.Step, false⟩ : T_api_Key) at_60).getD 0) > 0))), (18, .bool r_74), (93, .pointer I_68), (117, .bool b_76)] [⟨40, b_7, [.int .u64 f_16, .int .u64 f_17, .slice A_19 f_18.length c_20, .map (mA A_22), .map (mA A_25)]⟩, ⟨49, b_72, [.int .u64 kv_70.1.Saga, .int .i64 kv_70.1.Step, .bool kv_70.1.Back]⟩, ⟨50, b_73, [.int .u64 kv_70.1.Saga, .int .i64 kv_70.1.Step, .bool false]⟩] [Ow 41 kT_ledger_Effect A_19 c_20 f_18, Mp 42 ky41 (fun v => .bool v) A_22 c_23 f_21, Mp 43 ky41 (fun v => .bool v) A_25 c_26 f_24, Mp 46 ky52 (fun v => .int .i64 v) A_61 c_62 at_60, MI 44 ky41 (fun v => .bool v) A_28 I_68 good_27 rem_71 none] [.inRegion r5_106 [4, 5, 6, 7, 8, 9, 10, 11, 12, 13, 14, 15, 16, 17, 18, 19, 20, 21, 22, 23], .code c5_107, .code c5_112, .inBlock 5, .inLoop c5_91, .inBlock 4, .code c5_119] (tontinelaw18_LedgerOnce.j9 n L1 at_60 kv_70 rem_71 r_74 b_76) := by
  unfold tontinelaw18_LedgerOnce.j9
  refine GoO.exec (is := [4]) (hs := [.p]) (rest := [5, 6, 7, 8, 9, 10, 11, 12, 13, 14, 15, 16, 17, 18, 19, 20, 21, 22, 23]) (ks := [3, 11, 14, 15, 16, 17, 18, 93, 118]) (env' := [(3, .pointer (some ⟨b_7, 0, none⟩)), (11, .map (mA A_61)), (14, .pointer (some ⟨b_72, 0, none⟩)), (15, .bool kv_70.2), (16, .pointer (some ⟨b_73, 0, none⟩)), (17, .bool (decide (((getA (⟨kv_70.1.Saga, kv_70.1.Step, false⟩ : T_api_Key) at_60).getD 0) > 0))), (18, .bool r_74), (93, .pointer I_68), (118, .bool b_76)]) (H' := [⟨40, b_7, [.int .u64 f_16, .int .u64 f_17, .slice A_19 f_18.length c_20, .map (mA A_22), .map (mA A_25)]⟩, ⟨49, b_72, [.int .u64 kv_70.1.Saga, .int .i64 kv_70.1.Step, .bool kv_70.1.Back]⟩, ⟨50, b_73, [.int .u64 kv_70.1.Saga, .int .i64 kv_70.1.Step, .bool false]⟩]) (ps := []) (by kernel_rfl) trivial ?_
  refine GoO.bsplit (t := 118) (by kernel_rfl) (fun h77 => ?_) (fun h77 => ?_)
  · refine GoO.exec (is := [5, 6, 7, 8, 9, 10, 11, 12, 13]) (hs := [.p, .p, .p, .p, .p, .p, .p, .p, .p]) (rest := [14, 15, 16, 17, 18, 19, 20, 21, 22, 23]) (ks := [3, 11, 14, 15, 16, 17, 18, 93, 127]) (env' := [(3, .pointer (some ⟨b_7, 0, none⟩)), (11, .map (mA A_61)), (14, .pointer (some ⟨b_72, 0, none⟩)), (15, .bool kv_70.2), (16, .pointer (some ⟨b_73, 0, none⟩)), (17, .bool (decide (((getA (⟨kv_70.1.Saga, kv_70.1.Step, false⟩ : T_api_Key) at_60).getD 0) > 0))), (18, .bool r_74), (93, .pointer I_68), (127, .bool true)]) (H' := [⟨40, b_7, [.int .u64 f_16, .int .u64 f_17, .slice A_19 f_18.length c_20, .map (mA A_22), .map (mA A_25)]⟩, ⟨49, b_72, [.int .u64 kv_70.1.Saga, .int .i64 kv_70.1.Step, .bool kv_70.1.Back]⟩, ⟨50, b_73, [.int .u64 kv_70.1.Saga, .int .i64 kv_70.1.Step, .bool false]⟩]) (ps := []) (by kernel_rfl) trivial ?_
    exact GoO.sub (ks := [3, 11, 14, 15, 16, 17, 18, 93, 127]) (hk := [0, 1, 2]) (bk := [0, 1, 2, 3, 4]) (by kernel_rfl) (by kernel_rfl) (by kernel_rfl) (tontinelaw18_LedgerOnce_j10_ok n L1 f_16 f_17 f_18 f_21 f_24 good_27 at_60 rem_69 kv_70 rem_71 r_74 A_2 c_3 b_7 A_19 c_20 A_22 c_23 A_25 c_26 A_28 A_61 c_62 I_68 b_72 b_73 w0 S0 ih1 true)
  · refine GoO.exec (is := [5, 6]) (hs := [.p, .b 1]) (rest := [7, 8, 9, 10, 11, 12, 13, 14, 15, 16, 17, 18, 19, 20, 21, 22, 23]) (ks := [3, 11, 14, 15, 16, 17, 18, 93, 118, 119, 120]) (env' := [(3, .pointer (some ⟨b_7, 0, none⟩)), (11, .map (mA A_61)), (14, .pointer (some ⟨b_72, 0, none⟩)), (15, .bool kv_70.2), (16, .pointer (some ⟨b_73, 0, none⟩)), (17, .bool (decide (((getA (⟨kv_70.1.Saga, kv_70.1.Step, false⟩ : T_api_Key) at_60).getD 0) > 0))), (18, .bool r_74), (93, .pointer I_68), (118, .bool false), (119, .map (mA A_61)), (120, .agg ⟨[.int .u64 kv_70.1.Saga, .int .i64 kv_70.1.Step, .bool kv_70.1.Back]⟩)]) (H' := [⟨40, b_7, [.int .u64 f_16, .int .u64 f_17, .slice A_19 f_18.length c_20, .map (mA A_22), .map (mA A_25)]⟩, ⟨49, b_72, [.int .u64 kv_70.1.Saga, .int .i64 kv_70.1.Step, .bool kv_70.1.Back]⟩, ⟨50, b_73, [.int .u64 kv_70.1.Saga, .int .i64 kv_70.1.Step, .bool false]⟩]) (ps := [b_72 = b_72]) (by kernel_rfl) (And.intro rfl trivial) ?_
    refine OpTo.go (GoO.mapLk (vt := 3) (K := ky52) (ev := (fun v => .int .i64 v)) (A := A_61) (c := c_62) (l := at_60) (key := kv_70.1) (j := 3) rfl (by kernel_rfl) (by kernel_rfl) (by kernel_rfl) rfl 0 (fun _ => by kernel_rfl) rfl ?_)
    refine GoO.exec (is := [8, 9]) (hs := [.p, .p]) (rest := [10, 11, 12, 13, 14, 15, 16, 17, 18, 19, 20, 21, 22, 23]) (ks := [3, 11, 14, 15, 16, 17, 18, 93, 118, 123]) (env' := [(3, .pointer (some ⟨b_7, 0, none⟩)), (11, .map (mA A_61)), (14, .pointer (some ⟨b_72, 0, none⟩)), (15, .bool kv_70.2), (16, .pointer (some ⟨b_73, 0, none⟩)), (17, .bool (decide (((getA (⟨kv_70.1.Saga, kv_70.1.Step, false⟩ : T_api_Key) at_60).getD 0) > 0))), (18, .bool r_74), (93, .pointer I_68), (118, .bool false), (123, .bool (decide (((getA kv_70.1 at_60).getD 0) > 0)))]) (H' := [⟨40, b_7, [.int .u64 f_16, .int .u64 f_17, .slice A_19 f_18.length c_20, .map (mA A_22), .map (mA A_25)]⟩, ⟨49, b_72, [.int .u64 kv_70.1.Saga, .int .i64 kv_70.1.Step, .bool kv_70.1.Back]⟩, ⟨50, b_73, [.int .u64 kv_70.1.Saga, .int .i64 kv_70.1.Step, .bool false]⟩]) (ps := []) (by kernel_rfl) trivial ?_
    refine GoO.bsplit (t := 123) (by kernel_rfl) (fun h78 => ?_) (fun h78 => ?_)
    · refine GoO.exec (is := [10, 11, 12]) (hs := [.p, .p, .p]) (rest := [13, 14, 15, 16, 17, 18, 19, 20, 21, 22, 23]) (ks := [3, 11, 14, 15, 16, 17, 18, 93, 118, 126]) (env' := [(3, .pointer (some ⟨b_7, 0, none⟩)), (11, .map (mA A_61)), (14, .pointer (some ⟨b_72, 0, none⟩)), (15, .bool kv_70.2), (16, .pointer (some ⟨b_73, 0, none⟩)), (17, .bool (decide (((getA (⟨kv_70.1.Saga, kv_70.1.Step, false⟩ : T_api_Key) at_60).getD 0) > 0))), (18, .bool r_74), (93, .pointer I_68), (118, .bool false), (126, .bool (!kv_70.2))]) (H' := [⟨40, b_7, [.int .u64 f_16, .int .u64 f_17, .slice A_19 f_18.length c_20, .map (mA A_22), .map (mA A_25)]⟩, ⟨49, b_72, [.int .u64 kv_70.1.Saga, .int .i64 kv_70.1.Step, .bool kv_70.1.Back]⟩, ⟨50, b_73, [.int .u64 kv_70.1.Saga, .int .i64 kv_70.1.Step, .bool false]⟩]) (ps := []) (by kernel_rfl) trivial ?_
      exact GoO.sub (ks := [3, 11, 14, 15, 16, 17, 18, 93, 118, 126]) (hk := [0, 1, 2]) (bk := [0, 1, 2, 3, 4]) (by kernel_rfl) (by kernel_rfl) (by kernel_rfl) (tontinelaw18_LedgerOnce_j11_ok n L1 f_16 f_17 f_18 f_21 f_24 good_27 at_60 rem_69 kv_70 rem_71 r_74 A_2 c_3 b_7 A_19 c_20 A_22 c_23 A_25 c_26 A_28 A_61 c_62 I_68 b_72 b_73 w0 S0 ih1 (!kv_70.2))
    · refine GoO.exec (is := [10, 11, 12]) (hs := [.p, .p, .p]) (rest := [13, 14, 15, 16, 17, 18, 19, 20, 21, 22, 23]) (ks := [3, 11, 14, 15, 16, 17, 18, 93, 118, 126]) (env' := [(3, .pointer (some ⟨b_7, 0, none⟩)), (11, .map (mA A_61)), (14, .pointer (some ⟨b_72, 0, none⟩)), (15, .bool kv_70.2), (16, .pointer (some ⟨b_73, 0, none⟩)), (17, .bool (decide (((getA (⟨kv_70.1.Saga, kv_70.1.Step, false⟩ : T_api_Key) at_60).getD 0) > 0))), (18, .bool r_74), (93, .pointer I_68), (118, .bool false), (126, .bool false)]) (H' := [⟨40, b_7, [.int .u64 f_16, .int .u64 f_17, .slice A_19 f_18.length c_20, .map (mA A_22), .map (mA A_25)]⟩, ⟨49, b_72, [.int .u64 kv_70.1.Saga, .int .i64 kv_70.1.Step, .bool kv_70.1.Back]⟩, ⟨50, b_73, [.int .u64 kv_70.1.Saga, .int .i64 kv_70.1.Step, .bool false]⟩]) (ps := []) (by kernel_rfl) trivial ?_
      exact GoO.sub (ks := [3, 11, 14, 15, 16, 17, 18, 93, 118, 126]) (hk := [0, 1, 2]) (bk := [0, 1, 2, 3, 4]) (by kernel_rfl) (by kernel_rfl) (by kernel_rfl) (tontinelaw18_LedgerOnce_j11_ok n L1 f_16 f_17 f_18 f_21 f_24 good_27 at_60 rem_69 kv_70 rem_71 r_74 A_2 c_3 b_7 A_19 c_20 A_22 c_23 A_25 c_26 A_28 A_61 c_62 I_68 b_72 b_73 w0 S0 ih1 false)
theorem tontinelaw18_LedgerOnce_l1_ok (n : Nat) (f_16 : Int) (f_17 : Int) (f_18 : (List T_ledger_Effect)) (f_21 : (List (T_api_Key × Bool))) (f_24 : (List (T_api_Key × Bool))) (good_27 : (List (T_api_Key × Bool))) (at_60 : (List (T_api_Key × Int))) (b_7 : Nat) (A_19 : Option Addr) (c_20 : Nat) (A_22 : Option Addr) (c_23 : Nat) (A_25 : Option Addr) (c_26 : Nat) (A_28 : Option Addr) (A_61 : Option Addr) (c_62 : Nat) (I_68 : Option Addr) (A_2 : Option Addr) (c_3 : Nat) (w0 : World) (S0 : Fam) :
    ∀ (k : Nat) (rem_69 : (List (T_api_Key × Bool))), GoO (tontinelaw18_LedgerOnce.cx A_2 c_3 w0 S0) [(3, .pointer (some ⟨b_7, 0, none⟩)), (11, .map (mA A_61)), (93, .pointer I_68)] [⟨40, b_7, [.int .u64 f_16, .int .u64 f_17, .slice A_19 f_18.length c_20, .map (mA A_22), .map (mA A_25)]⟩] [Ow 41 kT_ledger_Effect A_19 c_20 f_18, Mp 42 ky41 (fun v => .bool v) A_22 c_23 f_21, Mp 43 ky41 (fun v => .bool v) A_25 c_26 f_24, Mp 46 ky52 (fun v => .int .i64 v) A_61 c_62 at_60, MI 44 ky41 (fun v => .bool v) A_28 I_68 good_27 rem_69 none] [.code c5_91, .inLoop c5_91, .inBlock 4, .code c5_119] (tontinelaw18_LedgerOnce.l1 n f_16 f_17 f_18 f_21 f_24 at_60 k rem_69) := by
  intro k
  induction k with
  | zero => intros; rw [tontinelaw18_LedgerOnce.l1.eq_1]; exact GoO.stop
  | succ k ih1 =>
    intro rem_69
    rw [tontinelaw18_LedgerOnce.l1.eq_2]
    refine GoO.seq' c5_91e ?_
    refine GoO.region' (is := [0, 1]) c5_92e (by kernel_rfl) ?_
    refine OpTo.go (GoO.mapNx (K := ky41) (ev := (fun v => .bool v)) (A := A_28) (I := I_68) (tg := 44) (c := 0) (l := good_27) (rem := rem_69) (cur := none) (j := 4) rfl (by kernel_rfl) rfl (by kernel_rfl) (by kernel_rfl) (by kernel_rfl) rfl _ (fun _ => rfl) ?_ (fun kv_70 rem_71 => ?_))
    · refine GoO.exec (is := [1]) (hs := [.p]) (rest := []) (ks := [3, 11, 93, 95]) (env' := [(3, .pointer (some ⟨b_7, 0, none⟩)), (11, .map (mA A_61)), (93, .pointer I_68), (95, .bool false)]) (H' := [⟨40, b_7, [.int .u64 f_16, .int .u64 f_17, .slice A_19 f_18.length c_20, .map (mA A_22), .map (mA A_25)]⟩]) (ps := []) (by kernel_rfl) trivial ?_
      refine GoO.regionEnd ?_
      refine GoO.seq' c5_93e ?_
      refine GoO.condF c5_94e (by kernel_rfl) ?_
      refine GoO.exit' c5_96e rfl ?_
      refine GoO.seq' c5_119e ?_
      refine GoO.region' (is := [0]) c5_120e (by kernel_rfl) ?_
      refine GoO.exec (is := [0]) (hs := [.p]) (rest := []) (ks := [2]) (env' := [(2, .bool true)]) (H' := [⟨40, b_7, [.int .u64 f_16, .int .u64 f_17, .slice A_19 f_18.length c_20, .map (mA A_22), .map (mA A_25)]⟩]) (ps := []) (by kernel_rfl) trivial ?_
      refine GoO.regionEnd ?_
      exact GoO.ret' (h := c5_121e) (hs := []) (ps := []) (hk := []) (bk := []) Try.func5 () (by kernel_rfl) trivial (by kernel_rfl) (by kernel_rfl)
    · refine GoO.exec (is := [1]) (hs := [.p]) (rest := []) (ks := [3, 11, 93, 95]) (env' := [(3, .pointer (some ⟨b_7, 0, none⟩)), (11, .map (mA A_61)), (93, .pointer I_68), (95, .bool true)]) (H' := [⟨40, b_7, [.int .u64 f_16, .int .u64 f_17, .slice A_19 f_18.length c_20, .map (mA A_22), .map (mA A_25)]⟩]) (ps := []) (by kernel_rfl) trivial ?_
      refine GoO.regionEnd ?_
      refine GoO.seq' c5_93e ?_
      refine GoO.condT c5_94e (by kernel_rfl) ?_
      refine GoO.skip' c5_95e ?_
      refine GoO.block' c5_97e ?_
      refine GoO.seq' c5_98e ?_
      refine GoO.region' (is := [0, 1, 2, 3, 4, 5]) c5_99e (by kernel_rfl) ?_
      refine OpTo.go (GoO.mapEn (K := ky41) (ev := (fun v => .bool v)) (A := A_28) (I := I_68) (tg := 44) (l := good_27) (rem := rem_71) (p := kv_70) (j := 4) rfl (by kernel_rfl) rfl rfl ?_)
      refine GoO.exec (is := [1, 2]) (hs := [.p, .p]) (rest := [3, 4, 5]) (ks := [3, 11, 93, 97, 98]) (env' := [(3, .pointer (some ⟨b_7, 0, none⟩)), (11, .map (mA A_61)), (93, .pointer I_68), (97, .agg ⟨[.int .u64 kv_70.1.Saga, .int .i64 kv_70.1.Step, .bool kv_70.1.Back]⟩), (98, .bool kv_70.2)]) (H' := [⟨40, b_7, [.int .u64 f_16, .int .u64 f_17, .slice A_19 f_18.length c_20, .map (mA A_22), .map (mA A_25)]⟩]) (ps := []) (by kernel_rfl) trivial ?_
      refine OpTo.go (GoO.new rfl 49 (cs := [.int .u64 0, .int .i64 0, .bool false]) (by kernel_rfl) _ (fun _ => rfl) (fun b_72 => ?_))
      refine GoO.exec (is := [4, 5]) (hs := [.b 0, .p]) (rest := []) (ks := [3, 11, 14, 15, 93]) (env' := [(3, .pointer (some ⟨b_7, 0, none⟩)), (11, .map (mA A_61)), (14, .pointer (some ⟨b_72, 0, none⟩)), (15, .bool kv_70.2), (93, .pointer I_68)]) (H' := [⟨49, b_72, [.int .u64 kv_70.1.Saga, .int .i64 kv_70.1.Step, .bool kv_70.1.Back]⟩, ⟨40, b_7, [.int .u64 f_16, .int .u64 f_17, .slice A_19 f_18.length c_20, .map (mA A_22), .map (mA A_25)]⟩]) (ps := [b_72 = b_72]) (by kernel_rfl) (And.intro rfl trivial) ?_
      refine GoO.regionEnd ?_
      refine GoO.seq' c5_100e ?_
      refine GoO.region' (is := [0, 1, 2, 3, 4, 5, 6]) c5_101e (by kernel_rfl) ?_
      refine GoO.exec (is := [0, 1, 2, 3, 4]) (hs := [.p, .b 0, .p, .b 0, .p]) (rest := [5, 6]) (ks := [3, 11, 14, 15, 93, 103]) (env' := [(3, .pointer (some ⟨b_7, 0, none⟩)), (11, .map (mA A_61)), (14, .pointer (some ⟨b_72, 0, none⟩)), (15, .bool kv_70.2), (93, .pointer I_68), (103, .agg ⟨[.int .u64 kv_70.1.Saga, .int .i64 kv_70.1.Step, .bool false]⟩)]) (H' := [⟨49, b_72, [.int .u64 kv_70.1.Saga, .int .i64 kv_70.1.Step, .bool kv_70.1.Back]⟩, ⟨40, b_7, [.int .u64 f_16, .int .u64 f_17, .slice A_19 f_18.length c_20, .map (mA A_22), .map (mA A_25)]⟩]) (ps := [b_72 = b_72, b_72 = b_72]) (by kernel_rfl) (And.intro rfl (And.intro rfl trivial)) ?_
      refine OpTo.go (GoO.new rfl 50 (cs := [.int .u64 0, .int .i64 0, .bool false]) (by kernel_rfl) _ (fun _ => rfl) (fun b_73 => ?_))
      refine GoO.exec (is := [6]) (hs := [.b 0]) (rest := []) (ks := [3, 11, 14, 15, 16, 93]) (env' := [(3, .pointer (some ⟨b_7, 0, none⟩)), (11, .map (mA A_61)), (14, .pointer (some ⟨b_72, 0, none⟩)), (15, .bool kv_70.2), (16, .pointer (some ⟨b_73, 0, none⟩)), (93, .pointer I_68)]) (H' := [⟨50, b_73, [.int .u64 kv_70.1.Saga, .int .i64 kv_70.1.Step, .bool false]⟩, ⟨49, b_72, [.int .u64 kv_70.1.Saga, .int .i64 kv_70.1.Step, .bool kv_70.1.Back]⟩, ⟨40, b_7, [.int .u64 f_16, .int .u64 f_17, .slice A_19 f_18.length c_20, .map (mA A_22), .map (mA A_25)]⟩]) (ps := [b_73 = b_73]) (by kernel_rfl) (And.intro rfl trivial) ?_
      refine GoO.regionEnd ?_
      refine GoO.seq' c5_102e ?_
      refine GoO.draw c5_103e (by kernel_rfl) [11] [⟨50, b_73, [.int .u64 kv_70.1.Saga, .int .i64 kv_70.1.Step, .bool false]⟩, ⟨49, b_72, [.int .u64 kv_70.1.Saga, .int .i64 kv_70.1.Step, .bool kv_70.1.Back]⟩] [Mp 46 ky52 (fun v => .int .i64 v) A_61 c_62 at_60] (n := 12) (by kernel_rfl) ?_
      simp only [List.replicate]
      refine GoF.take [0, 1, 4, 5, 6, 7, 8] [.p, .b 0, .p, .p, .b 1, .p, .b 1] (ks := [3, 11, 14, 15, 16, 93, 104, 105, 108, 110, 112]) (fu := 5) (li := [true, true, false, false, true, true, true, true, true, false, false, false]) (env' := [(3, .pointer (some ⟨b_7, 0, none⟩)), (11, .map (mA A_61)), (14, .pointer (some ⟨b_72, 0, none⟩)), (15, .bool kv_70.2), (16, .pointer (some ⟨b_73, 0, none⟩)), (93, .pointer I_68), (104, .map (mA A_61)), (105, .agg ⟨[.int .u64 kv_70.1.Saga, .int .i64 kv_70.1.Step, .bool false]⟩), (108, .pointer (some ⟨b_7, 0, none⟩)), (110, .int .u64 kv_70.1.Saga), (112, .int .i64 kv_70.1.Step)]) (ps := [b_73 = b_73, b_72 = b_72, b_72 = b_72]) (hk := [0, 1]) (bk := [3]) (by kernel_rfl) (And.intro rfl (And.intro rfl (And.intro rfl trivial))) rfl rfl ?_
      refine GoF.mapLk1 (i := 2) (hk := [0, 1]) (bk := [3]) (vt := 3) (K := ky52) (ev := (fun v => .int .i64 v)) (A := A_61) (c := c_62) (l := at_60) (key := (⟨kv_70.1.Saga, kv_70.1.Step, false⟩ : T_api_Key)) (j := 0) (by kernel_rfl) rfl rfl rfl (by kernel_rfl) (by kernel_rfl) (by kernel_rfl) rfl 0 (fun _ => by kernel_rfl) rfl ?_
      refine GoF.take [3] [.p] (ks := [3, 11, 14, 15, 16, 93, 107, 108, 110, 112]) (fu := 3) (li := [true, true, true, true, true, true, true, true, true, false, false, false]) (env' := [(3, .pointer (some ⟨b_7, 0, none⟩)), (11, .map (mA A_61)), (14, .pointer (some ⟨b_72, 0, none⟩)), (15, .bool kv_70.2), (16, .pointer (some ⟨b_73, 0, none⟩)), (93, .pointer I_68), (107, .bool (decide (((getA (⟨kv_70.1.Saga, kv_70.1.Step, false⟩ : T_api_Key) at_60).getD 0) > 0))), (108, .pointer (some ⟨b_7, 0, none⟩)), (110, .int .u64 kv_70.1.Saga), (112, .int .i64 kv_70.1.Step)]) (ps := []) (hk := [0, 1]) (bk := [3]) (by kernel_rfl) trivial rfl rfl ?_
      refine OpTo.goF (i := 9) (by kernel_rfl) (hk := [0, 1]) (bk := [3]) (GoO.call rfl (by kernel_rfl) (by kernel_rfl) (ledger_Ledger_Dead_ok n (⟨(⟨f_16, f_17⟩ : T_api_Token), f_18, f_21, f_24⟩ : T_ledger_Ledger) kv_70.1.Saga kv_70.1.Step b_7 A_19 c_20 A_22 c_23 A_25 c_26) [[0], [40], [41], [42], [43]] [] [(1, 2)] [(2, 0), (3, 1), (4, 2)] (hks := [0, 1, 2]) (bks := [0, 1, 2, 3, 4]) (by kernel_rfl) (by kernel_rfl) (by kernel_rfl) (.inl rfl) rfl rfl (by kernel_rfl) (by kernel_rfl) _ (fun _ _ => rfl) _ _ (fun _ _ => rfl) (fun _ _ => rfl) (fun _ _ => by kernel_rfl) (fun _ _ => by kernel_rfl) (fun r_74 x_102 => ⟨rfl, rfl, ?_⟩))
      refine GoF.shape (env' := [(3, .pointer (some ⟨b_7, 0, none⟩)), (11, .map (mA A_61)), (14, .pointer (some ⟨b_72, 0, none⟩)), (15, .bool kv_70.2), (16, .pointer (some ⟨b_73, 0, none⟩)), (93, .pointer I_68), (107, .bool (decide (((getA (⟨kv_70.1.Saga, kv_70.1.Step, false⟩ : T_api_Key) at_60).getD 0) > 0))), (108, .pointer (some ⟨b_7, 0, none⟩)), (110, .int .u64 kv_70.1.Saga), (112, .int .i64 kv_70.1.Step), (113, .bool r_74)]) (H' := [⟨50, b_73, [.int .u64 kv_70.1.Saga, .int .i64 kv_70.1.Step, .bool false]⟩, ⟨49, b_72, [.int .u64 kv_70.1.Saga, .int .i64 kv_70.1.Step, .bool kv_70.1.Back]⟩, ⟨40, b_7, [.int .u64 f_16, .int .u64 f_17, .slice A_19 f_18.length c_20, .map (mA A_22), .map (mA A_25)]⟩]) (B' := [Ow 41 kT_ledger_Effect A_19 c_20 f_18, Mp 42 ky41 (fun v => .bool v) A_22 c_23 f_21, Mp 43 ky41 (fun v => .bool v) A_25 c_26 f_24, Mp 46 ky52 (fun v => .int .i64 v) A_61 c_62 at_60, MI 44 ky41 (fun v => .bool v) A_28 I_68 good_27 rem_71 (some kv_70)]) (ks := [3, 11, 14, 15, 16, 93, 107, 108, 110, 112, 113]) (by kernel_rfl) (by kernel_rfl) (by kernel_rfl) ?_
      refine GoF.take [10] [.p] (ks := [3, 11, 14, 15, 16, 17, 93, 113]) (fu := 1) (li := [true, true, true, true, true, true, true, true, true, true, true, false]) (env' := [(3, .pointer (some ⟨b_7, 0, none⟩)), (11, .map (mA A_61)), (14, .pointer (some ⟨b_72, 0, none⟩)), (15, .bool kv_70.2), (16, .pointer (some ⟨b_73, 0, none⟩)), (17, .bool (decide (((getA (⟨kv_70.1.Saga, kv_70.1.Step, false⟩ : T_api_Key) at_60).getD 0) > 0))), (93, .pointer I_68), (113, .bool r_74)]) (ps := []) (hk := [0, 1]) (bk := [3]) (by kernel_rfl) trivial rfl rfl ?_
      refine GoF.fin1 (i := 11) (hint := .p) (ps := []) (hk := []) (bk := []) (by kernel_rfl) rfl trivial (.inl rfl) ?_
      refine GoF.done (by kernel_rfl) ?_
      refine GoO.seq' c5_104e ?_
      refine GoO.seq' c5_105e ?_
      refine GoO.region' (is := [0, 1, 2, 3, 4, 5, 6, 7, 8, 9, 10, 11, 12, 13, 14, 15, 16, 17, 18, 19, 20, 21, 22, 23]) c5_106e (by kernel_rfl) ?_
      refine GoO.exec (is := [0, 1]) (hs := [.p, .p]) (rest := [2, 3, 4, 5, 6, 7, 8, 9, 10, 11, 12, 13, 14, 15, 16, 17, 18, 19, 20, 21, 22, 23]) (ks := [3, 11, 14, 15, 16, 17, 18, 93, 115]) (env' := [(3, .pointer (some ⟨b_7, 0, none⟩)), (11, .map (mA A_61)), (14, .pointer (some ⟨b_72, 0, none⟩)), (15, .bool kv_70.2), (16, .pointer (some ⟨b_73, 0, none⟩)), (17, .bool (decide (((getA (⟨kv_70.1.Saga, kv_70.1.Step, false⟩ : T_api_Key) at_60).getD 0) > 0))), (18, .bool r_74), (93, .pointer I_68), (115, .bool (decide (((getA (⟨kv_70.1.Saga, kv_70.1.Step, false⟩ : T_api_Key) at_60).getD 0) > 0)))]) (H' := [⟨50, b_73, [.int .u64 kv_70.1.Saga, .int .i64 kv_70.1.Step, .bool false]⟩, ⟨49, b_72, [.int .u64 kv_70.1.Saga, .int .i64 kv_70.1.Step, .bool kv_70.1.Back]⟩, ⟨40, b_7, [.int .u64 f_16, .int .u64 f_17, .slice A_19 f_18.length c_20, .map (mA A_22), .map (mA A_25)]⟩]) (ps := []) (by kernel_rfl) trivial ?_
      refine GoO.bsplit (t := 115) (by kernel_rfl) (fun h75 => ?_) (fun h75 => ?_)
      · refine GoO.exec (is := [2, 3]) (hs := [.p, .p]) (rest := [4, 5, 6, 7, 8, 9, 10, 11, 12, 13, 14, 15, 16, 17, 18, 19, 20, 21, 22, 23]) (ks := [3, 11, 14, 15, 16, 17, 18, 93, 117]) (env' := [(3, .pointer (some ⟨b_7, 0, none⟩)), (11, .map (mA A_61)), (14, .pointer (some ⟨b_72, 0, none⟩)), (15, .bool kv_70.2), (16, .pointer (some ⟨b_73, 0, none⟩)), (17, .bool (decide (((getA (⟨kv_70.1.Saga, kv_70.1.Step, false⟩ : T_api_Key) at_60).getD 0) > 0))), (18, .bool r_74), (93, .pointer I_68), (117, .bool r_74)]) (H' := [⟨50, b_73, [.int .u64 kv_70.1.Saga, .int .i64 kv_70.1.Step, .bool false]⟩, ⟨49, b_72, [.int .u64 kv_70.1.Saga, .int .i64 kv_70.1.Step, .bool kv_70.1.Back]⟩, ⟨40, b_7, [.int .u64 f_16, .int .u64 f_17, .slice A_19 f_18.length c_20, .map (mA A_22), .map (mA A_25)]⟩]) (ps := []) (by kernel_rfl) trivial ?_
        refine GoO.mapFg (j := 4) rfl ?_
        exact GoO.sub (ks := [3, 11, 14, 15, 16, 17, 18, 93, 117]) (hk := [2, 1, 0]) (bk := [0, 1, 2, 3, 4]) (by kernel_rfl) (by kernel_rfl) (by kernel_rfl) (tontinelaw18_LedgerOnce_j9_ok n (tontinelaw18_LedgerOnce.l1 n f_16 f_17 f_18 f_21 f_24 at_60 k) f_16 f_17 f_18 f_21 f_24 good_27 at_60 rem_69 kv_70 rem_71 r_74 A_2 c_3 b_7 A_19 c_20 A_22 c_23 A_25 c_26 A_28 A_61 c_62 I_68 b_72 b_73 w0 S0 ih1 r_74)
      · refine GoO.exec (is := [2, 3]) (hs := [.p, .p]) (rest := [4, 5, 6, 7, 8, 9, 10, 11, 12, 13, 14, 15, 16, 17, 18, 19, 20, 21, 22, 23]) (ks := [3, 11, 14, 15, 16, 17, 18, 93, 117]) (env' := [(3, .pointer (some ⟨b_7, 0, none⟩)), (11, .map (mA A_61)), (14, .pointer (some ⟨b_72, 0, none⟩)), (15, .bool kv_70.2), (16, .pointer (some ⟨b_73, 0, none⟩)), (17, .bool (decide (((getA (⟨kv_70.1.Saga, kv_70.1.Step, false⟩ : T_api_Key) at_60).getD 0) > 0))), (18, .bool r_74), (93, .pointer I_68), (117, .bool false)]) (H' := [⟨50, b_73, [.int .u64 kv_70.1.Saga, .int .i64 kv_70.1.Step, .bool false]⟩, ⟨49, b_72, [.int .u64 kv_70.1.Saga, .int .i64 kv_70.1.Step, .bool kv_70.1.Back]⟩, ⟨40, b_7, [.int .u64 f_16, .int .u64 f_17, .slice A_19 f_18.length c_20, .map (mA A_22), .map (mA A_25)]⟩]) (ps := []) (by kernel_rfl) trivial ?_
        refine GoO.mapFg (j := 4) rfl ?_
        exact GoO.sub (ks := [3, 11, 14, 15, 16, 17, 18, 93, 117]) (hk := [2, 1, 0]) (bk := [0, 1, 2, 3, 4]) (by kernel_rfl) (by kernel_rfl) (by kernel_rfl) (tontinelaw18_LedgerOnce_j9_ok n (tontinelaw18_LedgerOnce.l1 n f_16 f_17 f_18 f_21 f_24 at_60 k) f_16 f_17 f_18 f_21 f_24 good_27 at_60 rem_69 kv_70 rem_71 r_74 A_2 c_3 b_7 A_19 c_20 A_22 c_23 A_25 c_26 A_28 A_61 c_62 I_68 b_72 b_73 w0 S0 ih1 false)
theorem tontinelaw18_LedgerOnce_l0_ok (n : Nat) (f_16 : Int) (f_17 : Int) (f_18 : (List T_ledger_Effect)) (f_21 : (List (T_api_Key × Bool))) (f_24 : (List (T_api_Key × Bool))) (good_27 : (List (T_api_Key × Bool))) (r_57 : (List T_ledger_Effect)) (b_7 : Nat) (A_19 : Option Addr) (c_20 : Nat) (A_22 : Option Addr) (c_23 : Nat) (A_25 : Option Addr) (c_26 : Nat) (A_28 : Option Addr) (c_29 : Nat) (A_58 : Option Addr) (c_59 : Nat) (A_2 : Option Addr) (c_3 : Nat) (w0 : World) (S0 : Fam) :
    ∀ (k : Nat) (at_60 : (List (T_api_Key × Int))) (x_63 : Int) (A_61 : Option Addr) (c_62 : Nat), GoO (tontinelaw18_LedgerOnce.cx A_2 c_3 w0 S0) [(3, .pointer (some ⟨b_7, 0, none⟩)), (4, .map (mA A_28)), (11, .map (mA A_61)), (74, .slice A_58 r_57.length c_59), (75, .int .i64 (r_57.length : Int)), (76, .int .i64 x_63)] [⟨40, b_7, [.int .u64 f_16, .int .u64 f_17, .slice A_19 f_18.length c_20, .map (mA A_22), .map (mA A_25)]⟩] [Ow 41 kT_ledger_Effect A_19 c_20 f_18, Mp 42 ky41 (fun v => .bool v) A_22 c_23 f_21, Mp 43 ky41 (fun v => .bool v) A_25 c_26 f_24, Mp 44 ky41 (fun v => .bool v) A_28 c_29 good_27, Mp 46 ky52 (fun v => .int .i64 v) A_61 c_62 at_60, Ow 47 kT_ledger_Effect A_58 c_59 r_57] [.code c5_66, .inLoop c5_66, .inBlock 2, .code c5_86] (tontinelaw18_LedgerOnce.l0 n f_16 f_17 f_18 f_21 f_24 good_27 r_57 k at_60 x_63) := by
  intro k
  induction k with
  | zero => intros; rw [tontinelaw18_LedgerOnce.l0.eq_1]; exact GoO.stop
  | succ k ih0 =>
    intro at_60 x_63 A_61 c_62
    rw [tontinelaw18_LedgerOnce.l0.eq_2]
    refine GoO.seq' c5_66e ?_
    refine GoO.region' (is := [0]) c5_67e (by kernel_rfl) ?_
    refine GoO.exec (is := [0]) (hs := [.p]) (rest := []) (ks := [3, 4, 11, 74, 75, 76, 77]) (env' := [(3, .pointer (some ⟨b_7, 0, none⟩)), (4, .map (mA A_28)), (11, .map (mA A_61)), (74, .slice A_58 r_57.length c_59), (75, .int .i64 (r_57.length : Int)), (76, .int .i64 x_63), (77, .bool (decide (x_63 < (r_57.length : Int))))]) (H' := [⟨40, b_7, [.int .u64 f_16, .int .u64 f_17, .slice A_19 f_18.length c_20, .map (mA A_22), .map (mA A_25)]⟩]) (ps := []) (by kernel_rfl) trivial ?_
    refine GoO.regionEnd ?_
    refine GoO.seq' c5_68e ?_
    refine GoO.ite' c5_69e (by kernel_rfl) (fun h64 => ?_) (fun h64 => ?_)
    · refine GoO.skip' c5_70e ?_
      refine GoO.seq' c5_72e ?_
      refine GoO.block' c5_73e ?_
      refine GoO.seq' c5_74e ?_
      refine GoO.region' (is := [0, 1, 2, 3, 4, 5]) c5_75e (by kernel_rfl) ?_
      refine GoO.exec (is := [0]) (hs := [.p]) (rest := [1, 2, 3, 4, 5]) (ks := [3, 4, 11, 74, 75, 76, 78]) (env' := [(3, .pointer (some ⟨b_7, 0, none⟩)), (4, .map (mA A_28)), (11, .map (mA A_61)), (74, .slice A_58 r_57.length c_59), (75, .int .i64 (r_57.length : Int)), (76, .int .i64 x_63), (78, .int .i64 x_63)]) (H' := [⟨40, b_7, [.int .u64 f_16, .int .u64 f_17, .slice A_19 f_18.length c_20, .map (mA A_22), .map (mA A_25)]⟩]) (ps := []) (by kernel_rfl) trivial ?_
      refine GoO.guard (fun h65 => ?_)
      refine OpTo.go (GoO.idx (kk := .i64) (e := 56) (K := kT_ledger_Effect) (A := A_58) (c := c_59) (xs := r_57) (iv := x_63) (j := 5) rfl (by kernel_rfl) (by kernel_rfl) (by kernel_rfl) (by kernel_rfl) rfl Reads.own rfl h65.1 h65.2 (by decide) rfl ?_)
      refine OpTo.go (GoO.ldE' (K := kT_ledger_Effect) (A := A_58) (c := c_59) (xs := r_57) (iN := x_63.toNat) (off := 0) (j := 5) rfl (by kernel_rfl) rfl Reads.own (by first | exact idx_lt h65.1 h65.2 | (simp only [List.length_set]; exact idx_lt h65.1 h65.2)) (by decide) (Opn.flat _ _ _ _ _) (v := fun _ => .agg ⟨[.int .u64 ((rdL r_57 x_63).Key.Saga), .int .i64 ((rdL r_57 x_63).Key.Step), .bool ((rdL r_57 x_63).Key.Back), .string (bs ((rdL r_57 x_63).Name))]⟩) (fun _ => by kernel_rfl) _ (fun _ => rfl) (fun _ => ?_))
      refine OpTo.go (GoO.new rfl 48 (cs := [.int .u64 0, .int .i64 0, .bool false, .string (bs [])]) (by kernel_rfl) _ (fun _ => rfl) (fun b_66 => ?_))
      refine GoO.exec (is := [4, 5]) (hs := [.p, .b 0]) (rest := []) (ks := [3, 4, 11, 12, 13, 74, 75, 76]) (env' := [(3, .pointer (some ⟨b_7, 0, none⟩)), (4, .map (mA A_28)), (11, .map (mA A_61)), (12, .int .i64 x_63), (13, .pointer (some ⟨b_66, 0, none⟩)), (74, .slice A_58 r_57.length c_59), (75, .int .i64 (r_57.length : Int)), (76, .int .i64 x_63)]) (H' := [⟨48, b_66, [.int .u64 ((rdL r_57 x_63).Key.Saga), .int .i64 ((rdL r_57 x_63).Key.Step), .bool ((rdL r_57 x_63).Key.Back), .string (bs ((rdL r_57 x_63).Name))]⟩, ⟨40, b_7, [.int .u64 f_16, .int .u64 f_17, .slice A_19 f_18.length c_20, .map (mA A_22), .map (mA A_25)]⟩]) (ps := [b_66 = b_66]) (by kernel_rfl) (And.intro rfl trivial) ?_
      refine GoO.regionEnd ?_
      refine GoO.seq' c5_76e ?_
      refine GoO.seq' c5_77e ?_
      refine GoO.region' (is := [0, 1, 2, 3, 4]) c5_78e (by kernel_rfl) ?_
      refine GoO.exec (is := [0, 1, 2]) (hs := [.p, .p, .b 0]) (rest := [3, 4]) (ks := [3, 4, 11, 12, 13, 74, 75, 76, 81, 83]) (env' := [(3, .pointer (some ⟨b_7, 0, none⟩)), (4, .map (mA A_28)), (11, .map (mA A_61)), (12, .int .i64 x_63), (13, .pointer (some ⟨b_66, 0, none⟩)), (74, .slice A_58 r_57.length c_59), (75, .int .i64 (r_57.length : Int)), (76, .int .i64 x_63), (81, .map (mA A_61)), (83, .agg ⟨[.int .u64 ((rdL r_57 x_63).Key.Saga), .int .i64 ((rdL r_57 x_63).Key.Step), .bool ((rdL r_57 x_63).Key.Back)]⟩)]) (H' := [⟨48, b_66, [.int .u64 ((rdL r_57 x_63).Key.Saga), .int .i64 ((rdL r_57 x_63).Key.Step), .bool ((rdL r_57 x_63).Key.Back), .string (bs ((rdL r_57 x_63).Name))]⟩, ⟨40, b_7, [.int .u64 f_16, .int .u64 f_17, .slice A_19 f_18.length c_20, .map (mA A_22), .map (mA A_25)]⟩]) (ps := [b_66 = b_66]) (by kernel_rfl) (And.intro rfl trivial) ?_
      refine OpTo.go (GoO.mapLk (vt := 3) (K := ky52) (ev := (fun v => .int .i64 v)) (A := A_61) (c := c_62) (l := at_60) (key := (⟨(rdL r_57 x_63).Key.Saga, (rdL r_57 x_63).Key.Step, (rdL r_57 x_63).Key.Back⟩ : T_api_Key)) (j := 4) rfl (by kernel_rfl) (by kernel_rfl) (by kernel_rfl) rfl 0 (fun _ => by kernel_rfl) rfl ?_)
      refine GoO.exec (is := [4]) (hs := [.p]) (rest := []) (ks := [3, 4, 11, 12, 13, 74, 75, 76, 85]) (env' := [(3, .pointer (some ⟨b_7, 0, none⟩)), (4, .map (mA A_28)), (11, .map (mA A_61)), (12, .int .i64 x_63), (13, .pointer (some ⟨b_66, 0, none⟩)), (74, .slice A_58 r_57.length c_59), (75, .int .i64 (r_57.length : Int)), (76, .int .i64 x_63), (85, .bool (decide (((getA (⟨(rdL r_57 x_63).Key.Saga, (rdL r_57 x_63).Key.Step, (rdL r_57 x_63).Key.Back⟩ : T_api_Key) at_60).getD 0) > 0)))]) (H' := [⟨48, b_66, [.int .u64 ((rdL r_57 x_63).Key.Saga), .int .i64 ((rdL r_57 x_63).Key.Step), .bool ((rdL r_57 x_63).Key.Back), .string (bs ((rdL r_57 x_63).Name))]⟩, ⟨40, b_7, [.int .u64 f_16, .int .u64 f_17, .slice A_19 f_18.length c_20, .map (mA A_22), .map (mA A_25)]⟩]) (ps := []) (by kernel_rfl) trivial ?_
      refine GoO.regionEnd ?_
      refine GoO.ite' c5_79e (by kernel_rfl) (fun h67 => ?_) (fun h67 => ?_)
      · refine GoO.seq' c5_80e ?_
        refine GoO.region' (is := [0]) c5_81e (by kernel_rfl) ?_
        refine GoO.exec (is := [0]) (hs := [.p]) (rest := []) (ks := [2]) (env' := [(2, .bool false)]) (H' := [⟨48, b_66, [.int .u64 ((rdL r_57 x_63).Key.Saga), .int .i64 ((rdL r_57 x_63).Key.Step), .bool ((rdL r_57 x_63).Key.Back), .string (bs ((rdL r_57 x_63).Name))]⟩, ⟨40, b_7, [.int .u64 f_16, .int .u64 f_17, .slice A_19 f_18.length c_20, .map (mA A_22), .map (mA A_25)]⟩]) (ps := []) (by kernel_rfl) trivial ?_
        refine GoO.regionEnd ?_
        exact GoO.ret' (h := c5_82e) (hs := []) (ps := []) (hk := []) (bk := []) Try.func5 () (by kernel_rfl) trivial (by kernel_rfl) (by kernel_rfl)
      · refine GoO.skip' c5_83e ?_
        refine GoO.region' (is := [0, 1, 2, 3, 4, 5]) c5_84e (by kernel_rfl) ?_
        refine GoO.exec (is := [0, 1, 2, 3, 4]) (hs := [.p, .p, .b 0, .p, .p]) (rest := [5]) (ks := [3, 4, 11, 74, 75, 76, 86, 88, 90]) (env' := [(3, .pointer (some ⟨b_7, 0, none⟩)), (4, .map (mA A_28)), (11, .map (mA A_61)), (74, .slice A_58 r_57.length c_59), (75, .int .i64 (r_57.length : Int)), (76, .int .i64 x_63), (86, .map (mA A_61)), (88, .agg ⟨[.int .u64 ((rdL r_57 x_63).Key.Saga), .int .i64 ((rdL r_57 x_63).Key.Step), .bool ((rdL r_57 x_63).Key.Back)]⟩), (90, .int .i64 (wi64 (x_63 + 1)))]) (H' := [⟨48, b_66, [.int .u64 ((rdL r_57 x_63).Key.Saga), .int .i64 ((rdL r_57 x_63).Key.Step), .bool ((rdL r_57 x_63).Key.Back), .string (bs ((rdL r_57 x_63).Name))]⟩, ⟨40, b_7, [.int .u64 f_16, .int .u64 f_17, .slice A_19 f_18.length c_20, .map (mA A_22), .map (mA A_25)]⟩]) (ps := [b_66 = b_66]) (by kernel_rfl) (And.intro rfl trivial) ?_
        refine OpTo.go (GoO.mapUp (vt := 3) (K := ky52) (ev := (fun v => .int .i64 v)) (A := A_61) (c := c_62) (tg := 46) (l := at_60) (key := (⟨(rdL r_57 x_63).Key.Saga, (rdL r_57 x_63).Key.Step, (rdL r_57 x_63).Key.Back⟩ : T_api_Key)) (v := wi64 (x_63 + 1)) (j := 4) rfl (by kernel_rfl) (by kernel_rfl) (by kernel_rfl) (by kernel_rfl) rfl (by kernel_rfl) (by kernel_rfl) (by kernel_rfl) rfl ?_)
        refine GoO.regionEnd ?_
        refine GoO.inBlock ?_
        refine GoO.region' (is := [0, 1]) c5_85e (by kernel_rfl) ?_
        refine GoO.exec (is := [0, 1]) (hs := [.p, .p]) (rest := []) (ks := [3, 4, 11, 74, 75, 76]) (env' := [(3, .pointer (some ⟨b_7, 0, none⟩)), (4, .map (mA A_28)), (11, .map (mA A_61)), (74, .slice A_58 r_57.length c_59), (75, .int .i64 (r_57.length : Int)), (76, .int .i64 (wi64 (x_63 + 1)))]) (H' := [⟨48, b_66, [.int .u64 ((rdL r_57 x_63).Key.Saga), .int .i64 ((rdL r_57 x_63).Key.Step), .bool ((rdL r_57 x_63).Key.Back), .string (bs ((rdL r_57 x_63).Name))]⟩, ⟨40, b_7, [.int .u64 f_16, .int .u64 f_17, .slice A_19 f_18.length c_20, .map (mA A_22), .map (mA A_25)]⟩]) (ps := []) (by kernel_rfl) trivial ?_
        refine GoO.regionEnd ?_
        refine GoO.inLoop ?_
        exact GoO.sub (ks := [3, 4, 11, 74, 75, 76]) (hk := [1]) (bk := [0, 1, 2, 3, 4, 5]) (by kernel_rfl) (by kernel_rfl) (by kernel_rfl) (ih0 (putA (⟨(rdL r_57 x_63).Key.Saga, (rdL r_57 x_63).Key.Step, (rdL r_57 x_63).Key.Back⟩ : T_api_Key) (wi64 (x_63 + 1)) at_60) (wi64 (x_63 + 1)) A_61 c_62)
    · refine GoO.exit' c5_71e rfl ?_
      refine GoO.seq' c5_86e ?_
      refine GoO.seq' c5_87e ?_
      refine GoO.region' (is := [0, 1]) c5_88e (by kernel_rfl) ?_
      refine GoO.exec (is := [0]) (hs := [.p]) (rest := [1]) (ks := [3, 11, 92]) (env' := [(3, .pointer (some ⟨b_7, 0, none⟩)), (11, .map (mA A_61)), (92, .map (mA A_28))]) (H' := [⟨40, b_7, [.int .u64 f_16, .int .u64 f_17, .slice A_19 f_18.length c_20, .map (mA A_22), .map (mA A_25)]⟩]) (ps := []) (by kernel_rfl) trivial ?_
      refine OpTo.go (GoO.mapRg (vt := 4) (K := ky41) (ev := (fun v => .bool v)) (A := A_28) (c := c_29) (tg := 44) (l := good_27) (j := 3) rfl (by kernel_rfl) (by kernel_rfl) rfl (by kernel_rfl) (by kernel_rfl) _ (fun _ => rfl) (fun I_68 => ?_))
      refine GoO.regionEnd ?_
      refine GoO.block' c5_89e ?_
      refine GoO.loop' c5_90e ?_
      exact GoO.sub (ks := [3, 11, 93]) (hk := [0]) (bk := [0, 1, 2, 4, 3]) (by kernel_rfl) (by kernel_rfl) (by kernel_rfl) (tontinelaw18_LedgerOnce_l1_ok n f_16 f_17 f_18 f_21 f_24 good_27 at_60 b_7 A_19 c_20 A_22 c_23 A_25 c_26 A_28 A_61 c_62 I_68 A_2 c_3 w0 S0 n good_27)
theorem tontinelaw18_LedgerOnce_j0_ok (n : Nat) (f_16 : Int) (f_17 : Int) (f_18 : (List T_ledger_Effect)) (f_21 : (List (T_api_Key × Bool))) (f_24 : (List (T_api_Key × Bool))) (good_27 : (List (T_api_Key × Bool))) (b_7 : Nat) (A_19 : Option Addr) (c_20 : Nat) (A_22 : Option Addr) (c_23 : Nat) (A_25 : Option Addr) (c_26 : Nat) (A_28 : Option Addr) (c_29 : Nat) (A_2 : Option Addr) (c_3 : Nat) (w0 : World) (S0 : Fam) :
    GoO (tontinelaw18_LedgerOnce.cx A_2 c_3 w0 S0) [(3, .pointer (some ⟨b_7, 0, none⟩)), (4, .map (mA A_28))] [⟨40, b_7, [.int .u64 f_16, .int .u64 f_17, .slice A_19 f_18.length c_20, .map (mA A_22), .map (mA A_25)]⟩] [Ow 41 kT_ledger_Effect A_19 c_20 f_18, Mp 42 ky41 (fun v => .bool v) A_22 c_23 f_21, Mp 43 ky41 (fun v => .bool v) A_25 c_26 f_24, Mp 44 ky41 (fun v => .bool v) A_28 c_29 good_27] [.code c5_59] (tontinelaw18_LedgerOnce.j0 n f_16 f_17 f_18 f_21 f_24 good_27) := by
  unfold tontinelaw18_LedgerOnce.j0
  refine GoO.seq' c5_59e ?_
  refine GoO.region' (is := [0, 1]) c5_60e (by kernel_rfl) ?_
  refine OpTo.go (GoO.mkMap rfl 46 ky52 (fun v => .int .i64 v) _ (fun _ _ => rfl) (fun A_55 c_56 => ?_))
  refine GoO.exec (is := [1]) (hs := [.p]) (rest := []) (ks := [3, 4, 11]) (env' := [(3, .pointer (some ⟨b_7, 0, none⟩)), (4, .map (mA A_28)), (11, .map (mA A_55))]) (H' := [⟨40, b_7, [.int .u64 f_16, .int .u64 f_17, .slice A_19 f_18.length c_20, .map (mA A_22), .map (mA A_25)]⟩]) (ps := []) (by kernel_rfl) trivial ?_
  refine GoO.regionEnd ?_
  refine GoO.seq' c5_61e ?_
  refine GoO.seq' c5_62e ?_
  refine GoO.region' (is := [0, 1, 2, 3]) c5_63e (by kernel_rfl) ?_
  refine GoO.exec (is := [0]) (hs := [.p]) (rest := [1, 2, 3]) (ks := [3, 4, 11, 73]) (env' := [(3, .pointer (some ⟨b_7, 0, none⟩)), (4, .map (mA A_28)), (11, .map (mA A_55)), (73, .pointer (some ⟨b_7, 0, none⟩))]) (H' := [⟨40, b_7, [.int .u64 f_16, .int .u64 f_17, .slice A_19 f_18.length c_20, .map (mA A_22), .map (mA A_25)]⟩]) (ps := []) (by kernel_rfl) trivial ?_
  refine OpTo.go (GoO.call rfl (by kernel_rfl) (by kernel_rfl) (ledger_Ledger_Effects_ok n (⟨(⟨f_16, f_17⟩ : T_api_Token), f_18, f_21, f_24⟩ : T_ledger_Ledger) b_7 A_19 c_20 A_22 c_23 A_25 c_26) [[0], [40], [41], [42], [43]] [(47, 5)] [(1, 0)] [(2, 1), (3, 2), (4, 3)] (hks := [0]) (bks := [0, 1, 2, 3, 4]) (by kernel_rfl) (by kernel_rfl) (by kernel_rfl) (.inl rfl) rfl rfl (by kernel_rfl) (by kernel_rfl) _ (fun _ _ => rfl) _ _ (fun _ _ => rfl) (fun _ _ => rfl) (fun _ _ => by kernel_rfl) (fun _ _ => by kernel_rfl) (fun r_57 x_103 => ?_))
  obtain ⟨A_58, c_59⟩ := x_103
  refine GoO.shape (env' := [(3, .pointer (some ⟨b_7, 0, none⟩)), (4, .map (mA A_28)), (11, .map (mA A_55)), (73, .pointer (some ⟨b_7, 0, none⟩)), (74, .slice A_58 r_57.length c_59)]) (H' := [⟨40, b_7, [.int .u64 f_16, .int .u64 f_17, .slice A_19 f_18.length c_20, .map (mA A_22), .map (mA A_25)]⟩]) (B' := [Ow 47 kT_ledger_Effect A_58 c_59 r_57, Mp 46 ky52 (fun v => .int .i64 v) A_55 c_56 ([] : List (T_api_Key × Int)), Ow 41 kT_ledger_Effect A_19 c_20 f_18, Mp 42 ky41 (fun v => .bool v) A_22 c_23 f_21, Mp 43 ky41 (fun v => .bool v) A_25 c_26 f_24, Mp 44 ky41 (fun v => .bool v) A_28 c_29 good_27]) (ks := [3, 4, 11, 73, 74]) (by kernel_rfl) (by kernel_rfl) (by kernel_rfl) ?_
  refine GoO.exec (is := [2, 3]) (hs := [.p, .p]) (rest := []) (ks := [3, 4, 11, 74, 75, 76]) (env' := [(3, .pointer (some ⟨b_7, 0, none⟩)), (4, .map (mA A_28)), (11, .map (mA A_55)), (74, .slice A_58 r_57.length c_59), (75, .int .i64 (r_57.length : Int)), (76, .int .i64 0)]) (H' := [⟨40, b_7, [.int .u64 f_16, .int .u64 f_17, .slice A_19 f_18.length c_20, .map (mA A_22), .map (mA A_25)]⟩]) (ps := []) (by kernel_rfl) trivial ?_
  refine GoO.regionEnd ?_
  refine GoO.block' c5_64e ?_
  refine GoO.loop' c5_65e ?_
  exact GoO.sub (ks := [3, 4, 11, 74, 75, 76]) (hk := [0]) (bk := [2, 3, 4, 5, 1, 0]) (by kernel_rfl) (by kernel_rfl) (by kernel_rfl) (tontinelaw18_LedgerOnce_l0_ok n f_16 f_17 f_18 f_21 f_24 good_27 r_57 b_7 A_19 c_20 A_22 c_23 A_25 c_26 A_28 c_29 A_58 c_59 A_2 c_3 w0 S0 n ([] : List (T_api_Key × Int)) 0 A_55 c_56)
theorem tontinelaw18_LedgerOnce_j13_ok (n : Nat) (L2 : Int → Int → (List T_ledger_Effect) → (List (T_api_Key × Bool)) → (List (T_api_Key × Bool)) → (List (T_api_Key × Bool)) → Int → Option Bool) (calls_1 : (List T_tontinelaw18_Call)) (f_16 : Int) (f_17 : Int) (f_18 : (List T_ledger_Effect)) (f_21 : (List (T_api_Key × Bool))) (f_24 : (List (T_api_Key × Bool))) (good_27 : (List (T_api_Key × Bool))) (x_30 : Int) (r_35 : Bool × Int × T_ledger_Ledger) (A_2 : Option Addr) (c_3 : Nat) (b_7 : Nat) (A_19 : Option Addr) (c_20 : Nat) (A_22 : Option Addr) (c_23 : Nat) (A_25 : Option Addr) (c_26 : Nat) (A_28 : Option Addr) (c_29 : Nat) (b_33 : Nat) (A_36 : Option Addr) (c_37 : Nat) (A_38 : Option Addr) (c_39 : Nat) (A_40 : Option Addr) (c_41 : Nat) (w0 : World) (S0 : Fam) (ih2 : ∀ (f_16 : Int) (f_17 : Int) (f_18 : (List T_ledger_Effect)) (f_21 : (List (T_api_Key × Bool))) (f_24 : (List (T_api_Key × Bool))) (good_27 : (List (T_api_Key × Bool))) (x_30 : Int) (A_19 : Option Addr) (c_20 : Nat) (A_22 : Option Addr) (c_23 : Nat) (A_25 : Option Addr) (c_26 : Nat) (A_28 : Option Addr) (c_29 : Nat), GoO (tontinelaw18_LedgerOnce.cx A_2 c_3 w0 S0) [(3, .pointer (some ⟨b_7, 0, none⟩)), (4, .map (mA A_28)), (23, .slice A_2 calls_1.length c_3), (24, .int .i64 (calls_1.length : Int)), (25, .int .i64 x_30)] [⟨40, b_7, [.int .u64 f_16, .int .u64 f_17, .slice A_19 f_18.length c_20, .map (mA A_22), .map (mA A_25)]⟩] [Ow 41 kT_ledger_Effect A_19 c_20 f_18, Mp 42 ky41 (fun v => .bool v) A_22 c_23 f_21, Mp 43 ky41 (fun v => .bool v) A_25 c_26 f_24, Mp 44 ky41 (fun v => .bool v) A_28 c_29 good_27, Rd 0 kT_tontinelaw18_Call A_2 c_3 calls_1] [.code c5_19, .inLoop c5_19, .inBlock 0, .code c5_59] (L2 f_16 f_17 f_18 f_21 f_24 good_27 x_30)) (b_47 : Bool) :
    GoO (tontinelaw18_LedgerOnce.cx A_2 c_3 w0 S0) [(3, .pointer (some ⟨b_7, 0, none⟩)), (4, .map (mA A_28)), (6, .pointer (some ⟨b_33, 0, none⟩)), (7, .bool r_35.1), (23, .slice A_2 calls_1.length c_3), (24, .int .i64 (calls_1.length : Int)), (25, .int .i64 x_30), (66, .bool b_47)] [⟨40, b_7, [.int .u64 r_35.2.2.fence.Term, .int .u64 r_35.2.2.fence.Index, .slice A_36 r_35.2.2.effects.length c_37, .map (mA A_38), .map (mA A_40)]⟩, ⟨45, b_33, [.int .u64 ((rdL calls_1 x_30).Token.Term), .int .u64 ((rdL calls_1 x_30).Token.Index), .int .u64 ((rdL calls_1 x_30).Key.Saga), .int .i64 ((rdL calls_1 x_30).Key.Step), .bool ((rdL calls_1 x_30).Key.Back), .string (bs ((rdL calls_1 x_30).Name)), .bool ((rdL calls_1 x_30).Fail)]⟩] [Ow 41 kT_ledger_Effect A_36 c_37 r_35.2.2.effects, Mp 42 ky41 (fun v => .bool v) A_38 c_39 r_35.2.2.said, Mp 43 ky41 (fun v => .bool v) A_40 c_41 r_35.2.2.tombs, Mp 44 ky41 (fun v => .bool v) A_28 c_29 good_27, Rd 0 kT_tontinelaw18_Call A_2 c_3 calls_1] [.code c5_55, .inBlock 1, .code c5_58, .inLoop c5_19, .inBlock 0, .code c5_59] (tontinelaw18_LedgerOnce.j13 n L2 calls_1 good_27 x_30 r_35 b_47) := by
  unfold tontinelaw18_LedgerOnce.j13
  refine GoO.ite' c5_55e (by kernel_rfl) (fun h48 => ?_) (fun h48 => ?_)
  · refine GoO.region' (is := [0, 1, 2, 3, 4]) c5_56e (by kernel_rfl) ?_
    refine GoO.exec (is := [0, 1, 2, 3]) (hs := [.p, .p, .b 1, .p]) (rest := [4]) (ks := [3, 4, 23, 24, 25, 67, 69, 70]) (env' := [(3, .pointer (some ⟨b_7, 0, none⟩)), (4, .map (mA A_28)), (23, .slice A_2 calls_1.length c_3), (24, .int .i64 (calls_1.length : Int)), (25, .int .i64 x_30), (67, .map (mA A_28)), (69, .agg ⟨[.int .u64 ((rdL calls_1 x_30).Key.Saga), .int .i64 ((rdL calls_1 x_30).Key.Step), .bool ((rdL calls_1 x_30).Key.Back)]⟩), (70, .bool r_35.1)]) (H' := [⟨40, b_7, [.int .u64 r_35.2.2.fence.Term, .int .u64 r_35.2.2.fence.Index, .slice A_36 r_35.2.2.effects.length c_37, .map (mA A_38), .map (mA A_40)]⟩, ⟨45, b_33, [.int .u64 ((rdL calls_1 x_30).Token.Term), .int .u64 ((rdL calls_1 x_30).Token.Index), .int .u64 ((rdL calls_1 x_30).Key.Saga), .int .i64 ((rdL calls_1 x_30).Key.Step), .bool ((rdL calls_1 x_30).Key.Back), .string (bs ((rdL calls_1 x_30).Name)), .bool ((rdL calls_1 x_30).Fail)]⟩]) (ps := [b_33 = b_33]) (by kernel_rfl) (And.intro rfl trivial) ?_
    refine OpTo.go (GoO.mapUp (vt := 4) (K := ky41) (ev := (fun v => .bool v)) (A := A_28) (c := c_29) (tg := 44) (l := good_27) (key := (⟨(rdL calls_1 x_30).Key.Saga, (rdL calls_1 x_30).Key.Step, (rdL calls_1 x_30).Key.Back⟩ : T_api_Key)) (v := r_35.1) (j := 3) rfl (by kernel_rfl) (by kernel_rfl) (by kernel_rfl) (by kernel_rfl) rfl (by kernel_rfl) (by kernel_rfl) (by kernel_rfl) rfl ?_)
    refine GoO.regionEnd ?_
    refine GoO.inBlock ?_
    refine GoO.region' (is := [0, 1]) c5_58e (by kernel_rfl) ?_
    refine GoO.exec (is := [0, 1]) (hs := [.p, .p]) (rest := []) (ks := [3, 4, 23, 24, 25]) (env' := [(3, .pointer (some ⟨b_7, 0, none⟩)), (4, .map (mA A_28)), (23, .slice A_2 calls_1.length c_3), (24, .int .i64 (calls_1.length : Int)), (25, .int .i64 (wi64 (x_30 + 1)))]) (H' := [⟨40, b_7, [.int .u64 r_35.2.2.fence.Term, .int .u64 r_35.2.2.fence.Index, .slice A_36 r_35.2.2.effects.length c_37, .map (mA A_38), .map (mA A_40)]⟩, ⟨45, b_33, [.int .u64 ((rdL calls_1 x_30).Token.Term), .int .u64 ((rdL calls_1 x_30).Token.Index), .int .u64 ((rdL calls_1 x_30).Key.Saga), .int .i64 ((rdL calls_1 x_30).Key.Step), .bool ((rdL calls_1 x_30).Key.Back), .string (bs ((rdL calls_1 x_30).Name)), .bool ((rdL calls_1 x_30).Fail)]⟩]) (ps := []) (by kernel_rfl) trivial ?_
    refine GoO.regionEnd ?_
    refine GoO.inLoop ?_
    exact GoO.sub (ks := [3, 4, 23, 24, 25]) (hk := [0]) (bk := [0, 1, 2, 3, 4]) (by kernel_rfl) (by kernel_rfl) (by kernel_rfl) (ih2 r_35.2.2.fence.Term r_35.2.2.fence.Index r_35.2.2.effects r_35.2.2.said r_35.2.2.tombs (putA (⟨(rdL calls_1 x_30).Key.Saga, (rdL calls_1 x_30).Key.Step, (rdL calls_1 x_30).Key.Back⟩ : T_api_Key) r_35.1 good_27) (wi64 (x_30 + 1)) A_36 c_37 A_38 c_39 A_40 c_41 A_28 c_29)
  · refine GoO.skip' c5_57e ?_
    refine GoO.inBlock ?_
    refine GoO.region' (is := [0, 1]) c5_58e (by kernel_rfl) ?_
    refine GoO.exec (is := [0, 1]) (hs := [.p, .p]) (rest := []) (ks := [3, 4, 23, 24, 25]) (env' := [(3, .pointer (some ⟨b_7, 0, none⟩)), (4, .map (mA A_28)), (23, .slice A_2 calls_1.length c_3), (24, .int .i64 (calls_1.length : Int)), (25, .int .i64 (wi64 (x_30 + 1)))]) (H' := [⟨40, b_7, [.int .u64 r_35.2.2.fence.Term, .int .u64 r_35.2.2.fence.Index, .slice A_36 r_35.2.2.effects.length c_37, .map (mA A_38), .map (mA A_40)]⟩, ⟨45, b_33, [.int .u64 ((rdL calls_1 x_30).Token.Term), .int .u64 ((rdL calls_1 x_30).Token.Index), .int .u64 ((rdL calls_1 x_30).Key.Saga), .int .i64 ((rdL calls_1 x_30).Key.Step), .bool ((rdL calls_1 x_30).Key.Back), .string (bs ((rdL calls_1 x_30).Name)), .bool ((rdL calls_1 x_30).Fail)]⟩]) (ps := []) (by kernel_rfl) trivial ?_
    refine GoO.regionEnd ?_
    refine GoO.inLoop ?_
    exact GoO.sub (ks := [3, 4, 23, 24, 25]) (hk := [0]) (bk := [0, 1, 2, 3, 4]) (by kernel_rfl) (by kernel_rfl) (by kernel_rfl) (ih2 r_35.2.2.fence.Term r_35.2.2.fence.Index r_35.2.2.effects r_35.2.2.said r_35.2.2.tombs good_27 (wi64 (x_30 + 1)) A_36 c_37 A_38 c_39 A_40 c_41 A_28 c_29)
theorem tontinelaw18_LedgerOnce_j12_ok (n : Nat) (L2 : Int → Int → (List T_ledger_Effect) → (List (T_api_Key × Bool)) → (List (T_api_Key × Bool)) → (List (T_api_Key × Bool)) → Int → Option Bool) (calls_1 : (List T_tontinelaw18_Call)) (f_16 : Int) (f_17 : Int) (f_18 : (List T_ledger_Effect)) (f_21 : (List (T_api_Key × Bool))) (f_24 : (List (T_api_Key × Bool))) (good_27 : (List (T_api_Key × Bool))) (x_30 : Int) (r_35 : Bool × Int × T_ledger_Ledger) (A_2 : Option Addr) (c_3 : Nat) (b_7 : Nat) (A_19 : Option Addr) (c_20 : Nat) (A_22 : Option Addr) (c_23 : Nat) (A_25 : Option Addr) (c_26 : Nat) (A_28 : Option Addr) (c_29 : Nat) (b_33 : Nat) (A_36 : Option Addr) (c_37 : Nat) (A_38 : Option Addr) (c_39 : Nat) (A_40 : Option Addr) (c_41 : Nat) (w0 : World) (S0 : Fam) (ih2 : ∀ (f_16 : Int) (f_17 : Int) (f_18 : (List T_ledger_Effect)) (f_21 : (List (T_api_Key × Bool))) (f_24 : (List (T_api_Key × Bool))) (good_27 : (List (T_api_Key × Bool))) (x_30 : Int) (A_19 : Option Addr) (c_20 : Nat) (A_22 : Option Addr) (c_23 : Nat) (A_25 : Option Addr) (c_26 : Nat) (A_28 : Option Addr) (c_29 : Nat), GoO (tontinelaw18_LedgerOnce.cx A_2 c_3 w0 S0) [(3, .pointer (some ⟨b_7, 0, none⟩)), (4, .map (mA A_28)), (23, .slice A_2 calls_1.length c_3), (24, .int .i64 (calls_1.length : Int)), (25, .int .i64 x_30)] [⟨40, b_7, [.int .u64 f_16, .int .u64 f_17, .slice A_19 f_18.length c_20, .map (mA A_22), .map (mA A_25)]⟩] [Ow 41 kT_ledger_Effect A_19 c_20 f_18, Mp 42 ky41 (fun v => .bool v) A_22 c_23 f_21, Mp 43 ky41 (fun v => .bool v) A_25 c_26 f_24, Mp 44 ky41 (fun v => .bool v) A_28 c_29 good_27, Rd 0 kT_tontinelaw18_Call A_2 c_3 calls_1] [.code c5_19, .inLoop c5_19, .inBlock 0, .code c5_59] (L2 f_16 f_17 f_18 f_21 f_24 good_27 x_30)) (b_44 : Bool) :
    GoO (tontinelaw18_LedgerOnce.cx A_2 c_3 w0 S0) [(3, .pointer (some ⟨b_7, 0, none⟩)), (4, .map (mA A_28)), (6, .pointer (some ⟨b_33, 0, none⟩)), (7, .bool r_35.1), (23, .slice A_2 calls_1.length c_3), (24, .int .i64 (calls_1.length : Int)), (25, .int .i64 x_30), (59, .bool b_44)] [⟨40, b_7, [.int .u64 r_35.2.2.fence.Term, .int .u64 r_35.2.2.fence.Index, .slice A_36 r_35.2.2.effects.length c_37, .map (mA A_38), .map (mA A_40)]⟩, ⟨45, b_33, [.int .u64 ((rdL calls_1 x_30).Token.Term), .int .u64 ((rdL calls_1 x_30).Token.Index), .int .u64 ((rdL calls_1 x_30).Key.Saga), .int .i64 ((rdL calls_1 x_30).Key.Step), .bool ((rdL calls_1 x_30).Key.Back), .string (bs ((rdL calls_1 x_30).Name)), .bool ((rdL calls_1 x_30).Fail)]⟩] [Ow 41 kT_ledger_Effect A_36 c_37 r_35.2.2.effects, Mp 42 ky41 (fun v => .bool v) A_38 c_39 r_35.2.2.said, Mp 43 ky41 (fun v => .bool v) A_40 c_41 r_35.2.2.tombs, Mp 44 ky41 (fun v => .bool v) A_28 c_29 good_27, Rd 0 kT_tontinelaw18_Call A_2 c_3 calls_1] [.code c5_48, .code c5_53, .inBlock 1, .code c5_58, .inLoop c5_19, .inBlock 0, .code c5_59] (tontinelaw18_LedgerOnce.j12 n L2 calls_1 good_27 x_30 r_35 b_44) := by
  unfold tontinelaw18_LedgerOnce.j12
  refine GoO.ite' c5_48e (by kernel_rfl) (fun h45 => ?_) (fun h45 => ?_)
  · refine GoO.seq' c5_49e ?_
    refine GoO.region' (is := [0]) c5_50e (by kernel_rfl) ?_
    refine GoO.exec (is := [0]) (hs := [.p]) (rest := []) (ks := [2]) (env' := [(2, .bool false)]) (H' := [⟨40, b_7, [.int .u64 r_35.2.2.fence.Term, .int .u64 r_35.2.2.fence.Index, .slice A_36 r_35.2.2.effects.length c_37, .map (mA A_38), .map (mA A_40)]⟩, ⟨45, b_33, [.int .u64 ((rdL calls_1 x_30).Token.Term), .int .u64 ((rdL calls_1 x_30).Token.Index), .int .u64 ((rdL calls_1 x_30).Key.Saga), .int .i64 ((rdL calls_1 x_30).Key.Step), .bool ((rdL calls_1 x_30).Key.Back), .string (bs ((rdL calls_1 x_30).Name)), .bool ((rdL calls_1 x_30).Fail)]⟩]) (ps := []) (by kernel_rfl) trivial ?_
    refine GoO.regionEnd ?_
    exact GoO.ret' (h := c5_51e) (hs := []) (ps := []) (hk := []) (bk := []) Try.func5 () (by kernel_rfl) trivial (by kernel_rfl) (by kernel_rfl)
  · refine GoO.skip' c5_52e ?_
    refine GoO.seq' c5_53e ?_
    refine GoO.region' (is := [0, 1, 2, 3, 4, 5, 6]) c5_54e (by kernel_rfl) ?_
    refine GoO.exec (is := [0, 1]) (hs := [.p, .p]) (rest := [2, 3, 4, 5, 6]) (ks := [3, 4, 6, 7, 23, 24, 25, 61]) (env' := [(3, .pointer (some ⟨b_7, 0, none⟩)), (4, .map (mA A_28)), (6, .pointer (some ⟨b_33, 0, none⟩)), (7, .bool r_35.1), (23, .slice A_2 calls_1.length c_3), (24, .int .i64 (calls_1.length : Int)), (25, .int .i64 x_30), (61, .bool r_35.1)]) (H' := [⟨40, b_7, [.int .u64 r_35.2.2.fence.Term, .int .u64 r_35.2.2.fence.Index, .slice A_36 r_35.2.2.effects.length c_37, .map (mA A_38), .map (mA A_40)]⟩, ⟨45, b_33, [.int .u64 ((rdL calls_1 x_30).Token.Term), .int .u64 ((rdL calls_1 x_30).Token.Index), .int .u64 ((rdL calls_1 x_30).Key.Saga), .int .i64 ((rdL calls_1 x_30).Key.Step), .bool ((rdL calls_1 x_30).Key.Back), .string (bs ((rdL calls_1 x_30).Name)), .bool ((rdL calls_1 x_30).Fail)]⟩]) (ps := []) (by kernel_rfl) trivial ?_
    refine GoO.bsplit (t := 61) (by kernel_rfl) (fun h46 => ?_) (fun h46 => ?_)
    · refine GoO.exec (is := [2, 3, 4, 5, 6]) (hs := [.p, .p, .p, .p, .p]) (rest := []) (ks := [3, 4, 6, 7, 23, 24, 25, 66]) (env' := [(3, .pointer (some ⟨b_7, 0, none⟩)), (4, .map (mA A_28)), (6, .pointer (some ⟨b_33, 0, none⟩)), (7, .bool r_35.1), (23, .slice A_2 calls_1.length c_3), (24, .int .i64 (calls_1.length : Int)), (25, .int .i64 x_30), (66, .bool true)]) (H' := [⟨40, b_7, [.int .u64 r_35.2.2.fence.Term, .int .u64 r_35.2.2.fence.Index, .slice A_36 r_35.2.2.effects.length c_37, .map (mA A_38), .map (mA A_40)]⟩, ⟨45, b_33, [.int .u64 ((rdL calls_1 x_30).Token.Term), .int .u64 ((rdL calls_1 x_30).Token.Index), .int .u64 ((rdL calls_1 x_30).Key.Saga), .int .i64 ((rdL calls_1 x_30).Key.Step), .bool ((rdL calls_1 x_30).Key.Back), .string (bs ((rdL calls_1 x_30).Name)), .bool ((rdL calls_1 x_30).Fail)]⟩]) (ps := []) (by kernel_rfl) trivial ?_
      refine GoO.regionEnd ?_
      exact GoO.sub (ks := [3, 4, 6, 7, 23, 24, 25, 66]) (hk := [0, 1]) (bk := [0, 1, 2, 3, 4]) (by kernel_rfl) (by kernel_rfl) (by kernel_rfl) (tontinelaw18_LedgerOnce_j13_ok n L2 calls_1 f_16 f_17 f_18 f_21 f_24 good_27 x_30 r_35 A_2 c_3 b_7 A_19 c_20 A_22 c_23 A_25 c_26 A_28 c_29 b_33 A_36 c_37 A_38 c_39 A_40 c_41 w0 S0 ih2 true)
    · refine GoO.exec (is := [2, 3, 4, 5, 6]) (hs := [.p, .p, .b 1, .p, .p]) (rest := []) (ks := [3, 4, 6, 7, 23, 24, 25, 66]) (env' := [(3, .pointer (some ⟨b_7, 0, none⟩)), (4, .map (mA A_28)), (6, .pointer (some ⟨b_33, 0, none⟩)), (7, .bool r_35.1), (23, .slice A_2 calls_1.length c_3), (24, .int .i64 (calls_1.length : Int)), (25, .int .i64 x_30), (66, .bool (!((rdL calls_1 x_30).Key.Back)))]) (H' := [⟨40, b_7, [.int .u64 r_35.2.2.fence.Term, .int .u64 r_35.2.2.fence.Index, .slice A_36 r_35.2.2.effects.length c_37, .map (mA A_38), .map (mA A_40)]⟩, ⟨45, b_33, [.int .u64 ((rdL calls_1 x_30).Token.Term), .int .u64 ((rdL calls_1 x_30).Token.Index), .int .u64 ((rdL calls_1 x_30).Key.Saga), .int .i64 ((rdL calls_1 x_30).Key.Step), .bool ((rdL calls_1 x_30).Key.Back), .string (bs ((rdL calls_1 x_30).Name)), .bool ((rdL calls_1 x_30).Fail)]⟩]) (ps := [b_33 = b_33]) (by kernel_rfl) (And.intro rfl trivial) ?_
      refine GoO.regionEnd ?_
      exact GoO.sub (ks := [3, 4, 6, 7, 23, 24, 25, 66]) (hk := [0, 1]) (bk := [0, 1, 2, 3, 4]) (by kernel_rfl) (by kernel_rfl) (by kernel_rfl) (tontinelaw18_LedgerOnce_j13_ok n L2 calls_1 f_16 f_17 f_18 f_21 f_24 good_27 x_30 r_35 A_2 c_3 b_7 A_19 c_20 A_22 c_23 A_25 c_26 A_28 c_29 b_33 A_36 c_37 A_38 c_39 A_40 c_41 w0 S0 ih2 (!((rdL calls_1 x_30).Key.Back)))
theorem tontinelaw18_LedgerOnce_l2_ok (n : Nat) (calls_1 : (List T_tontinelaw18_Call)) (A_2 : Option Addr) (c_3 : Nat) (b_7 : Nat) (w0 : World) (S0 : Fam) :
    ∀ (k : Nat) (f_16 : Int) (f_17 : Int) (f_18 : (List T_ledger_Effect)) (f_21 : (List (T_api_Key × Bool))) (f_24 : (List (T_api_Key × Bool))) (good_27 : (List (T_api_Key × Bool))) (x_30 : Int) (A_19 : Option Addr) (c_20 : Nat) (A_22 : Option Addr) (c_23 : Nat) (A_25 : Option Addr) (c_26 : Nat) (A_28 : Option Addr) (c_29 : Nat), GoO (tontinelaw18_LedgerOnce.cx A_2 c_3 w0 S0) [(3, .pointer (some ⟨b_7, 0, none⟩)), (4, .map (mA A_28)), (23, .slice A_2 calls_1.length c_3), (24, .int .i64 (calls_1.length : Int)), (25, .int .i64 x_30)] [⟨40, b_7, [.int .u64 f_16, .int .u64 f_17, .slice A_19 f_18.length c_20, .map (mA A_22), .map (mA A_25)]⟩] [Ow 41 kT_ledger_Effect A_19 c_20 f_18, Mp 42 ky41 (fun v => .bool v) A_22 c_23 f_21, Mp 43 ky41 (fun v => .bool v) A_25 c_26 f_24, Mp 44 ky41 (fun v => .bool v) A_28 c_29 good_27, Rd 0 kT_tontinelaw18_Call A_2 c_3 calls_1] [.code c5_19, .inLoop c5_19, .inBlock 0, .code c5_59] (tontinelaw18_LedgerOnce.l2 n calls_1 k f_16 f_17 f_18 f_21 f_24 good_27 x_30) := by
  intro k
  induction k with
  | zero => intros; rw [tontinelaw18_LedgerOnce.l2.eq_1]; exact GoO.stop
  | succ k ih2 =>
    intro f_16 f_17 f_18 f_21 f_24 good_27 x_30 A_19 c_20 A_22 c_23 A_25 c_26 A_28 c_29
    rw [tontinelaw18_LedgerOnce.l2.eq_2]
    refine GoO.seq' c5_19e ?_
    refine GoO.region' (is := [0]) c5_20e (by kernel_rfl) ?_
    refine GoO.exec (is := [0]) (hs := [.p]) (rest := []) (ks := [3, 4, 23, 24, 25, 26]) (env' := [(3, .pointer (some ⟨b_7, 0, none⟩)), (4, .map (mA A_28)), (23, .slice A_2 calls_1.length c_3), (24, .int .i64 (calls_1.length : Int)), (25, .int .i64 x_30), (26, .bool (decide (x_30 < (calls_1.length : Int))))]) (H' := [⟨40, b_7, [.int .u64 f_16, .int .u64 f_17, .slice A_19 f_18.length c_20, .map (mA A_22), .map (mA A_25)]⟩]) (ps := []) (by kernel_rfl) trivial ?_
    refine GoO.regionEnd ?_
    refine GoO.seq' c5_21e ?_
    refine GoO.ite' c5_22e (by kernel_rfl) (fun h31 => ?_) (fun h31 => ?_)
    · refine GoO.skip' c5_23e ?_
      refine GoO.seq' c5_25e ?_
      refine GoO.block' c5_26e ?_
      refine GoO.seq' c5_27e ?_
      refine GoO.region' (is := [0, 1, 2, 3, 4, 5]) c5_28e (by kernel_rfl) ?_
      refine GoO.exec (is := [0]) (hs := [.p]) (rest := [1, 2, 3, 4, 5]) (ks := [3, 4, 23, 24, 25, 27]) (env' := [(3, .pointer (some ⟨b_7, 0, none⟩)), (4, .map (mA A_28)), (23, .slice A_2 calls_1.length c_3), (24, .int .i64 (calls_1.length : Int)), (25, .int .i64 x_30), (27, .int .i64 x_30)]) (H' := [⟨40, b_7, [.int .u64 f_16, .int .u64 f_17, .slice A_19 f_18.length c_20, .map (mA A_22), .map (mA A_25)]⟩]) (ps := []) (by kernel_rfl) trivial ?_
      refine GoO.guard (fun h32 => ?_)
      refine OpTo.go (GoO.idx (kk := .i64) (e := 47) (K := kT_tontinelaw18_Call) (A := A_2) (c := c_3) (xs := calls_1) (iv := x_30) (j := 4) rfl (by kernel_rfl) (by kernel_rfl) (by kernel_rfl) (by kernel_rfl) rfl Reads.rd rfl h32.1 h32.2 (by decide) rfl ?_)
      refine OpTo.go (GoO.ldE' (K := kT_tontinelaw18_Call) (A := A_2) (c := c_3) (xs := calls_1) (iN := x_30.toNat) (off := 0) (j := 4) rfl (by kernel_rfl) rfl Reads.rd (by first | exact idx_lt h32.1 h32.2 | (simp only [List.length_set]; exact idx_lt h32.1 h32.2)) (by decide) (Opn.flat _ _ _ _ _) (v := fun _ => .agg ⟨[.int .u64 ((rdL calls_1 x_30).Token.Term), .int .u64 ((rdL calls_1 x_30).Token.Index), .int .u64 ((rdL calls_1 x_30).Key.Saga), .int .i64 ((rdL calls_1 x_30).Key.Step), .bool ((rdL calls_1 x_30).Key.Back), .string (bs ((rdL calls_1 x_30).Name)), .bool ((rdL calls_1 x_30).Fail)]⟩) (fun _ => by kernel_rfl) _ (fun _ => rfl) (fun _ => ?_))
      refine OpTo.go (GoO.new rfl 45 (cs := [.int .u64 0, .int .u64 0, .int .u64 0, .int .i64 0, .bool false, .string (bs []), .bool false]) (by kernel_rfl) _ (fun _ => rfl) (fun b_33 => ?_))
      refine GoO.exec (is := [4, 5]) (hs := [.p, .b 0]) (rest := []) (ks := [3, 4, 5, 6, 23, 24, 25]) (env' := [(3, .pointer (some ⟨b_7, 0, none⟩)), (4, .map (mA A_28)), (5, .int .i64 x_30), (6, .pointer (some ⟨b_33, 0, none⟩)), (23, .slice A_2 calls_1.length c_3), (24, .int .i64 (calls_1.length : Int)), (25, .int .i64 x_30)]) (H' := [⟨45, b_33, [.int .u64 ((rdL calls_1 x_30).Token.Term), .int .u64 ((rdL calls_1 x_30).Token.Index), .int .u64 ((rdL calls_1 x_30).Key.Saga), .int .i64 ((rdL calls_1 x_30).Key.Step), .bool ((rdL calls_1 x_30).Key.Back), .string (bs ((rdL calls_1 x_30).Name)), .bool ((rdL calls_1 x_30).Fail)]⟩, ⟨40, b_7, [.int .u64 f_16, .int .u64 f_17, .slice A_19 f_18.length c_20, .map (mA A_22), .map (mA A_25)]⟩]) (ps := [b_33 = b_33]) (by kernel_rfl) (And.intro rfl trivial) ?_
      refine GoO.regionEnd ?_
      refine GoO.seq' c5_29e ?_
      refine GoO.seq' c5_30e ?_
      refine GoO.region' (is := [0, 1]) c5_31e (by kernel_rfl) ?_
      refine GoO.exec (is := [0, 1]) (hs := [.p, .p]) (rest := []) (ks := [3, 4, 6, 23, 24, 25, 31]) (env' := [(3, .pointer (some ⟨b_7, 0, none⟩)), (4, .map (mA A_28)), (6, .pointer (some ⟨b_33, 0, none⟩)), (23, .slice A_2 calls_1.length c_3), (24, .int .i64 (calls_1.length : Int)), (25, .int .i64 x_30), (31, .bool (x_30 == 500))]) (H' := [⟨45, b_33, [.int .u64 ((rdL calls_1 x_30).Token.Term), .int .u64 ((rdL calls_1 x_30).Token.Index), .int .u64 ((rdL calls_1 x_30).Key.Saga), .int .i64 ((rdL calls_1 x_30).Key.Step), .bool ((rdL calls_1 x_30).Key.Back), .string (bs ((rdL calls_1 x_30).Name)), .bool ((rdL calls_1 x_30).Fail)]⟩, ⟨40, b_7, [.int .u64 f_16, .int .u64 f_17, .slice A_19 f_18.length c_20, .map (mA A_22), .map (mA A_25)]⟩]) (ps := []) (by kernel_rfl) trivial ?_
      refine GoO.regionEnd ?_
      refine GoO.ite' c5_32e (by kernel_rfl) (fun h34 => ?_) (fun h34 => ?_)
      · refine GoO.exit' c5_33e rfl ?_
        exact GoO.sub (ks := [3, 4]) (hk := [1]) (bk := [0, 1, 2, 3]) (by kernel_rfl) (by kernel_rfl) (by kernel_rfl) (tontinelaw18_LedgerOnce_j0_ok n f_16 f_17 f_18 f_21 f_24 good_27 b_7 A_19 c_20 A_22 c_23 A_25 c_26 A_28 c_29 A_2 c_3 w0 S0)
      · refine GoO.skip' c5_34e ?_
        refine GoO.seq' c5_35e ?_
        refine GoO.region' (is := [0, 1, 2, 3, 4, 5, 6, 7, 8, 9, 10, 11, 12, 13, 14]) c5_36e (by kernel_rfl) ?_
        refine GoO.exec (is := [0, 1, 2, 3, 4, 5, 6, 7, 8]) (hs := [.p, .p, .b 0, .p, .b 0, .p, .b 0, .p, .b 0]) (rest := [9, 10, 11, 12, 13, 14]) (ks := [3, 4, 6, 23, 24, 25, 33, 35, 37, 39, 41]) (env' := [(3, .pointer (some ⟨b_7, 0, none⟩)), (4, .map (mA A_28)), (6, .pointer (some ⟨b_33, 0, none⟩)), (23, .slice A_2 calls_1.length c_3), (24, .int .i64 (calls_1.length : Int)), (25, .int .i64 x_30), (33, .pointer (some ⟨b_7, 0, none⟩)), (35, .agg ⟨[.int .u64 ((rdL calls_1 x_30).Token.Term), .int .u64 ((rdL calls_1 x_30).Token.Index)]⟩), (37, .agg ⟨[.int .u64 ((rdL calls_1 x_30).Key.Saga), .int .i64 ((rdL calls_1 x_30).Key.Step), .bool ((rdL calls_1 x_30).Key.Back)]⟩), (39, .string (bs ((rdL calls_1 x_30).Name))), (41, .bool ((rdL calls_1 x_30).Fail))]) (H' := [⟨45, b_33, [.int .u64 ((rdL calls_1 x_30).Token.Term), .int .u64 ((rdL calls_1 x_30).Token.Index), .int .u64 ((rdL calls_1 x_30).Key.Saga), .int .i64 ((rdL calls_1 x_30).Key.Step), .bool ((rdL calls_1 x_30).Key.Back), .string (bs ((rdL calls_1 x_30).Name)), .bool ((rdL calls_1 x_30).Fail)]⟩, ⟨40, b_7, [.int .u64 f_16, .int .u64 f_17, .slice A_19 f_18.length c_20, .map (mA A_22), .map (mA A_25)]⟩]) (ps := [b_33 = b_33, b_33 = b_33, b_33 = b_33, b_33 = b_33]) (by kernel_rfl) (And.intro rfl (And.intro rfl (And.intro rfl (And.intro rfl trivial)))) ?_
        refine OpTo.go (GoO.call rfl (by kernel_rfl) (by kernel_rfl) (ledger_Ledger_Ask_ok n (⟨(⟨f_16, f_17⟩ : T_api_Token), f_18, f_21, f_24⟩ : T_ledger_Ledger) (⟨(rdL calls_1 x_30).Token.Term, (rdL calls_1 x_30).Token.Index⟩ : T_api_Token) (⟨(rdL calls_1 x_30).Key.Saga, (rdL calls_1 x_30).Key.Step, (rdL calls_1 x_30).Key.Back⟩ : T_api_Key) ((rdL calls_1 x_30).Name) ((rdL calls_1 x_30).Fail) b_7 A_19 c_20 A_22 c_23 A_25 c_26) [[0], [40], [41], [42], [43]] [(40, 1), (41, 2), (42, 3), (43, 4)] [(1, 1)] [(2, 0), (3, 1), (4, 2)] (hks := [0]) (bks := [3, 4]) (by kernel_rfl) (by kernel_rfl) (by kernel_rfl) (.inl rfl) rfl rfl (by kernel_rfl) (by kernel_rfl) _ (fun _ _ => rfl) _ _ (fun _ _ => rfl) (fun _ _ => rfl) (fun _ _ => by kernel_rfl) (fun _ _ => by kernel_rfl) (fun r_35 x_49 => ?_))
        obtain ⟨A_36, c_37, A_38, c_39, A_40, c_41⟩ := x_49
        refine GoO.shape (env' := [(3, .pointer (some ⟨b_7, 0, none⟩)), (4, .map (mA A_28)), (6, .pointer (some ⟨b_33, 0, none⟩)), (23, .slice A_2 calls_1.length c_3), (24, .int .i64 (calls_1.length : Int)), (25, .int .i64 x_30), (33, .pointer (some ⟨b_7, 0, none⟩)), (35, .agg ⟨[.int .u64 ((rdL calls_1 x_30).Token.Term), .int .u64 ((rdL calls_1 x_30).Token.Index)]⟩), (37, .agg ⟨[.int .u64 ((rdL calls_1 x_30).Key.Saga), .int .i64 ((rdL calls_1 x_30).Key.Step), .bool ((rdL calls_1 x_30).Key.Back)]⟩), (39, .string (bs ((rdL calls_1 x_30).Name))), (41, .bool ((rdL calls_1 x_30).Fail)), (42, .tuple ⟨[.bool r_35.1, .int .i64 r_35.2.1]⟩)]) (H' := [⟨40, b_7, [.int .u64 r_35.2.2.fence.Term, .int .u64 r_35.2.2.fence.Index, .slice A_36 r_35.2.2.effects.length c_37, .map (mA A_38), .map (mA A_40)]⟩, ⟨45, b_33, [.int .u64 ((rdL calls_1 x_30).Token.Term), .int .u64 ((rdL calls_1 x_30).Token.Index), .int .u64 ((rdL calls_1 x_30).Key.Saga), .int .i64 ((rdL calls_1 x_30).Key.Step), .bool ((rdL calls_1 x_30).Key.Back), .string (bs ((rdL calls_1 x_30).Name)), .bool ((rdL calls_1 x_30).Fail)]⟩]) (B' := [Ow 41 kT_ledger_Effect A_36 c_37 r_35.2.2.effects, Mp 42 ky41 (fun v => .bool v) A_38 c_39 r_35.2.2.said, Mp 43 ky41 (fun v => .bool v) A_40 c_41 r_35.2.2.tombs, Mp 44 ky41 (fun v => .bool v) A_28 c_29 good_27, Rd 0 kT_tontinelaw18_Call A_2 c_3 calls_1]) (ks := [3, 4, 6, 23, 24, 25, 33, 35, 37, 39, 41, 42]) (by kernel_rfl) (by kernel_rfl) (by kernel_rfl) ?_
        refine GoO.exec (is := [10, 11, 12, 13, 14]) (hs := [.p, .p, .p, .p, .p]) (rest := []) (ks := [3, 4, 6, 7, 8, 23, 24, 25]) (env' := [(3, .pointer (some ⟨b_7, 0, none⟩)), (4, .map (mA A_28)), (6, .pointer (some ⟨b_33, 0, none⟩)), (7, .bool r_35.1), (8, .int .i64 r_35.2.1), (23, .slice A_2 calls_1.length c_3), (24, .int .i64 (calls_1.length : Int)), (25, .int .i64 x_30)]) (H' := [⟨40, b_7, [.int .u64 r_35.2.2.fence.Term, .int .u64 r_35.2.2.fence.Index, .slice A_36 r_35.2.2.effects.length c_37, .map (mA A_38), .map (mA A_40)]⟩, ⟨45, b_33, [.int .u64 ((rdL calls_1 x_30).Token.Term), .int .u64 ((rdL calls_1 x_30).Token.Index), .int .u64 ((rdL calls_1 x_30).Key.Saga), .int .i64 ((rdL calls_1 x_30).Key.Step), .bool ((rdL calls_1 x_30).Key.Back), .string (bs ((rdL calls_1 x_30).Name)), .bool ((rdL calls_1 x_30).Fail)]⟩]) (ps := []) (by kernel_rfl) trivial ?_
        refine GoO.regionEnd ?_
        refine GoO.seq' c5_37e ?_
        refine GoO.seq' c5_38e ?_
        refine GoO.region' (is := [0, 1]) c5_39e (by kernel_rfl) ?_
        refine GoO.exec (is := [0, 1]) (hs := [.p, .p]) (rest := []) (ks := [3, 4, 6, 7, 23, 24, 25, 46]) (env' := [(3, .pointer (some ⟨b_7, 0, none⟩)), (4, .map (mA A_28)), (6, .pointer (some ⟨b_33, 0, none⟩)), (7, .bool r_35.1), (23, .slice A_2 calls_1.length c_3), (24, .int .i64 (calls_1.length : Int)), (25, .int .i64 x_30), (46, .bool (r_35.2.1 != 0))]) (H' := [⟨40, b_7, [.int .u64 r_35.2.2.fence.Term, .int .u64 r_35.2.2.fence.Index, .slice A_36 r_35.2.2.effects.length c_37, .map (mA A_38), .map (mA A_40)]⟩, ⟨45, b_33, [.int .u64 ((rdL calls_1 x_30).Token.Term), .int .u64 ((rdL calls_1 x_30).Token.Index), .int .u64 ((rdL calls_1 x_30).Key.Saga), .int .i64 ((rdL calls_1 x_30).Key.Step), .bool ((rdL calls_1 x_30).Key.Back), .string (bs ((rdL calls_1 x_30).Name)), .bool ((rdL calls_1 x_30).Fail)]⟩]) (ps := []) (by kernel_rfl) trivial ?_
        refine GoO.regionEnd ?_
        refine GoO.ite' c5_40e (by kernel_rfl) (fun h42 => ?_) (fun h42 => ?_)
        · refine GoO.exit' c5_41e rfl ?_
          refine GoO.region' (is := [0, 1]) c5_58e (by kernel_rfl) ?_
          refine GoO.exec (is := [0, 1]) (hs := [.p, .p]) (rest := []) (ks := [3, 4, 23, 24, 25]) (env' := [(3, .pointer (some ⟨b_7, 0, none⟩)), (4, .map (mA A_28)), (23, .slice A_2 calls_1.length c_3), (24, .int .i64 (calls_1.length : Int)), (25, .int .i64 (wi64 (x_30 + 1)))]) (H' := [⟨40, b_7, [.int .u64 r_35.2.2.fence.Term, .int .u64 r_35.2.2.fence.Index, .slice A_36 r_35.2.2.effects.length c_37, .map (mA A_38), .map (mA A_40)]⟩, ⟨45, b_33, [.int .u64 ((rdL calls_1 x_30).Token.Term), .int .u64 ((rdL calls_1 x_30).Token.Index), .int .u64 ((rdL calls_1 x_30).Key.Saga), .int .i64 ((rdL calls_1 x_30).Key.Step), .bool ((rdL calls_1 x_30).Key.Back), .string (bs ((rdL calls_1 x_30).Name)), .bool ((rdL calls_1 x_30).Fail)]⟩]) (ps := []) (by kernel_rfl) trivial ?_
          refine GoO.regionEnd ?_
          refine GoO.inLoop ?_
          exact GoO.sub (ks := [3, 4, 23, 24, 25]) (hk := [0]) (bk := [0, 1, 2, 3, 4]) (by kernel_rfl) (by kernel_rfl) (by kernel_rfl) (ih2 r_35.2.2.fence.Term r_35.2.2.fence.Index r_35.2.2.effects r_35.2.2.said r_35.2.2.tombs good_27 (wi64 (x_30 + 1)) A_36 c_37 A_38 c_39 A_40 c_41 A_28 c_29)
        · refine GoO.skip' c5_42e ?_
          refine GoO.seq' c5_43e ?_
          refine GoO.seq' c5_44e ?_
          refine GoO.region' (is := [0, 1, 2, 3, 4, 5, 6, 7, 8]) c5_45e (by kernel_rfl) ?_
          refine GoO.exec (is := [0, 1, 2]) (hs := [.p, .p, .b 1]) (rest := [3, 4, 5, 6, 7, 8]) (ks := [3, 4, 6, 7, 23, 24, 25, 48, 50]) (env' := [(3, .pointer (some ⟨b_7, 0, none⟩)), (4, .map (mA A_28)), (6, .pointer (some ⟨b_33, 0, none⟩)), (7, .bool r_35.1), (23, .slice A_2 calls_1.length c_3), (24, .int .i64 (calls_1.length : Int)), (25, .int .i64 x_30), (48, .map (mA A_28)), (50, .agg ⟨[.int .u64 ((rdL calls_1 x_30).Key.Saga), .int .i64 ((rdL calls_1 x_30).Key.Step), .bool ((rdL calls_1 x_30).Key.Back)]⟩)]) (H' := [⟨40, b_7, [.int .u64 r_35.2.2.fence.Term, .int .u64 r_35.2.2.fence.Index, .slice A_36 r_35.2.2.effects.length c_37, .map (mA A_38), .map (mA A_40)]⟩, ⟨45, b_33, [.int .u64 ((rdL calls_1 x_30).Token.Term), .int .u64 ((rdL calls_1 x_30).Token.Index), .int .u64 ((rdL calls_1 x_30).Key.Saga), .int .i64 ((rdL calls_1 x_30).Key.Step), .bool ((rdL calls_1 x_30).Key.Back), .string (bs ((rdL calls_1 x_30).Name)), .bool ((rdL calls_1 x_30).Fail)]⟩]) (ps := [b_33 = b_33]) (by kernel_rfl) (And.intro rfl trivial) ?_
          refine OpTo.go (GoO.mapLk (vt := 4) (K := ky41) (ev := (fun v => .bool v)) (A := A_28) (c := c_29) (l := good_27) (key := (⟨(rdL calls_1 x_30).Key.Saga, (rdL calls_1 x_30).Key.Step, (rdL calls_1 x_30).Key.Back⟩ : T_api_Key)) (j := 3) rfl (by kernel_rfl) (by kernel_rfl) (by kernel_rfl) rfl false (fun _ => by kernel_rfl) rfl ?_)
          refine GoO.exec (is := [4, 5, 6, 7, 8]) (hs := [.p, .p, .p, .p, .p]) (rest := []) (ks := [3, 4, 6, 7, 9, 10, 23, 24, 25]) (env' := [(3, .pointer (some ⟨b_7, 0, none⟩)), (4, .map (mA A_28)), (6, .pointer (some ⟨b_33, 0, none⟩)), (7, .bool r_35.1), (9, .bool ((getA (⟨(rdL calls_1 x_30).Key.Saga, (rdL calls_1 x_30).Key.Step, (rdL calls_1 x_30).Key.Back⟩ : T_api_Key) good_27).getD false)), (10, .bool ((getA (⟨(rdL calls_1 x_30).Key.Saga, (rdL calls_1 x_30).Key.Step, (rdL calls_1 x_30).Key.Back⟩ : T_api_Key) good_27).isSome)), (23, .slice A_2 calls_1.length c_3), (24, .int .i64 (calls_1.length : Int)), (25, .int .i64 x_30)]) (H' := [⟨40, b_7, [.int .u64 r_35.2.2.fence.Term, .int .u64 r_35.2.2.fence.Index, .slice A_36 r_35.2.2.effects.length c_37, .map (mA A_38), .map (mA A_40)]⟩, ⟨45, b_33, [.int .u64 ((rdL calls_1 x_30).Token.Term), .int .u64 ((rdL calls_1 x_30).Token.Index), .int .u64 ((rdL calls_1 x_30).Key.Saga), .int .i64 ((rdL calls_1 x_30).Key.Step), .bool ((rdL calls_1 x_30).Key.Back), .string (bs ((rdL calls_1 x_30).Name)), .bool ((rdL calls_1 x_30).Fail)]⟩]) (ps := []) (by kernel_rfl) trivial ?_
          refine GoO.regionEnd ?_
          refine GoO.seq' c5_46e ?_
          refine GoO.region' (is := [0, 1, 2, 3, 4, 5]) c5_47e (by kernel_rfl) ?_
          refine GoO.exec (is := [0, 1]) (hs := [.p, .p]) (rest := [2, 3, 4, 5]) (ks := [3, 4, 6, 7, 9, 23, 24, 25, 55]) (env' := [(3, .pointer (some ⟨b_7, 0, none⟩)), (4, .map (mA A_28)), (6, .pointer (some ⟨b_33, 0, none⟩)), (7, .bool r_35.1), (9, .bool ((getA (⟨(rdL calls_1 x_30).Key.Saga, (rdL calls_1 x_30).Key.Step, (rdL calls_1 x_30).Key.Back⟩ : T_api_Key) good_27).getD false)), (23, .slice A_2 calls_1.length c_3), (24, .int .i64 (calls_1.length : Int)), (25, .int .i64 x_30), (55, .bool ((getA (⟨(rdL calls_1 x_30).Key.Saga, (rdL calls_1 x_30).Key.Step, (rdL calls_1 x_30).Key.Back⟩ : T_api_Key) good_27).isSome))]) (H' := [⟨40, b_7, [.int .u64 r_35.2.2.fence.Term, .int .u64 r_35.2.2.fence.Index, .slice A_36 r_35.2.2.effects.length c_37, .map (mA A_38), .map (mA A_40)]⟩, ⟨45, b_33, [.int .u64 ((rdL calls_1 x_30).Token.Term), .int .u64 ((rdL calls_1 x_30).Token.Index), .int .u64 ((rdL calls_1 x_30).Key.Saga), .int .i64 ((rdL calls_1 x_30).Key.Step), .bool ((rdL calls_1 x_30).Key.Back), .string (bs ((rdL calls_1 x_30).Name)), .bool ((rdL calls_1 x_30).Fail)]⟩]) (ps := []) (by kernel_rfl) trivial ?_
          refine GoO.bsplit (t := 55) (by kernel_rfl) (fun h43 => ?_) (fun h43 => ?_)
          · refine GoO.exec (is := [2, 3, 4, 5]) (hs := [.p, .p, .p, .p]) (rest := []) (ks := [3, 4, 6, 7, 23, 24, 25, 59]) (env' := [(3, .pointer (some ⟨b_7, 0, none⟩)), (4, .map (mA A_28)), (6, .pointer (some ⟨b_33, 0, none⟩)), (7, .bool r_35.1), (23, .slice A_2 calls_1.length c_3), (24, .int .i64 (calls_1.length : Int)), (25, .int .i64 x_30), (59, .bool (!(((getA (⟨(rdL calls_1 x_30).Key.Saga, (rdL calls_1 x_30).Key.Step, (rdL calls_1 x_30).Key.Back⟩ : T_api_Key) good_27).getD false) == r_35.1)))]) (H' := [⟨40, b_7, [.int .u64 r_35.2.2.fence.Term, .int .u64 r_35.2.2.fence.Index, .slice A_36 r_35.2.2.effects.length c_37, .map (mA A_38), .map (mA A_40)]⟩, ⟨45, b_33, [.int .u64 ((rdL calls_1 x_30).Token.Term), .int .u64 ((rdL calls_1 x_30).Token.Index), .int .u64 ((rdL calls_1 x_30).Key.Saga), .int .i64 ((rdL calls_1 x_30).Key.Step), .bool ((rdL calls_1 x_30).Key.Back), .string (bs ((rdL calls_1 x_30).Name)), .bool ((rdL calls_1 x_30).Fail)]⟩]) (ps := []) (by kernel_rfl) trivial ?_
            refine GoO.regionEnd ?_
            exact GoO.sub (ks := [3, 4, 6, 7, 23, 24, 25, 59]) (hk := [0, 1]) (bk := [0, 1, 2, 3, 4]) (by kernel_rfl) (by kernel_rfl) (by kernel_rfl) (tontinelaw18_LedgerOnce_j12_ok n (tontinelaw18_LedgerOnce.l2 n calls_1 k) calls_1 f_16 f_17 f_18 f_21 f_24 good_27 x_30 r_35 A_2 c_3 b_7 A_19 c_20 A_22 c_23 A_25 c_26 A_28 c_29 b_33 A_36 c_37 A_38 c_39 A_40 c_41 w0 S0 ih2 (!(((getA (⟨(rdL calls_1 x_30).Key.Saga, (rdL calls_1 x_30).Key.Step, (rdL calls_1 x_30).Key.Back⟩ : T_api_Key) good_27).getD false) == r_35.1)))
          · refine GoO.exec (is := [2, 3, 4, 5]) (hs := [.p, .p, .p, .p]) (rest := []) (ks := [3, 4, 6, 7, 23, 24, 25, 59]) (env' := [(3, .pointer (some ⟨b_7, 0, none⟩)), (4, .map (mA A_28)), (6, .pointer (some ⟨b_33, 0, none⟩)), (7, .bool r_35.1), (23, .slice A_2 calls_1.length c_3), (24, .int .i64 (calls_1.length : Int)), (25, .int .i64 x_30), (59, .bool false)]) (H' := [⟨40, b_7, [.int .u64 r_35.2.2.fence.Term, .int .u64 r_35.2.2.fence.Index, .slice A_36 r_35.2.2.effects.length c_37, .map (mA A_38), .map (mA A_40)]⟩, ⟨45, b_33, [.int .u64 ((rdL calls_1 x_30).Token.Term), .int .u64 ((rdL calls_1 x_30).Token.Index), .int .u64 ((rdL calls_1 x_30).Key.Saga), .int .i64 ((rdL calls_1 x_30).Key.Step), .bool ((rdL calls_1 x_30).Key.Back), .string (bs ((rdL calls_1 x_30).Name)), .bool ((rdL calls_1 x_30).Fail)]⟩]) (ps := []) (by kernel_rfl) trivial ?_
            refine GoO.regionEnd ?_
            exact GoO.sub (ks := [3, 4, 6, 7, 23, 24, 25, 59]) (hk := [0, 1]) (bk := [0, 1, 2, 3, 4]) (by kernel_rfl) (by kernel_rfl) (by kernel_rfl) (tontinelaw18_LedgerOnce_j12_ok n (tontinelaw18_LedgerOnce.l2 n calls_1 k) calls_1 f_16 f_17 f_18 f_21 f_24 good_27 x_30 r_35 A_2 c_3 b_7 A_19 c_20 A_22 c_23 A_25 c_26 A_28 c_29 b_33 A_36 c_37 A_38 c_39 A_40 c_41 w0 S0 ih2 false)
    · refine GoO.exit' c5_24e rfl ?_
      exact GoO.sub (ks := [3, 4]) (hk := [0]) (bk := [0, 1, 2, 3]) (by kernel_rfl) (by kernel_rfl) (by kernel_rfl) (tontinelaw18_LedgerOnce_j0_ok n f_16 f_17 f_18 f_21 f_24 good_27 b_7 A_19 c_20 A_22 c_23 A_25 c_26 A_28 c_29 A_2 c_3 w0 S0)
theorem tontinelaw18_LedgerOnce_ok (n : Nat) (calls_1 : (List T_tontinelaw18_Call)) (A_2 : Option Addr) (c_3 : Nat) :
    Meets Try.prog 5 [.slice A_2 calls_1.length c_3] 0 [] [] [Rd 0 kT_tontinelaw18_Call A_2 c_3 calls_1] (tontinelaw18_LedgerOnce.f n calls_1) (tontinelaw18_LedgerOnce.R A_2 c_3) := by
  refine Meets.of (c := c5_0) (n := 185) Try.func5 (by kernel_rfl) (by kernel_rfl) (by kernel_rfl) fun w0 S0 => ?_
  unfold tontinelaw18_LedgerOnce.f
  show GoO (tontinelaw18_LedgerOnce.cx A_2 c_3 w0 S0) [(0, .slice A_2 calls_1.length c_3)] [] [Rd 0 kT_tontinelaw18_Call A_2 c_3 calls_1] [.code c5_0] _
  refine GoO.seq' c5_0e ?_
  refine GoO.region' (is := [0]) c5_1e (by kernel_rfl) ?_
  refine GoO.exec (is := [0]) (hs := [.p]) (rest := []) (ks := [0]) (env' := [(0, .slice A_2 calls_1.length c_3)]) (H' := []) (ps := []) (by kernel_rfl) trivial ?_
  refine GoO.regionEnd ?_
  refine GoO.seq' c5_2e ?_
  refine GoO.seq' c5_3e ?_
  refine GoO.region' (is := [0, 1]) c5_4e (by kernel_rfl) ?_
  refine OpTo.go (GoO.call rfl (by kernel_rfl) (by kernel_rfl) (tontinelaw18_begun_ok n) [[0]] [] [] [] (hks := []) (bks := [0]) (by kernel_rfl) (by kernel_rfl) (by kernel_rfl) (.inl rfl) rfl rfl (by kernel_rfl) (by kernel_rfl) _ (fun _ _ => rfl) _ _ (fun _ _ => rfl) (fun _ _ => rfl) (fun _ _ => by kernel_rfl) (fun _ _ => by kernel_rfl) (fun r_4 x_105 => ?_))
  refine GoO.shape (env' := [(0, .slice A_2 calls_1.length c_3), (19, .bool r_4)]) (H' := []) (B' := [Rd 0 kT_tontinelaw18_Call A_2 c_3 calls_1]) (ks := [0, 19]) (by kernel_rfl) (by kernel_rfl) (by kernel_rfl) ?_
  refine GoO.exec (is := [1]) (hs := [.p]) (rest := []) (ks := [0, 20]) (env' := [(0, .slice A_2 calls_1.length c_3), (20, .bool (!r_4))]) (H' := []) (ps := []) (by kernel_rfl) trivial ?_
  refine GoO.regionEnd ?_
  refine GoO.ite' c5_5e (by kernel_rfl) (fun h5 => ?_) (fun h5 => ?_)
  · refine GoO.seq' c5_6e ?_
    refine GoO.region' (is := [0]) c5_7e (by kernel_rfl) ?_
    refine GoO.exec (is := [0]) (hs := [.p]) (rest := []) (ks := [2]) (env' := [(2, .bool false)]) (H' := []) (ps := []) (by kernel_rfl) trivial ?_
    refine GoO.regionEnd ?_
    exact GoO.ret' (h := c5_8e) (hs := []) (ps := []) (hk := []) (bk := []) Try.func5 () (by kernel_rfl) trivial (by kernel_rfl) (by kernel_rfl)
  · refine GoO.skip' c5_9e ?_
    refine GoO.seq' c5_10e ?_
    refine GoO.region' (is := [0, 1]) c5_11e (by kernel_rfl) ?_
    refine OpTo.go (GoO.call rfl (by kernel_rfl) (by kernel_rfl) (ledger_New_ok n) [[0]] [(40, 1), (41, 2), (42, 3), (43, 4)] [] [] (hks := []) (bks := [0]) (by kernel_rfl) (by kernel_rfl) (by kernel_rfl) (.inl rfl) rfl rfl (by kernel_rfl) (by kernel_rfl) _ (fun _ _ => rfl) _ _ (fun _ _ => rfl) (fun _ _ => rfl) (fun _ _ => by kernel_rfl) (fun _ _ => by kernel_rfl) (fun r_6 x_104 => ?_))
    obtain ⟨b_7, A_8, c_9, A_10, c_11, A_12, c_13⟩ := x_104
    refine GoO.shape (env' := [(0, .slice A_2 calls_1.length c_3), (20, .bool (!r_4)), (21, .pointer (some ⟨b_7, 0, none⟩))]) (H' := [⟨40, b_7, [.int .u64 r_6.fence.Term, .int .u64 r_6.fence.Index, .slice A_8 r_6.effects.length c_9, .map (mA A_10), .map (mA A_12)]⟩]) (B' := [Ow 41 kT_ledger_Effect A_8 c_9 r_6.effects, Mp 42 ky41 (fun v => .bool v) A_10 c_11 r_6.said, Mp 43 ky41 (fun v => .bool v) A_12 c_13 r_6.tombs, Rd 0 kT_tontinelaw18_Call A_2 c_3 calls_1]) (ks := [0, 20, 21]) (by kernel_rfl) (by kernel_rfl) (by kernel_rfl) ?_
    refine GoO.exec (is := [1]) (hs := [.p]) (rest := []) (ks := [0, 3]) (env' := [(0, .slice A_2 calls_1.length c_3), (3, .pointer (some ⟨b_7, 0, none⟩))]) (H' := [⟨40, b_7, [.int .u64 r_6.fence.Term, .int .u64 r_6.fence.Index, .slice A_8 r_6.effects.length c_9, .map (mA A_10), .map (mA A_12)]⟩]) (ps := []) (by kernel_rfl) trivial ?_
    refine GoO.regionEnd ?_
    refine GoO.seq' c5_12e ?_
    refine GoO.region' (is := [0, 1]) c5_13e (by kernel_rfl) ?_
    refine OpTo.go (GoO.mkMap rfl 44 ky41 (fun v => .bool v) _ (fun _ _ => rfl) (fun A_14 c_15 => ?_))
    refine GoO.exec (is := [1]) (hs := [.p]) (rest := []) (ks := [0, 3, 4]) (env' := [(0, .slice A_2 calls_1.length c_3), (3, .pointer (some ⟨b_7, 0, none⟩)), (4, .map (mA A_14))]) (H' := [⟨40, b_7, [.int .u64 r_6.fence.Term, .int .u64 r_6.fence.Index, .slice A_8 r_6.effects.length c_9, .map (mA A_10), .map (mA A_12)]⟩]) (ps := []) (by kernel_rfl) trivial ?_
    refine GoO.regionEnd ?_
    refine GoO.seq' c5_14e ?_
    refine GoO.seq' c5_15e ?_
    refine GoO.region' (is := [0, 1, 2]) c5_16e (by kernel_rfl) ?_
    refine GoO.exec (is := [0, 1, 2]) (hs := [.p, .p, .p]) (rest := []) (ks := [3, 4, 23, 24, 25]) (env' := [(3, .pointer (some ⟨b_7, 0, none⟩)), (4, .map (mA A_14)), (23, .slice A_2 calls_1.length c_3), (24, .int .i64 (calls_1.length : Int)), (25, .int .i64 0)]) (H' := [⟨40, b_7, [.int .u64 r_6.fence.Term, .int .u64 r_6.fence.Index, .slice A_8 r_6.effects.length c_9, .map (mA A_10), .map (mA A_12)]⟩]) (ps := []) (by kernel_rfl) trivial ?_
    refine GoO.regionEnd ?_
    refine GoO.block' c5_17e ?_
    refine GoO.loop' c5_18e ?_
    exact GoO.sub (ks := [3, 4, 23, 24, 25]) (hk := [0]) (bk := [1, 2, 3, 0, 4]) (by kernel_rfl) (by kernel_rfl) (by kernel_rfl) (tontinelaw18_LedgerOnce_l2_ok n calls_1 A_2 c_3 b_7 w0 S0 n r_6.fence.Term r_6.fence.Index r_6.effects r_6.said r_6.tombs ([] : List (T_api_Key × Bool)) 0 A_8 c_9 A_10 c_11 A_12 c_13 A_14 c_15)
end Go.GL
