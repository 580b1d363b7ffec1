import Derived.Test.YtmpockelhphkdaaKindsT2
import Derived.Test.YtmpockelhphkdaaProg
set_option linter.unusedVariables false
set_option linter.unusedSimpArgs false
set_option maxRecDepth 100000
namespace Go.GL
open Go Go.Proofs

theorem ky41_dec (a b : T_api_Key) : decide (a = b) = ((a.Saga == b.Saga) && ((a.Step == b.Step) && ((a.Back == b.Back) && true))) := by cases a; cases b; rw [Bool.eq_iff_iff]; simp

noncomputable def ky41 : Ky Try.prog 45 T_api_Key where
  enc := fun k => .agg ⟨[.int .u64 k.Saga, .int .i64 k.Step, .bool k.Back]⟩
  eq := fun a b w => by
    have h : eqV Try.prog 2 45 (.agg ⟨[.int .u64 a.Saga, .int .i64 a.Step, .bool a.Back]⟩) (.agg ⟨[.int .u64 b.Saga, .int .i64 b.Step, .bool b.Back]⟩) = some ((a.Saga == b.Saga) && ((a.Step == b.Step) && ((a.Back == b.Back) && true))) := by kernel_rfl
    rw [ky41_dec a b]; exact eqV_ok 9998 2 45 _ _ _ h w
  chk := fun a e w => by kernel_rfl
  td := (Try.prog.underlying 45).getD default
  und := by kernel_rfl
  now := fun a b => .inl (by kernel_rfl)
  same := fun a => by simp [Instr.sameBits]

/-! tontine/ledger.New -/
noncomputable def c22_0 : Code := bodyOf Try.f22
noncomputable def c22_1 : Code := cdL c22_0
noncomputable def c22_2 : Code := cdR c22_0
noncomputable def c22_3 : Code := cdL c22_2
noncomputable def c22_4 : Code := cdR c22_2
noncomputable def r22_1 : Array Oper := cdO c22_1
noncomputable def r22_3 : Array Oper := cdO c22_3
theorem c22_0e : c22_0 = .seq c22_1 c22_2 := by kernel_rfl
theorem c22_1e : c22_1 = .region 0 r22_1 false := by kernel_rfl
theorem c22_2e : c22_2 = .seq c22_3 c22_4 := by kernel_rfl
theorem c22_3e : c22_3 = .region 1 r22_3 false := by kernel_rfl
theorem c22_4e : c22_4 = .ret := by kernel_rfl
noncomputable def ledger_New.R : Pst T_ledger_Ledger where
  ε := Nat × Option Addr × Nat × Option Addr × Nat × Option Addr × Nat
  v := fun r x => .pointer (some ⟨x.1, 0, none⟩)
  H := fun r x => [⟨1, x.1, [.int .u64 r.fence.Term, .int .u64 r.fence.Index, .slice x.2.1 r.effects.length x.2.2.1, .map (mA x.2.2.2.1), .map (mA x.2.2.2.2.2.1)]⟩]
  B := fun r x => [Ow 2 kT_ledger_Effect x.2.1 x.2.2.1 r.effects, Mp 3 ky41 (fun v => .bool v) x.2.2.2.1 x.2.2.2.2.1 r.said, Mp 4 ky41 (fun v => .bool v) x.2.2.2.2.2.1 x.2.2.2.2.2.2 r.tombs]
noncomputable def ledger_New.cx (w0 : World) (S0 : Fam) : Cx T_ledger_Ledger := ⟨Try.prog, 22, Try.f22, 5, w0, S0, [], 0, ledger_New.R⟩
theorem ledger_New_ok (n : Nat) :
    Meets Try.prog 22 [] 0 [] [] [] (ledger_New.f n) (ledger_New.R) := by
  refine Meets.of (c := c22_0) (n := 5) Try.func22 (by kernel_rfl) (by kernel_rfl) (by kernel_rfl) fun w0 S0 => ?_
  unfold ledger_New.f
  show GoO (ledger_New.cx w0 S0) [] [] [] [.code c22_0] _
  refine GoO.seq' c22_0e ?_
  refine GoO.region' (is := [0]) c22_1e (by kernel_rfl) ?_
  refine GoO.exec (is := [0]) (hs := [.p]) (rest := []) (ks := []) (env' := []) (H' := []) (ps := []) (by kernel_rfl) trivial ?_
  refine GoO.regionEnd ?_
  refine GoO.seq' c22_2e ?_
  refine GoO.region' (is := [0, 1, 2, 3, 4]) c22_3e (by kernel_rfl) ?_
  refine OpTo.go (GoO.mkMap rfl 40 ky41 (fun v => .bool v) _ (fun _ _ => rfl) (fun A_1 c_2 => ?_))
  refine OpTo.go (GoO.mkMap rfl 41 ky41 (fun v => .bool v) _ (fun _ _ => rfl) (fun A_3 c_4 => ?_))
  refine GoO.exec (is := [2]) (hs := [.p]) (rest := [3, 4]) (ks := [3]) (env' := [(3, .agg ⟨[.int .u64 0, .int .u64 0, .slice none ([] : List T_ledger_Effect).length 0, .map (mA A_1), .map (mA A_3)]⟩)]) (H' := []) (ps := []) (by kernel_rfl) trivial ?_
  refine OpTo.go (GoO.new rfl 42 (cs := [.int .u64 0, .int .u64 0, .slice none ([] : List T_ledger_Effect).length 0, .map (mA A_1), .map (mA A_3)]) (by kernel_rfl) _ (fun _ => rfl) (fun b_5 => ?_))
  refine GoO.exec (is := [4]) (hs := [.p]) (rest := []) (ks := [0]) (env' := [(0, .pointer (some ⟨b_5, 0, none⟩))]) (H' := [⟨42, b_5, [.int .u64 0, .int .u64 0, .slice none ([] : List T_ledger_Effect).length 0, .map (mA A_1), .map (mA A_3)]⟩]) (ps := []) (by kernel_rfl) trivial ?_
  refine GoO.regionEnd ?_
  refine GoO.nilOwn kT_ledger_Effect 2 ?_
  refine GoO.retag (t := 40) (u := 3) (j := 2) (hk := [0]) (bk := [0, 1]) rfl rfl rfl rfl rfl rfl (by kernel_rfl) (by kernel_rfl) ?_
  refine GoO.retag (t := 41) (u := 4) (j := 2) (hk := [0]) (bk := [0, 1]) rfl rfl rfl rfl rfl rfl (by kernel_rfl) (by kernel_rfl) ?_
  refine GoO.retagB (t := 42) (u := 1) (j := 0) (hk := []) (bk := [0, 1, 2]) rfl rfl rfl rfl rfl rfl (by kernel_rfl) (by kernel_rfl) ?_
  exact GoO.ret' (h := c22_4e) (hs := []) (ps := []) (hk := [0]) (bk := [2, 1, 0]) Try.func22 (⟨b_5, none, 0, A_1, c_2, A_3, c_4⟩ : Nat × Option Addr × Nat × Option Addr × Nat × Option Addr × Nat) (by kernel_rfl) trivial (by kernel_rfl) (by kernel_rfl)

/-! tontine/ledger.Less -/
noncomputable def c26_0 : Code := bodyOf Try.f26
noncomputable def c26_1 : Code := cdL c26_0
noncomputable def c26_2 : Code := cdR c26_0
noncomputable def c26_3 : Code := cdL c26_2
noncomputable def c26_4 : Code := cdR c26_2
noncomputable def r26_1 : Array Oper := cdO c26_1
noncomputable def r26_3 : Array Oper := cdO c26_3
theorem c26_0e : c26_0 = .seq c26_1 c26_2 := by kernel_rfl
theorem c26_1e : c26_1 = .region 0 r26_1 false := by kernel_rfl
theorem c26_2e : c26_2 = .seq c26_3 c26_4 := by kernel_rfl
theorem c26_3e : c26_3 = .region 1 r26_3 false := by kernel_rfl
theorem c26_4e : c26_4 = .ret := by kernel_rfl
noncomputable def ledger_Less.R : Pst Bool where
  ε := Unit
  v := fun r x => .bool r
  H := fun r x => []
  B := fun r x => []
noncomputable def ledger_Less.cx (w0 : World) (S0 : Fam) : Cx Bool := ⟨Try.prog, 26, Try.f26, 24, w0, S0, [], 0, ledger_Less.R⟩
theorem ledger_Less_ok (n : Nat) (a_1 : T_api_Token) (b_2 : T_api_Token) :
    Meets Try.prog 26 [.agg ⟨[.int .u64 a_1.Term, .int .u64 a_1.Index]⟩, .agg ⟨[.int .u64 b_2.Term, .int .u64 b_2.Index]⟩] 0 [] [] [] (ledger_Less.f n a_1 b_2) (ledger_Less.R) := by
  refine Meets.of (c := c26_0) (n := 24) Try.func26 (by kernel_rfl) (by kernel_rfl) (by kernel_rfl) fun w0 S0 => ?_
  unfold ledger_Less.f
  show GoO (ledger_Less.cx w0 S0) [(0, .agg ⟨[.int .u64 a_1.Term, .int .u64 a_1.Index]⟩), (1, .agg ⟨[.int .u64 b_2.Term, .int .u64 b_2.Index]⟩)] [] [] [.code c26_0] _
  refine GoO.seq' c26_0e ?_
  refine GoO.region' (is := [0, 1, 2]) c26_1e (by kernel_rfl) ?_
  refine OpTo.go (GoO.new rfl 40 (cs := [.int .u64 a_1.Term, .int .u64 a_1.Index]) (by kernel_rfl) _ (fun _ => rfl) (fun b_3 => ?_))
  refine OpTo.go (GoO.new rfl 41 (cs := [.int .u64 b_2.Term, .int .u64 b_2.Index]) (by kernel_rfl) _ (fun _ => rfl) (fun b_4 => ?_))
  refine GoO.exec (is := [2]) (hs := [.p]) (rest := []) (ks := [2, 3]) (env' := [(2, .pointer (some ⟨b_3, 0, none⟩)), (3, .pointer (some ⟨b_4, 0, none⟩))]) (H' := [⟨41, b_4, [.int .u64 b_2.Term, .int .u64 b_2.Index]⟩, ⟨40, b_3, [.int .u64 a_1.Term, .int .u64 a_1.Index]⟩]) (ps := []) (by kernel_rfl) trivial ?_
  refine GoO.regionEnd ?_
  refine GoO.seq' c26_2e ?_
  refine GoO.region' (is := [0, 1, 2, 3, 4, 5, 6, 7, 8, 9, 10, 11, 12, 13, 14, 15, 16, 17, 18, 19]) c26_3e (by kernel_rfl) ?_
  refine GoO.exec (is := [0, 1, 2, 3, 4, 5]) (hs := [.p, .b 1, .p, .b 0, .p, .p]) (rest := [6, 7, 8, 9, 10, 11, 12, 13, 14, 15, 16, 17, 18, 19]) (ks := [2, 3, 10]) (env' := [(2, .pointer (some ⟨b_3, 0, none⟩)), (3, .pointer (some ⟨b_4, 0, none⟩)), (10, .bool (decide (a_1.Term < b_2.Term)))]) (H' := [⟨41, b_4, [.int .u64 b_2.Term, .int .u64 b_2.Index]⟩, ⟨40, b_3, [.int .u64 a_1.Term, .int .u64 a_1.Index]⟩]) (ps := [b_3 = b_3, b_4 = b_4]) (by kernel_rfl) (And.intro rfl (And.intro rfl trivial)) ?_
  refine GoO.bsplit (t := 10) (by kernel_rfl) (fun h5 => ?_) (fun h5 => ?_)
  · refine GoO.exec (is := [6, 7, 8, 9, 10, 11, 12, 13, 14, 15, 16, 17, 18, 19]) (hs := [.p, .p, .p, .p, .p, .p, .p, .p, .p, .p, .p, .p, .p, .p]) (rest := []) (ks := [4]) (env' := [(4, .bool true)]) (H' := [⟨41, b_4, [.int .u64 b_2.Term, .int .u64 b_2.Index]⟩, ⟨40, b_3, [.int .u64 a_1.Term, .int .u64 a_1.Index]⟩]) (ps := []) (by kernel_rfl) trivial ?_
    refine GoO.regionEnd ?_
    exact GoO.ret' (h := c26_4e) (hs := []) (ps := []) (hk := []) (bk := []) Try.func26 () (by kernel_rfl) trivial (by kernel_rfl) (by kernel_rfl)
  · refine GoO.exec (is := [6, 7, 8, 9, 10, 11]) (hs := [.p, .b 1, .p, .b 0, .p, .p]) (rest := [12, 13, 14, 15, 16, 17, 18, 19]) (ks := [2, 3, 10, 16]) (env' := [(2, .pointer (some ⟨b_3, 0, none⟩)), (3, .pointer (some ⟨b_4, 0, none⟩)), (10, .bool false), (16, .bool (a_1.Term == b_2.Term))]) (H' := [⟨41, b_4, [.int .u64 b_2.Term, .int .u64 b_2.Index]⟩, ⟨40, b_3, [.int .u64 a_1.Term, .int .u64 a_1.Index]⟩]) (ps := [b_3 = b_3, b_4 = b_4]) (by kernel_rfl) (And.intro rfl (And.intro rfl trivial)) ?_
    refine GoO.bsplit (t := 16) (by kernel_rfl) (fun h6 => ?_) (fun h6 => ?_)
    · refine GoO.exec (is := [12, 13, 14, 15, 16, 17, 18, 19]) (hs := [.p, .b 1, .p, .b 0, .p, .p, .p, .p]) (rest := []) (ks := [4]) (env' := [(4, .bool (decide (a_1.Index < b_2.Index)))]) (H' := [⟨41, b_4, [.int .u64 b_2.Term, .int .u64 b_2.Index]⟩, ⟨40, b_3, [.int .u64 a_1.Term, .int .u64 a_1.Index]⟩]) (ps := [b_3 = b_3, b_4 = b_4]) (by kernel_rfl) (And.intro rfl (And.intro rfl trivial)) ?_
      refine GoO.regionEnd ?_
      exact GoO.ret' (h := c26_4e) (hs := []) (ps := []) (hk := []) (bk := []) Try.func26 () (by kernel_rfl) trivial (by kernel_rfl) (by kernel_rfl)
    · refine GoO.exec (is := [12, 13, 14, 15, 16, 17, 18, 19]) (hs := [.p, .p, .p, .p, .p, .p, .p, .p]) (rest := []) (ks := [4]) (env' := [(4, .bool false)]) (H' := [⟨41, b_4, [.int .u64 b_2.Term, .int .u64 b_2.Index]⟩, ⟨40, b_3, [.int .u64 a_1.Term, .int .u64 a_1.Index]⟩]) (ps := []) (by kernel_rfl) trivial ?_
      refine GoO.regionEnd ?_
      exact GoO.ret' (h := c26_4e) (hs := []) (ps := []) (hk := []) (bk := []) Try.func26 () (by kernel_rfl) trivial (by kernel_rfl) (by kernel_rfl)

/-! (*tontine/ledger.Ledger).undo -/
noncomputable def c41_0 : Code := bodyOf Try.f41
noncomputable def c41_1 : Code := cdL c41_0
noncomputable def c41_2 : Code := cdR c41_0
noncomputable def c41_3 : Code := cdL c41_2
noncomputable def c41_4 : Code := cdL c41_3
noncomputable def c41_5 : Code := cdR c41_3
noncomputable def c41_6 : Code := cdL c41_5
noncomputable def c41_7 : Code := cdL c41_6
noncomputable def c41_8 : Code := cdR c41_6
noncomputable def c41_9 : Code := cdR c41_5
noncomputable def c41_10 : Code := cdR c41_2
noncomputable def c41_11 : Code := cdL c41_10
noncomputable def c41_12 : Code := cdR c41_10
noncomputable def c41_13 : Code := cdL c41_12
noncomputable def c41_14 : Code := cdR c41_12
noncomputable def c41_15 : Code := cdL c41_14
noncomputable def c41_16 : Code := cdL c41_15
noncomputable def c41_17 : Code := cdR c41_15
noncomputable def c41_18 : Code := cdL c41_17
noncomputable def c41_19 : Code := cdR c41_17
noncomputable def c41_20 : Code := cdR c41_14
noncomputable def c41_21 : Code := cdL c41_20
noncomputable def c41_22 : Code := cdR c41_20
noncomputable def c41_23 : Code := cdL c41_22
noncomputable def c41_24 : Code := cdR c41_22
noncomputable def r41_1 : Array Oper := cdO c41_1
noncomputable def r41_4 : Array Oper := cdO c41_4
noncomputable def r41_7 : Array Oper := cdO c41_7
noncomputable def r41_11 : Array Oper := cdO c41_11
noncomputable def r41_13 : Array Oper := cdO c41_13
noncomputable def r41_16 : Array Oper := cdO c41_16
noncomputable def r41_18 : Array Oper := cdO c41_18
noncomputable def r41_19 : Array Oper := cdO c41_19
noncomputable def r41_21 : Array Oper := cdO c41_21
noncomputable def r41_23 : Array Oper := cdO c41_23
theorem c41_0e : c41_0 = .seq c41_1 c41_2 := by kernel_rfl
theorem c41_1e : c41_1 = .region 0 r41_1 false := by kernel_rfl
theorem c41_2e : c41_2 = .seq c41_3 c41_10 := by kernel_rfl
theorem c41_3e : c41_3 = .seq c41_4 c41_5 := by kernel_rfl
theorem c41_4e : c41_4 = .region 1 r41_4 false := by kernel_rfl
theorem c41_5e : c41_5 = .cond (cdC c41_5) c41_6 c41_9 := by kernel_rfl
theorem c41_6e : c41_6 = .seq c41_7 c41_8 := by kernel_rfl
theorem c41_7e : c41_7 = .region 2 r41_7 false := by kernel_rfl
theorem c41_8e : c41_8 = .ret := by kernel_rfl
theorem c41_9e : c41_9 = .skip := by kernel_rfl
theorem c41_10e : c41_10 = .seq c41_11 c41_12 := by kernel_rfl
theorem c41_11e : c41_11 = .region 3 r41_11 false := by kernel_rfl
theorem c41_12e : c41_12 = .seq c41_13 c41_14 := by kernel_rfl
theorem c41_13e : c41_13 = .region 4 r41_13 false := by kernel_rfl
theorem c41_14e : c41_14 = .seq c41_15 c41_20 := by kernel_rfl
theorem c41_15e : c41_15 = .seq c41_16 c41_17 := by kernel_rfl
theorem c41_16e : c41_16 = .region 5 r41_16 true := by kernel_rfl
theorem c41_17e : c41_17 = .cond (cdC c41_17) c41_18 c41_19 := by kernel_rfl
theorem c41_18e : c41_18 = .region 6 r41_18 true := by kernel_rfl
theorem c41_19e : c41_19 = .region 7 r41_19 true := by kernel_rfl
theorem c41_20e : c41_20 = .seq c41_21 c41_22 := by kernel_rfl
theorem c41_21e : c41_21 = .region 8 r41_21 true := by kernel_rfl
theorem c41_22e : c41_22 = .seq c41_23 c41_24 := by kernel_rfl
theorem c41_23e : c41_23 = .region 9 r41_23 false := by kernel_rfl
theorem c41_24e : c41_24 = .ret := by kernel_rfl
noncomputable def ledger_Ledger_undo.R (b_2 : Nat) (A_3 : Option Addr) (c_4 : Nat) (A_5 : Option Addr) (c_6 : Nat) (A_7 : Option Addr) (c_8 : Nat) : Pst (Bool × Int × T_ledger_Ledger) where
  ε := Option Addr × Nat × Option Addr × Nat × Option Addr × Nat
  v := fun r x => .tuple ⟨[.bool r.1, .int .i64 r.2.1]⟩
  H := fun r x => [⟨1, b_2, [.int .u64 r.2.2.fence.Term, .int .u64 r.2.2.fence.Index, .slice x.1 r.2.2.effects.length x.2.1, .map (mA x.2.2.1), .map (mA x.2.2.2.2.1)]⟩]
  B := fun r x => [Ow 2 kT_ledger_Effect x.1 x.2.1 r.2.2.effects, Mp 3 ky41 (fun v => .bool v) x.2.2.1 x.2.2.2.1 r.2.2.said, Mp 4 ky41 (fun v => .bool v) x.2.2.2.2.1 x.2.2.2.2.2 r.2.2.tombs]
noncomputable def ledger_Ledger_undo.cx (b_2 : Nat) (A_3 : Option Addr) (c_4 : Nat) (A_5 : Option Addr) (c_6 : Nat) (A_7 : Option Addr) (c_8 : Nat) (w0 : World) (S0 : Fam) : Cx (Bool × Int × T_ledger_Ledger) := ⟨Try.prog, 41, Try.f41, 42, w0, S0, [1, 2, 3, 4], 4, ledger_Ledger_undo.R b_2 A_3 c_4 A_5 c_6 A_7 c_8⟩
theorem ledger_Ledger_undo_j0_ok (n : Nat) (l_1 : T_ledger_Ledger) (k_9 : T_api_Key) (b_2 : Nat) (A_5 : Option Addr) (c_6 : Nat) (b_12 : Nat) (A_3 : Option Addr) (c_4 : Nat) (A_7 : Option Addr) (c_8 : Nat) (w0 : World) (S0 : Fam) (f_21 : (List T_ledger_Effect)) (f_24 : (List (T_api_Key × Bool))) (A_22 : Option Addr) (c_23 : Nat) (A_25 : Option Addr) (c_26 : Nat) :
    GoO (ledger_Ledger_undo.cx b_2 A_3 c_4 A_5 c_6 A_7 c_8 w0 S0) [(0, .pointer (some ⟨b_2, 0, none⟩)), (5, .pointer (some ⟨b_12, 0, none⟩))] [⟨1, b_2, [.int .u64 l_1.fence.Term, .int .u64 l_1.fence.Index, .slice A_22 f_21.length c_23, .map (mA A_5), .map (mA A_25)]⟩, ⟨40, b_12, [.int .u64 k_9.Saga, .int .i64 k_9.Step, .bool k_9.Back]⟩] [Ow 2 kT_ledger_Effect A_22 c_23 f_21, Mp 3 ky41 (fun v => .bool v) A_5 c_6 l_1.said, Mp 4 ky41 (fun v => .bool v) A_25 c_26 f_24] [.code c41_20] (ledger_Ledger_undo.j0 n l_1 k_9 f_21 f_24) := by
  unfold ledger_Ledger_undo.j0
  refine GoO.seq' c41_20e ?_
  refine GoO.draw c41_21e (by kernel_rfl) [5] [⟨1, b_2, [.int .u64 l_1.fence.Term, .int .u64 l_1.fence.Index, .slice A_22 f_21.length c_23, .map (mA A_5), .map (mA A_25)]⟩, ⟨40, b_12, [.int .u64 k_9.Saga, .int .i64 k_9.Step, .bool k_9.Back]⟩] [] (n := 6) (by kernel_rfl) ?_
  simp only [List.replicate]
  refine GoF.take [0, 1, 2, 3, 4] [.p, .p, .p, .b 0, .b 1] (ks := [40, 41]) (fu := 1) (li := [true, true, true, true, true, false]) (env' := [(40, .map (mA A_5)), (41, .agg ⟨[.int .u64 k_9.Saga, .int .i64 k_9.Step, .bool k_9.Back]⟩)]) (ps := [b_2 = b_2, b_12 = b_12]) (hk := [0, 1]) (bk := []) (by kernel_rfl) (And.intro rfl (And.intro rfl trivial)) rfl rfl ?_
  refine OpTo.goE (i := 5) (by kernel_rfl) rfl (GoO.mapUp (vt := 4) (K := ky41) (ev := (fun v => .bool v)) (A := A_5) (c := c_6) (tg := 3) (l := l_1.said) (key := k_9) (v := true) (j := 1) rfl (by kernel_rfl) (by kernel_rfl) (by kernel_rfl) (by kernel_rfl) rfl (by kernel_rfl) (by kernel_rfl) (by kernel_rfl) rfl ?_)
  refine GoF.done (by kernel_rfl) ?_
  refine GoO.seq' c41_22e ?_
  refine GoO.region' (is := [0, 1]) c41_23e (by kernel_rfl) ?_
  refine GoO.exec (is := [0, 1]) (hs := [.p, .p]) (rest := []) (ks := [8, 9]) (env' := [(8, .bool true), (9, .int .i64 0)]) (H' := [⟨1, b_2, [.int .u64 l_1.fence.Term, .int .u64 l_1.fence.Index, .slice A_22 f_21.length c_23, .map (mA A_5), .map (mA A_25)]⟩, ⟨40, b_12, [.int .u64 k_9.Saga, .int .i64 k_9.Step, .bool k_9.Back]⟩]) (ps := []) (by kernel_rfl) trivial ?_
  refine GoO.regionEnd ?_
  exact GoO.ret' (h := c41_24e) (hs := []) (ps := []) (hk := [0]) (bk := [0, 1, 2]) Try.func41 (⟨A_22, c_23, A_5, c_6, A_25, c_26⟩ : Option Addr × Nat × Option Addr × Nat × Option Addr × Nat) (by kernel_rfl) trivial (by kernel_rfl) (by kernel_rfl)
theorem ledger_Ledger_undo_ok (n : Nat) (l_1 : T_ledger_Ledger) (k_9 : T_api_Key) (name_10 : (List UInt8)) (fail_11 : Bool) (b_2 : Nat) (A_3 : Option Addr) (c_4 : Nat) (A_5 : Option Addr) (c_6 : Nat) (A_7 : Option Addr) (c_8 : Nat) :
    Meets Try.prog 41 [.pointer (some ⟨b_2, 0, none⟩), .agg ⟨[.int .u64 k_9.Saga, .int .i64 k_9.Step, .bool k_9.Back]⟩, .string (bs name_10), .bool fail_11] 4 [1, 2, 3, 4] [⟨1, b_2, [.int .u64 l_1.fence.Term, .int .u64 l_1.fence.Index, .slice A_3 l_1.effects.length c_4, .map (mA A_5), .map (mA A_7)]⟩] [Ow 2 kT_ledger_Effect A_3 c_4 l_1.effects, Mp 3 ky41 (fun v => .bool v) A_5 c_6 l_1.said, Mp 4 ky41 (fun v => .bool v) A_7 c_8 l_1.tombs] (ledger_Ledger_undo.f n l_1 k_9 name_10 fail_11) (ledger_Ledger_undo.R b_2 A_3 c_4 A_5 c_6 A_7 c_8) := by
  refine Meets.of (c := c41_0) (n := 42) Try.func41 (by kernel_rfl) (by kernel_rfl) (by kernel_rfl) fun w0 S0 => ?_
  unfold ledger_Ledger_undo.f
  show GoO (ledger_Ledger_undo.cx b_2 A_3 c_4 A_5 c_6 A_7 c_8 w0 S0) [(0, .pointer (some ⟨b_2, 0, none⟩)), (1, .agg ⟨[.int .u64 k_9.Saga, .int .i64 k_9.Step, .bool k_9.Back]⟩), (2, .string (bs name_10)), (3, .bool fail_11)] [⟨1, b_2, [.int .u64 l_1.fence.Term, .int .u64 l_1.fence.Index, .slice A_3 l_1.effects.length c_4, .map (mA A_5), .map (mA A_7)]⟩] [Ow 2 kT_ledger_Effect A_3 c_4 l_1.effects, Mp 3 ky41 (fun v => .bool v) A_5 c_6 l_1.said, Mp 4 ky41 (fun v => .bool v) A_7 c_8 l_1.tombs] [.code c41_0] _
  refine GoO.seq' c41_0e ?_
  refine GoO.region' (is := [0, 1, 2]) c41_1e (by kernel_rfl) ?_
  refine OpTo.go (GoO.new rfl 40 (cs := [.int .u64 k_9.Saga, .int .i64 k_9.Step, .bool k_9.Back]) (by kernel_rfl) _ (fun _ => rfl) (fun b_12 => ?_))
  refine GoO.exec (is := [1, 2]) (hs := [.p, .p]) (rest := []) (ks := [0, 2, 3, 5]) (env' := [(0, .pointer (some ⟨b_2, 0, none⟩)), (2, .string (bs name_10)), (3, .bool fail_11), (5, .pointer (some ⟨b_12, 0, none⟩))]) (H' := [⟨40, b_12, [.int .u64 k_9.Saga, .int .i64 k_9.Step, .bool k_9.Back]⟩, ⟨1, b_2, [.int .u64 l_1.fence.Term, .int .u64 l_1.fence.Index, .slice A_3 l_1.effects.length c_4, .map (mA A_5), .map (mA A_7)]⟩]) (ps := []) (by kernel_rfl) trivial ?_
  refine GoO.regionEnd ?_
  refine GoO.seq' c41_2e ?_
  refine GoO.seq' c41_3e ?_
  refine GoO.region' (is := [0]) c41_4e (by kernel_rfl) ?_
  refine GoO.exec (is := [0]) (hs := [.p]) (rest := []) (ks := [0, 2, 5, 11]) (env' := [(0, .pointer (some ⟨b_2, 0, none⟩)), (2, .string (bs name_10)), (5, .pointer (some ⟨b_12, 0, none⟩)), (11, .bool fail_11)]) (H' := [⟨40, b_12, [.int .u64 k_9.Saga, .int .i64 k_9.Step, .bool k_9.Back]⟩, ⟨1, b_2, [.int .u64 l_1.fence.Term, .int .u64 l_1.fence.Index, .slice A_3 l_1.effects.length c_4, .map (mA A_5), .map (mA A_7)]⟩]) (ps := []) (by kernel_rfl) trivial ?_
  refine GoO.regionEnd ?_
  refine GoO.ite' c41_5e (by kernel_rfl) (fun h13 => ?_) (fun h13 => ?_)
  · refine GoO.seq' c41_6e ?_
    refine GoO.region' (is := [0, 1]) c41_7e (by kernel_rfl) ?_
    refine GoO.exec (is := [0, 1]) (hs := [.p, .p]) (rest := []) (ks := [8, 9]) (env' := [(8, .bool false), (9, .int .i64 0)]) (H' := [⟨40, b_12, [.int .u64 k_9.Saga, .int .i64 k_9.Step, .bool k_9.Back]⟩, ⟨1, b_2, [.int .u64 l_1.fence.Term, .int .u64 l_1.fence.Index, .slice A_3 l_1.effects.length c_4, .map (mA A_5), .map (mA A_7)]⟩]) (ps := []) (by kernel_rfl) trivial ?_
    refine GoO.regionEnd ?_
    exact GoO.ret' (h := c41_8e) (hs := []) (ps := []) (hk := [1]) (bk := [0, 1, 2]) Try.func41 (⟨A_3, c_4, A_5, c_6, A_7, c_8⟩ : Option Addr × Nat × Option Addr × Nat × Option Addr × Nat) (by kernel_rfl) trivial (by kernel_rfl) (by kernel_rfl)
  · refine GoO.skip' c41_9e ?_
    refine GoO.seq' c41_10e ?_
    refine GoO.region' (is := [0, 1, 2]) c41_11e (by kernel_rfl) ?_
    refine GoO.exec (is := [0]) (hs := [.b 0]) (rest := [1, 2]) (ks := [0, 2, 5, 12]) (env' := [(0, .pointer (some ⟨b_2, 0, none⟩)), (2, .string (bs name_10)), (5, .pointer (some ⟨b_12, 0, none⟩)), (12, .agg ⟨[.int .u64 k_9.Saga, .int .i64 k_9.Step, .bool k_9.Back]⟩)]) (H' := [⟨40, b_12, [.int .u64 k_9.Saga, .int .i64 k_9.Step, .bool k_9.Back]⟩, ⟨1, b_2, [.int .u64 l_1.fence.Term, .int .u64 l_1.fence.Index, .slice A_3 l_1.effects.length c_4, .map (mA A_5), .map (mA A_7)]⟩]) (ps := [b_12 = b_12]) (by kernel_rfl) (And.intro rfl trivial) ?_
    refine OpTo.go (GoO.new rfl 41 (cs := [.int .u64 0, .int .i64 0, .bool false]) (by kernel_rfl) _ (fun _ => rfl) (fun b_14 => ?_))
    refine GoO.exec (is := [2]) (hs := [.b 0]) (rest := []) (ks := [0, 2, 5, 10]) (env' := [(0, .pointer (some ⟨b_2, 0, none⟩)), (2, .string (bs name_10)), (5, .pointer (some ⟨b_12, 0, none⟩)), (10, .pointer (some ⟨b_14, 0, none⟩))]) (H' := [⟨41, b_14, [.int .u64 k_9.Saga, .int .i64 k_9.Step, .bool k_9.Back]⟩, ⟨40, b_12, [.int .u64 k_9.Saga, .int .i64 k_9.Step, .bool k_9.Back]⟩, ⟨1, b_2, [.int .u64 l_1.fence.Term, .int .u64 l_1.fence.Index, .slice A_3 l_1.effects.length c_4, .map (mA A_5), .map (mA A_7)]⟩]) (ps := [b_14 = b_14]) (by kernel_rfl) (And.intro rfl trivial) ?_
    refine GoO.regionEnd ?_
    refine GoO.seq' c41_12e ?_
    refine GoO.region' (is := [0, 1]) c41_13e (by kernel_rfl) ?_
    refine GoO.exec (is := [0, 1]) (hs := [.p, .b 0]) (rest := []) (ks := [0, 2, 5, 10]) (env' := [(0, .pointer (some ⟨b_2, 0, none⟩)), (2, .string (bs name_10)), (5, .pointer (some ⟨b_12, 0, none⟩)), (10, .pointer (some ⟨b_14, 0, none⟩))]) (H' := [⟨41, b_14, [.int .u64 k_9.Saga, .int .i64 k_9.Step, .bool false]⟩, ⟨40, b_12, [.int .u64 k_9.Saga, .int .i64 k_9.Step, .bool k_9.Back]⟩, ⟨1, b_2, [.int .u64 l_1.fence.Term, .int .u64 l_1.fence.Index, .slice A_3 l_1.effects.length c_4, .map (mA A_5), .map (mA A_7)]⟩]) (ps := [b_14 = b_14]) (by kernel_rfl) (And.intro rfl trivial) ?_
    refine GoO.regionEnd ?_
    refine GoO.seq' c41_14e ?_
    refine GoO.seq' c41_15e ?_
    refine GoO.draw c41_16e (by kernel_rfl) [] [⟨41, b_14, [.int .u64 k_9.Saga, .int .i64 k_9.Step, .bool false]⟩, ⟨1, b_2, [.int .u64 l_1.fence.Term, .int .u64 l_1.fence.Index, .slice A_3 l_1.effects.length c_4, .map (mA A_5), .map (mA A_7)]⟩] [Mp 3 ky41 (fun v => .bool v) A_5 c_6 l_1.said] (n := 6) (by kernel_rfl) ?_
    simp only [List.replicate]
    refine GoF.take [0, 1, 2, 3, 4] [.p, .p, .p, .b 1, .b 0] (ks := [0, 2, 5, 10, 17, 18]) (fu := 1) (li := [true, true, true, true, true, false]) (env' := [(0, .pointer (some ⟨b_2, 0, none⟩)), (2, .string (bs name_10)), (5, .pointer (some ⟨b_12, 0, none⟩)), (10, .pointer (some ⟨b_14, 0, none⟩)), (17, .map (mA A_5)), (18, .agg ⟨[.int .u64 k_9.Saga, .int .i64 k_9.Step, .bool false]⟩)]) (ps := [b_2 = b_2, b_14 = b_14]) (hk := [0, 2]) (bk := [1]) (by kernel_rfl) (And.intro rfl (And.intro rfl trivial)) rfl rfl ?_
    refine OpTo.goF (i := 5) (by kernel_rfl) (hk := [0, 2]) (bk := [1]) (GoO.mapLk (vt := 4) (K := ky41) (ev := (fun v => .bool v)) (A := A_5) (c := c_6) (l := l_1.said) (key := (⟨k_9.Saga, k_9.Step, false⟩ : T_api_Key)) (j := 1) rfl (by kernel_rfl) (by kernel_rfl) (by kernel_rfl) rfl false (fun _ => by kernel_rfl) rfl ⟨rfl, rfl, ?_⟩)
    refine GoF.done (by kernel_rfl) ?_
    refine GoO.ite' c41_17e (by kernel_rfl) (fun h15 => ?_) (fun h15 => ?_)
    · refine GoO.draw c41_18e (by kernel_rfl) [10, 11, 12] [⟨40, b_12, [.int .u64 k_9.Saga, .int .i64 k_9.Step, .bool k_9.Back]⟩, ⟨1, b_2, [.int .u64 l_1.fence.Term, .int .u64 l_1.fence.Index, .slice A_3 l_1.effects.length c_4, .map (mA A_5), .map (mA A_7)]⟩] [] (n := 13) (by kernel_rfl) ?_
      simp only [List.replicate]
      refine GoF.take [0, 1, 2, 3, 4, 5, 6, 7] [.p, .p, .p, .p, .b 1, .b 0, .p, .p] (ks := [0, 5, 20, 24, 27]) (fu := 5) (li := [true, true, true, true, true, true, true, true, false, false, false, false, false]) (env' := [(0, .pointer (some ⟨b_2, 0, none⟩)), (5, .pointer (some ⟨b_12, 0, none⟩)), (20, .pointer (some ⟨b_2, 0, none⟩)), (24, .slice A_3 l_1.effects.length c_4), (27, .agg ⟨[.int .u64 k_9.Saga, .int .i64 k_9.Step, .bool k_9.Back, .string (bs name_10)]⟩)]) (ps := [b_2 = b_2, b_12 = b_12]) (hk := [1, 2]) (bk := []) (by kernel_rfl) (And.intro rfl (And.intro rfl trivial)) rfl rfl ?_
      refine OpTo.goF (i := 8) (by kernel_rfl) (hk := [1, 2]) (bk := []) (GoO.lit (e := 56) (K := kT_ledger_Effect) rfl (by kernel_rfl) (by kernel_rfl) (cs := [.int .u64 k_9.Saga, .int .i64 k_9.Step, .bool k_9.Back, .string (bs name_10)]) (by kernel_rfl) [(⟨k_9, name_10⟩ : T_ledger_Effect)] (by kernel_rfl) (by kernel_rfl) (fun w S hB => ⟨[.int .u64 k_9.Saga, .int .i64 k_9.Step, .bool k_9.Back, .string (bs name_10)], _, rfl, rfl, rfl⟩) 42 _ (fun _ _ => rfl) (fun A_16 c_17 => ⟨rfl, rfl, ?_⟩))
      refine GoF.guard (fun h18 => ?_)
      refine OpTo.goF (i := 9) (by kernel_rfl) (hk := [1, 2]) (bk := []) (GoO.appW (e := 56) (K := kT_ledger_Effect) (A := A_3) (c := c_4) (tg := 2) (bytes := 40) (zs := [.int .u64 0, .int .i64 0, .bool false, .string (bs [])]) (xs := l_1.effects) (ys := [(⟨k_9, name_10⟩ : T_ledger_Effect)]) (xv := .slice A_16 [(⟨k_9, name_10⟩ : T_ledger_Effect)].length c_17) (j := 1) (bk := [0, 2, 3]) rfl (by kernel_rfl) (by kernel_rfl) (by kernel_rfl) (by kernel_rfl) rfl (by kernel_rfl) rfl (fun w S hB => SrcIs.row (Reads.own w S (hB _ (List.mem_of_getElem? (i := 0) rfl)))) h18 rfl rfl rfl rfl _ (fun _ _ => rfl) (fun A_19 c_20 => ⟨rfl, rfl, ?_⟩))
      refine GoF.fin1 (i := 10) (hint := .p) (ps := []) (hk := []) (bk := []) (by kernel_rfl) rfl trivial (.inl rfl) ?_
      refine GoF.fin1 (i := 11) (hint := .p) (ps := []) (hk := []) (bk := []) (by kernel_rfl) rfl trivial (.inl rfl) ?_
      refine GoF.fin1 (i := 12) (hint := .b 2) (ps := [b_2 = b_2]) (hk := []) (bk := []) (by kernel_rfl) rfl (And.intro rfl trivial) (.inl rfl) ?_
      refine GoF.done (by kernel_rfl) ?_
      exact GoO.sub (ks := [0, 5]) (hk := [2, 1]) (bk := [0, 2, 3]) (by kernel_rfl) (by kernel_rfl) (by kernel_rfl) (ledger_Ledger_undo_j0_ok n l_1 k_9 b_2 A_5 c_6 b_12 A_3 c_4 A_7 c_8 w0 S0 (l_1.effects ++ [(⟨k_9, name_10⟩ : T_ledger_Effect)]) l_1.tombs A_19 c_20 A_7 c_8)
    · refine GoO.draw c41_19e (by kernel_rfl) [5] [⟨41, b_14, [.int .u64 k_9.Saga, .int .i64 k_9.Step, .bool false]⟩, ⟨1, b_2, [.int .u64 l_1.fence.Term, .int .u64 l_1.fence.Index, .slice A_3 l_1.effects.length c_4, .map (mA A_5), .map (mA A_7)]⟩] [] (n := 6) (by kernel_rfl) ?_
      simp only [List.replicate]
      refine GoF.take [0, 1, 2, 3, 4] [.p, .p, .p, .b 1, .b 0] (ks := [0, 5, 35, 36]) (fu := 1) (li := [true, true, true, true, true, false]) (env' := [(0, .pointer (some ⟨b_2, 0, none⟩)), (5, .pointer (some ⟨b_12, 0, none⟩)), (35, .map (mA A_7)), (36, .agg ⟨[.int .u64 k_9.Saga, .int .i64 k_9.Step, .bool false]⟩)]) (ps := [b_2 = b_2, b_14 = b_14]) (hk := [0, 2]) (bk := []) (by kernel_rfl) (And.intro rfl (And.intro rfl trivial)) rfl rfl ?_
      refine OpTo.goE (i := 5) (by kernel_rfl) rfl (GoO.mapUp (vt := 4) (K := ky41) (ev := (fun v => .bool v)) (A := A_7) (c := c_8) (tg := 4) (l := l_1.tombs) (key := (⟨k_9.Saga, k_9.Step, false⟩ : T_api_Key)) (v := true) (j := 2) rfl (by kernel_rfl) (by kernel_rfl) (by kernel_rfl) (by kernel_rfl) rfl (by kernel_rfl) (by kernel_rfl) (by kernel_rfl) rfl ?_)
      refine GoF.done (by kernel_rfl) ?_
      exact GoO.sub (ks := [0, 5]) (hk := [2, 1]) (bk := [0, 1, 2]) (by kernel_rfl) (by kernel_rfl) (by kernel_rfl) (ledger_Ledger_undo_j0_ok n l_1 k_9 b_2 A_5 c_6 b_12 A_3 c_4 A_7 c_8 w0 S0 l_1.effects (putA (⟨k_9.Saga, k_9.Step, false⟩ : T_api_Key) true l_1.tombs) A_3 c_4 A_7 c_8)

/-! (*tontine/ledger.Ledger).Ask -/
noncomputable def c23_0 : Code := bodyOf Try.f23
noncomputable def c23_1 : Code := cdL c23_0
noncomputable def c23_2 : Code := cdR c23_0
noncomputable def c23_3 : Code := cdL c23_2
noncomputable def c23_4 : Code := cdL c23_3
noncomputable def c23_5 : Code := cdR c23_3
noncomputable def c23_6 : Code := cdL c23_5
noncomputable def c23_7 : Code := cdL c23_6
noncomputable def c23_8 : Code := cdR c23_6
noncomputable def c23_9 : Code := cdR c23_5
noncomputable def c23_10 : Code := cdR c23_2
noncomputable def c23_11 : Code := cdL c23_10
noncomputable def c23_12 : Code := cdL c23_11
noncomputable def c23_13 : Code := cdR c23_11
noncomputable def c23_14 : Code := cdL c23_13
noncomputable def c23_15 : Code := cdL c23_14
noncomputable def c23_16 : Code := cdR c23_14
noncomputable def c23_17 : Code := cdR c23_13
noncomputable def c23_18 : Code := cdR c23_10
noncomputable def c23_19 : Code := cdL c23_18
noncomputable def c23_20 : Code := cdR c23_18
noncomputable def c23_21 : Code := cdL c23_20
noncomputable def c23_22 : Code := cdL c23_21
noncomputable def c23_23 : Code := cdR c23_21
noncomputable def c23_24 : Code := cdL c23_23
noncomputable def c23_25 : Code := cdR c23_23
noncomputable def c23_26 : Code := cdL c23_25
noncomputable def c23_27 : Code := cdL c23_26
noncomputable def c23_28 : Code := cdR c23_26
noncomputable def c23_29 : Code := cdR c23_25
noncomputable def c23_30 : Code := cdR c23_20
noncomputable def c23_31 : Code := cdL c23_30
noncomputable def c23_32 : Code := cdL c23_31
noncomputable def c23_33 : Code := cdR c23_31
noncomputable def c23_34 : Code := cdL c23_33
noncomputable def c23_35 : Code := cdL c23_34
noncomputable def c23_36 : Code := cdR c23_34
noncomputable def c23_37 : Code := cdR c23_33
noncomputable def c23_38 : Code := cdR c23_30
noncomputable def c23_39 : Code := cdL c23_38
noncomputable def c23_40 : Code := cdL c23_39
noncomputable def c23_41 : Code := cdR c23_39
noncomputable def c23_42 : Code := cdL c23_41
noncomputable def c23_43 : Code := cdL c23_42
noncomputable def c23_44 : Code := cdR c23_42
noncomputable def c23_45 : Code := cdR c23_41
noncomputable def c23_46 : Code := cdR c23_38
noncomputable def c23_47 : Code := cdL c23_46
noncomputable def c23_48 : Code := cdR c23_46
noncomputable def c23_49 : Code := cdL c23_48
noncomputable def c23_50 : Code := cdL c23_49
noncomputable def c23_51 : Code := cdR c23_49
noncomputable def c23_52 : Code := cdL c23_51
noncomputable def c23_53 : Code := cdR c23_51
noncomputable def c23_54 : Code := cdR c23_48
noncomputable def c23_55 : Code := cdL c23_54
noncomputable def c23_56 : Code := cdR c23_54
noncomputable def r23_1 : Array Oper := cdO c23_1
noncomputable def r23_4 : Array Oper := cdO c23_4
noncomputable def r23_7 : Array Oper := cdO c23_7
noncomputable def r23_12 : Array Oper := cdO c23_12
noncomputable def r23_15 : Array Oper := cdO c23_15
noncomputable def r23_19 : Array Oper := cdO c23_19
noncomputable def r23_22 : Array Oper := cdO c23_22
noncomputable def r23_24 : Array Oper := cdO c23_24
noncomputable def r23_27 : Array Oper := cdO c23_27
noncomputable def r23_32 : Array Oper := cdO c23_32
noncomputable def r23_35 : Array Oper := cdO c23_35
noncomputable def r23_40 : Array Oper := cdO c23_40
noncomputable def r23_43 : Array Oper := cdO c23_43
noncomputable def r23_47 : Array Oper := cdO c23_47
noncomputable def r23_50 : Array Oper := cdO c23_50
noncomputable def r23_52 : Array Oper := cdO c23_52
noncomputable def r23_55 : Array Oper := cdO c23_55
theorem c23_0e : c23_0 = .seq c23_1 c23_2 := by kernel_rfl
theorem c23_1e : c23_1 = .region 0 r23_1 false := by kernel_rfl
theorem c23_2e : c23_2 = .seq c23_3 c23_10 := by kernel_rfl
theorem c23_3e : c23_3 = .seq c23_4 c23_5 := by kernel_rfl
theorem c23_4e : c23_4 = .region 1 r23_4 false := by kernel_rfl
theorem c23_5e : c23_5 = .cond (cdC c23_5) c23_6 c23_9 := by kernel_rfl
theorem c23_6e : c23_6 = .seq c23_7 c23_8 := by kernel_rfl
theorem c23_7e : c23_7 = .region 2 r23_7 false := by kernel_rfl
theorem c23_8e : c23_8 = .ret := by kernel_rfl
theorem c23_9e : c23_9 = .skip := by kernel_rfl
theorem c23_10e : c23_10 = .seq c23_11 c23_18 := by kernel_rfl
theorem c23_11e : c23_11 = .seq c23_12 c23_13 := by kernel_rfl
theorem c23_12e : c23_12 = .region 3 r23_12 true := by kernel_rfl
theorem c23_13e : c23_13 = .cond (cdC c23_13) c23_14 c23_17 := by kernel_rfl
theorem c23_14e : c23_14 = .seq c23_15 c23_16 := by kernel_rfl
theorem c23_15e : c23_15 = .region 4 r23_15 false := by kernel_rfl
theorem c23_16e : c23_16 = .ret := by kernel_rfl
theorem c23_17e : c23_17 = .skip := by kernel_rfl
theorem c23_18e : c23_18 = .seq c23_19 c23_20 := by kernel_rfl
theorem c23_19e : c23_19 = .region 5 r23_19 false := by kernel_rfl
theorem c23_20e : c23_20 = .seq c23_21 c23_30 := by kernel_rfl
theorem c23_21e : c23_21 = .seq c23_22 c23_23 := by kernel_rfl
theorem c23_22e : c23_22 = .region 6 r23_22 true := by kernel_rfl
theorem c23_23e : c23_23 = .seq c23_24 c23_25 := by kernel_rfl
theorem c23_24e : c23_24 = .region 7 r23_24 false := by kernel_rfl
theorem c23_25e : c23_25 = .cond (cdC c23_25) c23_26 c23_29 := by kernel_rfl
theorem c23_26e : c23_26 = .seq c23_27 c23_28 := by kernel_rfl
theorem c23_27e : c23_27 = .region 8 r23_27 false := by kernel_rfl
theorem c23_28e : c23_28 = .ret := by kernel_rfl
theorem c23_29e : c23_29 = .skip := by kernel_rfl
theorem c23_30e : c23_30 = .seq c23_31 c23_38 := by kernel_rfl
theorem c23_31e : c23_31 = .seq c23_32 c23_33 := by kernel_rfl
theorem c23_32e : c23_32 = .region 9 r23_32 false := by kernel_rfl
theorem c23_33e : c23_33 = .cond (cdC c23_33) c23_34 c23_37 := by kernel_rfl
theorem c23_34e : c23_34 = .seq c23_35 c23_36 := by kernel_rfl
theorem c23_35e : c23_35 = .region 10 r23_35 false := by kernel_rfl
theorem c23_36e : c23_36 = .ret := by kernel_rfl
theorem c23_37e : c23_37 = .skip := by kernel_rfl
theorem c23_38e : c23_38 = .seq c23_39 c23_46 := by kernel_rfl
theorem c23_39e : c23_39 = .seq c23_40 c23_41 := by kernel_rfl
theorem c23_40e : c23_40 = .region 11 r23_40 true := by kernel_rfl
theorem c23_41e : c23_41 = .cond (cdC c23_41) c23_42 c23_45 := by kernel_rfl
theorem c23_42e : c23_42 = .seq c23_43 c23_44 := by kernel_rfl
theorem c23_43e : c23_43 = .region 12 r23_43 false := by kernel_rfl
theorem c23_44e : c23_44 = .ret := by kernel_rfl
theorem c23_45e : c23_45 = .skip := by kernel_rfl
theorem c23_46e : c23_46 = .seq c23_47 c23_48 := by kernel_rfl
theorem c23_47e : c23_47 = .region 13 r23_47 true := by kernel_rfl
theorem c23_48e : c23_48 = .seq c23_49 c23_54 := by kernel_rfl
theorem c23_49e : c23_49 = .seq c23_50 c23_51 := by kernel_rfl
theorem c23_50e : c23_50 = .region 14 r23_50 false := by kernel_rfl
theorem c23_51e : c23_51 = .cond (cdC c23_51) c23_52 c23_53 := by kernel_rfl
theorem c23_52e : c23_52 = .region 15 r23_52 true := by kernel_rfl
theorem c23_53e : c23_53 = .skip := by kernel_rfl
theorem c23_54e : c23_54 = .seq c23_55 c23_56 := by kernel_rfl
theorem c23_55e : c23_55 = .region 16 r23_55 false := by kernel_rfl
theorem c23_56e : c23_56 = .ret := by kernel_rfl
noncomputable def ledger_Ledger_Ask.R (b_2 : Nat) (A_3 : Option Addr) (c_4 : Nat) (A_5 : Option Addr) (c_6 : Nat) (A_7 : Option Addr) (c_8 : Nat) : Pst (Bool × Int × T_ledger_Ledger) where
  ε := Option Addr × Nat × Option Addr × Nat × Option Addr × Nat
  v := fun r x => .tuple ⟨[.bool r.1, .int .i64 r.2.1]⟩
  H := fun r x => [⟨1, b_2, [.int .u64 r.2.2.fence.Term, .int .u64 r.2.2.fence.Index, .slice x.1 r.2.2.effects.length x.2.1, .map (mA x.2.2.1), .map (mA x.2.2.2.2.1)]⟩]
  B := fun r x => [Ow 2 kT_ledger_Effect x.1 x.2.1 r.2.2.effects, Mp 3 ky41 (fun v => .bool v) x.2.2.1 x.2.2.2.1 r.2.2.said, Mp 4 ky41 (fun v => .bool v) x.2.2.2.2.1 x.2.2.2.2.2 r.2.2.tombs]
noncomputable def ledger_Ledger_Ask.cx (b_2 : Nat) (A_3 : Option Addr) (c_4 : Nat) (A_5 : Option Addr) (c_6 : Nat) (A_7 : Option Addr) (c_8 : Nat) (w0 : World) (S0 : Fam) : Cx (Bool × Int × T_ledger_Ledger) := ⟨Try.prog, 23, Try.f23, 90, w0, S0, [1, 2, 3, 4], 4, ledger_Ledger_Ask.R b_2 A_3 c_4 A_5 c_6 A_7 c_8⟩
theorem ledger_Ledger_Ask_j0_ok (n : Nat) (l_1 : T_ledger_Ledger) (t_9 : T_api_Token) (k_10 : T_api_Key) (name_11 : (List UInt8)) (fail_12 : Bool) (b_2 : Nat) (A_3 : Option Addr) (c_4 : Nat) (A_5 : Option Addr) (c_6 : Nat) (A_7 : Option Addr) (c_8 : Nat) (b_13 : Nat) (b_14 : Nat) (w0 : World) (S0 : Fam) (b_17 : Bool) :
    GoO (ledger_Ledger_Ask.cx b_2 A_3 c_4 A_5 c_6 A_7 c_8 w0 S0) [(0, .pointer (some ⟨b_2, 0, none⟩)), (3, .string (bs name_11)), (4, .bool fail_12), (6, .pointer (some ⟨b_13, 0, none⟩)), (7, .pointer (some ⟨b_14, 0, none⟩)), (30, .bool b_17)] [⟨1, b_2, [.int .u64 l_1.fence.Term, .int .u64 l_1.fence.Index, .slice A_3 l_1.effects.length c_4, .map (mA A_5), .map (mA A_7)]⟩, ⟨40, b_13, [.int .u64 t_9.Term, .int .u64 t_9.Index]⟩, ⟨41, b_14, [.int .u64 k_10.Saga, .int .i64 k_10.Step, .bool k_10.Back]⟩] [Ow 2 kT_ledger_Effect A_3 c_4 l_1.effects, Mp 3 ky41 (fun v => .bool v) A_5 c_6 l_1.said, Mp 4 ky41 (fun v => .bool v) A_7 c_8 l_1.tombs] [.code c23_5, .code c23_10] (ledger_Ledger_Ask.j0 n l_1 t_9 k_10 name_11 fail_12 b_17) := by
  unfold ledger_Ledger_Ask.j0
  refine GoO.ite' c23_5e (by kernel_rfl) (fun h18 => ?_) (fun h18 => ?_)
  · refine GoO.seq' c23_6e ?_
    refine GoO.region' (is := [0, 1]) c23_7e (by kernel_rfl) ?_
    refine GoO.exec (is := [0, 1]) (hs := [.p, .p]) (rest := []) (ks := [10, 11]) (env' := [(10, .bool false), (11, .int .i64 1)]) (H' := [⟨1, b_2, [.int .u64 l_1.fence.Term, .int .u64 l_1.fence.Index, .slice A_3 l_1.effects.length c_4, .map (mA A_5), .map (mA A_7)]⟩, ⟨40, b_13, [.int .u64 t_9.Term, .int .u64 t_9.Index]⟩, ⟨41, b_14, [.int .u64 k_10.Saga, .int .i64 k_10.Step, .bool k_10.Back]⟩]) (ps := []) (by kernel_rfl) trivial ?_
    refine GoO.regionEnd ?_
    exact GoO.ret' (h := c23_8e) (hs := []) (ps := []) (hk := [0]) (bk := [0, 1, 2]) Try.func23 (⟨A_3, c_4, A_5, c_6, A_7, c_8⟩ : Option Addr × Nat × Option Addr × Nat × Option Addr × Nat) (by kernel_rfl) trivial (by kernel_rfl) (by kernel_rfl)
  · refine GoO.skip' c23_9e ?_
    refine GoO.seq' c23_10e ?_
    refine GoO.seq' c23_11e ?_
    refine GoO.draw c23_12e (by kernel_rfl) [] [⟨1, b_2, [.int .u64 l_1.fence.Term, .int .u64 l_1.fence.Index, .slice A_3 l_1.effects.length c_4, .map (mA A_5), .map (mA A_7)]⟩, ⟨40, b_13, [.int .u64 t_9.Term, .int .u64 t_9.Index]⟩] [] (n := 6) (by kernel_rfl) ?_
    simp only [List.replicate]
    refine GoF.take [0, 1, 2, 3, 4] [.b 1, .p, .p, .p, .b 0] (ks := [0, 3, 4, 6, 7, 31, 35]) (fu := 1) (li := [true, true, true, true, true, false]) (env' := [(0, .pointer (some ⟨b_2, 0, none⟩)), (3, .string (bs name_11)), (4, .bool fail_12), (6, .pointer (some ⟨b_13, 0, none⟩)), (7, .pointer (some ⟨b_14, 0, none⟩)), (31, .agg ⟨[.int .u64 t_9.Term, .int .u64 t_9.Index]⟩), (35, .agg ⟨[.int .u64 l_1.fence.Term, .int .u64 l_1.fence.Index]⟩)]) (ps := [b_13 = b_13, b_2 = b_2]) (hk := [0, 1]) (bk := []) (by kernel_rfl) (And.intro rfl (And.intro rfl trivial)) rfl rfl ?_
    refine OpTo.goF (i := 5) (by kernel_rfl) (hk := [0, 1]) (bk := []) (GoO.call rfl (by kernel_rfl) (by kernel_rfl) (ledger_Less_ok n t_9 (⟨l_1.fence.Term, l_1.fence.Index⟩ : T_api_Token)) [[0]] [] [] [] (hks := [0, 1, 2]) (bks := [0, 1, 2]) (by kernel_rfl) (by kernel_rfl) (by kernel_rfl) (.inl rfl) rfl rfl (by kernel_rfl) (by kernel_rfl) _ (fun _ _ => rfl) _ _ (fun _ _ => rfl) (fun _ _ => rfl) (fun _ _ => by kernel_rfl) (fun _ _ => by kernel_rfl) (fun r_19 x_38 => ⟨rfl, rfl, ?_⟩))
    refine GoF.shape (env' := [(0, .pointer (some ⟨b_2, 0, none⟩)), (3, .string (bs name_11)), (4, .bool fail_12), (6, .pointer (some ⟨b_13, 0, none⟩)), (7, .pointer (some ⟨b_14, 0, none⟩)), (31, .agg ⟨[.int .u64 t_9.Term, .int .u64 t_9.Index]⟩), (35, .agg ⟨[.int .u64 l_1.fence.Term, .int .u64 l_1.fence.Index]⟩), (36, .bool r_19)]) (H' := [⟨1, b_2, [.int .u64 l_1.fence.Term, .int .u64 l_1.fence.Index, .slice A_3 l_1.effects.length c_4, .map (mA A_5), .map (mA A_7)]⟩, ⟨40, b_13, [.int .u64 t_9.Term, .int .u64 t_9.Index]⟩, ⟨41, b_14, [.int .u64 k_10.Saga, .int .i64 k_10.Step, .bool k_10.Back]⟩]) (B' := [Ow 2 kT_ledger_Effect A_3 c_4 l_1.effects, Mp 3 ky41 (fun v => .bool v) A_5 c_6 l_1.said, Mp 4 ky41 (fun v => .bool v) A_7 c_8 l_1.tombs]) (ks := [0, 3, 4, 6, 7, 31, 35, 36]) (by kernel_rfl) (by kernel_rfl) (by kernel_rfl) ?_
    refine GoF.done (by kernel_rfl) ?_
    refine GoO.ite' c23_13e (by kernel_rfl) (fun h20 => ?_) (fun h20 => ?_)
    · refine GoO.seq' c23_14e ?_
      refine GoO.region' (is := [0, 1]) c23_15e (by kernel_rfl) ?_
      refine GoO.exec (is := [0, 1]) (hs := [.p, .p]) (rest := []) (ks := [10, 11]) (env' := [(10, .bool false), (11, .int .i64 50)]) (H' := [⟨1, b_2, [.int .u64 l_1.fence.Term, .int .u64 l_1.fence.Index, .slice A_3 l_1.effects.length c_4, .map (mA A_5), .map (mA A_7)]⟩, ⟨40, b_13, [.int .u64 t_9.Term, .int .u64 t_9.Index]⟩, ⟨41, b_14, [.int .u64 k_10.Saga, .int .i64 k_10.Step, .bool k_10.Back]⟩]) (ps := []) (by kernel_rfl) trivial ?_
      refine GoO.regionEnd ?_
      exact GoO.ret' (h := c23_16e) (hs := []) (ps := []) (hk := [0]) (bk := [0, 1, 2]) Try.func23 (⟨A_3, c_4, A_5, c_6, A_7, c_8⟩ : Option Addr × Nat × Option Addr × Nat × Option Addr × Nat) (by kernel_rfl) trivial (by kernel_rfl) (by kernel_rfl)
    · refine GoO.skip' c23_17e ?_
      refine GoO.seq' c23_18e ?_
      refine GoO.region' (is := [0, 1, 2, 3, 4]) c23_19e (by kernel_rfl) ?_
      refine GoO.exec (is := [0, 1, 2, 3, 4]) (hs := [.p, .b 1, .p, .p, .b 0]) (rest := []) (ks := [0, 3, 4, 7]) (env' := [(0, .pointer (some ⟨b_2, 0, none⟩)), (3, .string (bs name_11)), (4, .bool fail_12), (7, .pointer (some ⟨b_14, 0, none⟩))]) (H' := [⟨1, b_2, [.int .u64 t_9.Term, .int .u64 t_9.Index, .slice A_3 l_1.effects.length c_4, .map (mA A_5), .map (mA A_7)]⟩, ⟨40, b_13, [.int .u64 t_9.Term, .int .u64 t_9.Index]⟩, ⟨41, b_14, [.int .u64 k_10.Saga, .int .i64 k_10.Step, .bool k_10.Back]⟩]) (ps := [b_13 = b_13, b_2 = b_2]) (by kernel_rfl) (And.intro rfl (And.intro rfl trivial)) ?_
      refine GoO.regionEnd ?_
      refine GoO.seq' c23_20e ?_
      refine GoO.seq' c23_21e ?_
      refine GoO.draw c23_22e (by kernel_rfl) [10] [⟨1, b_2, [.int .u64 t_9.Term, .int .u64 t_9.Index, .slice A_3 l_1.effects.length c_4, .map (mA A_5), .map (mA A_7)]⟩, ⟨41, b_14, [.int .u64 k_10.Saga, .int .i64 k_10.Step, .bool k_10.Back]⟩] [Mp 3 ky41 (fun v => .bool v) A_5 c_6 l_1.said] (n := 11) (by kernel_rfl) ?_
      simp only [List.replicate]
      refine GoF.take [0, 1, 2, 3, 4] [.p, .p, .p, .b 0, .b 1] (ks := [0, 3, 4, 7, 45, 46]) (fu := 6) (li := [true, true, true, true, true, false, false, false, false, false, false]) (env' := [(0, .pointer (some ⟨b_2, 0, none⟩)), (3, .string (bs name_11)), (4, .bool fail_12), (7, .pointer (some ⟨b_14, 0, none⟩)), (45, .map (mA A_5)), (46, .agg ⟨[.int .u64 k_10.Saga, .int .i64 k_10.Step, .bool k_10.Back]⟩)]) (ps := [b_2 = b_2, b_14 = b_14]) (hk := [0, 2]) (bk := [1]) (by kernel_rfl) (And.intro rfl (And.intro rfl trivial)) rfl rfl ?_
      refine OpTo.goF (i := 5) (by kernel_rfl) (hk := [0, 2]) (bk := [1]) (GoO.mapLk (vt := 4) (K := ky41) (ev := (fun v => .bool v)) (A := A_5) (c := c_6) (l := l_1.said) (key := k_10) (j := 1) rfl (by kernel_rfl) (by kernel_rfl) (by kernel_rfl) rfl false (fun _ => by kernel_rfl) rfl ⟨rfl, rfl, ?_⟩)
      refine GoF.take [6, 7, 8, 9] [.p, .p, .p, .p] (ks := [0, 3, 4, 7, 12, 49]) (fu := 1) (li := [true, true, true, true, true, true, true, true, true, true, false]) (env' := [(0, .pointer (some ⟨b_2, 0, none⟩)), (3, .string (bs name_11)), (4, .bool fail_12), (7, .pointer (some ⟨b_14, 0, none⟩)), (12, .bool ((getA k_10 l_1.said).getD false)), (49, .bool ((getA k_10 l_1.said).isSome))]) (ps := []) (hk := [0, 2]) (bk := [1]) (by kernel_rfl) trivial rfl rfl ?_
      refine GoF.fin1 (i := 10) (hint := .p) (ps := []) (hk := []) (bk := []) (by kernel_rfl) rfl trivial (.inl rfl) ?_
      refine GoF.done (by kernel_rfl) ?_
      refine GoO.seq' c23_23e ?_
      refine GoO.region' (is := [0]) c23_24e (by kernel_rfl) ?_
      refine GoO.exec (is := [0]) (hs := [.p]) (rest := []) (ks := [0, 3, 4, 7, 12, 50]) (env' := [(0, .pointer (some ⟨b_2, 0, none⟩)), (3, .string (bs name_11)), (4, .bool fail_12), (7, .pointer (some ⟨b_14, 0, none⟩)), (12, .bool ((getA k_10 l_1.said).getD false)), (50, .bool ((getA k_10 l_1.said).isSome))]) (H' := [⟨1, b_2, [.int .u64 t_9.Term, .int .u64 t_9.Index, .slice A_3 l_1.effects.length c_4, .map (mA A_5), .map (mA A_7)]⟩, ⟨40, b_13, [.int .u64 t_9.Term, .int .u64 t_9.Index]⟩, ⟨41, b_14, [.int .u64 k_10.Saga, .int .i64 k_10.Step, .bool k_10.Back]⟩]) (ps := []) (by kernel_rfl) trivial ?_
      refine GoO.regionEnd ?_
      refine GoO.ite' c23_25e (by kernel_rfl) (fun h21 => ?_) (fun h21 => ?_)
      · refine GoO.seq' c23_26e ?_
        refine GoO.region' (is := [0, 1, 2]) c23_27e (by kernel_rfl) ?_
        refine GoO.exec (is := [0, 1, 2]) (hs := [.p, .p, .p]) (rest := []) (ks := [10, 11]) (env' := [(10, .bool ((getA k_10 l_1.said).getD false)), (11, .int .i64 0)]) (H' := [⟨1, b_2, [.int .u64 t_9.Term, .int .u64 t_9.Index, .slice A_3 l_1.effects.length c_4, .map (mA A_5), .map (mA A_7)]⟩, ⟨40, b_13, [.int .u64 t_9.Term, .int .u64 t_9.Index]⟩, ⟨41, b_14, [.int .u64 k_10.Saga, .int .i64 k_10.Step, .bool k_10.Back]⟩]) (ps := []) (by kernel_rfl) trivial ?_
        refine GoO.regionEnd ?_
        exact GoO.ret' (h := c23_28e) (hs := []) (ps := []) (hk := [0]) (bk := [0, 1, 2]) Try.func23 (⟨A_3, c_4, A_5, c_6, A_7, c_8⟩ : Option Addr × Nat × Option Addr × Nat × Option Addr × Nat) (by kernel_rfl) trivial (by kernel_rfl) (by kernel_rfl)
      · refine GoO.skip' c23_29e ?_
        refine GoO.seq' c23_30e ?_
        refine GoO.seq' c23_31e ?_
        refine GoO.region' (is := [0, 1]) c23_32e (by kernel_rfl) ?_
        refine GoO.exec (is := [0, 1]) (hs := [.p, .b 2]) (rest := []) (ks := [0, 3, 4, 7, 53]) (env' := [(0, .pointer (some ⟨b_2, 0, none⟩)), (3, .string (bs name_11)), (4, .bool fail_12), (7, .pointer (some ⟨b_14, 0, none⟩)), (53, .bool k_10.Back)]) (H' := [⟨1, b_2, [.int .u64 t_9.Term, .int .u64 t_9.Index, .slice A_3 l_1.effects.length c_4, .map (mA A_5), .map (mA A_7)]⟩, ⟨40, b_13, [.int .u64 t_9.Term, .int .u64 t_9.Index]⟩, ⟨41, b_14, [.int .u64 k_10.Saga, .int .i64 k_10.Step, .bool k_10.Back]⟩]) (ps := [b_14 = b_14]) (by kernel_rfl) (And.intro rfl trivial) ?_
        refine GoO.regionEnd ?_
        refine GoO.ite' c23_33e (by kernel_rfl) (fun h22 => ?_) (fun h22 => ?_)
        · refine GoO.seq' c23_34e ?_
          refine GoO.region' (is := [0, 1, 2, 3, 4, 5, 6, 7, 8]) c23_35e (by kernel_rfl) ?_
          refine GoO.exec (is := [0, 1, 2, 3]) (hs := [.p, .b 2, .p, .p]) (rest := [4, 5, 6, 7, 8]) (ks := [54, 55, 56, 57]) (env' := [(54, .pointer (some ⟨b_2, 0, none⟩)), (55, .agg ⟨[.int .u64 k_10.Saga, .int .i64 k_10.Step, .bool k_10.Back]⟩), (56, .string (bs name_11)), (57, .bool fail_12)]) (H' := [⟨1, b_2, [.int .u64 t_9.Term, .int .u64 t_9.Index, .slice A_3 l_1.effects.length c_4, .map (mA A_5), .map (mA A_7)]⟩, ⟨40, b_13, [.int .u64 t_9.Term, .int .u64 t_9.Index]⟩, ⟨41, b_14, [.int .u64 k_10.Saga, .int .i64 k_10.Step, .bool k_10.Back]⟩]) (ps := [b_14 = b_14]) (by kernel_rfl) (And.intro rfl trivial) ?_
          refine OpTo.go (GoO.call rfl (by kernel_rfl) (by kernel_rfl) (ledger_Ledger_undo_ok n (⟨t_9, l_1.effects, l_1.said, l_1.tombs⟩ : T_ledger_Ledger) k_10 name_11 fail_12 b_2 A_3 c_4 A_5 c_6 A_7 c_8) [[0], [1], [2], [3], [4]] [(1, 1), (2, 2), (3, 3), (4, 4)] [(1, 0)] [(2, 0), (3, 1), (4, 2)] (hks := [1, 2]) (bks := []) (by kernel_rfl) (by kernel_rfl) (by kernel_rfl) (.inl rfl) rfl rfl (by kernel_rfl) (by kernel_rfl) _ (fun _ _ => rfl) _ _ (fun _ _ => rfl) (fun _ _ => rfl) (fun _ _ => by kernel_rfl) (fun _ _ => by kernel_rfl) (fun r_23 x_30 => ?_))
          obtain ⟨A_24, c_25, A_26, c_27, A_28, c_29⟩ := x_30
          refine GoO.shape (env' := [(54, .pointer (some ⟨b_2, 0, none⟩)), (55, .agg ⟨[.int .u64 k_10.Saga, .int .i64 k_10.Step, .bool k_10.Back]⟩), (56, .string (bs name_11)), (57, .bool fail_12), (58, .tuple ⟨[.bool r_23.1, .int .i64 r_23.2.1]⟩)]) (H' := [⟨1, b_2, [.int .u64 r_23.2.2.fence.Term, .int .u64 r_23.2.2.fence.Index, .slice A_24 r_23.2.2.effects.length c_25, .map (mA A_26), .map (mA A_28)]⟩, ⟨40, b_13, [.int .u64 t_9.Term, .int .u64 t_9.Index]⟩, ⟨41, b_14, [.int .u64 k_10.Saga, .int .i64 k_10.Step, .bool k_10.Back]⟩]) (B' := [Ow 2 kT_ledger_Effect A_24 c_25 r_23.2.2.effects, Mp 3 ky41 (fun v => .bool v) A_26 c_27 r_23.2.2.said, Mp 4 ky41 (fun v => .bool v) A_28 c_29 r_23.2.2.tombs]) (ks := [54, 55, 56, 57, 58]) (by kernel_rfl) (by kernel_rfl) (by kernel_rfl) ?_
          refine GoO.exec (is := [5, 6, 7, 8]) (hs := [.p, .p, .p, .p]) (rest := []) (ks := [10, 11]) (env' := [(10, .bool r_23.1), (11, .int .i64 r_23.2.1)]) (H' := [⟨1, b_2, [.int .u64 r_23.2.2.fence.Term, .int .u64 r_23.2.2.fence.Index, .slice A_24 r_23.2.2.effects.length c_25, .map (mA A_26), .map (mA A_28)]⟩, ⟨40, b_13, [.int .u64 t_9.Term, .int .u64 t_9.Index]⟩, ⟨41, b_14, [.int .u64 k_10.Saga, .int .i64 k_10.Step, .bool k_10.Back]⟩]) (ps := []) (by kernel_rfl) trivial ?_
          refine GoO.regionEnd ?_
          exact GoO.ret' (h := c23_36e) (hs := []) (ps := []) (hk := [0]) (bk := [0, 1, 2]) Try.func23 (⟨A_24, c_25, A_26, c_27, A_28, c_29⟩ : Option Addr × Nat × Option Addr × Nat × Option Addr × Nat) (by kernel_rfl) trivial (by kernel_rfl) (by kernel_rfl)
        · refine GoO.skip' c23_37e ?_
          refine GoO.seq' c23_38e ?_
          refine GoO.seq' c23_39e ?_
          refine GoO.draw c23_40e (by kernel_rfl) [] [⟨1, b_2, [.int .u64 t_9.Term, .int .u64 t_9.Index, .slice A_3 l_1.effects.length c_4, .map (mA A_5), .map (mA A_7)]⟩, ⟨41, b_14, [.int .u64 k_10.Saga, .int .i64 k_10.Step, .bool k_10.Back]⟩] [Mp 4 ky41 (fun v => .bool v) A_7 c_8 l_1.tombs] (n := 6) (by kernel_rfl) ?_
          simp only [List.replicate]
          refine GoF.take [0, 1, 2, 3, 4] [.p, .p, .p, .b 0, .b 1] (ks := [0, 3, 4, 7, 64, 65]) (fu := 1) (li := [true, true, true, true, true, false]) (env' := [(0, .pointer (some ⟨b_2, 0, none⟩)), (3, .string (bs name_11)), (4, .bool fail_12), (7, .pointer (some ⟨b_14, 0, none⟩)), (64, .map (mA A_7)), (65, .agg ⟨[.int .u64 k_10.Saga, .int .i64 k_10.Step, .bool k_10.Back]⟩)]) (ps := [b_2 = b_2, b_14 = b_14]) (hk := [0, 2]) (bk := [2]) (by kernel_rfl) (And.intro rfl (And.intro rfl trivial)) rfl rfl ?_
          refine OpTo.goF (i := 5) (by kernel_rfl) (hk := [0, 2]) (bk := [2]) (GoO.mapLk (vt := 4) (K := ky41) (ev := (fun v => .bool v)) (A := A_7) (c := c_8) (l := l_1.tombs) (key := k_10) (j := 2) rfl (by kernel_rfl) (by kernel_rfl) (by kernel_rfl) rfl false (fun _ => by kernel_rfl) rfl ⟨rfl, rfl, ?_⟩)
          refine GoF.done (by kernel_rfl) ?_
          refine GoO.ite' c23_41e (by kernel_rfl) (fun h31 => ?_) (fun h31 => ?_)
          · refine GoO.seq' c23_42e ?_
            refine GoO.region' (is := [0, 1]) c23_43e (by kernel_rfl) ?_
            refine GoO.exec (is := [0, 1]) (hs := [.p, .p]) (rest := []) (ks := [10, 11]) (env' := [(10, .bool false), (11, .int .i64 51)]) (H' := [⟨1, b_2, [.int .u64 t_9.Term, .int .u64 t_9.Index, .slice A_3 l_1.effects.length c_4, .map (mA A_5), .map (mA A_7)]⟩, ⟨40, b_13, [.int .u64 t_9.Term, .int .u64 t_9.Index]⟩, ⟨41, b_14, [.int .u64 k_10.Saga, .int .i64 k_10.Step, .bool k_10.Back]⟩]) (ps := []) (by kernel_rfl) trivial ?_
            refine GoO.regionEnd ?_
            exact GoO.ret' (h := c23_44e) (hs := []) (ps := []) (hk := [0]) (bk := [0, 1, 2]) Try.func23 (⟨A_3, c_4, A_5, c_6, A_7, c_8⟩ : Option Addr × Nat × Option Addr × Nat × Option Addr × Nat) (by kernel_rfl) trivial (by kernel_rfl) (by kernel_rfl)
          · refine GoO.skip' c23_45e ?_
            refine GoO.seq' c23_46e ?_
            refine GoO.draw c23_47e (by kernel_rfl) [7] [⟨1, b_2, [.int .u64 t_9.Term, .int .u64 t_9.Index, .slice A_3 l_1.effects.length c_4, .map (mA A_5), .map (mA A_7)]⟩, ⟨41, b_14, [.int .u64 k_10.Saga, .int .i64 k_10.Step, .bool k_10.Back]⟩] [] (n := 8) (by kernel_rfl) ?_
            simp only [List.replicate]
            refine GoF.take [0, 1, 2, 3, 4, 5, 6] [.p, .p, .p, .b 0, .b 1, .p, .p] (ks := [0, 3, 4, 7, 70, 71, 73]) (fu := 1) (li := [true, true, true, true, true, true, true, false]) (env' := [(0, .pointer (some ⟨b_2, 0, none⟩)), (3, .string (bs name_11)), (4, .bool fail_12), (7, .pointer (some ⟨b_14, 0, none⟩)), (70, .map (mA A_5)), (71, .agg ⟨[.int .u64 k_10.Saga, .int .i64 k_10.Step, .bool k_10.Back]⟩), (73, .bool (!fail_12))]) (ps := [b_2 = b_2, b_14 = b_14]) (hk := [0, 2]) (bk := []) (by kernel_rfl) (And.intro rfl (And.intro rfl trivial)) rfl rfl ?_
            refine OpTo.goE (i := 7) (by kernel_rfl) rfl (GoO.mapUp (vt := 4) (K := ky41) (ev := (fun v => .bool v)) (A := A_5) (c := c_6) (tg := 3) (l := l_1.said) (key := k_10) (v := (!fail_12)) (j := 1) rfl (by kernel_rfl) (by kernel_rfl) (by kernel_rfl) (by kernel_rfl) rfl (by kernel_rfl) (by kernel_rfl) (by kernel_rfl) rfl ?_)
            refine GoF.done (by kernel_rfl) ?_
            refine GoO.seq' c23_48e ?_
            refine GoO.seq' c23_49e ?_
            refine GoO.region' (is := [0, 1]) c23_50e (by kernel_rfl) ?_
            refine GoO.exec (is := [0, 1]) (hs := [.p, .p]) (rest := []) (ks := [0, 3, 4, 7, 75]) (env' := [(0, .pointer (some ⟨b_2, 0, none⟩)), (3, .string (bs name_11)), (4, .bool fail_12), (7, .pointer (some ⟨b_14, 0, none⟩)), (75, .bool (!fail_12))]) (H' := [⟨1, b_2, [.int .u64 t_9.Term, .int .u64 t_9.Index, .slice A_3 l_1.effects.length c_4, .map (mA A_5), .map (mA A_7)]⟩, ⟨40, b_13, [.int .u64 t_9.Term, .int .u64 t_9.Index]⟩, ⟨41, b_14, [.int .u64 k_10.Saga, .int .i64 k_10.Step, .bool k_10.Back]⟩]) (ps := []) (by kernel_rfl) trivial ?_
            refine GoO.regionEnd ?_
            refine GoO.ite' c23_51e (by kernel_rfl) (fun h32 => ?_) (fun h32 => ?_)
            · refine GoO.draw c23_52e (by kernel_rfl) [10, 11, 12] [⟨1, b_2, [.int .u64 t_9.Term, .int .u64 t_9.Index, .slice A_3 l_1.effects.length c_4, .map (mA A_5), .map (mA A_7)]⟩, ⟨41, b_14, [.int .u64 k_10.Saga, .int .i64 k_10.Step, .bool k_10.Back]⟩] [] (n := 13) (by kernel_rfl) ?_
              simp only [List.replicate]
              refine GoF.take [0, 1, 2, 3, 4, 5, 6, 7] [.p, .p, .p, .p, .b 0, .b 1, .p, .p] (ks := [4, 76, 80, 83]) (fu := 5) (li := [true, true, true, true, true, true, true, true, false, false, false, false, false]) (env' := [(4, .bool fail_12), (76, .pointer (some ⟨b_2, 0, none⟩)), (80, .slice A_3 l_1.effects.length c_4), (83, .agg ⟨[.int .u64 k_10.Saga, .int .i64 k_10.Step, .bool k_10.Back, .string (bs name_11)]⟩)]) (ps := [b_2 = b_2, b_14 = b_14]) (hk := [0, 2]) (bk := []) (by kernel_rfl) (And.intro rfl (And.intro rfl trivial)) rfl rfl ?_
              refine OpTo.goF (i := 8) (by kernel_rfl) (hk := [0, 2]) (bk := []) (GoO.lit (e := 56) (K := kT_ledger_Effect) rfl (by kernel_rfl) (by kernel_rfl) (cs := [.int .u64 k_10.Saga, .int .i64 k_10.Step, .bool k_10.Back, .string (bs name_11)]) (by kernel_rfl) [(⟨k_10, name_11⟩ : T_ledger_Effect)] (by kernel_rfl) (by kernel_rfl) (fun w S hB => ⟨[.int .u64 k_10.Saga, .int .i64 k_10.Step, .bool k_10.Back, .string (bs name_11)], _, rfl, rfl, rfl⟩) 42 _ (fun _ _ => rfl) (fun A_33 c_34 => ⟨rfl, rfl, ?_⟩))
              refine GoF.guard (fun h35 => ?_)
              refine OpTo.goF (i := 9) (by kernel_rfl) (hk := [0, 2]) (bk := []) (GoO.appW (e := 56) (K := kT_ledger_Effect) (A := A_3) (c := c_4) (tg := 2) (bytes := 40) (zs := [.int .u64 0, .int .i64 0, .bool false, .string (bs [])]) (xs := l_1.effects) (ys := [(⟨k_10, name_11⟩ : T_ledger_Effect)]) (xv := .slice A_33 [(⟨k_10, name_11⟩ : T_ledger_Effect)].length c_34) (j := 1) (bk := [0, 2, 3]) rfl (by kernel_rfl) (by kernel_rfl) (by kernel_rfl) (by kernel_rfl) rfl (by kernel_rfl) rfl (fun w S hB => SrcIs.row (Reads.own w S (hB _ (List.mem_of_getElem? (i := 0) rfl)))) h35 rfl rfl rfl rfl _ (fun _ _ => rfl) (fun A_36 c_37 => ⟨rfl, rfl, ?_⟩))
              refine GoF.fin1 (i := 10) (hint := .p) (ps := []) (hk := []) (bk := []) (by kernel_rfl) rfl trivial (.inl rfl) ?_
              refine GoF.fin1 (i := 11) (hint := .p) (ps := []) (hk := []) (bk := []) (by kernel_rfl) rfl trivial (.inl rfl) ?_
              refine GoF.fin1 (i := 12) (hint := .b 0) (ps := [b_2 = b_2]) (hk := []) (bk := []) (by kernel_rfl) rfl (And.intro rfl trivial) (.inl rfl) ?_
              refine GoF.done (by kernel_rfl) ?_
              refine GoO.seq' c23_54e ?_
              refine GoO.region' (is := [0, 1, 2, 3]) c23_55e (by kernel_rfl) ?_
              refine GoO.exec (is := [0, 1, 2, 3]) (hs := [.p, .p, .p, .p]) (rest := []) (ks := [10, 11]) (env' := [(10, .bool (!fail_12)), (11, .int .i64 0)]) (H' := [⟨1, b_2, [.int .u64 t_9.Term, .int .u64 t_9.Index, .slice A_36 (l_1.effects ++ [(⟨k_10, name_11⟩ : T_ledger_Effect)]).length c_37, .map (mA A_5), .map (mA A_7)]⟩, ⟨40, b_13, [.int .u64 t_9.Term, .int .u64 t_9.Index]⟩, ⟨41, b_14, [.int .u64 k_10.Saga, .int .i64 k_10.Step, .bool k_10.Back]⟩]) (ps := []) (by kernel_rfl) trivial ?_
              refine GoO.regionEnd ?_
              exact GoO.ret' (h := c23_56e) (hs := []) (ps := []) (hk := [0]) (bk := [0, 2, 3]) Try.func23 (⟨A_36, c_37, A_5, c_6, A_7, c_8⟩ : Option Addr × Nat × Option Addr × Nat × Option Addr × Nat) (by kernel_rfl) trivial (by kernel_rfl) (by kernel_rfl)
            · refine GoO.skip' c23_53e ?_
              refine GoO.seq' c23_54e ?_
              refine GoO.region' (is := [0, 1, 2, 3]) c23_55e (by kernel_rfl) ?_
              refine GoO.exec (is := [0, 1, 2, 3]) (hs := [.p, .p, .p, .p]) (rest := []) (ks := [10, 11]) (env' := [(10, .bool (!fail_12)), (11, .int .i64 0)]) (H' := [⟨1, b_2, [.int .u64 t_9.Term, .int .u64 t_9.Index, .slice A_3 l_1.effects.length c_4, .map (mA A_5), .map (mA A_7)]⟩, ⟨40, b_13, [.int .u64 t_9.Term, .int .u64 t_9.Index]⟩, ⟨41, b_14, [.int .u64 k_10.Saga, .int .i64 k_10.Step, .bool k_10.Back]⟩]) (ps := []) (by kernel_rfl) trivial ?_
              refine GoO.regionEnd ?_
              exact GoO.ret' (h := c23_56e) (hs := []) (ps := []) (hk := [0]) (bk := [0, 1, 2]) Try.func23 (⟨A_3, c_4, A_5, c_6, A_7, c_8⟩ : Option Addr × Nat × Option Addr × Nat × Option Addr × Nat) (by kernel_rfl) trivial (by kernel_rfl) (by kernel_rfl)
theorem ledger_Ledger_Ask_ok (n : Nat) (l_1 : T_ledger_Ledger) (t_9 : T_api_Token) (k_10 : T_api_Key) (name_11 : (List UInt8)) (fail_12 : Bool) (b_2 : Nat) (A_3 : Option Addr) (c_4 : Nat) (A_5 : Option Addr) (c_6 : Nat) (A_7 : Option Addr) (c_8 : Nat) :
    Meets Try.prog 23 [.pointer (some ⟨b_2, 0, none⟩), .agg ⟨[.int .u64 t_9.Term, .int .u64 t_9.Index]⟩, .agg ⟨[.int .u64 k_10.Saga, .int .i64 k_10.Step, .bool k_10.Back]⟩, .string (bs name_11), .bool fail_12] 4 [1, 2, 3, 4] [⟨1, b_2, [.int .u64 l_1.fence.Term, .int .u64 l_1.fence.Index, .slice A_3 l_1.effects.length c_4, .map (mA A_5), .map (mA A_7)]⟩] [Ow 2 kT_ledger_Effect A_3 c_4 l_1.effects, Mp 3 ky41 (fun v => .bool v) A_5 c_6 l_1.said, Mp 4 ky41 (fun v => .bool v) A_7 c_8 l_1.tombs] (ledger_Ledger_Ask.f n l_1 t_9 k_10 name_11 fail_12) (ledger_Ledger_Ask.R b_2 A_3 c_4 A_5 c_6 A_7 c_8) := by
  refine Meets.of (c := c23_0) (n := 90) Try.func23 (by kernel_rfl) (by kernel_rfl) (by kernel_rfl) fun w0 S0 => ?_
  unfold ledger_Ledger_Ask.f
  show GoO (ledger_Ledger_Ask.cx b_2 A_3 c_4 A_5 c_6 A_7 c_8 w0 S0) [(0, .pointer (some ⟨b_2, 0, none⟩)), (1, .agg ⟨[.int .u64 t_9.Term, .int .u64 t_9.Index]⟩), (2, .agg ⟨[.int .u64 k_10.Saga, .int .i64 k_10.Step, .bool k_10.Back]⟩), (3, .string (bs name_11)), (4, .bool fail_12)] [⟨1, b_2, [.int .u64 l_1.fence.Term, .int .u64 l_1.fence.Index, .slice A_3 l_1.effects.length c_4, .map (mA A_5), .map (mA A_7)]⟩] [Ow 2 kT_ledger_Effect A_3 c_4 l_1.effects, Mp 3 ky41 (fun v => .bool v) A_5 c_6 l_1.said, Mp 4 ky41 (fun v => .bool v) A_7 c_8 l_1.tombs] [.code c23_0] _
  refine GoO.seq' c23_0e ?_
  refine GoO.region' (is := [0, 1, 2, 3]) c23_1e (by kernel_rfl) ?_
  refine OpTo.go (GoO.new rfl 40 (cs := [.int .u64 t_9.Term, .int .u64 t_9.Index]) (by kernel_rfl) _ (fun _ => rfl) (fun b_13 => ?_))
  refine OpTo.go (GoO.new rfl 41 (cs := [.int .u64 k_10.Saga, .int .i64 k_10.Step, .bool k_10.Back]) (by kernel_rfl) _ (fun _ => rfl) (fun b_14 => ?_))
  refine GoO.exec (is := [2, 3]) (hs := [.p, .p]) (rest := []) (ks := [0, 3, 4, 6, 7]) (env' := [(0, .pointer (some ⟨b_2, 0, none⟩)), (3, .string (bs name_11)), (4, .bool fail_12), (6, .pointer (some ⟨b_13, 0, none⟩)), (7, .pointer (some ⟨b_14, 0, none⟩))]) (H' := [⟨41, b_14, [.int .u64 k_10.Saga, .int .i64 k_10.Step, .bool k_10.Back]⟩, ⟨40, b_13, [.int .u64 t_9.Term, .int .u64 t_9.Index]⟩, ⟨1, b_2, [.int .u64 l_1.fence.Term, .int .u64 l_1.fence.Index, .slice A_3 l_1.effects.length c_4, .map (mA A_5), .map (mA A_7)]⟩]) (ps := []) (by kernel_rfl) trivial ?_
  refine GoO.regionEnd ?_
  refine GoO.seq' c23_2e ?_
  refine GoO.seq' c23_3e ?_
  refine GoO.region' (is := [0, 1, 2, 3, 4, 5, 6, 7, 8, 9, 10, 11, 12, 13, 14, 15, 16]) c23_4e (by kernel_rfl) ?_
  refine GoO.exec (is := [0, 1, 2, 3, 4, 5, 6, 7]) (hs := [.p, .p, .p, .p, .b 0, .p, .p, .p]) (rest := [8, 9, 10, 11, 12, 13, 14, 15, 16]) (ks := [0, 3, 4, 6, 7, 21]) (env' := [(0, .pointer (some ⟨b_2, 0, none⟩)), (3, .string (bs name_11)), (4, .bool fail_12), (6, .pointer (some ⟨b_13, 0, none⟩)), (7, .pointer (some ⟨b_14, 0, none⟩)), (21, .bool (decide (k_10.Step < 0)))]) (H' := [⟨41, b_14, [.int .u64 k_10.Saga, .int .i64 k_10.Step, .bool k_10.Back]⟩, ⟨40, b_13, [.int .u64 t_9.Term, .int .u64 t_9.Index]⟩, ⟨1, b_2, [.int .u64 l_1.fence.Term, .int .u64 l_1.fence.Index, .slice A_3 l_1.effects.length c_4, .map (mA A_5), .map (mA A_7)]⟩]) (ps := [b_14 = b_14]) (by kernel_rfl) (And.intro rfl trivial) ?_
  refine GoO.bsplit (t := 21) (by kernel_rfl) (fun h15 => ?_) (fun h15 => ?_)
  · refine GoO.exec (is := [8, 9, 10, 11, 12, 13, 14, 15, 16]) (hs := [.p, .p, .p, .p, .p, .p, .p, .p, .p]) (rest := []) (ks := [0, 3, 4, 6, 7, 30]) (env' := [(0, .pointer (some ⟨b_2, 0, none⟩)), (3, .string (bs name_11)), (4, .bool fail_12), (6, .pointer (some ⟨b_13, 0, none⟩)), (7, .pointer (some ⟨b_14, 0, none⟩)), (30, .bool true)]) (H' := [⟨41, b_14, [.int .u64 k_10.Saga, .int .i64 k_10.Step, .bool k_10.Back]⟩, ⟨40, b_13, [.int .u64 t_9.Term, .int .u64 t_9.Index]⟩, ⟨1, b_2, [.int .u64 l_1.fence.Term, .int .u64 l_1.fence.Index, .slice A_3 l_1.effects.length c_4, .map (mA A_5), .map (mA A_7)]⟩]) (ps := []) (by kernel_rfl) trivial ?_
    refine GoO.regionEnd ?_
    exact GoO.sub (ks := [0, 3, 4, 6, 7, 30]) (hk := [2, 1, 0]) (bk := [0, 1, 2]) (by kernel_rfl) (by kernel_rfl) (by kernel_rfl) (ledger_Ledger_Ask_j0_ok n l_1 t_9 k_10 name_11 fail_12 b_2 A_3 c_4 A_5 c_6 A_7 c_8 b_13 b_14 w0 S0 true)
  · refine GoO.exec (is := [8, 9, 10, 11, 12]) (hs := [.p, .b 0, .p, .p, .p]) (rest := [13, 14, 15, 16]) (ks := [0, 3, 4, 6, 7, 26]) (env' := [(0, .pointer (some ⟨b_2, 0, none⟩)), (3, .string (bs name_11)), (4, .bool fail_12), (6, .pointer (some ⟨b_13, 0, none⟩)), (7, .pointer (some ⟨b_14, 0, none⟩)), (26, .bool (decide (k_10.Step ≥ 64)))]) (H' := [⟨41, b_14, [.int .u64 k_10.Saga, .int .i64 k_10.Step, .bool k_10.Back]⟩, ⟨40, b_13, [.int .u64 t_9.Term, .int .u64 t_9.Index]⟩, ⟨1, b_2, [.int .u64 l_1.fence.Term, .int .u64 l_1.fence.Index, .slice A_3 l_1.effects.length c_4, .map (mA A_5), .map (mA A_7)]⟩]) (ps := [b_14 = b_14]) (by kernel_rfl) (And.intro rfl trivial) ?_
    refine GoO.bsplit (t := 26) (by kernel_rfl) (fun h16 => ?_) (fun h16 => ?_)
    · refine GoO.exec (is := [13, 14, 15, 16]) (hs := [.p, .p, .p, .p]) (rest := []) (ks := [0, 3, 4, 6, 7, 30]) (env' := [(0, .pointer (some ⟨b_2, 0, none⟩)), (3, .string (bs name_11)), (4, .bool fail_12), (6, .pointer (some ⟨b_13, 0, none⟩)), (7, .pointer (some ⟨b_14, 0, none⟩)), (30, .bool true)]) (H' := [⟨41, b_14, [.int .u64 k_10.Saga, .int .i64 k_10.Step, .bool k_10.Back]⟩, ⟨40, b_13, [.int .u64 t_9.Term, .int .u64 t_9.Index]⟩, ⟨1, b_2, [.int .u64 l_1.fence.Term, .int .u64 l_1.fence.Index, .slice A_3 l_1.effects.length c_4, .map (mA A_5), .map (mA A_7)]⟩]) (ps := []) (by kernel_rfl) trivial ?_
      refine GoO.regionEnd ?_
      exact GoO.sub (ks := [0, 3, 4, 6, 7, 30]) (hk := [2, 1, 0]) (bk := [0, 1, 2]) (by kernel_rfl) (by kernel_rfl) (by kernel_rfl) (ledger_Ledger_Ask_j0_ok n l_1 t_9 k_10 name_11 fail_12 b_2 A_3 c_4 A_5 c_6 A_7 c_8 b_13 b_14 w0 S0 true)
    · refine GoO.exec (is := [13, 14, 15, 16]) (hs := [.p, .p, .p, .p]) (rest := []) (ks := [0, 3, 4, 6, 7, 30]) (env' := [(0, .pointer (some ⟨b_2, 0, none⟩)), (3, .string (bs name_11)), (4, .bool fail_12), (6, .pointer (some ⟨b_13, 0, none⟩)), (7, .pointer (some ⟨b_14, 0, none⟩)), (30, .bool (decide ((name_11.length : Int) > 16)))]) (H' := [⟨41, b_14, [.int .u64 k_10.Saga, .int .i64 k_10.Step, .bool k_10.Back]⟩, ⟨40, b_13, [.int .u64 t_9.Term, .int .u64 t_9.Index]⟩, ⟨1, b_2, [.int .u64 l_1.fence.Term, .int .u64 l_1.fence.Index, .slice A_3 l_1.effects.length c_4, .map (mA A_5), .map (mA A_7)]⟩]) (ps := []) (by kernel_rfl) trivial ?_
      refine GoO.regionEnd ?_
      exact GoO.sub (ks := [0, 3, 4, 6, 7, 30]) (hk := [2, 1, 0]) (bk := [0, 1, 2]) (by kernel_rfl) (by kernel_rfl) (by kernel_rfl) (ledger_Ledger_Ask_j0_ok n l_1 t_9 k_10 name_11 fail_12 b_2 A_3 c_4 A_5 c_6 A_7 c_8 b_13 b_14 w0 S0 (decide ((name_11.length : Int) > 16)))

/-! (*tontine/ledger.Ledger).Dead -/
noncomputable def c25_0 : Code := bodyOf Try.f25
noncomputable def c25_1 : Code := cdL c25_0
noncomputable def c25_2 : Code := cdR c25_0
noncomputable def c25_3 : Code := cdL c25_2
noncomputable def c25_4 : Code := cdR c25_2
noncomputable def r25_1 : Array Oper := cdO c25_1
noncomputable def r25_3 : Array Oper := cdO c25_3
theorem c25_0e : c25_0 = .seq c25_1 c25_2 := by kernel_rfl
theorem c25_1e : c25_1 = .region 0 r25_1 false := by kernel_rfl
theorem c25_2e : c25_2 = .seq c25_3 c25_4 := by kernel_rfl
theorem c25_3e : c25_3 = .region 1 r25_3 false := by kernel_rfl
theorem c25_4e : c25_4 = .ret := by kernel_rfl
noncomputable def ledger_Ledger_Dead.R (b_2 : Nat) (A_3 : Option Addr) (c_4 : Nat) (A_5 : Option Addr) (c_6 : Nat) (A_7 : Option Addr) (c_8 : Nat) : Pst Bool where
  ε := Unit
  v := fun r x => .bool r
  H := fun r x => []
  B := fun r x => []
noncomputable def ledger_Ledger_Dead.cx (b_2 : Nat) (A_3 : Option Addr) (c_4 : Nat) (A_5 : Option Addr) (c_6 : Nat) (A_7 : Option Addr) (c_8 : Nat) (w0 : World) (S0 : Fam) : Cx Bool := ⟨Try.prog, 25, Try.f25, 19, w0, S0, [], 4, ledger_Ledger_Dead.R b_2 A_3 c_4 A_5 c_6 A_7 c_8⟩
theorem ledger_Ledger_Dead_ok (n : Nat) (l_1 : T_ledger_Ledger) (saga_9 : Int) (step_10 : Int) (b_2 : Nat) (A_3 : Option Addr) (c_4 : Nat) (A_5 : Option Addr) (c_6 : Nat) (A_7 : Option Addr) (c_8 : Nat) :
    Meets Try.prog 25 [.pointer (some ⟨b_2, 0, none⟩), .int .u64 saga_9, .int .i64 step_10] 4 [] [⟨1, b_2, [.int .u64 l_1.fence.Term, .int .u64 l_1.fence.Index, .slice A_3 l_1.effects.length c_4, .map (mA A_5), .map (mA A_7)]⟩] [Ow 2 kT_ledger_Effect A_3 c_4 l_1.effects, Mp 3 ky41 (fun v => .bool v) A_5 c_6 l_1.said, Mp 4 ky41 (fun v => .bool v) A_7 c_8 l_1.tombs] (ledger_Ledger_Dead.f n l_1 saga_9 step_10) (ledger_Ledger_Dead.R b_2 A_3 c_4 A_5 c_6 A_7 c_8) := by
  refine Meets.of (c := c25_0) (n := 19) Try.func25 (by kernel_rfl) (by kernel_rfl) (by kernel_rfl) fun w0 S0 => ?_
  unfold ledger_Ledger_Dead.f
  show GoO (ledger_Ledger_Dead.cx b_2 A_3 c_4 A_5 c_6 A_7 c_8 w0 S0) [(0, .pointer (some ⟨b_2, 0, none⟩)), (1, .int .u64 saga_9), (2, .int .i64 step_10)] [⟨1, b_2, [.int .u64 l_1.fence.Term, .int .u64 l_1.fence.Index, .slice A_3 l_1.effects.length c_4, .map (mA A_5), .map (mA A_7)]⟩] [Ow 2 kT_ledger_Effect A_3 c_4 l_1.effects, Mp 3 ky41 (fun v => .bool v) A_5 c_6 l_1.said, Mp 4 ky41 (fun v => .bool v) A_7 c_8 l_1.tombs] [.code c25_0] _
  refine GoO.seq' c25_0e ?_
  refine GoO.region' (is := [0]) c25_1e (by kernel_rfl) ?_
  refine GoO.exec (is := [0]) (hs := [.p]) (rest := []) (ks := [0, 1, 2]) (env' := [(0, .pointer (some ⟨b_2, 0, none⟩)), (1, .int .u64 saga_9), (2, .int .i64 step_10)]) (H' := [⟨1, b_2, [.int .u64 l_1.fence.Term, .int .u64 l_1.fence.Index, .slice A_3 l_1.effects.length c_4, .map (mA A_5), .map (mA A_7)]⟩]) (ps := []) (by kernel_rfl) trivial ?_
  refine GoO.regionEnd ?_
  refine GoO.seq' c25_2e ?_
  refine GoO.region' (is := [0, 1, 2, 3, 4, 5, 6, 7, 8, 9, 10, 11, 12]) c25_3e (by kernel_rfl) ?_
  refine GoO.exec (is := [0, 1, 2, 3, 4, 5, 6, 7, 8, 9]) (hs := [.p, .p, .p, .p, .p, .p, .b 0, .p, .p, .p]) (rest := [10, 11, 12]) (ks := [9, 13, 16]) (env' := [(9, .bool true), (13, .map (mA A_7)), (16, .agg ⟨[.int .u64 saga_9, .int .i64 step_10, .bool false]⟩)]) (H' := [⟨1, b_2, [.int .u64 l_1.fence.Term, .int .u64 l_1.fence.Index, .slice A_3 l_1.effects.length c_4, .map (mA A_5), .map (mA A_7)]⟩]) (ps := [b_2 = b_2]) (by kernel_rfl) (And.intro rfl trivial) ?_
  refine OpTo.go (GoO.mapLk (vt := 4) (K := ky41) (ev := (fun v => .bool v)) (A := A_7) (c := c_8) (l := l_1.tombs) (key := (⟨saga_9, step_10, false⟩ : T_api_Key)) (j := 2) rfl (by kernel_rfl) (by kernel_rfl) (by kernel_rfl) rfl false (fun _ => by kernel_rfl) rfl ?_)
  refine GoO.exec (is := [11, 12]) (hs := [.p, .p]) (rest := []) (ks := [6]) (env' := [(6, .bool ((getA (⟨saga_9, step_10, false⟩ : T_api_Key) l_1.tombs).getD false))]) (H' := [⟨1, b_2, [.int .u64 l_1.fence.Term, .int .u64 l_1.fence.Index, .slice A_3 l_1.effects.length c_4, .map (mA A_5), .map (mA A_7)]⟩]) (ps := []) (by kernel_rfl) trivial ?_
  refine GoO.regionEnd ?_
  exact GoO.ret' (h := c25_4e) (hs := []) (ps := []) (hk := []) (bk := []) Try.func25 () (by kernel_rfl) trivial (by kernel_rfl) (by kernel_rfl)

/-! (*tontine/ledger.Ledger).Effects -/
noncomputable def c24_0 : Code := bodyOf Try.f24
noncomputable def c24_1 : Code := cdL c24_0
noncomputable def c24_2 : Code := cdR c24_0
noncomputable def c24_3 : Code := cdL c24_2
noncomputable def c24_4 : Code := cdL c24_3
noncomputable def c24_5 : Code := cdR c24_3
noncomputable def c24_9 : Code := cdR c24_5
noncomputable def c24_10 : Code := cdR c24_2
noncomputable def c24_11 : Code := cdL c24_10
noncomputable def c24_12 : Code := cdR c24_10
noncomputable def c24_6 : Code := cdL c24_5
noncomputable def r24_1 : Array Oper := cdO c24_1
noncomputable def r24_4 : Array Oper := cdO c24_4
noncomputable def r24_11 : Array Oper := cdO c24_11
theorem c24_0e : c24_0 = .seq c24_1 c24_2 := by kernel_rfl
theorem c24_1e : c24_1 = .region 0 r24_1 false := by kernel_rfl
theorem c24_2e : c24_2 = .seq c24_3 c24_10 := by kernel_rfl
theorem c24_3e : c24_3 = .seq c24_4 c24_5 := by kernel_rfl
theorem c24_4e : c24_4 = .region 1 r24_4 false := by kernel_rfl
theorem c24_5e : c24_5 = .cond (cdC c24_5) c24_6 c24_9 := by kernel_rfl
theorem c24_9e : c24_9 = .skip := by kernel_rfl
theorem c24_10e : c24_10 = .seq c24_11 c24_12 := by kernel_rfl
theorem c24_11e : c24_11 = .region 3 r24_11 false := by kernel_rfl
theorem c24_12e : c24_12 = .ret := by kernel_rfl
noncomputable def ledger_Ledger_Effects.R (b_2 : Nat) (A_3 : Option Addr) (c_4 : Nat) (A_5 : Option Addr) (c_6 : Nat) (A_7 : Option Addr) (c_8 : Nat) : Pst (List T_ledger_Effect) where
  ε := Option Addr × Nat
  v := fun r x => .slice x.1 r.length x.2
  H := fun r x => []
  B := fun r x => [Ow 5 kT_ledger_Effect x.1 x.2 r]
noncomputable def ledger_Ledger_Effects.cx (b_2 : Nat) (A_3 : Option Addr) (c_4 : Nat) (A_5 : Option Addr) (c_6 : Nat) (A_7 : Option Addr) (c_8 : Nat) (w0 : World) (S0 : Fam) : Cx (List T_ledger_Effect) := ⟨Try.prog, 24, Try.f24, 10, w0, S0, [], 4, ledger_Ledger_Effects.R b_2 A_3 c_4 A_5 c_6 A_7 c_8⟩
theorem ledger_Ledger_Effects_ok (n : Nat) (l_1 : T_ledger_Ledger) (b_2 : Nat) (A_3 : Option Addr) (c_4 : Nat) (A_5 : Option Addr) (c_6 : Nat) (A_7 : Option Addr) (c_8 : Nat) :
    Meets Try.prog 24 [.pointer (some ⟨b_2, 0, none⟩)] 4 [] [⟨1, b_2, [.int .u64 l_1.fence.Term, .int .u64 l_1.fence.Index, .slice A_3 l_1.effects.length c_4, .map (mA A_5), .map (mA A_7)]⟩] [Ow 2 kT_ledger_Effect A_3 c_4 l_1.effects, Mp 3 ky41 (fun v => .bool v) A_5 c_6 l_1.said, Mp 4 ky41 (fun v => .bool v) A_7 c_8 l_1.tombs] (ledger_Ledger_Effects.f n l_1) (ledger_Ledger_Effects.R b_2 A_3 c_4 A_5 c_6 A_7 c_8) := by
  refine Meets.of (c := c24_0) (n := 10) Try.func24 (by kernel_rfl) (by kernel_rfl) (by kernel_rfl) fun w0 S0 => ?_
  unfold ledger_Ledger_Effects.f
  show GoO (ledger_Ledger_Effects.cx b_2 A_3 c_4 A_5 c_6 A_7 c_8 w0 S0) [(0, .pointer (some ⟨b_2, 0, none⟩))] [⟨1, b_2, [.int .u64 l_1.fence.Term, .int .u64 l_1.fence.Index, .slice A_3 l_1.effects.length c_4, .map (mA A_5), .map (mA A_7)]⟩] [Ow 2 kT_ledger_Effect A_3 c_4 l_1.effects, Mp 3 ky41 (fun v => .bool v) A_5 c_6 l_1.said, Mp 4 ky41 (fun v => .bool v) A_7 c_8 l_1.tombs] [.code c24_0] _
  refine GoO.seq' c24_0e ?_
  refine GoO.region' (is := [0]) c24_1e (by kernel_rfl) ?_
  refine GoO.exec (is := [0]) (hs := [.p]) (rest := []) (ks := [0]) (env' := [(0, .pointer (some ⟨b_2, 0, none⟩))]) (H' := [⟨1, b_2, [.int .u64 l_1.fence.Term, .int .u64 l_1.fence.Index, .slice A_3 l_1.effects.length c_4, .map (mA A_5), .map (mA A_7)]⟩]) (ps := []) (by kernel_rfl) trivial ?_
  refine GoO.regionEnd ?_
  refine GoO.seq' c24_2e ?_
  refine GoO.seq' c24_3e ?_
  refine GoO.region' (is := [0, 1]) c24_4e (by kernel_rfl) ?_
  refine GoO.exec (is := [0, 1]) (hs := [.p, .p]) (rest := []) (ks := [0, 4]) (env' := [(0, .pointer (some ⟨b_2, 0, none⟩)), (4, .bool false)]) (H' := [⟨1, b_2, [.int .u64 l_1.fence.Term, .int .u64 l_1.fence.Index, .slice A_3 l_1.effects.length c_4, .map (mA A_5), .map (mA A_7)]⟩]) (ps := []) (by kernel_rfl) trivial ?_
  refine GoO.regionEnd ?_
  refine GoO.condF c24_5e (by kernel_rfl) ?_
  refine GoO.skip' c24_9e ?_
  refine GoO.seq' c24_10e ?_
  refine GoO.region' (is := [0, 1, 2, 3, 4, 5]) c24_11e (by kernel_rfl) ?_
  refine GoO.exec (is := [0, 1, 2, 3]) (hs := [.p, .p, .p, .b 0]) (rest := [4, 5]) (ks := [8]) (env' := [(8, .slice A_3 l_1.effects.length c_4)]) (H' := [⟨1, b_2, [.int .u64 l_1.fence.Term, .int .u64 l_1.fence.Index, .slice A_3 l_1.effects.length c_4, .map (mA A_5), .map (mA A_7)]⟩]) (ps := [b_2 = b_2]) (by kernel_rfl) (And.intro rfl trivial) ?_
  refine GoO.nilOwn kT_ledger_Effect 40 ?_
  refine GoO.guard (fun h9 => ?_)
  refine OpTo.go (GoO.appW (e := 56) (K := kT_ledger_Effect) (A := none) (c := 0) (tg := 40) (bytes := 40) (zs := [.int .u64 0, .int .i64 0, .bool false, .string (bs [])]) (xs := ([] : List T_ledger_Effect)) (ys := l_1.effects) (xv := .slice A_3 l_1.effects.length c_4) (j := 0) (bk := [1, 2, 3]) rfl (by kernel_rfl) (by kernel_rfl) (by kernel_rfl) (by kernel_rfl) rfl (by kernel_rfl) rfl (fun w S hB => SrcIs.row (Reads.own w S (hB _ (List.mem_of_getElem? (i := 1) rfl)))) h9 rfl rfl rfl rfl _ (fun _ _ => rfl) (fun A_10 c_11 => ?_))
  refine GoO.exec (is := [5]) (hs := [.p]) (rest := []) (ks := [2]) (env' := [(2, .slice A_10 (([] : List T_ledger_Effect) ++ l_1.effects).length c_11)]) (H' := [⟨1, b_2, [.int .u64 l_1.fence.Term, .int .u64 l_1.fence.Index, .slice A_3 l_1.effects.length c_4, .map (mA A_5), .map (mA A_7)]⟩]) (ps := []) (by kernel_rfl) trivial ?_
  refine GoO.regionEnd ?_
  refine GoO.retag (t := 40) (u := 5) (j := 0) (hk := [0]) (bk := [1, 2, 3]) rfl rfl rfl rfl rfl rfl (by kernel_rfl) (by kernel_rfl) ?_
  exact GoO.ret' (h := c24_12e) (hs := []) (ps := []) (hk := []) (bk := [0]) Try.func24 (⟨A_10, c_11⟩ : Option Addr × Nat) (by kernel_rfl) trivial (by kernel_rfl) (by kernel_rfl)

/-! tontine/tontinelaw18.begun -/
noncomputable def c21_0 : Code := bodyOf Try.f21
noncomputable def c21_1 : Code := cdL c21_0
noncomputable def c21_2 : Code := cdR c21_0
noncomputable def c21_3 : Code := cdL c21_2
noncomputable def c21_4 : Code := cdR c21_2
noncomputable def c21_5 : Code := cdL c21_4
noncomputable def c21_6 : Code := cdR c21_4
noncomputable def c21_7 : Code := cdL c21_6
noncomputable def c21_8 : Code := cdR c21_6
noncomputable def c21_9 : Code := cdL c21_8
noncomputable def c21_10 : Code := cdR c21_8
noncomputable def c21_11 : Code := cdL c21_10
noncomputable def c21_12 : Code := cdR c21_10
noncomputable def r21_1 : Array Oper := cdO c21_1
noncomputable def r21_3 : Array Oper := cdO c21_3
noncomputable def r21_5 : Array Oper := cdO c21_5
noncomputable def r21_7 : Array Oper := cdO c21_7
noncomputable def r21_9 : Array Oper := cdO c21_9
noncomputable def r21_11 : Array Oper := cdO c21_11
theorem c21_0e : c21_0 = .seq c21_1 c21_2 := by kernel_rfl
theorem c21_1e : c21_1 = .region 0 r21_1 false := by kernel_rfl
theorem c21_2e : c21_2 = .seq c21_3 c21_4 := by kernel_rfl
theorem c21_3e : c21_3 = .region 1 r21_3 false := by kernel_rfl
theorem c21_4e : c21_4 = .seq c21_5 c21_6 := by kernel_rfl
theorem c21_5e : c21_5 = .region 2 r21_5 false := by kernel_rfl
theorem c21_6e : c21_6 = .seq c21_7 c21_8 := by kernel_rfl
theorem c21_7e : c21_7 = .region 3 r21_7 false := by kernel_rfl
theorem c21_8e : c21_8 = .seq c21_9 c21_10 := by kernel_rfl
theorem c21_9e : c21_9 = .region 4 r21_9 false := by kernel_rfl
theorem c21_10e : c21_10 = .seq c21_11 c21_12 := by kernel_rfl
theorem c21_11e : c21_11 = .region 5 r21_11 false := by kernel_rfl
theorem c21_12e : c21_12 = .ret := by kernel_rfl
noncomputable def tontinelaw18_begun.R : Pst Bool where
  ε := Unit
  v := fun r x => .bool r
  H := fun r x => []
  B := fun r x => []
noncomputable def tontinelaw18_begun.cx (w0 : World) (S0 : Fam) : Cx Bool := ⟨Try.prog, 21, Try.f21, 56, w0, S0, [], 0, tontinelaw18_begun.R⟩
theorem tontinelaw18_begun_ok (n : Nat) :
    Meets Try.prog 21 [] 0 [] [] [] (tontinelaw18_begun.f n) (tontinelaw18_begun.R) := by
  refine Meets.of (c := c21_0) (n := 56) Try.func21 (by kernel_rfl) (by kernel_rfl) (by kernel_rfl) fun w0 S0 => ?_
  unfold tontinelaw18_begun.f
  show GoO (tontinelaw18_begun.cx w0 S0) [] [] [] [.code c21_0] _
  refine GoO.seq' c21_0e ?_
  refine GoO.region' (is := [0]) c21_1e (by kernel_rfl) ?_
  refine GoO.exec (is := [0]) (hs := [.p]) (rest := []) (ks := []) (env' := []) (H' := []) (ps := []) (by kernel_rfl) trivial ?_
  refine GoO.regionEnd ?_
  refine GoO.seq' c21_2e ?_
  refine GoO.region' (is := [0, 1]) c21_3e (by kernel_rfl) ?_
  refine OpTo.go (GoO.call rfl (by kernel_rfl) (by kernel_rfl) (ledger_New_ok n) [[0]] [(40, 1), (41, 2), (42, 3), (43, 4)] [] [] (hks := []) (bks := []) (by kernel_rfl) (by kernel_rfl) (by kernel_rfl) (.inl rfl) rfl rfl (by kernel_rfl) (by kernel_rfl) _ (fun _ _ => rfl) _ _ (fun _ _ => rfl) (fun _ _ => rfl) (fun _ _ => by kernel_rfl) (fun _ _ => by kernel_rfl) (fun r_1 x_45 => ?_))
  obtain ⟨b_2, A_3, c_4, A_5, c_6, A_7, c_8⟩ := x_45
  refine GoO.shape (env' := [(8, .pointer (some ⟨b_2, 0, none⟩))]) (H' := [⟨40, b_2, [.int .u64 r_1.fence.Term, .int .u64 r_1.fence.Index, .slice A_3 r_1.effects.length c_4, .map (mA A_5), .map (mA A_7)]⟩]) (B' := [Ow 41 kT_ledger_Effect A_3 c_4 r_1.effects, Mp 42 ky41 (fun v => .bool v) A_5 c_6 r_1.said, Mp 43 ky41 (fun v => .bool v) A_7 c_8 r_1.tombs]) (ks := [8]) (by kernel_rfl) (by kernel_rfl) (by kernel_rfl) ?_
  refine GoO.exec (is := [1]) (hs := [.p]) (rest := []) (ks := [1]) (env' := [(1, .pointer (some ⟨b_2, 0, none⟩))]) (H' := [⟨40, b_2, [.int .u64 r_1.fence.Term, .int .u64 r_1.fence.Index, .slice A_3 r_1.effects.length c_4, .map (mA A_5), .map (mA A_7)]⟩]) (ps := []) (by kernel_rfl) trivial ?_
  refine GoO.regionEnd ?_
  refine GoO.seq' c21_4e ?_
  refine GoO.region' (is := [0, 1, 2, 3, 4, 5, 6, 7, 8]) c21_5e (by kernel_rfl) ?_
  refine GoO.exec (is := [0, 1, 2]) (hs := [.p, .p, .p]) (rest := [3, 4, 5, 6, 7, 8]) (ks := [1, 10, 11, 12]) (env' := [(1, .pointer (some ⟨b_2, 0, none⟩)), (10, .pointer (some ⟨b_2, 0, none⟩)), (11, .agg ⟨[.int .u64 2, .int .u64 5]⟩), (12, .agg ⟨[.int .u64 1, .int .i64 0, .bool false]⟩)]) (H' := [⟨40, b_2, [.int .u64 r_1.fence.Term, .int .u64 r_1.fence.Index, .slice A_3 r_1.effects.length c_4, .map (mA A_5), .map (mA A_7)]⟩]) (ps := []) (by kernel_rfl) trivial ?_
  refine OpTo.go (GoO.call rfl (by kernel_rfl) (by kernel_rfl) (ledger_Ledger_Ask_ok n (⟨(⟨r_1.fence.Term, r_1.fence.Index⟩ : T_api_Token), r_1.effects, r_1.said, r_1.tombs⟩ : T_ledger_Ledger) (⟨2, 5⟩ : T_api_Token) (⟨1, 0, false⟩ : T_api_Key) [115] false b_2 A_3 c_4 A_5 c_6 A_7 c_8) [[0], [40], [41], [42], [43]] [(40, 1), (41, 2), (42, 3), (43, 4)] [(1, 0)] [(2, 0), (3, 1), (4, 2)] (hks := []) (bks := []) (by kernel_rfl) (by kernel_rfl) (by kernel_rfl) (.inl rfl) rfl rfl (by kernel_rfl) (by kernel_rfl) _ (fun _ _ => rfl) _ _ (fun _ _ => rfl) (fun _ _ => rfl) (fun _ _ => by kernel_rfl) (fun _ _ => by kernel_rfl) (fun r_9 x_44 => ?_))
  obtain ⟨A_10, c_11, A_12, c_13, A_14, c_15⟩ := x_44
  refine GoO.shape (env' := [(1, .pointer (some ⟨b_2, 0, none⟩)), (10, .pointer (some ⟨b_2, 0, none⟩)), (11, .agg ⟨[.int .u64 2, .int .u64 5]⟩), (12, .agg ⟨[.int .u64 1, .int .i64 0, .bool false]⟩), (13, .tuple ⟨[.bool r_9.1, .int .i64 r_9.2.1]⟩)]) (H' := [⟨40, b_2, [.int .u64 r_9.2.2.fence.Term, .int .u64 r_9.2.2.fence.Index, .slice A_10 r_9.2.2.effects.length c_11, .map (mA A_12), .map (mA A_14)]⟩]) (B' := [Ow 41 kT_ledger_Effect A_10 c_11 r_9.2.2.effects, Mp 42 ky41 (fun v => .bool v) A_12 c_13 r_9.2.2.said, Mp 43 ky41 (fun v => .bool v) A_14 c_15 r_9.2.2.tombs]) (ks := [1, 10, 11, 12, 13]) (by kernel_rfl) (by kernel_rfl) (by kernel_rfl) ?_
  refine GoO.exec (is := [4, 5, 6, 7, 8]) (hs := [.p, .p, .p, .p, .p]) (rest := []) (ks := [1, 2, 3]) (env' := [(1, .pointer (some ⟨b_2, 0, none⟩)), (2, .bool r_9.1), (3, .int .i64 r_9.2.1)]) (H' := [⟨40, b_2, [.int .u64 r_9.2.2.fence.Term, .int .u64 r_9.2.2.fence.Index, .slice A_10 r_9.2.2.effects.length c_11, .map (mA A_12), .map (mA A_14)]⟩]) (ps := []) (by kernel_rfl) trivial ?_
  refine GoO.regionEnd ?_
  refine GoO.seq' c21_6e ?_
  refine GoO.region' (is := [0, 1, 2, 3, 4, 5, 6, 7, 8]) c21_7e (by kernel_rfl) ?_
  refine GoO.exec (is := [0, 1, 2]) (hs := [.p, .p, .p]) (rest := [3, 4, 5, 6, 7, 8]) (ks := [1, 2, 3, 17, 18, 19]) (env' := [(1, .pointer (some ⟨b_2, 0, none⟩)), (2, .bool r_9.1), (3, .int .i64 r_9.2.1), (17, .pointer (some ⟨b_2, 0, none⟩)), (18, .agg ⟨[.int .u64 1, .int .u64 9]⟩), (19, .agg ⟨[.int .u64 1, .int .i64 1, .bool false]⟩)]) (H' := [⟨40, b_2, [.int .u64 r_9.2.2.fence.Term, .int .u64 r_9.2.2.fence.Index, .slice A_10 r_9.2.2.effects.length c_11, .map (mA A_12), .map (mA A_14)]⟩]) (ps := []) (by kernel_rfl) trivial ?_
  refine OpTo.go (GoO.call rfl (by kernel_rfl) (by kernel_rfl) (ledger_Ledger_Ask_ok n (⟨(⟨r_9.2.2.fence.Term, r_9.2.2.fence.Index⟩ : T_api_Token), r_9.2.2.effects, r_9.2.2.said, r_9.2.2.tombs⟩ : T_ledger_Ledger) (⟨1, 9⟩ : T_api_Token) (⟨1, 1, false⟩ : T_api_Key) [116] false b_2 A_10 c_11 A_12 c_13 A_14 c_15) [[0], [40], [41], [42], [43]] [(40, 1), (41, 2), (42, 3), (43, 4)] [(1, 0)] [(2, 0), (3, 1), (4, 2)] (hks := []) (bks := []) (by kernel_rfl) (by kernel_rfl) (by kernel_rfl) (.inl rfl) rfl rfl (by kernel_rfl) (by kernel_rfl) _ (fun _ _ => rfl) _ _ (fun _ _ => rfl) (fun _ _ => rfl) (fun _ _ => by kernel_rfl) (fun _ _ => by kernel_rfl) (fun r_16 x_43 => ?_))
  obtain ⟨A_17, c_18, A_19, c_20, A_21, c_22⟩ := x_43
  refine GoO.shape (env' := [(1, .pointer (some ⟨b_2, 0, none⟩)), (2, .bool r_9.1), (3, .int .i64 r_9.2.1), (17, .pointer (some ⟨b_2, 0, none⟩)), (18, .agg ⟨[.int .u64 1, .int .u64 9]⟩), (19, .agg ⟨[.int .u64 1, .int .i64 1, .bool false]⟩), (20, .tuple ⟨[.bool r_16.1, .int .i64 r_16.2.1]⟩)]) (H' := [⟨40, b_2, [.int .u64 r_16.2.2.fence.Term, .int .u64 r_16.2.2.fence.Index, .slice A_17 r_16.2.2.effects.length c_18, .map (mA A_19), .map (mA A_21)]⟩]) (B' := [Ow 41 kT_ledger_Effect A_17 c_18 r_16.2.2.effects, Mp 42 ky41 (fun v => .bool v) A_19 c_20 r_16.2.2.said, Mp 43 ky41 (fun v => .bool v) A_21 c_22 r_16.2.2.tombs]) (ks := [1, 2, 3, 17, 18, 19, 20]) (by kernel_rfl) (by kernel_rfl) (by kernel_rfl) ?_
  refine GoO.exec (is := [4, 5, 6, 7, 8]) (hs := [.p, .p, .p, .p, .p]) (rest := []) (ks := [1, 2, 3, 5]) (env' := [(1, .pointer (some ⟨b_2, 0, none⟩)), (2, .bool r_9.1), (3, .int .i64 r_9.2.1), (5, .int .i64 r_16.2.1)]) (H' := [⟨40, b_2, [.int .u64 r_16.2.2.fence.Term, .int .u64 r_16.2.2.fence.Index, .slice A_17 r_16.2.2.effects.length c_18, .map (mA A_19), .map (mA A_21)]⟩]) (ps := []) (by kernel_rfl) trivial ?_
  refine GoO.regionEnd ?_
  refine GoO.seq' c21_8e ?_
  refine GoO.region' (is := [0, 1, 2, 3, 4, 5, 6, 7, 8]) c21_9e (by kernel_rfl) ?_
  refine GoO.exec (is := [0, 1, 2]) (hs := [.p, .p, .p]) (rest := [3, 4, 5, 6, 7, 8]) (ks := [1, 2, 3, 5, 24, 25, 26]) (env' := [(1, .pointer (some ⟨b_2, 0, none⟩)), (2, .bool r_9.1), (3, .int .i64 r_9.2.1), (5, .int .i64 r_16.2.1), (24, .pointer (some ⟨b_2, 0, none⟩)), (25, .agg ⟨[.int .u64 2, .int .u64 5]⟩), (26, .agg ⟨[.int .u64 1, .int .i64 1, .bool true]⟩)]) (H' := [⟨40, b_2, [.int .u64 r_16.2.2.fence.Term, .int .u64 r_16.2.2.fence.Index, .slice A_17 r_16.2.2.effects.length c_18, .map (mA A_19), .map (mA A_21)]⟩]) (ps := []) (by kernel_rfl) trivial ?_
  refine OpTo.go (GoO.call rfl (by kernel_rfl) (by kernel_rfl) (ledger_Ledger_Ask_ok n (⟨(⟨r_16.2.2.fence.Term, r_16.2.2.fence.Index⟩ : T_api_Token), r_16.2.2.effects, r_16.2.2.said, r_16.2.2.tombs⟩ : T_ledger_Ledger) (⟨2, 5⟩ : T_api_Token) (⟨1, 1, true⟩ : T_api_Key) [116] false b_2 A_17 c_18 A_19 c_20 A_21 c_22) [[0], [40], [41], [42], [43]] [(40, 1), (41, 2), (42, 3), (43, 4)] [(1, 0)] [(2, 0), (3, 1), (4, 2)] (hks := []) (bks := []) (by kernel_rfl) (by kernel_rfl) (by kernel_rfl) (.inl rfl) rfl rfl (by kernel_rfl) (by kernel_rfl) _ (fun _ _ => rfl) _ _ (fun _ _ => rfl) (fun _ _ => rfl) (fun _ _ => by kernel_rfl) (fun _ _ => by kernel_rfl) (fun r_23 x_42 => ?_))
  obtain ⟨A_24, c_25, A_26, c_27, A_28, c_29⟩ := x_42
  refine GoO.shape (env' := [(1, .pointer (some ⟨b_2, 0, none⟩)), (2, .bool r_9.1), (3, .int .i64 r_9.2.1), (5, .int .i64 r_16.2.1), (24, .pointer (some ⟨b_2, 0, none⟩)), (25, .agg ⟨[.int .u64 2, .int .u64 5]⟩), (26, .agg ⟨[.int .u64 1, .int .i64 1, .bool true]⟩), (27, .tuple ⟨[.bool r_23.1, .int .i64 r_23.2.1]⟩)]) (H' := [⟨40, b_2, [.int .u64 r_23.2.2.fence.Term, .int .u64 r_23.2.2.fence.Index, .slice A_24 r_23.2.2.effects.length c_25, .map (mA A_26), .map (mA A_28)]⟩]) (B' := [Ow 41 kT_ledger_Effect A_24 c_25 r_23.2.2.effects, Mp 42 ky41 (fun v => .bool v) A_26 c_27 r_23.2.2.said, Mp 43 ky41 (fun v => .bool v) A_28 c_29 r_23.2.2.tombs]) (ks := [1, 2, 3, 5, 24, 25, 26, 27]) (by kernel_rfl) (by kernel_rfl) (by kernel_rfl) ?_
  refine GoO.exec (is := [4, 5, 6, 7, 8]) (hs := [.p, .p, .p, .p, .p]) (rest := []) (ks := [1, 2, 3, 5, 6, 7]) (env' := [(1, .pointer (some ⟨b_2, 0, none⟩)), (2, .bool r_9.1), (3, .int .i64 r_9.2.1), (5, .int .i64 r_16.2.1), (6, .bool r_23.1), (7, .int .i64 r_23.2.1)]) (H' := [⟨40, b_2, [.int .u64 r_23.2.2.fence.Term, .int .u64 r_23.2.2.fence.Index, .slice A_24 r_23.2.2.effects.length c_25, .map (mA A_26), .map (mA A_28)]⟩]) (ps := []) (by kernel_rfl) trivial ?_
  refine GoO.regionEnd ?_
  refine GoO.seq' c21_10e ?_
  refine GoO.region' (is := [0, 1, 2, 3, 4, 5, 6, 7, 8, 9, 10, 11, 12, 13, 14, 15, 16, 17, 18, 19, 20, 21, 22, 23, 24, 25, 26]) c21_11e (by kernel_rfl) ?_
  refine GoO.exec (is := [0, 1]) (hs := [.p, .p]) (rest := [2, 3, 4, 5, 6, 7, 8, 9, 10, 11, 12, 13, 14, 15, 16, 17, 18, 19, 20, 21, 22, 23, 24, 25, 26]) (ks := [1, 3, 5, 6, 7, 31]) (env' := [(1, .pointer (some ⟨b_2, 0, none⟩)), (3, .int .i64 r_9.2.1), (5, .int .i64 r_16.2.1), (6, .bool r_23.1), (7, .int .i64 r_23.2.1), (31, .bool r_9.1)]) (H' := [⟨40, b_2, [.int .u64 r_23.2.2.fence.Term, .int .u64 r_23.2.2.fence.Index, .slice A_24 r_23.2.2.effects.length c_25, .map (mA A_26), .map (mA A_28)]⟩]) (ps := []) (by kernel_rfl) trivial ?_
  refine GoO.bsplit (t := 31) (by kernel_rfl) (fun h30 => ?_) (fun h30 => ?_)
  · refine GoO.exec (is := [2, 3, 4, 5]) (hs := [.p, .p, .p, .p]) (rest := [6, 7, 8, 9, 10, 11, 12, 13, 14, 15, 16, 17, 18, 19, 20, 21, 22, 23, 24, 25, 26]) (ks := [1, 5, 6, 7, 35]) (env' := [(1, .pointer (some ⟨b_2, 0, none⟩)), (5, .int .i64 r_16.2.1), (6, .bool r_23.1), (7, .int .i64 r_23.2.1), (35, .bool (r_9.2.1 == 0))]) (H' := [⟨40, b_2, [.int .u64 r_23.2.2.fence.Term, .int .u64 r_23.2.2.fence.Index, .slice A_24 r_23.2.2.effects.length c_25, .map (mA A_26), .map (mA A_28)]⟩]) (ps := []) (by kernel_rfl) trivial ?_
    refine GoO.bsplit (t := 35) (by kernel_rfl) (fun h31 => ?_) (fun h31 => ?_)
    · refine GoO.exec (is := [6, 7, 8, 9]) (hs := [.p, .p, .p, .p]) (rest := [10, 11, 12, 13, 14, 15, 16, 17, 18, 19, 20, 21, 22, 23, 24, 25, 26]) (ks := [1, 6, 7, 39]) (env' := [(1, .pointer (some ⟨b_2, 0, none⟩)), (6, .bool r_23.1), (7, .int .i64 r_23.2.1), (39, .bool (r_16.2.1 == 50))]) (H' := [⟨40, b_2, [.int .u64 r_23.2.2.fence.Term, .int .u64 r_23.2.2.fence.Index, .slice A_24 r_23.2.2.effects.length c_25, .map (mA A_26), .map (mA A_28)]⟩]) (ps := []) (by kernel_rfl) trivial ?_
      refine GoO.bsplit (t := 39) (by kernel_rfl) (fun h32 => ?_) (fun h32 => ?_)
      · refine GoO.exec (is := [10, 11, 12]) (hs := [.p, .p, .p]) (rest := [13, 14, 15, 16, 17, 18, 19, 20, 21, 22, 23, 24, 25, 26]) (ks := [1, 7, 42]) (env' := [(1, .pointer (some ⟨b_2, 0, none⟩)), (7, .int .i64 r_23.2.1), (42, .bool r_23.1)]) (H' := [⟨40, b_2, [.int .u64 r_23.2.2.fence.Term, .int .u64 r_23.2.2.fence.Index, .slice A_24 r_23.2.2.effects.length c_25, .map (mA A_26), .map (mA A_28)]⟩]) (ps := []) (by kernel_rfl) trivial ?_
        refine GoO.bsplit (t := 42) (by kernel_rfl) (fun h33 => ?_) (fun h33 => ?_)
        · refine GoO.exec (is := [13, 14, 15, 16]) (hs := [.p, .p, .p, .p]) (rest := [17, 18, 19, 20, 21, 22, 23, 24, 25, 26]) (ks := [1, 46]) (env' := [(1, .pointer (some ⟨b_2, 0, none⟩)), (46, .bool (r_23.2.1 == 0))]) (H' := [⟨40, b_2, [.int .u64 r_23.2.2.fence.Term, .int .u64 r_23.2.2.fence.Index, .slice A_24 r_23.2.2.effects.length c_25, .map (mA A_26), .map (mA A_28)]⟩]) (ps := []) (by kernel_rfl) trivial ?_
          refine GoO.bsplit (t := 46) (by kernel_rfl) (fun h34 => ?_) (fun h34 => ?_)
          · refine GoO.exec (is := [17]) (hs := [.p]) (rest := [18, 19, 20, 21, 22, 23, 24, 25, 26]) (ks := [1, 46, 47]) (env' := [(1, .pointer (some ⟨b_2, 0, none⟩)), (46, .bool true), (47, .pointer (some ⟨b_2, 0, none⟩))]) (H' := [⟨40, b_2, [.int .u64 r_23.2.2.fence.Term, .int .u64 r_23.2.2.fence.Index, .slice A_24 r_23.2.2.effects.length c_25, .map (mA A_26), .map (mA A_28)]⟩]) (ps := []) (by kernel_rfl) trivial ?_
            refine OpTo.go (GoO.call rfl (by kernel_rfl) (by kernel_rfl) (ledger_Ledger_Dead_ok n (⟨(⟨r_23.2.2.fence.Term, r_23.2.2.fence.Index⟩ : T_api_Token), r_23.2.2.effects, r_23.2.2.said, r_23.2.2.tombs⟩ : T_ledger_Ledger) 1 1 b_2 A_24 c_25 A_26 c_27 A_28 c_29) [[0], [40], [41], [42], [43]] [] [(1, 0)] [(2, 0), (3, 1), (4, 2)] (hks := [0]) (bks := [0, 1, 2]) (by kernel_rfl) (by kernel_rfl) (by kernel_rfl) (.inl rfl) rfl rfl (by kernel_rfl) (by kernel_rfl) _ (fun _ _ => rfl) _ _ (fun _ _ => rfl) (fun _ _ => rfl) (fun _ _ => by kernel_rfl) (fun _ _ => by kernel_rfl) (fun r_35 x_41 => ?_))
            refine GoO.shape (env' := [(1, .pointer (some ⟨b_2, 0, none⟩)), (46, .bool true), (47, .pointer (some ⟨b_2, 0, none⟩)), (48, .bool r_35)]) (H' := [⟨40, b_2, [.int .u64 r_23.2.2.fence.Term, .int .u64 r_23.2.2.fence.Index, .slice A_24 r_23.2.2.effects.length c_25, .map (mA A_26), .map (mA A_28)]⟩]) (B' := [Ow 41 kT_ledger_Effect A_24 c_25 r_23.2.2.effects, Mp 42 ky41 (fun v => .bool v) A_26 c_27 r_23.2.2.said, Mp 43 ky41 (fun v => .bool v) A_28 c_29 r_23.2.2.tombs]) (ks := [1, 46, 47, 48]) (by kernel_rfl) (by kernel_rfl) (by kernel_rfl) ?_
            refine GoO.exec (is := [19, 20]) (hs := [.p, .p]) (rest := [21, 22, 23, 24, 25, 26]) (ks := [1, 50]) (env' := [(1, .pointer (some ⟨b_2, 0, none⟩)), (50, .bool r_35)]) (H' := [⟨40, b_2, [.int .u64 r_23.2.2.fence.Term, .int .u64 r_23.2.2.fence.Index, .slice A_24 r_23.2.2.effects.length c_25, .map (mA A_26), .map (mA A_28)]⟩]) (ps := []) (by kernel_rfl) trivial ?_
            refine GoO.bsplit (t := 50) (by kernel_rfl) (fun h36 => ?_) (fun h36 => ?_)
            · refine GoO.exec (is := [21]) (hs := [.p]) (rest := [22, 23, 24, 25, 26]) (ks := [50, 51]) (env' := [(50, .bool true), (51, .pointer (some ⟨b_2, 0, none⟩))]) (H' := [⟨40, b_2, [.int .u64 r_23.2.2.fence.Term, .int .u64 r_23.2.2.fence.Index, .slice A_24 r_23.2.2.effects.length c_25, .map (mA A_26), .map (mA A_28)]⟩]) (ps := []) (by kernel_rfl) trivial ?_
              refine OpTo.go (GoO.call rfl (by kernel_rfl) (by kernel_rfl) (ledger_Ledger_Effects_ok n (⟨(⟨r_23.2.2.fence.Term, r_23.2.2.fence.Index⟩ : T_api_Token), r_23.2.2.effects, r_23.2.2.said, r_23.2.2.tombs⟩ : T_ledger_Ledger) b_2 A_24 c_25 A_26 c_27 A_28 c_29) [[0], [40], [41], [42], [43]] [(44, 5)] [(1, 0)] [(2, 0), (3, 1), (4, 2)] (hks := [0]) (bks := [0, 1, 2]) (by kernel_rfl) (by kernel_rfl) (by kernel_rfl) (.inl rfl) rfl rfl (by kernel_rfl) (by kernel_rfl) _ (fun _ _ => rfl) _ _ (fun _ _ => rfl) (fun _ _ => rfl) (fun _ _ => by kernel_rfl) (fun _ _ => by kernel_rfl) (fun r_37 x_40 => ?_))
              obtain ⟨A_38, c_39⟩ := x_40
              refine GoO.shape (env' := [(50, .bool true), (51, .pointer (some ⟨b_2, 0, none⟩)), (52, .slice A_38 r_37.length c_39)]) (H' := [⟨40, b_2, [.int .u64 r_23.2.2.fence.Term, .int .u64 r_23.2.2.fence.Index, .slice A_24 r_23.2.2.effects.length c_25, .map (mA A_26), .map (mA A_28)]⟩]) (B' := [Ow 44 kT_ledger_Effect A_38 c_39 r_37, Ow 41 kT_ledger_Effect A_24 c_25 r_23.2.2.effects, Mp 42 ky41 (fun v => .bool v) A_26 c_27 r_23.2.2.said, Mp 43 ky41 (fun v => .bool v) A_28 c_29 r_23.2.2.tombs]) (ks := [50, 51, 52]) (by kernel_rfl) (by kernel_rfl) (by kernel_rfl) ?_
              refine GoO.exec (is := [23, 24, 25, 26]) (hs := [.p, .p, .p, .p]) (rest := []) (ks := [0]) (env' := [(0, .bool ((r_37.length : Int) == 1))]) (H' := [⟨40, b_2, [.int .u64 r_23.2.2.fence.Term, .int .u64 r_23.2.2.fence.Index, .slice A_24 r_23.2.2.effects.length c_25, .map (mA A_26), .map (mA A_28)]⟩]) (ps := []) (by kernel_rfl) trivial ?_
              refine GoO.regionEnd ?_
              exact GoO.ret' (h := c21_12e) (hs := []) (ps := []) (hk := []) (bk := []) Try.func21 () (by kernel_rfl) trivial (by kernel_rfl) (by kernel_rfl)
            · refine GoO.exec (is := [21, 22, 23, 24, 25, 26]) (hs := [.p, .p, .p, .p, .p, .p]) (rest := []) (ks := [0]) (env' := [(0, .bool false)]) (H' := [⟨40, b_2, [.int .u64 r_23.2.2.fence.Term, .int .u64 r_23.2.2.fence.Index, .slice A_24 r_23.2.2.effects.length c_25, .map (mA A_26), .map (mA A_28)]⟩]) (ps := []) (by kernel_rfl) trivial ?_
              refine GoO.regionEnd ?_
              exact GoO.ret' (h := c21_12e) (hs := []) (ps := []) (hk := []) (bk := []) Try.func21 () (by kernel_rfl) trivial (by kernel_rfl) (by kernel_rfl)
          · refine GoO.exec (is := [17, 18, 19, 20, 21, 22, 23, 24, 25, 26]) (hs := [.p, .p, .p, .p, .p, .p, .p, .p, .p, .p]) (rest := []) (ks := [0]) (env' := [(0, .bool false)]) (H' := [⟨40, b_2, [.int .u64 r_23.2.2.fence.Term, .int .u64 r_23.2.2.fence.Index, .slice A_24 r_23.2.2.effects.length c_25, .map (mA A_26), .map (mA A_28)]⟩]) (ps := []) (by kernel_rfl) trivial ?_
            refine GoO.regionEnd ?_
            exact GoO.ret' (h := c21_12e) (hs := []) (ps := []) (hk := []) (bk := []) Try.func21 () (by kernel_rfl) trivial (by kernel_rfl) (by kernel_rfl)
        · refine GoO.exec (is := [13, 14, 15, 16, 17, 18, 19, 20, 21, 22, 23, 24, 25, 26]) (hs := [.p, .p, .p, .p, .p, .p, .p, .p, .p, .p, .p, .p, .p, .p]) (rest := []) (ks := [0]) (env' := [(0, .bool false)]) (H' := [⟨40, b_2, [.int .u64 r_23.2.2.fence.Term, .int .u64 r_23.2.2.fence.Index, .slice A_24 r_23.2.2.effects.length c_25, .map (mA A_26), .map (mA A_28)]⟩]) (ps := []) (by kernel_rfl) trivial ?_
          refine GoO.regionEnd ?_
          exact GoO.ret' (h := c21_12e) (hs := []) (ps := []) (hk := []) (bk := []) Try.func21 () (by kernel_rfl) trivial (by kernel_rfl) (by kernel_rfl)
      · refine GoO.exec (is := [10, 11, 12, 13, 14, 15, 16, 17, 18, 19, 20, 21, 22, 23, 24, 25, 26]) (hs := [.p, .p, .p, .p, .p, .p, .p, .p, .p, .p, .p, .p, .p, .p, .p, .p, .p]) (rest := []) (ks := [0]) (env' := [(0, .bool false)]) (H' := [⟨40, b_2, [.int .u64 r_23.2.2.fence.Term, .int .u64 r_23.2.2.fence.Index, .slice A_24 r_23.2.2.effects.length c_25, .map (mA A_26), .map (mA A_28)]⟩]) (ps := []) (by kernel_rfl) trivial ?_
        refine GoO.regionEnd ?_
        exact GoO.ret' (h := c21_12e) (hs := []) (ps := []) (hk := []) (bk := []) Try.func21 () (by kernel_rfl) trivial (by kernel_rfl) (by kernel_rfl)
    · refine GoO.exec (is := [6, 7, 8, 9, 10, 11, 12, 13, 14, 15, 16, 17, 18, 19, 20, 21, 22, 23, 24, 25, 26]) (hs := [.p, .p, .p, .p, .p, .p, .p, .p, .p, .p, .p, .p, .p, .p, .p, .p, .p, .p, .p, .p, .p]) (rest := []) (ks := [0]) (env' := [(0, .bool false)]) (H' := [⟨40, b_2, [.int .u64 r_23.2.2.fence.Term, .int .u64 r_23.2.2.fence.Index, .slice A_24 r_23.2.2.effects.length c_25, .map (mA A_26), .map (mA A_28)]⟩]) (ps := []) (by kernel_rfl) trivial ?_
      refine GoO.regionEnd ?_
      exact GoO.ret' (h := c21_12e) (hs := []) (ps := []) (hk := []) (bk := []) Try.func21 () (by kernel_rfl) trivial (by kernel_rfl) (by kernel_rfl)
  · refine GoO.exec (is := [2, 3, 4, 5, 6, 7, 8, 9, 10, 11, 12, 13, 14, 15, 16, 17, 18, 19, 20, 21, 22, 23, 24, 25, 26]) (hs := [.p, .p, .p, .p, .p, .p, .p, .p, .p, .p, .p, .p, .p, .p, .p, .p, .p, .p, .p, .p, .p, .p, .p, .p, .p]) (rest := []) (ks := [0]) (env' := [(0, .bool false)]) (H' := [⟨40, b_2, [.int .u64 r_23.2.2.fence.Term, .int .u64 r_23.2.2.fence.Index, .slice A_24 r_23.2.2.effects.length c_25, .map (mA A_26), .map (mA A_28)]⟩]) (ps := []) (by kernel_rfl) trivial ?_
    refine GoO.regionEnd ?_
    exact GoO.ret' (h := c21_12e) (hs := []) (ps := []) (hk := []) (bk := []) Try.func21 () (by kernel_rfl) trivial (by kernel_rfl) (by kernel_rfl)

/-! (*tontine/ledger.Ledger).Fence -/
noncomputable def c29_0 : Code := bodyOf Try.f29
noncomputable def c29_1 : Code := cdL c29_0
noncomputable def c29_2 : Code := cdR c29_0
noncomputable def c29_3 : Code := cdL c29_2
noncomputable def c29_4 : Code := cdL c29_3
noncomputable def c29_5 : Code := cdR c29_3
noncomputable def c29_9 : Code := cdR c29_5
noncomputable def c29_10 : Code := cdR c29_2
noncomputable def c29_11 : Code := cdL c29_10
noncomputable def c29_12 : Code := cdR c29_10
noncomputable def c29_6 : Code := cdL c29_5
noncomputable def r29_1 : Array Oper := cdO c29_1
noncomputable def r29_4 : Array Oper := cdO c29_4
noncomputable def r29_11 : Array Oper := cdO c29_11
theorem c29_0e : c29_0 = .seq c29_1 c29_2 := by kernel_rfl
theorem c29_1e : c29_1 = .region 0 r29_1 false := by kernel_rfl
theorem c29_2e : c29_2 = .seq c29_3 c29_10 := by kernel_rfl
theorem c29_3e : c29_3 = .seq c29_4 c29_5 := by kernel_rfl
theorem c29_4e : c29_4 = .region 1 r29_4 false := by kernel_rfl
theorem c29_5e : c29_5 = .cond (cdC c29_5) c29_6 c29_9 := by kernel_rfl
theorem c29_9e : c29_9 = .skip := by kernel_rfl
theorem c29_10e : c29_10 = .seq c29_11 c29_12 := by kernel_rfl
theorem c29_11e : c29_11 = .region 3 r29_11 false := by kernel_rfl
theorem c29_12e : c29_12 = .ret := by kernel_rfl
noncomputable def ledger_Ledger_Fence.R (b_2 : Nat) (A_3 : Option Addr) (c_4 : Nat) (A_5 : Option Addr) (c_6 : Nat) (A_7 : Option Addr) (c_8 : Nat) : Pst T_api_Token where
  ε := Unit
  v := fun r x => .agg ⟨[.int .u64 r.Term, .int .u64 r.Index]⟩
  H := fun r x => []
  B := fun r x => []
noncomputable def ledger_Ledger_Fence.cx (b_2 : Nat) (A_3 : Option Addr) (c_4 : Nat) (A_5 : Option Addr) (c_6 : Nat) (A_7 : Option Addr) (c_8 : Nat) (w0 : World) (S0 : Fam) : Cx T_api_Token := ⟨Try.prog, 29, Try.f29, 10, w0, S0, [], 4, ledger_Ledger_Fence.R b_2 A_3 c_4 A_5 c_6 A_7 c_8⟩
theorem ledger_Ledger_Fence_ok (n : Nat) (l_1 : T_ledger_Ledger) (b_2 : Nat) (A_3 : Option Addr) (c_4 : Nat) (A_5 : Option Addr) (c_6 : Nat) (A_7 : Option Addr) (c_8 : Nat) :
    Meets Try.prog 29 [.pointer (some ⟨b_2, 0, none⟩)] 4 [] [⟨1, b_2, [.int .u64 l_1.fence.Term, .int .u64 l_1.fence.Index, .slice A_3 l_1.effects.length c_4, .map (mA A_5), .map (mA A_7)]⟩] [Ow 2 kT_ledger_Effect A_3 c_4 l_1.effects, Mp 3 ky41 (fun v => .bool v) A_5 c_6 l_1.said, Mp 4 ky41 (fun v => .bool v) A_7 c_8 l_1.tombs] (ledger_Ledger_Fence.f n l_1) (ledger_Ledger_Fence.R b_2 A_3 c_4 A_5 c_6 A_7 c_8) := by
  refine Meets.of (c := c29_0) (n := 10) Try.func29 (by kernel_rfl) (by kernel_rfl) (by kernel_rfl) fun w0 S0 => ?_
  unfold ledger_Ledger_Fence.f
  show GoO (ledger_Ledger_Fence.cx b_2 A_3 c_4 A_5 c_6 A_7 c_8 w0 S0) [(0, .pointer (some ⟨b_2, 0, none⟩))] [⟨1, b_2, [.int .u64 l_1.fence.Term, .int .u64 l_1.fence.Index, .slice A_3 l_1.effects.length c_4, .map (mA A_5), .map (mA A_7)]⟩] [Ow 2 kT_ledger_Effect A_3 c_4 l_1.effects, Mp 3 ky41 (fun v => .bool v) A_5 c_6 l_1.said, Mp 4 ky41 (fun v => .bool v) A_7 c_8 l_1.tombs] [.code c29_0] _
  refine GoO.seq' c29_0e ?_
  refine GoO.region' (is := [0]) c29_1e (by kernel_rfl) ?_
  refine OpTo.go (GoO.new rfl 40 (cs := [.int .u64 0, .int .u64 0]) (by kernel_rfl) _ (fun _ => rfl) (fun b_9 => ?_))
  refine GoO.regionEnd ?_
  refine GoO.seq' c29_2e ?_
  refine GoO.seq' c29_3e ?_
  refine GoO.region' (is := [0, 1]) c29_4e (by kernel_rfl) ?_
  refine GoO.exec (is := [0, 1]) (hs := [.p, .p]) (rest := []) (ks := [0, 2, 4]) (env' := [(0, .pointer (some ⟨b_2, 0, none⟩)), (2, .pointer (some ⟨b_9, 0, none⟩)), (4, .bool false)]) (H' := [⟨40, b_9, [.int .u64 0, .int .u64 0]⟩, ⟨1, b_2, [.int .u64 l_1.fence.Term, .int .u64 l_1.fence.Index, .slice A_3 l_1.effects.length c_4, .map (mA A_5), .map (mA A_7)]⟩]) (ps := []) (by kernel_rfl) trivial ?_
  refine GoO.regionEnd ?_
  refine GoO.condF c29_5e (by kernel_rfl) ?_
  refine GoO.skip' c29_9e ?_
  refine GoO.seq' c29_10e ?_
  refine GoO.region' (is := [0, 1, 2, 3, 4]) c29_11e (by kernel_rfl) ?_
  refine GoO.exec (is := [0, 1, 2, 3, 4]) (hs := [.p, .p, .p, .b 1, .b 0]) (rest := []) (ks := [2]) (env' := [(2, .pointer (some ⟨b_9, 0, none⟩))]) (H' := [⟨40, b_9, [.int .u64 l_1.fence.Term, .int .u64 l_1.fence.Index]⟩, ⟨1, b_2, [.int .u64 l_1.fence.Term, .int .u64 l_1.fence.Index, .slice A_3 l_1.effects.length c_4, .map (mA A_5), .map (mA A_7)]⟩]) (ps := [b_2 = b_2, b_9 = b_9]) (by kernel_rfl) (And.intro rfl (And.intro rfl trivial)) ?_
  refine GoO.regionEnd ?_
  exact GoO.ret' (h := c29_12e) (hs := [0]) (ps := [b_9 = b_9]) (hk := []) (bk := []) Try.func29 () (by kernel_rfl) (And.intro rfl trivial) (by kernel_rfl) (by kernel_rfl)

/-! tontine/tontinelaw18.LedgerFences -/
noncomputable def c8_0 : Code := bodyOf Try.f8
noncomputable def c8_1 : Code := cdL c8_0
noncomputable def c8_2 : Code := cdR c8_0
noncomputable def c8_3 : Code := cdL c8_2
noncomputable def c8_4 : Code := cdL c8_3
noncomputable def c8_5 : Code := cdR c8_3
noncomputable def c8_6 : Code := cdL c8_5
noncomputable def c8_7 : Code := cdL c8_6
noncomputable def c8_8 : Code := cdR c8_6
noncomputable def c8_9 : Code := cdR c8_5
noncomputable def c8_10 : Code := cdR c8_2
noncomputable def c8_11 : Code := cdL c8_10
noncomputable def c8_12 : Code := cdR c8_10
noncomputable def c8_13 : Code := cdL c8_12
noncomputable def c8_14 : Code := cdR c8_12
noncomputable def c8_15 : Code := cdL c8_14
noncomputable def c8_16 : Code := cdL c8_15
noncomputable def c8_17 : Code := cdR c8_15
noncomputable def c8_18 : Code := cdL c8_17
noncomputable def c8_19 : Code := cdL c8_18
noncomputable def c8_20 : Code := cdL c8_19
noncomputable def c8_21 : Code := cdR c8_19
noncomputable def c8_22 : Code := cdL c8_21
noncomputable def c8_23 : Code := cdL c8_22
noncomputable def c8_24 : Code := cdR c8_22
noncomputable def c8_25 : Code := cdR c8_21
noncomputable def c8_26 : Code := cdL c8_25
noncomputable def c8_27 : Code := cdL c8_26
noncomputable def c8_28 : Code := cdL c8_27
noncomputable def c8_29 : Code := cdR c8_27
noncomputable def c8_30 : Code := cdL c8_29
noncomputable def c8_31 : Code := cdL c8_30
noncomputable def c8_32 : Code := cdR c8_30
noncomputable def c8_33 : Code := cdL c8_32
noncomputable def c8_34 : Code := cdR c8_32
noncomputable def c8_35 : Code := cdR c8_29
noncomputable def c8_36 : Code := cdL c8_35
noncomputable def c8_37 : Code := cdR c8_35
noncomputable def c8_38 : Code := cdL c8_37
noncomputable def c8_39 : Code := cdL c8_38
noncomputable def c8_40 : Code := cdR c8_38
noncomputable def c8_41 : Code := cdL c8_40
noncomputable def c8_42 : Code := cdL c8_41
noncomputable def c8_43 : Code := cdR c8_41
noncomputable def c8_44 : Code := cdL c8_43
noncomputable def c8_45 : Code := cdR c8_43
noncomputable def c8_46 : Code := cdL c8_45
noncomputable def c8_47 : Code := cdR c8_45
noncomputable def c8_48 : Code := cdL c8_47
noncomputable def c8_49 : Code := cdL c8_48
noncomputable def c8_50 : Code := cdR c8_48
noncomputable def c8_51 : Code := cdL c8_50
noncomputable def c8_52 : Code := cdL c8_51
noncomputable def c8_53 : Code := cdR c8_51
noncomputable def c8_54 : Code := cdR c8_50
noncomputable def c8_55 : Code := cdR c8_47
noncomputable def c8_56 : Code := cdL c8_55
noncomputable def c8_57 : Code := cdL c8_56
noncomputable def c8_58 : Code := cdR c8_56
noncomputable def c8_59 : Code := cdL c8_58
noncomputable def c8_60 : Code := cdL c8_59
noncomputable def c8_61 : Code := cdR c8_59
noncomputable def c8_62 : Code := cdR c8_58
noncomputable def c8_63 : Code := cdR c8_55
noncomputable def c8_64 : Code := cdR c8_37
noncomputable def c8_65 : Code := cdL c8_64
noncomputable def c8_66 : Code := cdR c8_64
noncomputable def c8_67 : Code := cdL c8_66
noncomputable def c8_68 : Code := cdL c8_67
noncomputable def c8_69 : Code := cdR c8_67
noncomputable def c8_70 : Code := cdR c8_66
noncomputable def c8_71 : Code := cdR c8_25
noncomputable def c8_72 : Code := cdR c8_14
noncomputable def c8_73 : Code := cdL c8_72
noncomputable def c8_74 : Code := cdR c8_72
noncomputable def r8_1 : Array Oper := cdO c8_1
noncomputable def r8_4 : Array Oper := cdO c8_4
noncomputable def r8_7 : Array Oper := cdO c8_7
noncomputable def r8_11 : Array Oper := cdO c8_11
noncomputable def r8_13 : Array Oper := cdO c8_13
noncomputable def r8_16 : Array Oper := cdO c8_16
noncomputable def r8_20 : Array Oper := cdO c8_20
noncomputable def r8_28 : Array Oper := cdO c8_28
noncomputable def r8_31 : Array Oper := cdO c8_31
noncomputable def r8_36 : Array Oper := cdO c8_36
noncomputable def r8_39 : Array Oper := cdO c8_39
noncomputable def r8_42 : Array Oper := cdO c8_42
noncomputable def r8_46 : Array Oper := cdO c8_46
noncomputable def r8_49 : Array Oper := cdO c8_49
noncomputable def r8_52 : Array Oper := cdO c8_52
noncomputable def r8_57 : Array Oper := cdO c8_57
noncomputable def r8_60 : Array Oper := cdO c8_60
noncomputable def r8_63 : Array Oper := cdO c8_63
noncomputable def r8_65 : Array Oper := cdO c8_65
noncomputable def r8_68 : Array Oper := cdO c8_68
noncomputable def r8_71 : Array Oper := cdO c8_71
noncomputable def r8_73 : Array Oper := cdO c8_73
theorem c8_0e : c8_0 = .seq c8_1 c8_2 := by kernel_rfl
theorem c8_1e : c8_1 = .region 0 r8_1 false := by kernel_rfl
theorem c8_2e : c8_2 = .seq c8_3 c8_10 := by kernel_rfl
theorem c8_3e : c8_3 = .seq c8_4 c8_5 := by kernel_rfl
theorem c8_4e : c8_4 = .region 1 r8_4 false := by kernel_rfl
theorem c8_5e : c8_5 = .cond (cdC c8_5) c8_6 c8_9 := by kernel_rfl
theorem c8_6e : c8_6 = .seq c8_7 c8_8 := by kernel_rfl
theorem c8_7e : c8_7 = .region 2 r8_7 false := by kernel_rfl
theorem c8_8e : c8_8 = .ret := by kernel_rfl
theorem c8_9e : c8_9 = .skip := by kernel_rfl
theorem c8_10e : c8_10 = .seq c8_11 c8_12 := by kernel_rfl
theorem c8_11e : c8_11 = .region 3 r8_11 false := by kernel_rfl
theorem c8_12e : c8_12 = .seq c8_13 c8_14 := by kernel_rfl
theorem c8_13e : c8_13 = .region 4 r8_13 false := by kernel_rfl
theorem c8_14e : c8_14 = .seq c8_15 c8_72 := by kernel_rfl
theorem c8_15e : c8_15 = .seq c8_16 c8_17 := by kernel_rfl
theorem c8_16e : c8_16 = .region 5 r8_16 false := by kernel_rfl
theorem c8_17e : c8_17 = .block 0 c8_18 := by kernel_rfl
theorem c8_18e : c8_18 = .loop c8_19 := by kernel_rfl
theorem c8_19e : c8_19 = .seq c8_20 c8_21 := by kernel_rfl
theorem c8_20e : c8_20 = .region 6 r8_20 false := by kernel_rfl
theorem c8_21e : c8_21 = .seq c8_22 c8_25 := by kernel_rfl
theorem c8_22e : c8_22 = .cond (cdC c8_22) c8_23 c8_24 := by kernel_rfl
theorem c8_23e : c8_23 = .skip := by kernel_rfl
theorem c8_24e : c8_24 = .exit 0 := by kernel_rfl
theorem c8_25e : c8_25 = .seq c8_26 c8_71 := by kernel_rfl
theorem c8_26e : c8_26 = .block 1 c8_27 := by kernel_rfl
theorem c8_27e : c8_27 = .seq c8_28 c8_29 := by kernel_rfl
theorem c8_28e : c8_28 = .region 7 r8_28 false := by kernel_rfl
theorem c8_29e : c8_29 = .seq c8_30 c8_35 := by kernel_rfl
theorem c8_30e : c8_30 = .seq c8_31 c8_32 := by kernel_rfl
theorem c8_31e : c8_31 = .region 8 r8_31 false := by kernel_rfl
theorem c8_32e : c8_32 = .cond (cdC c8_32) c8_33 c8_34 := by kernel_rfl
theorem c8_33e : c8_33 = .exit 0 := by kernel_rfl
theorem c8_34e : c8_34 = .skip := by kernel_rfl
theorem c8_35e : c8_35 = .seq c8_36 c8_37 := by kernel_rfl
theorem c8_36e : c8_36 = .region 9 r8_36 false := by kernel_rfl
theorem c8_37e : c8_37 = .seq c8_38 c8_64 := by kernel_rfl
theorem c8_38e : c8_38 = .seq c8_39 c8_40 := by kernel_rfl
theorem c8_39e : c8_39 = .region 10 r8_39 false := by kernel_rfl
theorem c8_40e : c8_40 = .block 2 c8_41 := by kernel_rfl
theorem c8_41e : c8_41 = .seq c8_42 c8_43 := by kernel_rfl
theorem c8_42e : c8_42 = .region 14 r8_42 false := by kernel_rfl
theorem c8_43e : c8_43 = .cond (cdC c8_43) c8_44 c8_45 := by kernel_rfl
theorem c8_44e : c8_44 = .skip := by kernel_rfl
theorem c8_45e : c8_45 = .seq c8_46 c8_47 := by kernel_rfl
theorem c8_46e : c8_46 = .region 15 r8_46 false := by kernel_rfl
theorem c8_47e : c8_47 = .cond (cdC c8_47) c8_48 c8_55 := by kernel_rfl
theorem c8_48e : c8_48 = .seq c8_49 c8_50 := by kernel_rfl
theorem c8_49e : c8_49 = .region 16 r8_49 false := by kernel_rfl
theorem c8_50e : c8_50 = .cond (cdC c8_50) c8_51 c8_54 := by kernel_rfl
theorem c8_51e : c8_51 = .seq c8_52 c8_53 := by kernel_rfl
theorem c8_52e : c8_52 = .region 17 r8_52 false := by kernel_rfl
theorem c8_53e : c8_53 = .ret := by kernel_rfl
theorem c8_54e : c8_54 = .skip := by kernel_rfl
theorem c8_55e : c8_55 = .seq c8_56 c8_63 := by kernel_rfl
theorem c8_56e : c8_56 = .seq c8_57 c8_58 := by kernel_rfl
theorem c8_57e : c8_57 = .region 11 r8_57 false := by kernel_rfl
theorem c8_58e : c8_58 = .cond (cdC c8_58) c8_59 c8_62 := by kernel_rfl
theorem c8_59e : c8_59 = .seq c8_60 c8_61 := by kernel_rfl
theorem c8_60e : c8_60 = .region 12 r8_60 false := by kernel_rfl
theorem c8_61e : c8_61 = .ret := by kernel_rfl
theorem c8_62e : c8_62 = .skip := by kernel_rfl
theorem c8_63e : c8_63 = .region 13 r8_63 false := by kernel_rfl
theorem c8_64e : c8_64 = .seq c8_65 c8_66 := by kernel_rfl
theorem c8_65e : c8_65 = .region 18 r8_65 true := by kernel_rfl
theorem c8_66e : c8_66 = .cond (cdC c8_66) c8_67 c8_70 := by kernel_rfl
theorem c8_67e : c8_67 = .seq c8_68 c8_69 := by kernel_rfl
theorem c8_68e : c8_68 = .region 19 r8_68 false := by kernel_rfl
theorem c8_69e : c8_69 = .ret := by kernel_rfl
theorem c8_70e : c8_70 = .skip := by kernel_rfl
theorem c8_71e : c8_71 = .region 20 r8_71 false := by kernel_rfl
theorem c8_72e : c8_72 = .seq c8_73 c8_74 := by kernel_rfl
theorem c8_73e : c8_73 = .region 21 r8_73 false := by kernel_rfl
theorem c8_74e : c8_74 = .ret := by kernel_rfl
noncomputable def tontinelaw18_LedgerFences.R (A_2 : Option Addr) (c_3 : Nat) : Pst Bool where
  ε := Unit
  v := fun r x => .bool r
  H := fun r x => []
  B := fun r x => []
noncomputable def tontinelaw18_LedgerFences.cx (A_2 : Option Addr) (c_3 : Nat) (w0 : World) (S0 : Fam) : Cx Bool := ⟨Try.prog, 8, Try.f8, 56, w0, S0, [], 0, tontinelaw18_LedgerFences.R A_2 c_3⟩
theorem tontinelaw18_LedgerFences_j0_ok (n : Nat) (L0 : Int → Int → (List T_ledger_Effect) → (List (T_api_Key × Bool)) → (List (T_api_Key × Bool)) → Int → Int → Int → Option Bool) (calls_1 : (List T_tontinelaw18_Call)) (f_15 : Int) (f_16 : Int) (f_17 : (List T_ledger_Effect)) (f_20 : (List (T_api_Key × Bool))) (f_23 : (List (T_api_Key × Bool))) (f_26 : Int) (f_27 : Int) (x_28 : Int) (r_33 : Bool × Int × T_ledger_Ledger) (A_2 : Option Addr) (c_3 : Nat) (b_7 : Nat) (b_14 : Nat) (A_18 : Option Addr) (c_19 : Nat) (A_21 : Option Addr) (c_22 : Nat) (A_24 : Option Addr) (c_25 : Nat) (A_34 : Option Addr) (c_35 : Nat) (A_36 : Option Addr) (c_37 : Nat) (A_38 : Option Addr) (c_39 : Nat) (w0 : World) (S0 : Fam) (ih0 : ∀ (f_15 : Int) (f_16 : Int) (f_17 : (List T_ledger_Effect)) (f_20 : (List (T_api_Key × Bool))) (f_23 : (List (T_api_Key × Bool))) (f_26 : Int) (f_27 : Int) (x_28 : Int) (A_18 : Option Addr) (c_19 : Nat) (A_21 : Option Addr) (c_22 : Nat) (A_24 : Option Addr) (c_25 : Nat), GoO (tontinelaw18_LedgerFences.cx A_2 c_3 w0 S0) [(3, .pointer (some ⟨b_7, 0, none⟩)), (4, .pointer (some ⟨b_14, 0, none⟩)), (13, .slice A_2 calls_1.length c_3), (14, .int .i64 (calls_1.length : Int)), (15, .int .i64 x_28)] [⟨40, b_7, [.int .u64 f_15, .int .u64 f_16, .slice A_18 f_17.length c_19, .map (mA A_21), .map (mA A_24)]⟩, ⟨44, b_14, [.int .u64 f_26, .int .u64 f_27]⟩] [Ow 41 kT_ledger_Effect A_18 c_19 f_17, Mp 42 ky41 (fun v => .bool v) A_21 c_22 f_20, Mp 43 ky41 (fun v => .bool v) A_24 c_25 f_23, Rd 0 kT_tontinelaw18_Call A_2 c_3 calls_1] [.code c8_19, .inLoop c8_19, .inBlock 0, .code c8_72] (L0 f_15 f_16 f_17 f_20 f_23 f_26 f_27 x_28)) (f_46 : Int) (f_47 : Int) :
    GoO (tontinelaw18_LedgerFences.cx A_2 c_3 w0 S0) [(3, .pointer (some ⟨b_7, 0, none⟩)), (4, .pointer (some ⟨b_14, 0, none⟩)), (13, .slice A_2 calls_1.length c_3), (14, .int .i64 (calls_1.length : Int)), (15, .int .i64 x_28)] [⟨40, b_7, [.int .u64 r_33.2.2.fence.Term, .int .u64 r_33.2.2.fence.Index, .slice A_34 r_33.2.2.effects.length c_35, .map (mA A_36), .map (mA A_38)]⟩, ⟨44, b_14, [.int .u64 f_46, .int .u64 f_47]⟩] [Ow 41 kT_ledger_Effect A_34 c_35 r_33.2.2.effects, Mp 42 ky41 (fun v => .bool v) A_36 c_37 r_33.2.2.said, Mp 43 ky41 (fun v => .bool v) A_38 c_39 r_33.2.2.tombs, Rd 0 kT_tontinelaw18_Call A_2 c_3 calls_1] [.inBlock 2, .code c8_64, .inBlock 1, .code c8_71, .inLoop c8_19, .inBlock 0, .code c8_72] (tontinelaw18_LedgerFences.j0 n L0 x_28 r_33 f_46 f_47) := by
  unfold tontinelaw18_LedgerFences.j0
  refine GoO.inBlock ?_
  refine GoO.seq' c8_64e ?_
  refine GoO.draw c8_65e (by kernel_rfl) [] [⟨44, b_14, [.int .u64 f_46, .int .u64 f_47]⟩] [] (n := 4) (by kernel_rfl) ?_
  simp only [List.replicate]
  refine GoF.take [0, 2] [.p, .b 0] (ks := [3, 4, 13, 14, 15, 51, 53]) (fu := 2) (li := [true, false, true, false]) (env' := [(3, .pointer (some ⟨b_7, 0, none⟩)), (4, .pointer (some ⟨b_14, 0, none⟩)), (13, .slice A_2 calls_1.length c_3), (14, .int .i64 (calls_1.length : Int)), (15, .int .i64 x_28), (51, .pointer (some ⟨b_7, 0, none⟩)), (53, .agg ⟨[.int .u64 f_46, .int .u64 f_47]⟩)]) (ps := [b_14 = b_14]) (hk := [1]) (bk := []) (by kernel_rfl) (And.intro rfl trivial) rfl rfl ?_
  refine OpTo.goF (i := 1) (by kernel_rfl) (hk := [1]) (bk := []) (GoO.call rfl (by kernel_rfl) (by kernel_rfl) (ledger_Ledger_Fence_ok n (⟨(⟨r_33.2.2.fence.Term, r_33.2.2.fence.Index⟩ : T_api_Token), r_33.2.2.effects, r_33.2.2.said, r_33.2.2.tombs⟩ : T_ledger_Ledger) b_7 A_34 c_35 A_36 c_37 A_38 c_39) [[0], [40], [41], [42], [43]] [] [(1, 0)] [(2, 0), (3, 1), (4, 2)] (hks := [0, 1]) (bks := [0, 1, 2, 3]) (by kernel_rfl) (by kernel_rfl) (by kernel_rfl) (.inl rfl) rfl rfl (by kernel_rfl) (by kernel_rfl) _ (fun _ _ => rfl) _ _ (fun _ _ => rfl) (fun _ _ => rfl) (fun _ _ => by kernel_rfl) (fun _ _ => by kernel_rfl) (fun r_48 x_50 => ⟨rfl, rfl, ?_⟩))
  refine GoF.shape (env' := [(3, .pointer (some ⟨b_7, 0, none⟩)), (4, .pointer (some ⟨b_14, 0, none⟩)), (13, .slice A_2 calls_1.length c_3), (14, .int .i64 (calls_1.length : Int)), (15, .int .i64 x_28), (51, .pointer (some ⟨b_7, 0, none⟩)), (52, .agg ⟨[.int .u64 r_48.Term, .int .u64 r_48.Index]⟩), (53, .agg ⟨[.int .u64 f_46, .int .u64 f_47]⟩)]) (H' := [⟨40, b_7, [.int .u64 r_33.2.2.fence.Term, .int .u64 r_33.2.2.fence.Index, .slice A_34 r_33.2.2.effects.length c_35, .map (mA A_36), .map (mA A_38)]⟩, ⟨44, b_14, [.int .u64 f_46, .int .u64 f_47]⟩]) (B' := [Ow 41 kT_ledger_Effect A_34 c_35 r_33.2.2.effects, Mp 42 ky41 (fun v => .bool v) A_36 c_37 r_33.2.2.said, Mp 43 ky41 (fun v => .bool v) A_38 c_39 r_33.2.2.tombs, Rd 0 kT_tontinelaw18_Call A_2 c_3 calls_1]) (ks := [3, 4, 13, 14, 15, 51, 52, 53]) (by kernel_rfl) (by kernel_rfl) (by kernel_rfl) ?_
  refine GoF.take [3] [.p] (ks := [3, 4, 13, 14, 15, 54]) (fu := 0) (li := [true, true, true, true]) (env' := [(3, .pointer (some ⟨b_7, 0, none⟩)), (4, .pointer (some ⟨b_14, 0, none⟩)), (13, .slice A_2 calls_1.length c_3), (14, .int .i64 (calls_1.length : Int)), (15, .int .i64 x_28), (54, .bool (!((r_48.Term == f_46) && ((r_48.Index == f_47) && true))))]) (ps := []) (hk := [1]) (bk := []) (by kernel_rfl) trivial rfl rfl ?_
  refine GoF.done (by kernel_rfl) ?_
  refine GoO.ite' c8_66e (by kernel_rfl) (fun h49 => ?_) (fun h49 => ?_)
  · refine GoO.seq' c8_67e ?_
    refine GoO.region' (is := [0]) c8_68e (by kernel_rfl) ?_
    refine GoO.exec (is := [0]) (hs := [.p]) (rest := []) (ks := [2]) (env' := [(2, .bool false)]) (H' := [⟨40, b_7, [.int .u64 r_33.2.2.fence.Term, .int .u64 r_33.2.2.fence.Index, .slice A_34 r_33.2.2.effects.length c_35, .map (mA A_36), .map (mA A_38)]⟩, ⟨44, b_14, [.int .u64 f_46, .int .u64 f_47]⟩]) (ps := []) (by kernel_rfl) trivial ?_
    refine GoO.regionEnd ?_
    exact GoO.ret' (h := c8_69e) (hs := []) (ps := []) (hk := []) (bk := []) Try.func8 () (by kernel_rfl) trivial (by kernel_rfl) (by kernel_rfl)
  · refine GoO.skip' c8_70e ?_
    refine GoO.inBlock ?_
    refine GoO.region' (is := [0, 1]) c8_71e (by kernel_rfl) ?_
    refine GoO.exec (is := [0, 1]) (hs := [.p, .p]) (rest := []) (ks := [3, 4, 13, 14, 15]) (env' := [(3, .pointer (some ⟨b_7, 0, none⟩)), (4, .pointer (some ⟨b_14, 0, none⟩)), (13, .slice A_2 calls_1.length c_3), (14, .int .i64 (calls_1.length : Int)), (15, .int .i64 (wi64 (x_28 + 1)))]) (H' := [⟨40, b_7, [.int .u64 r_33.2.2.fence.Term, .int .u64 r_33.2.2.fence.Index, .slice A_34 r_33.2.2.effects.length c_35, .map (mA A_36), .map (mA A_38)]⟩, ⟨44, b_14, [.int .u64 f_46, .int .u64 f_47]⟩]) (ps := []) (by kernel_rfl) trivial ?_
    refine GoO.regionEnd ?_
    refine GoO.inLoop ?_
    exact GoO.sub (ks := [3, 4, 13, 14, 15]) (hk := [0, 1]) (bk := [0, 1, 2, 3]) (by kernel_rfl) (by kernel_rfl) (by kernel_rfl) (ih0 r_33.2.2.fence.Term r_33.2.2.fence.Index r_33.2.2.effects r_33.2.2.said r_33.2.2.tombs f_46 f_47 (wi64 (x_28 + 1)) A_34 c_35 A_36 c_37 A_38 c_39)
theorem tontinelaw18_LedgerFences_l0_ok (n : Nat) (calls_1 : (List T_tontinelaw18_Call)) (A_2 : Option Addr) (c_3 : Nat) (b_7 : Nat) (b_14 : Nat) (w0 : World) (S0 : Fam) :
    ∀ (k : Nat) (f_15 : Int) (f_16 : Int) (f_17 : (List T_ledger_Effect)) (f_20 : (List (T_api_Key × Bool))) (f_23 : (List (T_api_Key × Bool))) (f_26 : Int) (f_27 : Int) (x_28 : Int) (A_18 : Option Addr) (c_19 : Nat) (A_21 : Option Addr) (c_22 : Nat) (A_24 : Option Addr) (c_25 : Nat), GoO (tontinelaw18_LedgerFences.cx A_2 c_3 w0 S0) [(3, .pointer (some ⟨b_7, 0, none⟩)), (4, .pointer (some ⟨b_14, 0, none⟩)), (13, .slice A_2 calls_1.length c_3), (14, .int .i64 (calls_1.length : Int)), (15, .int .i64 x_28)] [⟨40, b_7, [.int .u64 f_15, .int .u64 f_16, .slice A_18 f_17.length c_19, .map (mA A_21), .map (mA A_24)]⟩, ⟨44, b_14, [.int .u64 f_26, .int .u64 f_27]⟩] [Ow 41 kT_ledger_Effect A_18 c_19 f_17, Mp 42 ky41 (fun v => .bool v) A_21 c_22 f_20, Mp 43 ky41 (fun v => .bool v) A_24 c_25 f_23, Rd 0 kT_tontinelaw18_Call A_2 c_3 calls_1] [.code c8_19, .inLoop c8_19, .inBlock 0, .code c8_72] (tontinelaw18_LedgerFences.l0 n calls_1 k f_15 f_16 f_17 f_20 f_23 f_26 f_27 x_28) := by
  intro k
  induction k with
  | zero => intros; rw [tontinelaw18_LedgerFences.l0.eq_1]; exact GoO.stop
  | succ k ih0 =>
    intro f_15 f_16 f_17 f_20 f_23 f_26 f_27 x_28 A_18 c_19 A_21 c_22 A_24 c_25
    rw [tontinelaw18_LedgerFences.l0.eq_2]
    refine GoO.seq' c8_19e ?_
    refine GoO.region' (is := [0]) c8_20e (by kernel_rfl) ?_
    refine GoO.exec (is := [0]) (hs := [.p]) (rest := []) (ks := [3, 4, 13, 14, 15, 16]) (env' := [(3, .pointer (some ⟨b_7, 0, none⟩)), (4, .pointer (some ⟨b_14, 0, none⟩)), (13, .slice A_2 calls_1.length c_3), (14, .int .i64 (calls_1.length : Int)), (15, .int .i64 x_28), (16, .bool (decide (x_28 < (calls_1.length : Int))))]) (H' := [⟨40, b_7, [.int .u64 f_15, .int .u64 f_16, .slice A_18 f_17.length c_19, .map (mA A_21), .map (mA A_24)]⟩, ⟨44, b_14, [.int .u64 f_26, .int .u64 f_27]⟩]) (ps := []) (by kernel_rfl) trivial ?_
    refine GoO.regionEnd ?_
    refine GoO.seq' c8_21e ?_
    refine GoO.ite' c8_22e (by kernel_rfl) (fun h29 => ?_) (fun h29 => ?_)
    · refine GoO.skip' c8_23e ?_
      refine GoO.seq' c8_25e ?_
      refine GoO.block' c8_26e ?_
      refine GoO.seq' c8_27e ?_
      refine GoO.region' (is := [0, 1, 2, 3, 4, 5]) c8_28e (by kernel_rfl) ?_
      refine GoO.exec (is := [0]) (hs := [.p]) (rest := [1, 2, 3, 4, 5]) (ks := [3, 4, 13, 14, 15, 17]) (env' := [(3, .pointer (some ⟨b_7, 0, none⟩)), (4, .pointer (some ⟨b_14, 0, none⟩)), (13, .slice A_2 calls_1.length c_3), (14, .int .i64 (calls_1.length : Int)), (15, .int .i64 x_28), (17, .int .i64 x_28)]) (H' := [⟨40, b_7, [.int .u64 f_15, .int .u64 f_16, .slice A_18 f_17.length c_19, .map (mA A_21), .map (mA A_24)]⟩, ⟨44, b_14, [.int .u64 f_26, .int .u64 f_27]⟩]) (ps := []) (by kernel_rfl) trivial ?_
      refine GoO.guard (fun h30 => ?_)
      refine OpTo.go (GoO.idx (kk := .i64) (e := 47) (K := kT_tontinelaw18_Call) (A := A_2) (c := c_3) (xs := calls_1) (iv := x_28) (j := 3) rfl (by kernel_rfl) (by kernel_rfl) (by kernel_rfl) (by kernel_rfl) rfl Reads.rd rfl h30.1 h30.2 (by decide) rfl ?_)
      refine OpTo.go (GoO.ldE' (K := kT_tontinelaw18_Call) (A := A_2) (c := c_3) (xs := calls_1) (iN := x_28.toNat) (off := 0) (j := 3) rfl (by kernel_rfl) rfl Reads.rd (by first | exact idx_lt h30.1 h30.2 | (simp only [List.length_set]; exact idx_lt h30.1 h30.2)) (by decide) (Opn.flat _ _ _ _ _) (v := fun _ => .agg ⟨[.int .u64 ((rdL calls_1 x_28).Token.Term), .int .u64 ((rdL calls_1 x_28).Token.Index), .int .u64 ((rdL calls_1 x_28).Key.Saga), .int .i64 ((rdL calls_1 x_28).Key.Step), .bool ((rdL calls_1 x_28).Key.Back), .string (bs ((rdL calls_1 x_28).Name)), .bool ((rdL calls_1 x_28).Fail)]⟩) (fun _ => by kernel_rfl) _ (fun _ => rfl) (fun _ => ?_))
      refine OpTo.go (GoO.new rfl 45 (cs := [.int .u64 0, .int .u64 0, .int .u64 0, .int .i64 0, .bool false, .string (bs []), .bool false]) (by kernel_rfl) _ (fun _ => rfl) (fun b_31 => ?_))
      refine GoO.exec (is := [4, 5]) (hs := [.p, .b 0]) (rest := []) (ks := [3, 4, 5, 6, 13, 14, 15]) (env' := [(3, .pointer (some ⟨b_7, 0, none⟩)), (4, .pointer (some ⟨b_14, 0, none⟩)), (5, .int .i64 x_28), (6, .pointer (some ⟨b_31, 0, none⟩)), (13, .slice A_2 calls_1.length c_3), (14, .int .i64 (calls_1.length : Int)), (15, .int .i64 x_28)]) (H' := [⟨45, b_31, [.int .u64 ((rdL calls_1 x_28).Token.Term), .int .u64 ((rdL calls_1 x_28).Token.Index), .int .u64 ((rdL calls_1 x_28).Key.Saga), .int .i64 ((rdL calls_1 x_28).Key.Step), .bool ((rdL calls_1 x_28).Key.Back), .string (bs ((rdL calls_1 x_28).Name)), .bool ((rdL calls_1 x_28).Fail)]⟩, ⟨40, b_7, [.int .u64 f_15, .int .u64 f_16, .slice A_18 f_17.length c_19, .map (mA A_21), .map (mA A_24)]⟩, ⟨44, b_14, [.int .u64 f_26, .int .u64 f_27]⟩]) (ps := [b_31 = b_31]) (by kernel_rfl) (And.intro rfl trivial) ?_
      refine GoO.regionEnd ?_
      refine GoO.seq' c8_29e ?_
      refine GoO.seq' c8_30e ?_
      refine GoO.region' (is := [0, 1]) c8_31e (by kernel_rfl) ?_
      refine GoO.exec (is := [0, 1]) (hs := [.p, .p]) (rest := []) (ks := [3, 4, 6, 13, 14, 15, 21]) (env' := [(3, .pointer (some ⟨b_7, 0, none⟩)), (4, .pointer (some ⟨b_14, 0, none⟩)), (6, .pointer (some ⟨b_31, 0, none⟩)), (13, .slice A_2 calls_1.length c_3), (14, .int .i64 (calls_1.length : Int)), (15, .int .i64 x_28), (21, .bool (x_28 == 500))]) (H' := [⟨45, b_31, [.int .u64 ((rdL calls_1 x_28).Token.Term), .int .u64 ((rdL calls_1 x_28).Token.Index), .int .u64 ((rdL calls_1 x_28).Key.Saga), .int .i64 ((rdL calls_1 x_28).Key.Step), .bool ((rdL calls_1 x_28).Key.Back), .string (bs ((rdL calls_1 x_28).Name)), .bool ((rdL calls_1 x_28).Fail)]⟩, ⟨40, b_7, [.int .u64 f_15, .int .u64 f_16, .slice A_18 f_17.length c_19, .map (mA A_21), .map (mA A_24)]⟩, ⟨44, b_14, [.int .u64 f_26, .int .u64 f_27]⟩]) (ps := []) (by kernel_rfl) trivial ?_
      refine GoO.regionEnd ?_
      refine GoO.ite' c8_32e (by kernel_rfl) (fun h32 => ?_) (fun h32 => ?_)
      · refine GoO.exit' c8_33e rfl ?_
        refine GoO.seq' c8_72e ?_
        refine GoO.region' (is := [0]) c8_73e (by kernel_rfl) ?_
        refine GoO.exec (is := [0]) (hs := [.p]) (rest := []) (ks := [2]) (env' := [(2, .bool true)]) (H' := [⟨45, b_31, [.int .u64 ((rdL calls_1 x_28).Token.Term), .int .u64 ((rdL calls_1 x_28).Token.Index), .int .u64 ((rdL calls_1 x_28).Key.Saga), .int .i64 ((rdL calls_1 x_28).Key.Step), .bool ((rdL calls_1 x_28).Key.Back), .string (bs ((rdL calls_1 x_28).Name)), .bool ((rdL calls_1 x_28).Fail)]⟩, ⟨40, b_7, [.int .u64 f_15, .int .u64 f_16, .slice A_18 f_17.length c_19, .map (mA A_21), .map (mA A_24)]⟩, ⟨44, b_14, [.int .u64 f_26, .int .u64 f_27]⟩]) (ps := []) (by kernel_rfl) trivial ?_
        refine GoO.regionEnd ?_
        exact GoO.ret' (h := c8_74e) (hs := []) (ps := []) (hk := []) (bk := []) Try.func8 () (by kernel_rfl) trivial (by kernel_rfl) (by kernel_rfl)
      · refine GoO.skip' c8_34e ?_
        refine GoO.seq' c8_35e ?_
        refine GoO.region' (is := [0, 1, 2, 3, 4, 5, 6, 7, 8, 9, 10, 11, 12, 13, 14]) c8_36e (by kernel_rfl) ?_
        refine GoO.exec (is := [0, 1, 2, 3, 4, 5, 6, 7, 8]) (hs := [.p, .p, .b 0, .p, .b 0, .p, .b 0, .p, .b 0]) (rest := [9, 10, 11, 12, 13, 14]) (ks := [3, 4, 6, 13, 14, 15, 23, 25, 27, 29, 31]) (env' := [(3, .pointer (some ⟨b_7, 0, none⟩)), (4, .pointer (some ⟨b_14, 0, none⟩)), (6, .pointer (some ⟨b_31, 0, none⟩)), (13, .slice A_2 calls_1.length c_3), (14, .int .i64 (calls_1.length : Int)), (15, .int .i64 x_28), (23, .pointer (some ⟨b_7, 0, none⟩)), (25, .agg ⟨[.int .u64 ((rdL calls_1 x_28).Token.Term), .int .u64 ((rdL calls_1 x_28).Token.Index)]⟩), (27, .agg ⟨[.int .u64 ((rdL calls_1 x_28).Key.Saga), .int .i64 ((rdL calls_1 x_28).Key.Step), .bool ((rdL calls_1 x_28).Key.Back)]⟩), (29, .string (bs ((rdL calls_1 x_28).Name))), (31, .bool ((rdL calls_1 x_28).Fail))]) (H' := [⟨45, b_31, [.int .u64 ((rdL calls_1 x_28).Token.Term), .int .u64 ((rdL calls_1 x_28).Token.Index), .int .u64 ((rdL calls_1 x_28).Key.Saga), .int .i64 ((rdL calls_1 x_28).Key.Step), .bool ((rdL calls_1 x_28).Key.Back), .string (bs ((rdL calls_1 x_28).Name)), .bool ((rdL calls_1 x_28).Fail)]⟩, ⟨40, b_7, [.int .u64 f_15, .int .u64 f_16, .slice A_18 f_17.length c_19, .map (mA A_21), .map (mA A_24)]⟩, ⟨44, b_14, [.int .u64 f_26, .int .u64 f_27]⟩]) (ps := [b_31 = b_31, b_31 = b_31, b_31 = b_31, b_31 = b_31]) (by kernel_rfl) (And.intro rfl (And.intro rfl (And.intro rfl (And.intro rfl trivial)))) ?_
        refine OpTo.go (GoO.call rfl (by kernel_rfl) (by kernel_rfl) (ledger_Ledger_Ask_ok n (⟨(⟨f_15, f_16⟩ : T_api_Token), f_17, f_20, f_23⟩ : T_ledger_Ledger) (⟨(rdL calls_1 x_28).Token.Term, (rdL calls_1 x_28).Token.Index⟩ : T_api_Token) (⟨(rdL calls_1 x_28).Key.Saga, (rdL calls_1 x_28).Key.Step, (rdL calls_1 x_28).Key.Back⟩ : T_api_Key) ((rdL calls_1 x_28).Name) ((rdL calls_1 x_28).Fail) b_7 A_18 c_19 A_21 c_22 A_24 c_25) [[0], [40], [41], [42], [43]] [(40, 1), (41, 2), (42, 3), (43, 4)] [(1, 1)] [(2, 0), (3, 1), (4, 2)] (hks := [0, 2]) (bks := [3]) (by kernel_rfl) (by kernel_rfl) (by kernel_rfl) (.inl rfl) rfl rfl (by kernel_rfl) (by kernel_rfl) _ (fun _ _ => rfl) _ _ (fun _ _ => rfl) (fun _ _ => rfl) (fun _ _ => by kernel_rfl) (fun _ _ => by kernel_rfl) (fun r_33 x_51 => ?_))
        obtain ⟨A_34, c_35, A_36, c_37, A_38, c_39⟩ := x_51
        refine GoO.shape (env' := [(3, .pointer (some ⟨b_7, 0, none⟩)), (4, .pointer (some ⟨b_14, 0, none⟩)), (6, .pointer (some ⟨b_31, 0, none⟩)), (13, .slice A_2 calls_1.length c_3), (14, .int .i64 (calls_1.length : Int)), (15, .int .i64 x_28), (23, .pointer (some ⟨b_7, 0, none⟩)), (25, .agg ⟨[.int .u64 ((rdL calls_1 x_28).Token.Term), .int .u64 ((rdL calls_1 x_28).Token.Index)]⟩), (27, .agg ⟨[.int .u64 ((rdL calls_1 x_28).Key.Saga), .int .i64 ((rdL calls_1 x_28).Key.Step), .bool ((rdL calls_1 x_28).Key.Back)]⟩), (29, .string (bs ((rdL calls_1 x_28).Name))), (31, .bool ((rdL calls_1 x_28).Fail)), (32, .tuple ⟨[.bool r_33.1, .int .i64 r_33.2.1]⟩)]) (H' := [⟨40, b_7, [.int .u64 r_33.2.2.fence.Term, .int .u64 r_33.2.2.fence.Index, .slice A_34 r_33.2.2.effects.length c_35, .map (mA A_36), .map (mA A_38)]⟩, ⟨45, b_31, [.int .u64 ((rdL calls_1 x_28).Token.Term), .int .u64 ((rdL calls_1 x_28).Token.Index), .int .u64 ((rdL calls_1 x_28).Key.Saga), .int .i64 ((rdL calls_1 x_28).Key.Step), .bool ((rdL calls_1 x_28).Key.Back), .string (bs ((rdL calls_1 x_28).Name)), .bool ((rdL calls_1 x_28).Fail)]⟩, ⟨44, b_14, [.int .u64 f_26, .int .u64 f_27]⟩]) (B' := [Ow 41 kT_ledger_Effect A_34 c_35 r_33.2.2.effects, Mp 42 ky41 (fun v => .bool v) A_36 c_37 r_33.2.2.said, Mp 43 ky41 (fun v => .bool v) A_38 c_39 r_33.2.2.tombs, Rd 0 kT_tontinelaw18_Call A_2 c_3 calls_1]) (ks := [3, 4, 6, 13, 14, 15, 23, 25, 27, 29, 31, 32]) (by kernel_rfl) (by kernel_rfl) (by kernel_rfl) ?_
        refine GoO.exec (is := [10, 11, 12, 13, 14]) (hs := [.p, .p, .p, .p, .p]) (rest := []) (ks := [3, 4, 6, 8, 13, 14, 15]) (env' := [(3, .pointer (some ⟨b_7, 0, none⟩)), (4, .pointer (some ⟨b_14, 0, none⟩)), (6, .pointer (some ⟨b_31, 0, none⟩)), (8, .int .i64 r_33.2.1), (13, .slice A_2 calls_1.length c_3), (14, .int .i64 (calls_1.length : Int)), (15, .int .i64 x_28)]) (H' := [⟨40, b_7, [.int .u64 r_33.2.2.fence.Term, .int .u64 r_33.2.2.fence.Index, .slice A_34 r_33.2.2.effects.length c_35, .map (mA A_36), .map (mA A_38)]⟩, ⟨45, b_31, [.int .u64 ((rdL calls_1 x_28).Token.Term), .int .u64 ((rdL calls_1 x_28).Token.Index), .int .u64 ((rdL calls_1 x_28).Key.Saga), .int .i64 ((rdL calls_1 x_28).Key.Step), .bool ((rdL calls_1 x_28).Key.Back), .string (bs ((rdL calls_1 x_28).Name)), .bool ((rdL calls_1 x_28).Fail)]⟩, ⟨44, b_14, [.int .u64 f_26, .int .u64 f_27]⟩]) (ps := []) (by kernel_rfl) trivial ?_
        refine GoO.regionEnd ?_
        refine GoO.seq' c8_37e ?_
        refine GoO.seq' c8_38e ?_
        refine GoO.region' (is := [0]) c8_39e (by kernel_rfl) ?_
        refine GoO.exec (is := [0]) (hs := [.p]) (rest := []) (ks := [3, 4, 6, 13, 14, 15, 35]) (env' := [(3, .pointer (some ⟨b_7, 0, none⟩)), (4, .pointer (some ⟨b_14, 0, none⟩)), (6, .pointer (some ⟨b_31, 0, none⟩)), (13, .slice A_2 calls_1.length c_3), (14, .int .i64 (calls_1.length : Int)), (15, .int .i64 x_28), (35, .int .i64 r_33.2.1)]) (H' := [⟨40, b_7, [.int .u64 r_33.2.2.fence.Term, .int .u64 r_33.2.2.fence.Index, .slice A_34 r_33.2.2.effects.length c_35, .map (mA A_36), .map (mA A_38)]⟩, ⟨45, b_31, [.int .u64 ((rdL calls_1 x_28).Token.Term), .int .u64 ((rdL calls_1 x_28).Token.Index), .int .u64 ((rdL calls_1 x_28).Key.Saga), .int .i64 ((rdL calls_1 x_28).Key.Step), .bool ((rdL calls_1 x_28).Key.Back), .string (bs ((rdL calls_1 x_28).Name)), .bool ((rdL calls_1 x_28).Fail)]⟩, ⟨44, b_14, [.int .u64 f_26, .int .u64 f_27]⟩]) (ps := []) (by kernel_rfl) trivial ?_
        refine GoO.regionEnd ?_
        refine GoO.block' c8_40e ?_
        refine GoO.seq' c8_41e ?_
        refine GoO.region' (is := [0, 1]) c8_42e (by kernel_rfl) ?_
        refine GoO.exec (is := [0, 1]) (hs := [.p, .p]) (rest := []) (ks := [3, 4, 6, 13, 14, 15, 35, 42]) (env' := [(3, .pointer (some ⟨b_7, 0, none⟩)), (4, .pointer (some ⟨b_14, 0, none⟩)), (6, .pointer (some ⟨b_31, 0, none⟩)), (13, .slice A_2 calls_1.length c_3), (14, .int .i64 (calls_1.length : Int)), (15, .int .i64 x_28), (35, .int .i64 r_33.2.1), (42, .bool (r_33.2.1 == 1))]) (H' := [⟨40, b_7, [.int .u64 r_33.2.2.fence.Term, .int .u64 r_33.2.2.fence.Index, .slice A_34 r_33.2.2.effects.length c_35, .map (mA A_36), .map (mA A_38)]⟩, ⟨45, b_31, [.int .u64 ((rdL calls_1 x_28).Token.Term), .int .u64 ((rdL calls_1 x_28).Token.Index), .int .u64 ((rdL calls_1 x_28).Key.Saga), .int .i64 ((rdL calls_1 x_28).Key.Step), .bool ((rdL calls_1 x_28).Key.Back), .string (bs ((rdL calls_1 x_28).Name)), .bool ((rdL calls_1 x_28).Fail)]⟩, ⟨44, b_14, [.int .u64 f_26, .int .u64 f_27]⟩]) (ps := []) (by kernel_rfl) trivial ?_
        refine GoO.regionEnd ?_
        refine GoO.ite' c8_43e (by kernel_rfl) (fun h40 => ?_) (fun h40 => ?_)
        · refine GoO.skip' c8_44e ?_
          exact GoO.sub (ks := [3, 4, 13, 14, 15]) (hk := [0, 2]) (bk := [0, 1, 2, 3]) (by kernel_rfl) (by kernel_rfl) (by kernel_rfl) (tontinelaw18_LedgerFences_j0_ok n (tontinelaw18_LedgerFences.l0 n calls_1 k) calls_1 f_15 f_16 f_17 f_20 f_23 f_26 f_27 x_28 r_33 A_2 c_3 b_7 b_14 A_18 c_19 A_21 c_22 A_24 c_25 A_34 c_35 A_36 c_37 A_38 c_39 w0 S0 ih0 f_26 f_27)
        · refine GoO.seq' c8_45e ?_
          refine GoO.region' (is := [0, 1]) c8_46e (by kernel_rfl) ?_
          refine GoO.exec (is := [0, 1]) (hs := [.p, .p]) (rest := []) (ks := [3, 4, 6, 13, 14, 15, 44]) (env' := [(3, .pointer (some ⟨b_7, 0, none⟩)), (4, .pointer (some ⟨b_14, 0, none⟩)), (6, .pointer (some ⟨b_31, 0, none⟩)), (13, .slice A_2 calls_1.length c_3), (14, .int .i64 (calls_1.length : Int)), (15, .int .i64 x_28), (44, .bool (r_33.2.1 == 50))]) (H' := [⟨40, b_7, [.int .u64 r_33.2.2.fence.Term, .int .u64 r_33.2.2.fence.Index, .slice A_34 r_33.2.2.effects.length c_35, .map (mA A_36), .map (mA A_38)]⟩, ⟨45, b_31, [.int .u64 ((rdL calls_1 x_28).Token.Term), .int .u64 ((rdL calls_1 x_28).Token.Index), .int .u64 ((rdL calls_1 x_28).Key.Saga), .int .i64 ((rdL calls_1 x_28).Key.Step), .bool ((rdL calls_1 x_28).Key.Back), .string (bs ((rdL calls_1 x_28).Name)), .bool ((rdL calls_1 x_28).Fail)]⟩, ⟨44, b_14, [.int .u64 f_26, .int .u64 f_27]⟩]) (ps := []) (by kernel_rfl) trivial ?_
          refine GoO.regionEnd ?_
          refine GoO.ite' c8_47e (by kernel_rfl) (fun h41 => ?_) (fun h41 => ?_)
          · refine GoO.seq' c8_48e ?_
            refine GoO.region' (is := [0, 1, 2, 3, 4]) c8_49e (by kernel_rfl) ?_
            refine GoO.exec (is := [0, 1, 2]) (hs := [.p, .b 1, .b 2]) (rest := [3, 4]) (ks := [3, 4, 13, 14, 15, 47, 48]) (env' := [(3, .pointer (some ⟨b_7, 0, none⟩)), (4, .pointer (some ⟨b_14, 0, none⟩)), (13, .slice A_2 calls_1.length c_3), (14, .int .i64 (calls_1.length : Int)), (15, .int .i64 x_28), (47, .agg ⟨[.int .u64 ((rdL calls_1 x_28).Token.Term), .int .u64 ((rdL calls_1 x_28).Token.Index)]⟩), (48, .agg ⟨[.int .u64 f_26, .int .u64 f_27]⟩)]) (H' := [⟨40, b_7, [.int .u64 r_33.2.2.fence.Term, .int .u64 r_33.2.2.fence.Index, .slice A_34 r_33.2.2.effects.length c_35, .map (mA A_36), .map (mA A_38)]⟩, ⟨45, b_31, [.int .u64 ((rdL calls_1 x_28).Token.Term), .int .u64 ((rdL calls_1 x_28).Token.Index), .int .u64 ((rdL calls_1 x_28).Key.Saga), .int .i64 ((rdL calls_1 x_28).Key.Step), .bool ((rdL calls_1 x_28).Key.Back), .string (bs ((rdL calls_1 x_28).Name)), .bool ((rdL calls_1 x_28).Fail)]⟩, ⟨44, b_14, [.int .u64 f_26, .int .u64 f_27]⟩]) (ps := [b_31 = b_31, b_14 = b_14]) (by kernel_rfl) (And.intro rfl (And.intro rfl trivial)) ?_
            refine OpTo.go (GoO.call rfl (by kernel_rfl) (by kernel_rfl) (ledger_Less_ok n (⟨(rdL calls_1 x_28).Token.Term, (rdL calls_1 x_28).Token.Index⟩ : T_api_Token) (⟨f_26, f_27⟩ : T_api_Token)) [[0]] [] [] [] (hks := [0, 1, 2]) (bks := [0, 1, 2, 3]) (by kernel_rfl) (by kernel_rfl) (by kernel_rfl) (.inl rfl) rfl rfl (by kernel_rfl) (by kernel_rfl) _ (fun _ _ => rfl) _ _ (fun _ _ => rfl) (fun _ _ => rfl) (fun _ _ => by kernel_rfl) (fun _ _ => by kernel_rfl) (fun r_42 x_44 => ?_))
            refine GoO.shape (env' := [(3, .pointer (some ⟨b_7, 0, none⟩)), (4, .pointer (some ⟨b_14, 0, none⟩)), (13, .slice A_2 calls_1.length c_3), (14, .int .i64 (calls_1.length : Int)), (15, .int .i64 x_28), (47, .agg ⟨[.int .u64 ((rdL calls_1 x_28).Token.Term), .int .u64 ((rdL calls_1 x_28).Token.Index)]⟩), (48, .agg ⟨[.int .u64 f_26, .int .u64 f_27]⟩), (49, .bool r_42)]) (H' := [⟨40, b_7, [.int .u64 r_33.2.2.fence.Term, .int .u64 r_33.2.2.fence.Index, .slice A_34 r_33.2.2.effects.length c_35, .map (mA A_36), .map (mA A_38)]⟩, ⟨45, b_31, [.int .u64 ((rdL calls_1 x_28).Token.Term), .int .u64 ((rdL calls_1 x_28).Token.Index), .int .u64 ((rdL calls_1 x_28).Key.Saga), .int .i64 ((rdL calls_1 x_28).Key.Step), .bool ((rdL calls_1 x_28).Key.Back), .string (bs ((rdL calls_1 x_28).Name)), .bool ((rdL calls_1 x_28).Fail)]⟩, ⟨44, b_14, [.int .u64 f_26, .int .u64 f_27]⟩]) (B' := [Ow 41 kT_ledger_Effect A_34 c_35 r_33.2.2.effects, Mp 42 ky41 (fun v => .bool v) A_36 c_37 r_33.2.2.said, Mp 43 ky41 (fun v => .bool v) A_38 c_39 r_33.2.2.tombs, Rd 0 kT_tontinelaw18_Call A_2 c_3 calls_1]) (ks := [3, 4, 13, 14, 15, 47, 48, 49]) (by kernel_rfl) (by kernel_rfl) (by kernel_rfl) ?_
            refine GoO.exec (is := [4]) (hs := [.p]) (rest := []) (ks := [3, 4, 13, 14, 15, 50]) (env' := [(3, .pointer (some ⟨b_7, 0, none⟩)), (4, .pointer (some ⟨b_14, 0, none⟩)), (13, .slice A_2 calls_1.length c_3), (14, .int .i64 (calls_1.length : Int)), (15, .int .i64 x_28), (50, .bool (!r_42))]) (H' := [⟨40, b_7, [.int .u64 r_33.2.2.fence.Term, .int .u64 r_33.2.2.fence.Index, .slice A_34 r_33.2.2.effects.length c_35, .map (mA A_36), .map (mA A_38)]⟩, ⟨45, b_31, [.int .u64 ((rdL calls_1 x_28).Token.Term), .int .u64 ((rdL calls_1 x_28).Token.Index), .int .u64 ((rdL calls_1 x_28).Key.Saga), .int .i64 ((rdL calls_1 x_28).Key.Step), .bool ((rdL calls_1 x_28).Key.Back), .string (bs ((rdL calls_1 x_28).Name)), .bool ((rdL calls_1 x_28).Fail)]⟩, ⟨44, b_14, [.int .u64 f_26, .int .u64 f_27]⟩]) (ps := []) (by kernel_rfl) trivial ?_
            refine GoO.regionEnd ?_
            refine GoO.ite' c8_50e (by kernel_rfl) (fun h43 => ?_) (fun h43 => ?_)
            · refine GoO.seq' c8_51e ?_
              refine GoO.region' (is := [0]) c8_52e (by kernel_rfl) ?_
              refine GoO.exec (is := [0]) (hs := [.p]) (rest := []) (ks := [2]) (env' := [(2, .bool false)]) (H' := [⟨40, b_7, [.int .u64 r_33.2.2.fence.Term, .int .u64 r_33.2.2.fence.Index, .slice A_34 r_33.2.2.effects.length c_35, .map (mA A_36), .map (mA A_38)]⟩, ⟨45, b_31, [.int .u64 ((rdL calls_1 x_28).Token.Term), .int .u64 ((rdL calls_1 x_28).Token.Index), .int .u64 ((rdL calls_1 x_28).Key.Saga), .int .i64 ((rdL calls_1 x_28).Key.Step), .bool ((rdL calls_1 x_28).Key.Back), .string (bs ((rdL calls_1 x_28).Name)), .bool ((rdL calls_1 x_28).Fail)]⟩, ⟨44, b_14, [.int .u64 f_26, .int .u64 f_27]⟩]) (ps := []) (by kernel_rfl) trivial ?_
              refine GoO.regionEnd ?_
              exact GoO.ret' (h := c8_53e) (hs := []) (ps := []) (hk := []) (bk := []) Try.func8 () (by kernel_rfl) trivial (by kernel_rfl) (by kernel_rfl)
            · refine GoO.skip' c8_54e ?_
              exact GoO.sub (ks := [3, 4, 13, 14, 15]) (hk := [0, 2]) (bk := [0, 1, 2, 3]) (by kernel_rfl) (by kernel_rfl) (by kernel_rfl) (tontinelaw18_LedgerFences_j0_ok n (tontinelaw18_LedgerFences.l0 n calls_1 k) calls_1 f_15 f_16 f_17 f_20 f_23 f_26 f_27 x_28 r_33 A_2 c_3 b_7 b_14 A_18 c_19 A_21 c_22 A_24 c_25 A_34 c_35 A_36 c_37 A_38 c_39 w0 S0 ih0 f_26 f_27)
          · refine GoO.seq' c8_55e ?_
            refine GoO.seq' c8_56e ?_
            refine GoO.region' (is := [0, 1, 2, 3]) c8_57e (by kernel_rfl) ?_
            refine GoO.exec (is := [0, 1, 2]) (hs := [.p, .b 1, .b 2]) (rest := [3]) (ks := [3, 4, 6, 13, 14, 15, 37, 38]) (env' := [(3, .pointer (some ⟨b_7, 0, none⟩)), (4, .pointer (some ⟨b_14, 0, none⟩)), (6, .pointer (some ⟨b_31, 0, none⟩)), (13, .slice A_2 calls_1.length c_3), (14, .int .i64 (calls_1.length : Int)), (15, .int .i64 x_28), (37, .agg ⟨[.int .u64 ((rdL calls_1 x_28).Token.Term), .int .u64 ((rdL calls_1 x_28).Token.Index)]⟩), (38, .agg ⟨[.int .u64 f_26, .int .u64 f_27]⟩)]) (H' := [⟨40, b_7, [.int .u64 r_33.2.2.fence.Term, .int .u64 r_33.2.2.fence.Index, .slice A_34 r_33.2.2.effects.length c_35, .map (mA A_36), .map (mA A_38)]⟩, ⟨45, b_31, [.int .u64 ((rdL calls_1 x_28).Token.Term), .int .u64 ((rdL calls_1 x_28).Token.Index), .int .u64 ((rdL calls_1 x_28).Key.Saga), .int .i64 ((rdL calls_1 x_28).Key.Step), .bool ((rdL calls_1 x_28).Key.Back), .string (bs ((rdL calls_1 x_28).Name)), .bool ((rdL calls_1 x_28).Fail)]⟩, ⟨44, b_14, [.int .u64 f_26, .int .u64 f_27]⟩]) (ps := [b_31 = b_31, b_14 = b_14]) (by kernel_rfl) (And.intro rfl (And.intro rfl trivial)) ?_
            refine OpTo.go (GoO.call rfl (by kernel_rfl) (by kernel_rfl) (ledger_Less_ok n (⟨(rdL calls_1 x_28).Token.Term, (rdL calls_1 x_28).Token.Index⟩ : T_api_Token) (⟨f_26, f_27⟩ : T_api_Token)) [[0]] [] [] [] (hks := [0, 1, 2]) (bks := [0, 1, 2, 3]) (by kernel_rfl) (by kernel_rfl) (by kernel_rfl) (.inl rfl) rfl rfl (by kernel_rfl) (by kernel_rfl) _ (fun _ _ => rfl) _ _ (fun _ _ => rfl) (fun _ _ => rfl) (fun _ _ => by kernel_rfl) (fun _ _ => by kernel_rfl) (fun r_45 x_47 => ?_))
            refine GoO.shape (env' := [(3, .pointer (some ⟨b_7, 0, none⟩)), (4, .pointer (some ⟨b_14, 0, none⟩)), (6, .pointer (some ⟨b_31, 0, none⟩)), (13, .slice A_2 calls_1.length c_3), (14, .int .i64 (calls_1.length : Int)), (15, .int .i64 x_28), (37, .agg ⟨[.int .u64 ((rdL calls_1 x_28).Token.Term), .int .u64 ((rdL calls_1 x_28).Token.Index)]⟩), (38, .agg ⟨[.int .u64 f_26, .int .u64 f_27]⟩), (39, .bool r_45)]) (H' := [⟨40, b_7, [.int .u64 r_33.2.2.fence.Term, .int .u64 r_33.2.2.fence.Index, .slice A_34 r_33.2.2.effects.length c_35, .map (mA A_36), .map (mA A_38)]⟩, ⟨45, b_31, [.int .u64 ((rdL calls_1 x_28).Token.Term), .int .u64 ((rdL calls_1 x_28).Token.Index), .int .u64 ((rdL calls_1 x_28).Key.Saga), .int .i64 ((rdL calls_1 x_28).Key.Step), .bool ((rdL calls_1 x_28).Key.Back), .string (bs ((rdL calls_1 x_28).Name)), .bool ((rdL calls_1 x_28).Fail)]⟩, ⟨44, b_14, [.int .u64 f_26, .int .u64 f_27]⟩]) (B' := [Ow 41 kT_ledger_Effect A_34 c_35 r_33.2.2.effects, Mp 42 ky41 (fun v => .bool v) A_36 c_37 r_33.2.2.said, Mp 43 ky41 (fun v => .bool v) A_38 c_39 r_33.2.2.tombs, Rd 0 kT_tontinelaw18_Call A_2 c_3 calls_1]) (ks := [3, 4, 6, 13, 14, 15, 37, 38, 39]) (by kernel_rfl) (by kernel_rfl) (by kernel_rfl) ?_
            refine GoO.regionEnd ?_
            refine GoO.ite' c8_58e (by kernel_rfl) (fun h46 => ?_) (fun h46 => ?_)
            · refine GoO.seq' c8_59e ?_
              refine GoO.region' (is := [0]) c8_60e (by kernel_rfl) ?_
              refine GoO.exec (is := [0]) (hs := [.p]) (rest := []) (ks := [2]) (env' := [(2, .bool false)]) (H' := [⟨40, b_7, [.int .u64 r_33.2.2.fence.Term, .int .u64 r_33.2.2.fence.Index, .slice A_34 r_33.2.2.effects.length c_35, .map (mA A_36), .map (mA A_38)]⟩, ⟨45, b_31, [.int .u64 ((rdL calls_1 x_28).Token.Term), .int .u64 ((rdL calls_1 x_28).Token.Index), .int .u64 ((rdL calls_1 x_28).Key.Saga), .int .i64 ((rdL calls_1 x_28).Key.Step), .bool ((rdL calls_1 x_28).Key.Back), .string (bs ((rdL calls_1 x_28).Name)), .bool ((rdL calls_1 x_28).Fail)]⟩, ⟨44, b_14, [.int .u64 f_26, .int .u64 f_27]⟩]) (ps := []) (by kernel_rfl) trivial ?_
              refine GoO.regionEnd ?_
              exact GoO.ret' (h := c8_61e) (hs := []) (ps := []) (hk := []) (bk := []) Try.func8 () (by kernel_rfl) trivial (by kernel_rfl) (by kernel_rfl)
            · refine GoO.skip' c8_62e ?_
              refine GoO.region' (is := [0, 1, 2]) c8_63e (by kernel_rfl) ?_
              refine GoO.exec (is := [0, 1, 2]) (hs := [.p, .b 1, .b 2]) (rest := []) (ks := [3, 4, 13, 14, 15]) (env' := [(3, .pointer (some ⟨b_7, 0, none⟩)), (4, .pointer (some ⟨b_14, 0, none⟩)), (13, .slice A_2 calls_1.length c_3), (14, .int .i64 (calls_1.length : Int)), (15, .int .i64 x_28)]) (H' := [⟨40, b_7, [.int .u64 r_33.2.2.fence.Term, .int .u64 r_33.2.2.fence.Index, .slice A_34 r_33.2.2.effects.length c_35, .map (mA A_36), .map (mA A_38)]⟩, ⟨45, b_31, [.int .u64 ((rdL calls_1 x_28).Token.Term), .int .u64 ((rdL calls_1 x_28).Token.Index), .int .u64 ((rdL calls_1 x_28).Key.Saga), .int .i64 ((rdL calls_1 x_28).Key.Step), .bool ((rdL calls_1 x_28).Key.Back), .string (bs ((rdL calls_1 x_28).Name)), .bool ((rdL calls_1 x_28).Fail)]⟩, ⟨44, b_14, [.int .u64 ((rdL calls_1 x_28).Token.Term), .int .u64 ((rdL calls_1 x_28).Token.Index)]⟩]) (ps := [b_31 = b_31, b_14 = b_14]) (by kernel_rfl) (And.intro rfl (And.intro rfl trivial)) ?_
              refine GoO.regionEnd ?_
              exact GoO.sub (ks := [3, 4, 13, 14, 15]) (hk := [0, 2]) (bk := [0, 1, 2, 3]) (by kernel_rfl) (by kernel_rfl) (by kernel_rfl) (tontinelaw18_LedgerFences_j0_ok n (tontinelaw18_LedgerFences.l0 n calls_1 k) calls_1 f_15 f_16 f_17 f_20 f_23 f_26 f_27 x_28 r_33 A_2 c_3 b_7 b_14 A_18 c_19 A_21 c_22 A_24 c_25 A_34 c_35 A_36 c_37 A_38 c_39 w0 S0 ih0 ((rdL calls_1 x_28).Token.Term) ((rdL calls_1 x_28).Token.Index))
    · refine GoO.exit' c8_24e rfl ?_
      refine GoO.seq' c8_72e ?_
      refine GoO.region' (is := [0]) c8_73e (by kernel_rfl) ?_
      refine GoO.exec (is := [0]) (hs := [.p]) (rest := []) (ks := [2]) (env' := [(2, .bool true)]) (H' := [⟨40, b_7, [.int .u64 f_15, .int .u64 f_16, .slice A_18 f_17.length c_19, .map (mA A_21), .map (mA A_24)]⟩, ⟨44, b_14, [.int .u64 f_26, .int .u64 f_27]⟩]) (ps := []) (by kernel_rfl) trivial ?_
      refine GoO.regionEnd ?_
      exact GoO.ret' (h := c8_74e) (hs := []) (ps := []) (hk := []) (bk := []) Try.func8 () (by kernel_rfl) trivial (by kernel_rfl) (by kernel_rfl)
theorem tontinelaw18_LedgerFences_ok (n : Nat) (calls_1 : (List T_tontinelaw18_Call)) (A_2 : Option Addr) (c_3 : Nat) :
    Meets Try.prog 8 [.slice A_2 calls_1.length c_3] 0 [] [] [Rd 0 kT_tontinelaw18_Call A_2 c_3 calls_1] (tontinelaw18_LedgerFences.f n calls_1) (tontinelaw18_LedgerFences.R A_2 c_3) := by
  refine Meets.of (c := c8_0) (n := 56) Try.func8 (by kernel_rfl) (by kernel_rfl) (by kernel_rfl) fun w0 S0 => ?_
  unfold tontinelaw18_LedgerFences.f
  show GoO (tontinelaw18_LedgerFences.cx A_2 c_3 w0 S0) [(0, .slice A_2 calls_1.length c_3)] [] [Rd 0 kT_tontinelaw18_Call A_2 c_3 calls_1] [.code c8_0] _
  refine GoO.seq' c8_0e ?_
  refine GoO.region' (is := [0]) c8_1e (by kernel_rfl) ?_
  refine GoO.exec (is := [0]) (hs := [.p]) (rest := []) (ks := [0]) (env' := [(0, .slice A_2 calls_1.length c_3)]) (H' := []) (ps := []) (by kernel_rfl) trivial ?_
  refine GoO.regionEnd ?_
  refine GoO.seq' c8_2e ?_
  refine GoO.seq' c8_3e ?_
  refine GoO.region' (is := [0, 1]) c8_4e (by kernel_rfl) ?_
  refine OpTo.go (GoO.call rfl (by kernel_rfl) (by kernel_rfl) (tontinelaw18_begun_ok n) [[0]] [] [] [] (hks := []) (bks := [0]) (by kernel_rfl) (by kernel_rfl) (by kernel_rfl) (.inl rfl) rfl rfl (by kernel_rfl) (by kernel_rfl) _ (fun _ _ => rfl) _ _ (fun _ _ => rfl) (fun _ _ => rfl) (fun _ _ => by kernel_rfl) (fun _ _ => by kernel_rfl) (fun r_4 x_53 => ?_))
  refine GoO.shape (env' := [(0, .slice A_2 calls_1.length c_3), (9, .bool r_4)]) (H' := []) (B' := [Rd 0 kT_tontinelaw18_Call A_2 c_3 calls_1]) (ks := [0, 9]) (by kernel_rfl) (by kernel_rfl) (by kernel_rfl) ?_
  refine GoO.exec (is := [1]) (hs := [.p]) (rest := []) (ks := [0, 10]) (env' := [(0, .slice A_2 calls_1.length c_3), (10, .bool (!r_4))]) (H' := []) (ps := []) (by kernel_rfl) trivial ?_
  refine GoO.regionEnd ?_
  refine GoO.ite' c8_5e (by kernel_rfl) (fun h5 => ?_) (fun h5 => ?_)
  · refine GoO.seq' c8_6e ?_
    refine GoO.region' (is := [0]) c8_7e (by kernel_rfl) ?_
    refine GoO.exec (is := [0]) (hs := [.p]) (rest := []) (ks := [2]) (env' := [(2, .bool false)]) (H' := []) (ps := []) (by kernel_rfl) trivial ?_
    refine GoO.regionEnd ?_
    exact GoO.ret' (h := c8_8e) (hs := []) (ps := []) (hk := []) (bk := []) Try.func8 () (by kernel_rfl) trivial (by kernel_rfl) (by kernel_rfl)
  · refine GoO.skip' c8_9e ?_
    refine GoO.seq' c8_10e ?_
    refine GoO.region' (is := [0, 1]) c8_11e (by kernel_rfl) ?_
    refine OpTo.go (GoO.call rfl (by kernel_rfl) (by kernel_rfl) (ledger_New_ok n) [[0]] [(40, 1), (41, 2), (42, 3), (43, 4)] [] [] (hks := []) (bks := [0]) (by kernel_rfl) (by kernel_rfl) (by kernel_rfl) (.inl rfl) rfl rfl (by kernel_rfl) (by kernel_rfl) _ (fun _ _ => rfl) _ _ (fun _ _ => rfl) (fun _ _ => rfl) (fun _ _ => by kernel_rfl) (fun _ _ => by kernel_rfl) (fun r_6 x_52 => ?_))
    obtain ⟨b_7, A_8, c_9, A_10, c_11, A_12, c_13⟩ := x_52
    refine GoO.shape (env' := [(0, .slice A_2 calls_1.length c_3), (10, .bool (!r_4)), (11, .pointer (some ⟨b_7, 0, none⟩))]) (H' := [⟨40, b_7, [.int .u64 r_6.fence.Term, .int .u64 r_6.fence.Index, .slice A_8 r_6.effects.length c_9, .map (mA A_10), .map (mA A_12)]⟩]) (B' := [Ow 41 kT_ledger_Effect A_8 c_9 r_6.effects, Mp 42 ky41 (fun v => .bool v) A_10 c_11 r_6.said, Mp 43 ky41 (fun v => .bool v) A_12 c_13 r_6.tombs, Rd 0 kT_tontinelaw18_Call A_2 c_3 calls_1]) (ks := [0, 10, 11]) (by kernel_rfl) (by kernel_rfl) (by kernel_rfl) ?_
    refine GoO.exec (is := [1]) (hs := [.p]) (rest := []) (ks := [0, 3]) (env' := [(0, .slice A_2 calls_1.length c_3), (3, .pointer (some ⟨b_7, 0, none⟩))]) (H' := [⟨40, b_7, [.int .u64 r_6.fence.Term, .int .u64 r_6.fence.Index, .slice A_8 r_6.effects.length c_9, .map (mA A_10), .map (mA A_12)]⟩]) (ps := []) (by kernel_rfl) trivial ?_
    refine GoO.regionEnd ?_
    refine GoO.seq' c8_12e ?_
    refine GoO.region' (is := [0, 1, 2]) c8_13e (by kernel_rfl) ?_
    refine GoO.exec (is := [0]) (hs := [.p]) (rest := [1, 2]) (ks := [0, 3, 12]) (env' := [(0, .slice A_2 calls_1.length c_3), (3, .pointer (some ⟨b_7, 0, none⟩)), (12, .agg ⟨[.int .u64 0, .int .u64 0]⟩)]) (H' := [⟨40, b_7, [.int .u64 r_6.fence.Term, .int .u64 r_6.fence.Index, .slice A_8 r_6.effects.length c_9, .map (mA A_10), .map (mA A_12)]⟩]) (ps := []) (by kernel_rfl) trivial ?_
    refine OpTo.go (GoO.new rfl 44 (cs := [.int .u64 0, .int .u64 0]) (by kernel_rfl) _ (fun _ => rfl) (fun b_14 => ?_))
    refine GoO.exec (is := [2]) (hs := [.b 0]) (rest := []) (ks := [0, 3, 4]) (env' := [(0, .slice A_2 calls_1.length c_3), (3, .pointer (some ⟨b_7, 0, none⟩)), (4, .pointer (some ⟨b_14, 0, none⟩))]) (H' := [⟨44, b_14, [.int .u64 0, .int .u64 0]⟩, ⟨40, b_7, [.int .u64 r_6.fence.Term, .int .u64 r_6.fence.Index, .slice A_8 r_6.effects.length c_9, .map (mA A_10), .map (mA A_12)]⟩]) (ps := [b_14 = b_14]) (by kernel_rfl) (And.intro rfl trivial) ?_
    refine GoO.regionEnd ?_
    refine GoO.seq' c8_14e ?_
    refine GoO.seq' c8_15e ?_
    refine GoO.region' (is := [0, 1, 2]) c8_16e (by kernel_rfl) ?_
    refine GoO.exec (is := [0, 1, 2]) (hs := [.p, .p, .p]) (rest := []) (ks := [3, 4, 13, 14, 15]) (env' := [(3, .pointer (some ⟨b_7, 0, none⟩)), (4, .pointer (some ⟨b_14, 0, none⟩)), (13, .slice A_2 calls_1.length c_3), (14, .int .i64 (calls_1.length : Int)), (15, .int .i64 0)]) (H' := [⟨44, b_14, [.int .u64 0, .int .u64 0]⟩, ⟨40, b_7, [.int .u64 r_6.fence.Term, .int .u64 r_6.fence.Index, .slice A_8 r_6.effects.length c_9, .map (mA A_10), .map (mA A_12)]⟩]) (ps := []) (by kernel_rfl) trivial ?_
    refine GoO.regionEnd ?_
    refine GoO.block' c8_17e ?_
    refine GoO.loop' c8_18e ?_
    exact GoO.sub (ks := [3, 4, 13, 14, 15]) (hk := [1, 0]) (bk := [0, 1, 2, 3]) (by kernel_rfl) (by kernel_rfl) (by kernel_rfl) (tontinelaw18_LedgerFences_l0_ok n calls_1 A_2 c_3 b_7 b_14 w0 S0 n r_6.fence.Term r_6.fence.Index r_6.effects r_6.said r_6.tombs 0 0 0 A_8 c_9 A_10 c_11 A_12 c_13)
end Go.GL
