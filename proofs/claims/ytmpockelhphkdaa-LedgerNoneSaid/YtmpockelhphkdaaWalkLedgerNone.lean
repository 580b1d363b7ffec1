import Derived.Test.YtmpockelhphkdaaKindsT2
import Derived.Test.YtmpockelhphkdaaProg
set_option linter.unusedVariables false
set_option linter.unusedSimpArgs false
set_option maxRecDepth 100000
namespace Go.GL
open Go Go.Proofs

theorem ky41_dec (a b : T_api_Key) : decide (a = b) = ((a.Saga == b.Saga) && ((a.Step == b.Step) && ((a.Back == b.Back) && true))) := by cases a; cases b; rw [Bool.eq_iff_iff]; simp

noncomputable def ky41 : Ky Try.prog 45 T_api_Key where
  enc := fun k => .agg ⟨[.int .u64 k.Saga, .int .i64 k.Step, .bool k.Back]⟩
  eq := fun a b w => by
    have h : eqV Try.prog 2 45 (.agg ⟨[.int .u64 a.Saga, .int .i64 a.Step, .bool a.Back]⟩) (.agg ⟨[.int .u64 b.Saga, .int .i64 b.Step, .bool b.Back]⟩) = some ((a.Saga == b.Saga) && ((a.Step == b.Step) && ((a.Back == b.Back) && true))) := by kernel_rfl
    rw [ky41_dec a b]; exact eqV_ok 9998 2 45 _ _ _ h w
  chk := fun a e w => by kernel_rfl
  td := (Try.prog.underlying 45).getD default
  und := by kernel_rfl
  now := fun a b => .inl (by kernel_rfl)
  same := fun a => by simp [Instr.sameBits]

/-! tontine/ledger.New -/
noncomputable def c22_0 : Code := bodyOf Try.f22
noncomputable def c22_1 : Code := cdL c22_0
noncomputable def c22_2 : Code := cdR c22_0
noncomputable def c22_3 : Code := cdL c22_2
noncomputable def c22_4 : Code := cdR c22_2
noncomputable def r22_1 : Array Oper := cdO c22_1
noncomputable def r22_3 : Array Oper := cdO c22_3
theorem c22_0e : c22_0 = .seq c22_1 c22_2 := by kernel_rfl
theorem c22_1e : c22_1 = .region 0 r22_1 false := by kernel_rfl
theorem c22_2e : c22_2 = .seq c22_3 c22_4 := by kernel_rfl
theorem c22_3e : c22_3 = .region 1 r22_3 false := by kernel_rfl
theorem c22_4e : c22_4 = .ret := by kernel_rfl
noncomputable def ledger_New.R : Pst T_ledger_Ledger where
  ε := Nat × Option Addr × Nat × Option Addr × Nat × Option Addr × Nat
  v := fun r x => .pointer (some ⟨x.1, 0, none⟩)
  H := fun r x => [⟨1, x.1, [.int .u64 r.fence.Term, .int .u64 r.fence.Index, .slice x.2.1 r.effects.length x.2.2.1, .map (mA x.2.2.2.1), .map (mA x.2.2.2.2.2.1)]⟩]
  B := fun r x => [Ow 2 kT_ledger_Effect x.2.1 x.2.2.1 r.effects, Mp 3 ky41 (fun v => .bool v) x.2.2.2.1 x.2.2.2.2.1 r.said, Mp 4 ky41 (fun v => .bool v) x.2.2.2.2.2.1 x.2.2.2.2.2.2 r.tombs]
noncomputable def ledger_New.cx (w0 : World) (S0 : Fam) : Cx T_ledger_Ledger := ⟨Try.prog, 22, Try.f22, 5, w0, S0, [], 0, ledger_New.R⟩
theorem ledger_New_ok (n : Nat) :
    Meets Try.prog 22 [] 0 [] [] [] (ledger_New.f n) (ledger_New.R) := by
  refine Meets.of (c := c22_0) (n := 5) Try.func22 (by kernel_rfl) (by kernel_rfl) (by kernel_rfl) fun w0 S0 => ?_
  unfold ledger_New.f
  show GoO (ledger_New.cx w0 S0) [] [] [] [.code c22_0] _
  refine GoO.seq' c22_0e ?_
  refine GoO.region' (is := [0]) c22_1e (by kernel_rfl) ?_
  refine GoO.exec (is := [0]) (hs := [.p]) (rest := []) (ks := []) (env' := []) (H' := []) (ps := []) (by kernel_rfl) trivial ?_
  refine GoO.regionEnd ?_
  refine GoO.seq' c22_2e ?_
  refine GoO.region' (is := [0, 1, 2, 3, 4]) c22_3e (by kernel_rfl) ?_
  refine OpTo.go (GoO.mkMap rfl 40 ky41 (fun v => .bool v) _ (fun _ _ => rfl) (fun A_1 c_2 => ?_))
  refine OpTo.go (GoO.mkMap rfl 41 ky41 (fun v => .bool v) _ (fun _ _ => rfl) (fun A_3 c_4 => ?_))
  refine GoO.exec (is := [2]) (hs := [.p]) (rest := [3, 4]) (ks := [3]) (env' := [(3, .agg ⟨[.int .u64 0, .int .u64 0, .slice none ([] : List T_ledger_Effect).length 0, .map (mA A_1), .map (mA A_3)]⟩)]) (H' := []) (ps := []) (by kernel_rfl) trivial ?_
  refine OpTo.go (GoO.new rfl 42 (cs := [.int .u64 0, .int .u64 0, .slice none ([] : List T_ledger_Effect).length 0, .map (mA A_1), .map (mA A_3)]) (by kernel_rfl) _ (fun _ => rfl) (fun b_5 => ?_))
  refine GoO.exec (is := [4]) (hs := [.p]) (rest := []) (ks := [0]) (env' := [(0, .pointer (some ⟨b_5, 0, none⟩))]) (H' := [⟨42, b_5, [.int .u64 0, .int .u64 0, .slice none ([] : List T_ledger_Effect).length 0, .map (mA A_1), .map (mA A_3)]⟩]) (ps := []) (by kernel_rfl) trivial ?_
  refine GoO.regionEnd ?_
  refine GoO.nilOwn kT_ledger_Effect 2 ?_
  refine GoO.retag (t := 40) (u := 3) (j := 2) (hk := [0]) (bk := [0, 1]) rfl rfl rfl rfl rfl rfl (by kernel_rfl) (by kernel_rfl) ?_
  refine GoO.retag (t := 41) (u := 4) (j := 2) (hk := [0]) (bk := [0, 1]) rfl rfl rfl rfl rfl rfl (by kernel_rfl) (by kernel_rfl) ?_
  refine GoO.retagB (t := 42) (u := 1) (j := 0) (hk := []) (bk := [0, 1, 2]) rfl rfl rfl rfl rfl rfl (by kernel_rfl) (by kernel_rfl) ?_
  exact GoO.ret' (h := c22_4e) (hs := []) (ps := []) (hk := [0]) (bk := [2, 1, 0]) Try.func22 (⟨b_5, none, 0, A_1, c_2, A_3, c_4⟩ : Nat × Option Addr × Nat × Option Addr × Nat × Option Addr × Nat) (by kernel_rfl) trivial (by kernel_rfl) (by kernel_rfl)

/-! tontine/ledger.Less -/
noncomputable def c26_0 : Code := bodyOf Try.f26
noncomputable def c26_1 : Code := cdL c26_0
noncomputable def c26_2 : Code := cdR c26_0
noncomputable def c26_3 : Code := cdL c26_2
noncomputable def c26_4 : Code := cdR c26_2
noncomputable def r26_1 : Array Oper := cdO c26_1
noncomputable def r26_3 : Array Oper := cdO c26_3
theorem c26_0e : c26_0 = .seq c26_1 c26_2 := by kernel_rfl
theorem c26_1e : c26_1 = .region 0 r26_1 false := by kernel_rfl
theorem c26_2e : c26_2 = .seq c26_3 c26_4 := by kernel_rfl
theorem c26_3e : c26_3 = .region 1 r26_3 false := by kernel_rfl
theorem c26_4e : c26_4 = .ret := by kernel_rfl
noncomputable def ledger_Less.R : Pst Bool where
  ε := Unit
  v := fun r x => .bool r
  H := fun r x => []
  B := fun r x => []
noncomputable def ledger_Less.cx (w0 : World) (S0 : Fam) : Cx Bool := ⟨Try.prog, 26, Try.f26, 24, w0, S0, [], 0, ledger_Less.R⟩
theorem ledger_Less_ok (n : Nat) (a_1 : T_api_Token) (b_2 : T_api_Token) :
    Meets Try.prog 26 [.agg ⟨[.int .u64 a_1.Term, .int .u64 a_1.Index]⟩, .agg ⟨[.int .u64 b_2.Term, .int .u64 b_2.Index]⟩] 0 [] [] [] (ledger_Less.f n a_1 b_2) (ledger_Less.R) := by
  refine Meets.of (c := c26_0) (n := 24) Try.func26 (by kernel_rfl) (by kernel_rfl) (by kernel_rfl) fun w0 S0 => ?_
  unfold ledger_Less.f
  show GoO (ledger_Less.cx w0 S0) [(0, .agg ⟨[.int .u64 a_1.Term, .int .u64 a_1.Index]⟩), (1, .agg ⟨[.int .u64 b_2.Term, .int .u64 b_2.Index]⟩)] [] [] [.code c26_0] _
  refine GoO.seq' c26_0e ?_
  refine GoO.region' (is := [0, 1, 2]) c26_1e (by kernel_rfl) ?_
  refine OpTo.go (GoO.new rfl 40 (cs := [.int .u64 a_1.Term, .int .u64 a_1.Index]) (by kernel_rfl) _ (fun _ => rfl) (fun b_3 => ?_))
  refine OpTo.go (GoO.new rfl 41 (cs := [.int .u64 b_2.Term, .int .u64 b_2.Index]) (by kernel_rfl) _ (fun _ => rfl) (fun b_4 => ?_))
  refine GoO.exec (is := [2]) (hs := [.p]) (rest := []) (ks := [2, 3]) (env' := [(2, .pointer (some ⟨b_3, 0, none⟩)), (3, .pointer (some ⟨b_4, 0, none⟩))]) (H' := [⟨41, b_4, [.int .u64 b_2.Term, .int .u64 b_2.Index]⟩, ⟨40, b_3, [.int .u64 a_1.Term, .int .u64 a_1.Index]⟩]) (ps := []) (by kernel_rfl) trivial ?_
  refine GoO.regionEnd ?_
  refine GoO.seq' c26_2e ?_
  refine GoO.region' (is := [0, 1, 2, 3, 4, 5, 6, 7, 8, 9, 10, 11, 12, 13, 14, 15, 16, 17, 18, 19]) c26_3e (by kernel_rfl) ?_
  refine GoO.exec (is := [0, 1, 2, 3, 4, 5]) (hs := [.p, .b 1, .p, .b 0, .p, .p]) (rest := [6, 7, 8, 9, 10, 11, 12, 13, 14, 15, 16, 17, 18, 19]) (ks := [2, 3, 10]) (env' := [(2, .pointer (some ⟨b_3, 0, none⟩)), (3, .pointer (some ⟨b_4, 0, none⟩)), (10, .bool (decide (a_1.Term < b_2.Term)))]) (H' := [⟨41, b_4, [.int .u64 b_2.Term, .int .u64 b_2.Index]⟩, ⟨40, b_3, [.int .u64 a_1.Term, .int .u64 a_1.Index]⟩]) (ps := [b_3 = b_3, b_4 = b_4]) (by kernel_rfl) (And.intro rfl (And.intro rfl trivial)) ?_
  refine GoO.bsplit (t := 10) (by kernel_rfl) (fun h5 => ?_) (fun h5 => ?_)
  · refine GoO.exec (is := [6, 7, 8, 9, 10, 11, 12, 13, 14, 15, 16, 17, 18, 19]) (hs := [.p, .p, .p, .p, .p, .p, .p, .p, .p, .p, .p, .p, .p, .p]) (rest := []) (ks := [4]) (env' := [(4, .bool true)]) (H' := [⟨41, b_4, [.int .u64 b_2.Term, .int .u64 b_2.Index]⟩, ⟨40, b_3, [.int .u64 a_1.Term, .int .u64 a_1.Index]⟩]) (ps := []) (by kernel_rfl) trivial ?_
    refine GoO.regionEnd ?_
    exact GoO.ret' (h := c26_4e) (hs := []) (ps := []) (hk := []) (bk := []) Try.func26 () (by kernel_rfl) trivial (by kernel_rfl) (by kernel_rfl)
  · refine GoO.exec (is := [6, 7, 8, 9, 10, 11]) (hs := [.p, .b 1, .p, .b 0, .p, .p]) (rest := [12, 13, 14, 15, 16, 17, 18, 19]) (ks := [2, 3, 10, 16]) (env' := [(2, .pointer (some ⟨b_3, 0, none⟩)), (3, .pointer (some ⟨b_4, 0, none⟩)), (10, .bool false), (16, .bool (a_1.Term == b_2.Term))]) (H' := [⟨41, b_4, [.int .u64 b_2.Term, .int .u64 b_2.Index]⟩, ⟨40, b_3, [.int .u64 a_1.Term, .int .u64 a_1.Index]⟩]) (ps := [b_3 = b_3, b_4 = b_4]) (by kernel_rfl) (And.intro rfl (And.intro rfl trivial)) ?_
    refine GoO.bsplit (t := 16) (by kernel_rfl) (fun h6 => ?_) (fun h6 => ?_)
    · refine GoO.exec (is := [12, 13, 14, 15, 16, 17, 18, 19]) (hs := [.p, .b 1, .p, .b 0, .p, .p, .p, .p]) (rest := []) (ks := [4]) (env' := [(4, .bool (decide (a_1.Index < b_2.Index)))]) (H' := [⟨41, b_4, [.int .u64 b_2.Term, .int .u64 b_2.Index]⟩, ⟨40, b_3, [.int .u64 a_1.Term, .int .u64 a_1.Index]⟩]) (ps := [b_3 = b_3, b_4 = b_4]) (by kernel_rfl) (And.intro rfl (And.intro rfl trivial)) ?_
      refine GoO.regionEnd ?_
      exact GoO.ret' (h := c26_4e) (hs := []) (ps := []) (hk := []) (bk := []) Try.func26 () (by kernel_rfl) trivial (by kernel_rfl) (by kernel_rfl)
    · refine GoO.exec (is := [12, 13, 14, 15, 16, 17, 18, 19]) (hs := [.p, .p, .p, .p, .p, .p, .p, .p]) (rest := []) (ks := [4]) (env' := [(4, .bool false)]) (H' := [⟨41, b_4, [.int .u64 b_2.Term, .int .u64 b_2.Index]⟩, ⟨40, b_3, [.int .u64 a_1.Term, .int .u64 a_1.Index]⟩]) (ps := []) (by kernel_rfl) trivial ?_
      refine GoO.regionEnd ?_
      exact GoO.ret' (h := c26_4e) (hs := []) (ps := []) (hk := []) (bk := []) Try.func26 () (by kernel_rfl) trivial (by kernel_rfl) (by kernel_rfl)

/-! (*tontine/ledger.Ledger).undo -/
noncomputable def c41_0 : Code := bodyOf Try.f41
noncomputable def c41_1 : Code := cdL c41_0
noncomputable def c41_2 : Code := cdR c41_0
noncomputable def c41_3 : Code := cdL c41_2
noncomputable def c41_4 : Code := cdL c41_3
noncomputable def c41_5 : Code := cdR c41_3
noncomputable def c41_6 : Code := cdL c41_5
noncomputable def c41_7 : Code := cdL c41_6
noncomputable def c41_8 : Code := cdR c41_6
noncomputable def c41_9 : Code := cdR c41_5
noncomputable def c41_10 : Code := cdR c41_2
noncomputable def c41_11 : Code := cdL c41_10
noncomputable def c41_12 : Code := cdR c41_10
noncomputable def c41_13 : Code := cdL c41_12
noncomputable def c41_14 : Code := cdR c41_12
noncomputable def c41_15 : Code := cdL c41_14
noncomputable def c41_16 : Code := cdL c41_15
noncomputable def c41_17 : Code := cdR c41_15
noncomputable def c41_18 : Code := cdL c41_17
noncomputable def c41_19 : Code := cdR c41_17
noncomputable def c41_20 : Code := cdR c41_14
noncomputable def c41_21 : Code := cdL c41_20
noncomputable def c41_22 : Code := cdR c41_20
noncomputable def c41_23 : Code := cdL c41_22
noncomputable def c41_24 : Code := cdR c41_22
noncomputable def r41_1 : Array Oper := cdO c41_1
noncomputable def r41_4 : Array Oper := cdO c41_4
noncomputable def r41_7 : Array Oper := cdO c41_7
noncomputable def r41_11 : Array Oper := cdO c41_11
noncomputable def r41_13 : Array Oper := cdO c41_13
noncomputable def r41_16 : Array Oper := cdO c41_16
noncomputable def r41_18 : Array Oper := cdO c41_18
noncomputable def r41_19 : Array Oper := cdO c41_19
noncomputable def r41_21 : Array Oper := cdO c41_21
noncomputable def r41_23 : Array Oper := cdO c41_23
theorem c41_0e : c41_0 = .seq c41_1 c41_2 := by kernel_rfl
theorem c41_1e : c41_1 = .region 0 r41_1 false := by kernel_rfl
theorem c41_2e : c41_2 = .seq c41_3 c41_10 := by kernel_rfl
theorem c41_3e : c41_3 = .seq c41_4 c41_5 := by kernel_rfl
theorem c41_4e : c41_4 = .region 1 r41_4 false := by kernel_rfl
theorem c41_5e : c41_5 = .cond (cdC c41_5) c41_6 c41_9 := by kernel_rfl
theorem c41_6e : c41_6 = .seq c41_7 c41_8 := by kernel_rfl
theorem c41_7e : c41_7 = .region 2 r41_7 false := by kernel_rfl
theorem c41_8e : c41_8 = .ret := by kernel_rfl
theorem c41_9e : c41_9 = .skip := by kernel_rfl
theorem c41_10e : c41_10 = .seq c41_11 c41_12 := by kernel_rfl
theorem c41_11e : c41_11 = .region 3 r41_11 false := by kernel_rfl
theorem c41_12e : c41_12 = .seq c41_13 c41_14 := by kernel_rfl
theorem c41_13e : c41_13 = .region 4 r41_13 false := by kernel_rfl
theorem c41_14e : c41_14 = .seq c41_15 c41_20 := by kernel_rfl
theorem c41_15e : c41_15 = .seq c41_16 c41_17 := by kernel_rfl
theorem c41_16e : c41_16 = .region 5 r41_16 true := by kernel_rfl
theorem c41_17e : c41_17 = .cond (cdC c41_17) c41_18 c41_19 := by kernel_rfl
theorem c41_18e : c41_18 = .region 6 r41_18 true := by kernel_rfl
theorem c41_19e : c41_19 = .region 7 r41_19 true := by kernel_rfl
theorem c41_20e : c41_20 = .seq c41_21 c41_22 := by kernel_rfl
theorem c41_21e : c41_21 = .region 8 r41_21 true := by kernel_rfl
theorem c41_22e : c41_22 = .seq c41_23 c41_24 := by kernel_rfl
theorem c41_23e : c41_23 = .region 9 r41_23 false := by kernel_rfl
theorem c41_24e : c41_24 = .ret := by kernel_rfl
noncomputable def ledger_Ledger_undo.R (b_2 : Nat) (A_3 : Option Addr) (c_4 : Nat) (A_5 : Option Addr) (c_6 : Nat) (A_7 : Option Addr) (c_8 : Nat) : Pst (Bool × Int × T_ledger_Ledger) where
  ε := Option Addr × Nat × Option Addr × Nat × Option Addr × Nat
  v := fun r x => .tuple ⟨[.bool r.1, .int .i64 r.2.1]⟩
  H := fun r x => [⟨1, b_2, [.int .u64 r.2.2.fence.Term, .int .u64 r.2.2.fence.Index, .slice x.1 r.2.2.effects.length x.2.1, .map (mA x.2.2.1), .map (mA x.2.2.2.2.1)]⟩]
  B := fun r x => [Ow 2 kT_ledger_Effect x.1 x.2.1 r.2.2.effects, Mp 3 ky41 (fun v => .bool v) x.2.2.1 x.2.2.2.1 r.2.2.said, Mp 4 ky41 (fun v => .bool v) x.2.2.2.2.1 x.2.2.2.2.2 r.2.2.tombs]
noncomputable def ledger_Ledger_undo.cx (b_2 : Nat) (A_3 : Option Addr) (c_4 : Nat) (A_5 : Option Addr) (c_6 : Nat) (A_7 : Option Addr) (c_8 : Nat) (w0 : World) (S0 : Fam) : Cx (Bool × Int × T_ledger_Ledger) := ⟨Try.prog, 41, Try.f41, 42, w0, S0, [1, 2, 3, 4], 4, ledger_Ledger_undo.R b_2 A_3 c_4 A_5 c_6 A_7 c_8⟩
theorem ledger_Ledger_undo_j0_ok (n : Nat) (l_1 : T_ledger_Ledger) (k_9 : T_api_Key) (b_2 : Nat) (A_5 : Option Addr) (c_6 : Nat) (b_12 : Nat) (A_3 : Option Addr) (c_4 : Nat) (A_7 : Option Addr) (c_8 : Nat) (w0 : World) (S0 : Fam) (f_21 : (List T_ledger_Effect)) (f_24 : (List (T_api_Key × Bool))) (A_22 : Option Addr) (c_23 : Nat) (A_25 : Option Addr) (c_26 : Nat) :
    GoO (ledger_Ledger_undo.cx b_2 A_3 c_4 A_5 c_6 A_7 c_8 w0 S0) [(0, .pointer (some ⟨b_2, 0, none⟩)), (5, .pointer (some ⟨b_12, 0, none⟩))] [⟨1, b_2, [.int .u64 l_1.fence.Term, .int .u64 l_1.fence.Index, .slice A_22 f_21.length c_23, .map (mA A_5), .map (mA A_25)]⟩, ⟨40, b_12, [.int .u64 k_9.Saga, .int .i64 k_9.Step, .bool k_9.Back]⟩] [Ow 2 kT_ledger_Effect A_22 c_23 f_21, Mp 3 ky41 (fun v => .bool v) A_5 c_6 l_1.said, Mp 4 ky41 (fun v => .bool v) A_25 c_26 f_24] [.code c41_20] (ledger_Ledger_undo.j0 n l_1 k_9 f_21 f_24) := by
  unfold ledger_Ledger_undo.j0
  refine GoO.seq' c41_20e ?_
  refine GoO.draw c41_21e (by kernel_rfl) [5] [⟨1, b_2, [.int .u64 l_1.fence.Term, .int .u64 l_1.fence.Index, .slice A_22 f_21.length c_23, .map (mA A_5), .map (mA A_25)]⟩, ⟨40, b_12, [.int .u64 k_9.Saga, .int .i64 k_9.Step, .bool k_9.Back]⟩] [] (n := 6) (by kernel_rfl) ?_
  simp only [List.replicate]
  refine GoF.take [0, 1, 2, 3, 4] [.p, .p, .p, .b 0, .b 1] (ks := [40, 41]) (fu := 1) (li := [true, true, true, true, true, false]) (env' := [(40, .map (mA A_5)), (41, .agg ⟨[.int .u64 k_9.Saga, .int .i64 k_9.Step, .bool k_9.Back]⟩)]) (ps := [b_2 = b_2, b_12 = b_12]) (hk := [0, 1]) (bk := []) (by kernel_rfl) (And.intro rfl (And.intro rfl trivial)) rfl rfl ?_
  refine OpTo.goE (i := 5) (by kernel_rfl) rfl (GoO.mapUp (vt := 4) (K := ky41) (ev := (fun v => .bool v)) (A := A_5) (c := c_6) (tg := 3) (l := l_1.said) (key := k_9) (v := true) (j := 1) rfl (by kernel_rfl) (by kernel_rfl) (by kernel_rfl) (by kernel_rfl) rfl (by kernel_rfl) (by kernel_rfl) (by kernel_rfl) rfl ?_)
  refine GoF.done (by kernel_rfl) ?_
  refine GoO.seq' c41_22e ?_
  refine GoO.region' (is := [0, 1]) c41_23e (by kernel_rfl) ?_
  refine GoO.exec (is := [0, 1]) (hs := [.p, .p]) (rest := []) (ks := [8, 9]) (env' := [(8, .bool true), (9, .int .i64 0)]) (H' := [⟨1, b_2, [.int .u64 l_1.fence.Term, .int .u64 l_1.fence.Index, .slice A_22 f_21.length c_23, .map (mA A_5), .map (mA A_25)]⟩, ⟨40, b_12, [.int .u64 k_9.Saga, .int .i64 k_9.Step, .bool k_9.Back]⟩]) (ps := []) (by kernel_rfl) trivial ?_
  refine GoO.regionEnd ?_
  exact GoO.ret' (h := c41_24e) (hs := []) (ps := []) (hk := [0]) (bk := [0, 1, 2]) Try.func41 (⟨A_22, c_23, A_5, c_6, A_25, c_26⟩ : Option Addr × Nat × Option Addr × Nat × Option Addr × Nat) (by kernel_rfl) trivial (by kernel_rfl) (by kernel_rfl)
theorem ledger_Ledger_undo_ok (n : Nat) (l_1 : T_ledger_Ledger) (k_9 : T_api_Key) (name_10 : (List UInt8)) (fail_11 : Bool) (b_2 : Nat) (A_3 : Option Addr) (c_4 : Nat) (A_5 : Option Addr) (c_6 : Nat) (A_7 : Option Addr) (c_8 : Nat) :
    Meets Try.prog 41 [.pointer (some ⟨b_2, 0, none⟩), .agg ⟨[.int .u64 k_9.Saga, .int .i64 k_9.Step, .bool k_9.Back]⟩, .string (bs name_10), .bool fail_11] 4 [1, 2, 3, 4] [⟨1, b_2, [.int .u64 l_1.fence.Term, .int .u64 l_1.fence.Index, .slice A_3 l_1.effects.length c_4, .map (mA A_5), .map (mA A_7)]⟩] [Ow 2 kT_ledger_Effect A_3 c_4 l_1.effects, Mp 3 ky41 (fun v => .bool v) A_5 c_6 l_1.said, Mp 4 ky41 (fun v => .bool v) A_7 c_8 l_1.tombs] (ledger_Ledger_undo.f n l_1 k_9 name_10 fail_11) (ledger_Ledger_undo.R b_2 A_3 c_4 A_5 c_6 A_7 c_8) := by
  refine Meets.of (c := c41_0) (n := 42) Try.func41 (by kernel_rfl) (by kernel_rfl) (by kernel_rfl) fun w0 S0 => ?_
  unfold ledger_Ledger_undo.f
  show GoO (ledger_Ledger_undo.cx b_2 A_3 c_4 A_5 c_6 A_7 c_8 w0 S0) [(0, .pointer (some ⟨b_2, 0, none⟩)), (1, .agg ⟨[.int .u64 k_9.Saga, .int .i64 k_9.Step, .bool k_9.Back]⟩), (2, .string (bs name_10)), (3, .bool fail_11)] [⟨1, b_2, [.int .u64 l_1.fence.Term, .int .u64 l_1.fence.Index, .slice A_3 l_1.effects.length c_4, .map (mA A_5), .map (mA A_7)]⟩] [Ow 2 kT_ledger_Effect A_3 c_4 l_1.effects, Mp 3 ky41 (fun v => .bool v) A_5 c_6 l_1.said, Mp 4 ky41 (fun v => .bool v) A_7 c_8 l_1.tombs] [.code c41_0] _
  refine GoO.seq' c41_0e ?_
  refine GoO.region' (is := [0, 1, 2]) c41_1e (by kernel_rfl) ?_
  refine OpTo.go (GoO.new rfl 40 (cs := [.int .u64 k_9.Saga, .int .i64 k_9.Step, .bool k_9.Back]) (by kernel_rfl) _ (fun _ => rfl) (fun b_12 => ?_))
  refine GoO.exec (is := [1, 2]) (hs := [.p, .p]) (rest := []) (ks := [0, 2, 3, 5]) (env' := [(0, .pointer (some ⟨b_2, 0, none⟩)), (2, .string (bs name_10)), (3, .bool fail_11), (5, .pointer (some ⟨b_12, 0, none⟩))]) (H' := [⟨40, b_12, [.int .u64 k_9.Saga, .int .i64 k_9.Step, .bool k_9.Back]⟩, ⟨1, b_2, [.int .u64 l_1.fence.Term, .int .u64 l_1.fence.Index, .slice A_3 l_1.effects.length c_4, .map (mA A_5), .map (mA A_7)]⟩]) (ps := []) (by kernel_rfl) trivial ?_
  refine GoO.regionEnd ?_
  refine GoO.seq' c41_2e ?_
  refine GoO.seq' c41_3e ?_
  refine GoO.region' (is := [0]) c41_4e (by kernel_rfl) ?_
  refine GoO.exec (is := [0]) (hs := [.p]) (rest := []) (ks := [0, 2, 5, 11]) (env' := [(0, .pointer (some ⟨b_2, 0, none⟩)), (2, .string (bs name_10)), (5, .pointer (some ⟨b_12, 0, none⟩)), (11, .bool fail_11)]) (H' := [⟨40, b_12, [.int .u64 k_9.Saga, .int .i64 k_9.Step, .bool k_9.Back]⟩, ⟨1, b_2, [.int .u64 l_1.fence.Term, .int .u64 l_1.fence.Index, .slice A_3 l_1.effects.length c_4, .map (mA A_5), .map (mA A_7)]⟩]) (ps := []) (by kernel_rfl) trivial ?_
  refine GoO.regionEnd ?_
  refine GoO.ite' c41_5e (by kernel_rfl) (fun h13 => ?_) (fun h13 => ?_)
  · refine GoO.seq' c41_6e ?_
    refine GoO.region' (is := [0, 1]) c41_7e (by kernel_rfl) ?_
    refine GoO.exec (is := [0, 1]) (hs := [.p, .p]) (rest := []) (ks := [8, 9]) (env' := [(8, .bool false), (9, .int .i64 0)]) (H' := [⟨40, b_12, [.int .u64 k_9.Saga, .int .i64 k_9.Step, .bool k_9.Back]⟩, ⟨1, b_2, [.int .u64 l_1.fence.Term, .int .u64 l_1.fence.Index, .slice A_3 l_1.effects.length c_4, .map (mA A_5), .map (mA A_7)]⟩]) (ps := []) (by kernel_rfl) trivial ?_
    refine GoO.regionEnd ?_
    exact GoO.ret' (h := c41_8e) (hs := []) (ps := []) (hk := [1]) (bk := [0, 1, 2]) Try.func41 (⟨A_3, c_4, A_5, c_6, A_7, c_8⟩ : Option Addr × Nat × Option Addr × Nat × Option Addr × Nat) (by kernel_rfl) trivial (by kernel_rfl) (by kernel_rfl)
  · refine GoO.skip' c41_9e ?_
    refine GoO.seq' c41_10e ?_
    refine GoO.region' (is := [0, 1, 2]) c41_11e (by kernel_rfl) ?_
    refine GoO.exec (is := [0]) (hs := [.b 0]) (rest := [1, 2]) (ks := [0, 2, 5, 12]) (env' := [(0, .pointer (some ⟨b_2, 0, none⟩)), (2, .string (bs name_10)), (5, .pointer (some ⟨b_12, 0, none⟩)), (12, .agg ⟨[.int .u64 k_9.Saga, .int .i64 k_9.Step, .bool k_9.Back]⟩)]) (H' := [⟨40, b_12, [.int .u64 k_9.Saga, .int .i64 k_9.Step, .bool k_9.Back]⟩, ⟨1, b_2, [.int .u64 l_1.fence.Term, .int .u64 l_1.fence.Index, .slice A_3 l_1.effects.length c_4, .map (mA A_5), .map (mA A_7)]⟩]) (ps := [b_12 = b_12]) (by kernel_rfl) (And.intro rfl trivial) ?_
    refine OpTo.go (GoO.new rfl 41 (cs := [.int .u64 0, .int .i64 0, .bool false]) (by kernel_rfl) _ (fun _ => rfl) (fun b_14 => ?_))
    refine GoO.exec (is := [2]) (hs := [.b 0]) (rest := []) (ks := [0, 2, 5, 10]) (env' := [(0, .pointer (some ⟨b_2, 0, none⟩)), (2, .string (bs name_10)), (5, .pointer (some ⟨b_12, 0, none⟩)), (10, .pointer (some ⟨b_14, 0, none⟩))]) (H' := [⟨41, b_14, [.int .u64 k_9.Saga, .int .i64 k_9.Step, .bool k_9.Back]⟩, ⟨40, b_12, [.int .u64 k_9.Saga, .int .i64 k_9.Step, .bool k_9.Back]⟩, ⟨1, b_2, [.int .u64 l_1.fence.Term, .int .u64 l_1.fence.Index, .slice A_3 l_1.effects.length c_4, .map (mA A_5), .map (mA A_7)]⟩]) (ps := [b_14 = b_14]) (by kernel_rfl) (And.intro rfl trivial) ?_
    refine GoO.regionEnd ?_
    refine GoO.seq' c41_12e ?_
    refine GoO.region' (is := [0, 1]) c41_13e (by kernel_rfl) ?_
    refine GoO.exec (is := [0, 1]) (hs := [.p, .b 0]) (rest := []) (ks := [0, 2, 5, 10]) (env' := [(0, .pointer (some ⟨b_2, 0, none⟩)), (2, .string (bs name_10)), (5, .pointer (some ⟨b_12, 0, none⟩)), (10, .pointer (some ⟨b_14, 0, none⟩))]) (H' := [⟨41, b_14, [.int .u64 k_9.Saga, .int .i64 k_9.Step, .bool false]⟩, ⟨40, b_12, [.int .u64 k_9.Saga, .int .i64 k_9.Step, .bool k_9.Back]⟩, ⟨1, b_2, [.int .u64 l_1.fence.Term, .int .u64 l_1.fence.Index, .slice A_3 l_1.effects.length c_4, .map (mA A_5), .map (mA A_7)]⟩]) (ps := [b_14 = b_14]) (by kernel_rfl) (And.intro rfl trivial) ?_
    refine GoO.regionEnd ?_
    refine GoO.seq' c41_14e ?_
    refine GoO.seq' c41_15e ?_
    refine GoO.draw c41_16e (by kernel_rfl) [] [⟨41, b_14, [.int .u64 k_9.Saga, .int .i64 k_9.Step, .bool false]⟩, ⟨1, b_2, [.int .u64 l_1.fence.Term, .int .u64 l_1.fence.Index, .slice A_3 l_1.effects.length c_4, .map (mA A_5), .map (mA A_7)]⟩] [Mp 3 ky41 (fun v => .bool v) A_5 c_6 l_1.said] (n := 6) (by kernel_rfl) ?_
    simp only [List.replicate]
    refine GoF.take [0, 1, 2, 3, 4] [.p, .p, .p, .b 1, .b 0] (ks := [0, 2, 5, 10, 17, 18]) (fu := 1) (li := [true, true, true, true, true, false]) (env' := [(0, .pointer (some ⟨b_2, 0, none⟩)), (2, .string (bs name_10)), (5, .pointer (some ⟨b_12, 0, none⟩)), (10, .pointer (some ⟨b_14, 0, none⟩)), (17, .map (mA A_5)), (18, .agg ⟨[.int .u64 k_9.Saga, .int .i64 k_9.Step, .bool false]⟩)]) (ps := [b_2 = b_2, b_14 = b_14]) (hk := [0, 2]) (bk := [1]) (by kernel_rfl) (And.intro rfl (And.intro rfl trivial)) rfl rfl ?_
    refine OpTo.goF (i := 5) (by kernel_rfl) (hk := [0, 2]) (bk := [1]) (GoO.mapLk (vt := 4) (K := ky41) (ev := (fun v => .bool v)) (A := A_5) (c := c_6) (l := l_1.said) (key := (⟨k_9.Saga, k_9.Step, false⟩ : T_api_Key)) (j := 1) rfl (by kernel_rfl) (by kernel_rfl) (by kernel_rfl) rfl false (fun _ => by kernel_rfl) rfl ⟨rfl, rfl, ?_⟩)
    refine GoF.done (by kernel_rfl) ?_
    refine GoO.ite' c41_17e (by kernel_rfl) (fun h15 => ?_) (fun h15 => ?_)
    · refine GoO.draw c41_18e (by kernel_rfl) [10, 11, 12] [⟨40, b_12, [.int .u64 k_9.Saga, .int .i64 k_9.Step, .bool k_9.Back]⟩, ⟨1, b_2, [.int .u64 l_1.fence.Term, .int .u64 l_1.fence.Index, .slice A_3 l_1.effects.length c_4, .map (mA A_5), .map (mA A_7)]⟩] [] (n := 13) (by kernel_rfl) ?_
      simp only [List.replicate]
      refine GoF.take [0, 1, 2, 3, 4, 5, 6, 7] [.p, .p, .p, .p, .b 1, .b 0, .p, .p] (ks := [0, 5, 20, 24, 27]) (fu := 5) (li := [true, true, true, true, true, true, true, true, false, false, false, false, false]) (env' := [(0, .pointer (some ⟨b_2, 0, none⟩)), (5, .pointer (some ⟨b_12, 0, none⟩)), (20, .pointer (some ⟨b_2, 0, none⟩)), (24, .slice A_3 l_1.effects.length c_4), (27, .agg ⟨[.int .u64 k_9.Saga, .int .i64 k_9.Step, .bool k_9.Back, .string (bs name_10)]⟩)]) (ps := [b_2 = b_2, b_12 = b_12]) (hk := [1, 2]) (bk := []) (by kernel_rfl) (And.intro rfl (And.intro rfl trivial)) rfl rfl ?_
      refine OpTo.goF (i := 8) (by kernel_rfl) (hk := [1, 2]) (bk := []) (GoO.lit (e := 56) (K := kT_ledger_Effect) rfl (by kernel_rfl) (by kernel_rfl) (cs := [.int .u64 k_9.Saga, .int .i64 k_9.Step, .bool k_9.Back, .string (bs name_10)]) (by kernel_rfl) [(⟨k_9, name_10⟩ : T_ledger_Effect)] (by kernel_rfl) (by kernel_rfl) (fun w S hB => ⟨[.int .u64 k_9.Saga, .int .i64 k_9.Step, .bool k_9.Back, .string (bs name_10)], _, rfl, rfl, rfl⟩) 42 _ (fun _ _ => rfl) (fun A_16 c_17 => ⟨rfl, rfl, ?_⟩))
      refine GoF.guard (fun h18 => ?_)
      refine OpTo.goF (i := 9) (by kernel_rfl) (hk := [1, 2]) (bk := []) (GoO.appW (e := 56) (K := kT_ledger_Effect) (A := A_3) (c := c_4) (tg := 2) (bytes := 40) (zs := [.int .u64 0, .int .i64 0, .bool false, .string (bs [])]) (xs := l_1.effects) (ys := [(⟨k_9, name_10⟩ : T_ledger_Effect)]) (xv := .slice A_16 [(⟨k_9, name_10⟩ : T_ledger_Effect)].length c_17) (j := 1) (bk := [0, 2, 3]) rfl (by kernel_rfl) (by kernel_rfl) (by kernel_rfl) (by kernel_rfl) rfl (by kernel_rfl) rfl (fun w S hB => SrcIs.row (Reads.own w S (hB _ (List.mem_of_getElem? (i := 0) rfl)))) h18 rfl rfl rfl rfl _ (fun _ _ => rfl) (fun A_19 c_20 => ⟨rfl, rfl, ?_⟩))
      refine GoF.fin1 (i := 10) (hint := .p) (ps := []) (hk := []) (bk := []) (by kernel_rfl) rfl trivial (.inl rfl) ?_
      refine GoF.fin1 (i := 11) (hint := .p) (ps := []) (hk := []) (bk := []) (by kernel_rfl) rfl trivial (.inl rfl) ?_
      refine GoF.fin1 (i := 12) (hint := .b 2) (ps := [b_2 = b_2]) (hk := []) (bk := []) (by kernel_rfl) rfl (And.intro rfl trivial) (.inl rfl) ?_
      refine GoF.done (by kernel_rfl) ?_
      exact GoO.sub (ks := [0, 5]) (hk := [2, 1]) (bk := [0, 2, 3]) (by kernel_rfl) (by kernel_rfl) (by kernel_rfl) (ledger_Ledger_undo_j0_ok n l_1 k_9 b_2 A_5 c_6 b_12 A_3 c_4 A_7 c_8 w0 S0 (l_1.effects ++ [(⟨k_9, name_10⟩ : T_ledger_Effect)]) l_1.tombs A_19 c_20 A_7 c_8)
    · refine GoO.draw c41_19e (by kernel_rfl) [5] [⟨41, b_14, [.int .u64 k_9.Saga, .int .i64 k_9.Step, .bool false]⟩, ⟨1, b_2, [.int .u64 l_1.fence.Term, .int .u64 l_1.fence.Index, .slice A_3 l_1.effects.length c_4, .map (mA A_5), .map (mA A_7)]⟩] [] (n := 6) (by kernel_rfl) ?_
      simp only [List.replicate]
      refine GoF.take [0, 1, 2, 3, 4] [.p, .p, .p, .b 1, .b 0] (ks := [0, 5, 35, 36]) (fu := 1) (li := [true, true, true, true, true, false]) (env' := [(0, .pointer (some ⟨b_2, 0, none⟩)), (5, .pointer (some ⟨b_12, 0, none⟩)), (35, .map (mA A_7)), (36, .agg ⟨[.int .u64 k_9.Saga, .int .i64 k_9.Step, .bool false]⟩)]) (ps := [b_2 = b_2, b_14 = b_14]) (hk := [0, 2]) (bk := []) (by kernel_rfl) (And.intro rfl (And.intro rfl trivial)) rfl rfl ?_
      refine OpTo.goE (i := 5) (by kernel_rfl) rfl (GoO.mapUp (vt := 4) (K := ky41) (ev := (fun v => .bool v)) (A := A_7) (c := c_8) (tg := 4) (l := l_1.tombs) (key := (⟨k_9.Saga, k_9.Step, false⟩ : T_api_Key)) (v := true) (j := 2) rfl (by kernel_rfl) (by kernel_rfl) (by kernel_rfl) (by kernel_rfl) rfl (by kernel_rfl) (by kernel_rfl) (by kernel_rfl) rfl ?_)
      refine GoF.done (by kernel_rfl) ?_
      exact GoO.sub (ks := [0, 5]) (hk := [2, 1]) (bk := [0, 1, 2]) (by kernel_rfl) (by kernel_rfl) (by kernel_rfl) (ledger_Ledger_undo_j0_ok n l_1 k_9 b_2 A_5 c_6 b_12 A_3 c_4 A_7 c_8 w0 S0 l_1.effects (putA (⟨k_9.Saga, k_9.Step, false⟩ : T_api_Key) true l_1.tombs) A_3 c_4 A_7 c_8)

/-! (*tontine/ledger.Ledger).Ask -/
noncomputable def c23_0 : Code := bodyOf Try.f23
noncomputable def c23_1 : Code := cdL c23_0
noncomputable def c23_2 : Code := cdR c23_0
noncomputable def c23_3 : Code := cdL c23_2
noncomputable def c23_4 : Code := cdL c23_3
noncomputable def c23_5 : Code := cdR c23_3
noncomputable def c23_6 : Code := cdL c23_5
noncomputable def c23_7 : Code := cdL c23_6
noncomputable def c23_8 : Code := cdR c23_6
noncomputable def c23_9 : Code := cdR c23_5
noncomputable def c23_10 : Code := cdR c23_2
noncomputable def c23_11 : Code := cdL c23_10
noncomputable def c23_12 : Code := cdL c23_11
noncomputable def c23_13 : Code := cdR c23_11
noncomputable def c23_14 : Code := cdL c23_13
noncomputable def c23_15 : Code := cdL c23_14
noncomputable def c23_16 : Code := cdR c23_14
noncomputable def c23_17 : Code := cdR c23_13
noncomputable def c23_18 : Code := cdR c23_10
noncomputable def c23_19 : Code := cdL c23_18
noncomputable def c23_20 : Code := cdR c23_18
noncomputable def c23_21 : Code := cdL c23_20
noncomputable def c23_22 : Code := cdL c23_21
noncomputable def c23_23 : Code := cdR c23_21
noncomputable def c23_24 : Code := cdL c23_23
noncomputable def c23_25 : Code := cdR c23_23
noncomputable def c23_26 : Code := cdL c23_25
noncomputable def c23_27 : Code := cdL c23_26
noncomputable def c23_28 : Code := cdR c23_26
noncomputable def c23_29 : Code := cdR c23_25
noncomputable def c23_30 : Code := cdR c23_20
noncomputable def c23_31 : Code := cdL c23_30
noncomputable def c23_32 : Code := cdL c23_31
noncomputable def c23_33 : Code := cdR c23_31
noncomputable def c23_34 : Code := cdL c23_33
noncomputable def c23_35 : Code := cdL c23_34
noncomputable def c23_36 : Code := cdR c23_34
noncomputable def c23_37 : Code := cdR c23_33
noncomputable def c23_38 : Code := cdR c23_30
noncomputable def c23_39 : Code := cdL c23_38
noncomputable def c23_40 : Code := cdL c23_39
noncomputable def c23_41 : Code := cdR c23_39
noncomputable def c23_42 : Code := cdL c23_41
noncomputable def c23_43 : Code := cdL c23_42
noncomputable def c23_44 : Code := cdR c23_42
noncomputable def c23_45 : Code := cdR c23_41
noncomputable def c23_46 : Code := cdR c23_38
noncomputable def c23_47 : Code := cdL c23_46
noncomputable def c23_48 : Code := cdR c23_46
noncomputable def c23_49 : Code := cdL c23_48
noncomputable def c23_50 : Code := cdL c23_49
noncomputable def c23_51 : Code := cdR c23_49
noncomputable def c23_52 : Code := cdL c23_51
noncomputable def c23_53 : Code := cdR c23_51
noncomputable def c23_54 : Code := cdR c23_48
noncomputable def c23_55 : Code := cdL c23_54
noncomputable def c23_56 : Code := cdR c23_54
noncomputable def r23_1 : Array Oper := cdO c23_1
noncomputable def r23_4 : Array Oper := cdO c23_4
noncomputable def r23_7 : Array Oper := cdO c23_7
noncomputable def r23_12 : Array Oper := cdO c23_12
noncomputable def r23_15 : Array Oper := cdO c23_15
noncomputable def r23_19 : Array Oper := cdO c23_19
noncomputable def r23_22 : Array Oper := cdO c23_22
noncomputable def r23_24 : Array Oper := cdO c23_24
noncomputable def r23_27 : Array Oper := cdO c23_27
noncomputable def r23_32 : Array Oper := cdO c23_32
noncomputable def r23_35 : Array Oper := cdO c23_35
noncomputable def r23_40 : Array Oper := cdO c23_40
noncomputable def r23_43 : Array Oper := cdO c23_43
noncomputable def r23_47 : Array Oper := cdO c23_47
noncomputable def r23_50 : Array Oper := cdO c23_50
noncomputable def r23_52 : Array Oper := cdO c23_52
noncomputable def r23_55 : Array Oper := cdO c23_55
theorem c23_0e : c23_0 = .seq c23_1 c23_2 := by kernel_rfl
theorem c23_1e : c23_1 = .region 0 r23_1 false := by kernel_rfl
theorem c23_2e : c23_2 = .seq c23_3 c23_10 := by kernel_rfl
theorem c23_3e : c23_3 = .seq c23_4 c23_5 := by kernel_rfl
theorem c23_4e : c23_4 = .region 1 r23_4 false := by kernel_rfl
theorem c23_5e : c23_5 = .cond (cdC c23_5) c23_6 c23_9 := by kernel_rfl
theorem c23_6e : c23_6 = .seq c23_7 c23_8 := by kernel_rfl
theorem c23_7e : c23_7 = .region 2 r23_7 false := by kernel_rfl
theorem c23_8e : c23_8 = .ret := by kernel_rfl
theorem c23_9e : c23_9 = .skip := by kernel_rfl
theorem c23_10e : c23_10 = .seq c23_11 c23_18 := by kernel_rfl
theorem c23_11e : c23_11 = .seq c23_12 c23_13 := by kernel_rfl
theorem c23_12e : c23_12 = .region 3 r23_12 true := by kernel_rfl
theorem c23_13e : c23_13 = .cond (cdC c23_13) c23_14 c23_17 := by kernel_rfl
theorem c23_14e : c23_14 = .seq c23_15 c23_16 := by kernel_rfl
theorem c23_15e : c23_15 = .region 4 r23_15 false := by kernel_rfl
theorem c23_16e : c23_16 = .ret := by kernel_rfl
theorem c23_17e : c23_17 = .skip := by kernel_rfl
theorem c23_18e : c23_18 = .seq c23_19 c23_20 := by kernel_rfl
theorem c23_19e : c23_19 = .region 5 r23_19 false := by kernel_rfl
theorem c23_20e : c23_20 = .seq c23_21 c23_30 := by kernel_rfl
theorem c23_21e : c23_21 = .seq c23_22 c23_23 := by kernel_rfl
theorem c23_22e : c23_22 = .region 6 r23_22 true := by kernel_rfl
theorem c23_23e : c23_23 = .seq c23_24 c23_25 := by kernel_rfl
theorem c23_24e : c23_24 = .region 7 r23_24 false := by kernel_rfl
theorem c23_25e : c23_25 = .cond (cdC c23_25) c23_26 c23_29 := by kernel_rfl
theorem c23_26e : c23_26 = .seq c23_27 c23_28 := by kernel_rfl
theorem c23_27e : c23_27 = .region 8 r23_27 false := by kernel_rfl
theorem c23_28e : c23_28 = .ret := by kernel_rfl
theorem c23_29e : c23_29 = .skip := by kernel_rfl
theorem c23_30e : c23_30 = .seq c23_31 c23_38 := by kernel_rfl
theorem c23_31e : c23_31 = .seq c23_32 c23_33 := by kernel_rfl
theorem c23_32e : c23_32 = .region 9 r23_32 false := by kernel_rfl
theorem c23_33e : c23_33 = .cond (cdC c23_33) c23_34 c23_37 := by kernel_rfl
theorem c23_34e : c23_34 = .seq c23_35 c23_36 := by kernel_rfl
theorem c23_35e : c23_35 = .region 10 r23_35 false := by kernel_rfl
theorem c23_36e : c23_36 = .ret := by kernel_rfl
theorem c23_37e : c23_37 = .skip := by kernel_rfl
theorem c23_38e : c23_38 = .seq c23_39 c23_46 := by kernel_rfl
theorem c23_39e : c23_39 = .seq c23_40 c23_41 := by kernel_rfl
theorem c23_40e : c23_40 = .region 11 r23_40 true := by kernel_rfl
theorem c23_41e : c23_41 = .cond (cdC c23_41) c23_42 c23_45 := by kernel_rfl
theorem c23_42e : c23_42 = .seq c23_43 c23_44 := by kernel_rfl
theorem c23_43e : c23_43 = .region 12 r23_43 false := by kernel_rfl
theorem c23_44e : c23_44 = .ret := by kernel_rfl
theorem c23_45e : c23_45 = .skip := by kernel_rfl
theorem c23_46e : c23_46 = .seq c23_47 c23_48 := by kernel_rfl
theorem c23_47e : c23_47 = .region 13 r23_47 true := by kernel_rfl
theorem c23_48e : c23_48 = .seq c23_49 c23_54 := by kernel_rfl
theorem c23_49e : c23_49 = .seq c23_50 c23_51 := by kernel_rfl
theorem c23_50e : c23_50 = .region 14 r23_50 false := by kernel_rfl
theorem c23_51e : c23_51 = .cond (cdC c23_51) c23_52 c23_53 := by kernel_rfl
theorem c23_52e : c23_52 = .region 15 r23_52 true := by kernel_rfl
theorem c23_53e : c23_53 = .skip := by kernel_rfl
theorem c23_54e : c23_54 = .seq c23_55 c23_56 := by kernel_rfl
theorem c23_55e : c23_55 = .region 16 r23_55 false := by kernel_rfl
theorem c23_56e : c23_56 = .ret := by kernel_rfl
noncomputable def ledger_Ledger_Ask.R (b_2 : Nat) (A_3 : Option Addr) (c_4 : Nat) (A_5 : Option Addr) (c_6 : Nat) (A_7 : Option Addr) (c_8 : Nat) : Pst (Bool × Int × T_ledger_Ledger) where
  ε := Option Addr × Nat × Option Addr × Nat × Option Addr × Nat
  v := fun r x => .tuple ⟨[.bool r.1, .int .i64 r.2.1]⟩
  H := fun r x => [⟨1, b_2, [.int .u64 r.2.2.fence.Term, .int .u64 r.2.2.fence.Index, .slice x.1 r.2.2.effects.length x.2.1, .map (mA x.2.2.1), .map (mA x.2.2.2.2.1)]⟩]
  B := fun r x => [Ow 2 kT_ledger_Effect x.1 x.2.1 r.2.2.effects, Mp 3 ky41 (fun v => .bool v) x.2.2.1 x.2.2.2.1 r.2.2.said, Mp 4 ky41 (fun v => .bool v) x.2.2.2.2.1 x.2.2.2.2.2 r.2.2.tombs]
noncomputable def ledger_Ledger_Ask.cx (b_2 : Nat) (A_3 : Option Addr) (c_4 : Nat) (A_5 : Option Addr) (c_6 : Nat) (A_7 : Option Addr) (c_8 : Nat) (w0 : World) (S0 : Fam) : Cx (Bool × Int × T_ledger_Ledger) := ⟨Try.prog, 23, Try.f23, 90, w0, S0, [1, 2, 3, 4], 4, ledger_Ledger_Ask.R b_2 A_3 c_4 A_5 c_6 A_7 c_8⟩
theorem ledger_Ledger_Ask_j0_ok (n : Nat) (l_1 : T_ledger_Ledger) (t_9 : T_api_Token) (k_10 : T_api_Key) (name_11 : (List UInt8)) (fail_12 : Bool) (b_2 : Nat) (A_3 : Option Addr) (c_4 : Nat) (A_5 : Option Addr) (c_6 : Nat) (A_7 : Option Addr) (c_8 : Nat) (b_13 : Nat) (b_14 : Nat) (w0 : World) (S0 : Fam) (b_17 : Bool) :
    GoO (ledger_Ledger_Ask.cx b_2 A_3 c_4 A_5 c_6 A_7 c_8 w0 S0) [(0, .pointer (some ⟨b_2, 0, none⟩)), (3, .string (bs name_11)), (4, .bool fail_12), (6, .pointer (some ⟨b_13, 0, none⟩)), (7, .pointer (some ⟨b_14, 0, none⟩)), (30, .bool b_17)] [⟨1, b_2, [.int .u64 l_1.fence.Term, .int .u64 l_1.fence.Index, .slice A_3 l_1.effects.length c_4, .map (mA A_5), .map (mA A_7)]⟩, ⟨40, b_13, [.int .u64 t_9.Term, .int .u64 t_9.Index]⟩, ⟨41, b_14, [.int .u64 k_10.Saga, .int .i64 k_10.Step, .bool k_10.Back]⟩] [Ow 2 kT_ledger_Effect A_3 c_4 l_1.effects, Mp 3 ky41 (fun v => .bool v) A_5 c_6 l_1.said, Mp 4 ky41 (fun v => .bool v) A_7 c_8 l_1.tombs] [.code c23_5, .code c23_10] (ledger_Ledger_Ask.j0 n l_1 t_9 k_10 name_11 fail_12 b_17) := by
  unfold ledger_Ledger_Ask.j0
  refine GoO.ite' c23_5e (by kernel_rfl) (fun h18 => ?_) (fun h18 => ?_)
  · refine GoO.seq' c23_6e ?_
    refine GoO.region' (is := [0, 1]) c23_7e (by kernel_rfl) ?_
    refine GoO.exec (is := [0, 1]) (hs := [.p, .p]) (rest := []) (ks := [10, 11]) (env' := [(10, .bool false), (11, .int .i64 1)]) (H' := [⟨1, b_2, [.int .u64 l_1.fence.Term, .int .u64 l_1.fence.Index, .slice A_3 l_1.effects.length c_4, .map (mA A_5), .map (mA A_7)]⟩, ⟨40, b_13, [.int .u64 t_9.Term, .int .u64 t_9.Index]⟩, ⟨41, b_14, [.int .u64 k_10.Saga, .int .i64 k_10.Step, .bool k_10.Back]⟩]) (ps := []) (by kernel_rfl) trivial ?_
    refine GoO.regionEnd ?_
    exact GoO.ret' (h := c23_8e) (hs := []) (ps := []) (hk := [0]) (bk := [0, 1, 2]) Try.func23 (⟨A_3, c_4, A_5, c_6, A_7, c_8⟩ : Option Addr × Nat × Option Addr × Nat × Option Addr × Nat) (by kernel_rfl) trivial (by kernel_rfl) (by kernel_rfl)
  · refine GoO.skip' c23_9e ?_
    refine GoO.seq' c23_10e ?_
    refine GoO.seq' c23_11e ?_
    refine GoO.draw c23_12e (by kernel_rfl) [] [⟨1, b_2, [.int .u64 l_1.fence.Term, .int .u64 l_1.fence.Index, .slice A_3 l_1.effects.length c_4, .map (mA A_5), .map (mA A_7)]⟩, ⟨40, b_13, [.int .u64 t_9.Term, .int .u64 t_9.Index]⟩] [] (n := 6) (by kernel_rfl) ?_
    simp only [List.replicate]
    refine GoF.take [0, 1, 2, 3, 4] [.b 1, .p, .p, .p, .b 0] (ks := [0, 3, 4, 6, 7, 31, 35]) (fu := 1) (li := [true, true, true, true, true, false]) (env' := [(0, .pointer (some ⟨b_2, 0, none⟩)), (3, .string (bs name_11)), (4, .bool fail_12), (6, .pointer (some ⟨b_13, 0, none⟩)), (7, .pointer (some ⟨b_14, 0, none⟩)), (31, .agg ⟨[.int .u64 t_9.Term, .int .u64 t_9.Index]⟩), (35, .agg ⟨[.int .u64 l_1.fence.Term, .int .u64 l_1.fence.Index]⟩)]) (ps := [b_13 = b_13, b_2 = b_2]) (hk := [0, 1]) (bk := []) (by kernel_rfl) (And.intro rfl (And.intro rfl trivial)) rfl rfl ?_
    refine OpTo.goF (i := 5) (by kernel_rfl) (hk := [0, 1]) (bk := []) (GoO.call rfl (by kernel_rfl) (by kernel_rfl) (ledger_Less_ok n t_9 (⟨l_1.fence.Term, l_1.fence.Index⟩ : T_api_Token)) [[0]] [] [] [] (hks := [0, 1, 2]) (bks := [0, 1, 2]) (by kernel_rfl) (by kernel_rfl) (by kernel_rfl) (.inl rfl) rfl rfl (by kernel_rfl) (by kernel_rfl) _ (fun _ _ => rfl) _ _ (fun _ _ => rfl) (fun _ _ => rfl) (fun _ _ => by kernel_rfl) (fun _ _ => by kernel_rfl) (fun r_19 x_38 => ⟨rfl, rfl, ?_⟩))
    refine GoF.shape (env' := [(0, .pointer (some ⟨b_2, 0, none⟩)), (3, .string (bs name_11)), (4, .bool fail_12), (6, .pointer (some ⟨b_13, 0, none⟩)), (7, .pointer (some ⟨b_14, 0, none⟩)), (31, .agg ⟨[.int .u64 t_9.Term, .int .u64 t_9.Index]⟩), (35, .agg ⟨[.int .u64 l_1.fence.Term, .int .u64 l_1.fence.Index]⟩), (36, .bool r_19)]) (H' := [⟨1, b_2, [.int .u64 l_1.fence.Term, .int .u64 l_1.fence.Index, .slice A_3 l_1.effects.length c_4, .map (mA A_5), .map (mA A_7)]⟩, ⟨40, b_13, [.int .u64 t_9.Term, .int .u64 t_9.Index]⟩, ⟨41, b_14, [.int .u64 k_10.Saga, .int .i64 k_10.Step, .bool k_10.Back]⟩]) (B' := [Ow 2 kT_ledger_Effect A_3 c_4 l_1.effects, Mp 3 ky41 (fun v => .bool v) A_5 c_6 l_1.said, Mp 4 ky41 (fun v => .bool v) A_7 c_8 l_1.tombs]) (ks := [0, 3, 4, 6, 7, 31, 35, 36]) (by kernel_rfl) (by kernel_rfl) (by kernel_rfl) ?_
    refine GoF.done (by kernel_rfl) ?_
    refine GoO.ite' c23_13e (by kernel_rfl) (fun h20 => ?_) (fun h20 => ?_)
    · refine GoO.seq' c23_14e ?_
      refine GoO.region' (is := [0, 1]) c23_15e (by kernel_rfl) ?_
      refine GoO.exec (is := [0, 1]) (hs := [.p, .p]) (rest := []) (ks := [10, 11]) (env' := [(10, .bool false), (11, .int .i64 50)]) (H' := [⟨1, b_2, [.int .u64 l_1.fence.Term, .int .u64 l_1.fence.Index, .slice A_3 l_1.effects.length c_4, .map (mA A_5), .map (mA A_7)]⟩, ⟨40, b_13, [.int .u64 t_9.Term, .int .u64 t_9.Index]⟩, ⟨41, b_14, [.int .u64 k_10.Saga, .int .i64 k_10.Step, .bool k_10.Back]⟩]) (ps := []) (by kernel_rfl) trivial ?_
      refine GoO.regionEnd ?_
      exact GoO.ret' (h := c23_16e) (hs := []) (ps := []) (hk := [0]) (bk := [0, 1, 2]) Try.func23 (⟨A_3, c_4, A_5, c_6, A_7, c_8⟩ : Option Addr × Nat × Option Addr × Nat × Option Addr × Nat) (by kernel_rfl) trivial (by kernel_rfl) (by kernel_rfl)
    · refine GoO.skip' c23_17e ?_
      refine GoO.seq' c23_18e ?_
      refine GoO.region' (is := [0, 1, 2, 3, 4]) c23_19e (by kernel_rfl) ?_
      refine GoO.exec (is := [0, 1, 2, 3, 4]) (hs := [.p, .b 1, .p, .p, .b 0]) (rest := []) (ks := [0, 3, 4, 7]) (env' := [(0, .pointer (some ⟨b_2, 0, none⟩)), (3, .string (bs name_11)), (4, .bool fail_12), (7, .pointer (some ⟨b_14, 0, none⟩))]) (H' := [⟨1, b_2, [.int .u64 t_9.Term, .int .u64 t_9.Index, .slice A_3 l_1.effects.length c_4, .map (mA A_5), .map (mA A_7)]⟩, ⟨40, b_13, [.int .u64 t_9.Term, .int .u64 t_9.Index]⟩, ⟨41, b_14, [.int .u64 k_10.Saga, .int .i64 k_10.Step, .bool k_10.Back]⟩]) (ps := [b_13 = b_13, b_2 = b_2]) (by kernel_rfl) (And.intro rfl (And.intro rfl trivial)) ?_
      refine GoO.regionEnd ?_
      refine GoO.seq' c23_20e ?_
      refine GoO.seq' c23_21e ?_
      refine GoO.draw c23_22e (by kernel_rfl) [10] [⟨1, b_2, [.int .u64 t_9.Term, .int .u64 t_9.Index, .slice A_3 l_1.effects.length c_4, .map (mA A_5), .map (mA A_7)]⟩, ⟨41, b_14, [.int .u64 k_10.Saga, .int .i64 k_10.Step, .bool k_10.Back]⟩] [Mp 3 ky41 (fun v => .bool v) A_5 c_6 l_1.said] (n := 11) (by kernel_rfl) ?_
      simp only [List.replicate]
      refine GoF.take [0, 1, 2, 3, 4] [.p, .p, .p, .b 0, .b 1] (ks := [0, 3, 4, 7, 45, 46]) (fu := 6) (li := [true, true, true, true, true, false, false, false, false, false, false]) (env' := [(0, .pointer (some ⟨b_2, 0, none⟩)), (3, .string (bs name_11)), (4, .bool fail_12), (7, .pointer (some ⟨b_14, 0, none⟩)), (45, .map (mA A_5)), (46, .agg ⟨[.int .u64 k_10.Saga, .int .i64 k_10.Step, .bool k_10.Back]⟩)]) (ps := [b_2 = b_2, b_14 = b_14]) (hk := [0, 2]) (bk := [1]) (by kernel_rfl) (And.intro rfl (And.intro rfl trivial)) rfl rfl ?_
      refine OpTo.goF (i := 5) (by kernel_rfl) (hk := [0, 2]) (bk := [1]) (GoO.mapLk (vt := 4) (K := ky41) (ev := (fun v => .bool v)) (A := A_5) (c := c_6) (l := l_1.said) (key := k_10) (j := 1) rfl (by kernel_rfl) (by kernel_rfl) (by kernel_rfl) rfl false (fun _ => by kernel_rfl) rfl ⟨rfl, rfl, ?_⟩)
      refine GoF.take [6, 7, 8, 9] [.p, .p, .p, .p] (ks := [0, 3, 4, 7, 12, 49]) (fu := 1) (li := [true, true, true, true, true, true, true, true, true, true, false]) (env' := [(0, .pointer (some ⟨b_2, 0, none⟩)), (3, .string (bs name_11)), (4, .bool fail_12), (7, .pointer (some ⟨b_14, 0, none⟩)), (12, .bool ((getA k_10 l_1.said).getD false)), (49, .bool ((getA k_10 l_1.said).isSome))]) (ps := []) (hk := [0, 2]) (bk := [1]) (by kernel_rfl) trivial rfl rfl ?_
      refine GoF.fin1 (i := 10) (hint := .p) (ps := []) (hk := []) (bk := []) (by kernel_rfl) rfl trivial (.inl rfl) ?_
      refine GoF.done (by kernel_rfl) ?_
      refine GoO.seq' c23_23e ?_
      refine GoO.region' (is := [0]) c23_24e (by kernel_rfl) ?_
      refine GoO.exec (is := [0]) (hs := [.p]) (rest := []) (ks := [0, 3, 4, 7, 12, 50]) (env' := [(0, .pointer (some ⟨b_2, 0, none⟩)), (3, .string (bs name_11)), (4, .bool fail_12), (7, .pointer (some ⟨b_14, 0, none⟩)), (12, .bool ((getA k_10 l_1.said).getD false)), (50, .bool ((getA k_10 l_1.said).isSome))]) (H' := [⟨1, b_2, [.int .u64 t_9.Term, .int .u64 t_9.Index, .slice A_3 l_1.effects.length c_4, .map (mA A_5), .map (mA A_7)]⟩, ⟨40, b_13, [.int .u64 t_9.Term, .int .u64 t_9.Index]⟩, ⟨41, b_14, [.int .u64 k_10.Saga, .int .i64 k_10.Step, .bool k_10.Back]⟩]) (ps := []) (by kernel_rfl) trivial ?_
      refine GoO.regionEnd ?_
      refine GoO.ite' c23_25e (by kernel_rfl) (fun h21 => ?_) (fun h21 => ?_)
      · refine GoO.seq' c23_26e ?_
        refine GoO.region' (is := [0, 1, 2]) c23_27e (by kernel_rfl) ?_
        refine GoO.exec (is := [0, 1, 2]) (hs := [.p, .p, .p]) (rest := []) (ks := [10, 11]) (env' := [(10, .bool ((getA k_10 l_1.said).getD false)), (11, .int .i64 0)]) (H' := [⟨1, b_2, [.int .u64 t_9.Term, .int .u64 t_9.Index, .slice A_3 l_1.effects.length c_4, .map (mA A_5), .map (mA A_7)]⟩, ⟨40, b_13, [.int .u64 t_9.Term, .int .u64 t_9.Index]⟩, ⟨41, b_14, [.int .u64 k_10.Saga, .int .i64 k_10.Step, .bool k_10.Back]⟩]) (ps := []) (by kernel_rfl) trivial ?_
        refine GoO.regionEnd ?_
        exact GoO.ret' (h := c23_28e) (hs := []) (ps := []) (hk := [0]) (bk := [0, 1, 2]) Try.func23 (⟨A_3, c_4, A_5, c_6, A_7, c_8⟩ : Option Addr × Nat × Option Addr × Nat × Option Addr × Nat) (by kernel_rfl) trivial (by kernel_rfl) (by kernel_rfl)
      · refine GoO.skip' c23_29e ?_
        refine GoO.seq' c23_30e ?_
        refine GoO.seq' c23_31e ?_
        refine GoO.region' (is := [0, 1]) c23_32e (by kernel_rfl) ?_
        refine GoO.exec (is := [0, 1]) (hs := [.p, .b 2]) (rest := []) (ks := [0, 3, 4, 7, 53]) (env' := [(0, .pointer (some ⟨b_2, 0, none⟩)), (3, .string (bs name_11)), (4, .bool fail_12), (7, .pointer (some ⟨b_14, 0, none⟩)), (53, .bool k_10.Back)]) (H' := [⟨1, b_2, [.int .u64 t_9.Term, .int .u64 t_9.Index, .slice A_3 l_1.effects.length c_4, .map (mA A_5), .map (mA A_7)]⟩, ⟨40, b_13, [.int .u64 t_9.Term, .int .u64 t_9.Index]⟩, ⟨41, b_14, [.int .u64 k_10.Saga, .int .i64 k_10.Step, .bool k_10.Back]⟩]) (ps := [b_14 = b_14]) (by kernel_rfl) (And.intro rfl trivial) ?_
        refine GoO.regionEnd ?_
        refine GoO.ite' c23_33e (by kernel_rfl) (fun h22 => ?_) (fun h22 => ?_)
        · refine GoO.seq' c23_34e ?_
          refine GoO.region' (is := [0, 1, 2, 3, 4, 5, 6, 7, 8]) c23_35e (by kernel_rfl) ?_
          refine GoO.exec (is := [0, 1, 2, 3]) (hs := [.p, .b 2, .p, .p]) (rest := [4, 5, 6, 7, 8]) (ks := [54, 55, 56, 57]) (env' := [(54, .pointer (some ⟨b_2, 0, none⟩)), (55, .agg ⟨[.int .u64 k_10.Saga, .int .i64 k_10.Step, .bool k_10.Back]⟩), (56, .string (bs name_11)), (57, .bool fail_12)]) (H' := [⟨1, b_2, [.int .u64 t_9.Term, .int .u64 t_9.Index, .slice A_3 l_1.effects.length c_4, .map (mA A_5), .map (mA A_7)]⟩, ⟨40, b_13, [.int .u64 t_9.Term, .int .u64 t_9.Index]⟩, ⟨41, b_14, [.int .u64 k_10.Saga, .int .i64 k_10.Step, .bool k_10.Back]⟩]) (ps := [b_14 = b_14]) (by kernel_rfl) (And.intro rfl trivial) ?_
          refine OpTo.go (GoO.call rfl (by kernel_rfl) (by kernel_rfl) (ledger_Ledger_undo_ok n (⟨t_9, l_1.effects, l_1.said, l_1.tombs⟩ : T_ledger_Ledger) k_10 name_11 fail_12 b_2 A_3 c_4 A_5 c_6 A_7 c_8) [[0], [1], [2], [3], [4]] [(1, 1), (2, 2), (3, 3), (4, 4)] [(1, 0)] [(2, 0), (3, 1), (4, 2)] (hks := [1, 2]) (bks := []) (by kernel_rfl) (by kernel_rfl) (by kernel_rfl) (.inl rfl) rfl rfl (by kernel_rfl) (by kernel_rfl) _ (fun _ _ => rfl) _ _ (fun _ _ => rfl) (fun _ _ => rfl) (fun _ _ => by kernel_rfl) (fun _ _ => by kernel_rfl) (fun r_23 x_30 => ?_))
          obtain ⟨A_24, c_25, A_26, c_27, A_28, c_29⟩ := x_30
          refine GoO.shape (env' := [(54, .pointer (some ⟨b_2, 0, none⟩)), (55, .agg ⟨[.int .u64 k_10.Saga, .int .i64 k_10.Step, .bool k_10.Back]⟩), (56, .string (bs name_11)), (57, .bool fail_12), (58, .tuple ⟨[.bool r_23.1, .int .i64 r_23.2.1]⟩)]) (H' := [⟨1, b_2, [.int .u64 r_23.2.2.fence.Term, .int .u64 r_23.2.2.fence.Index, .slice A_24 r_23.2.2.effects.length c_25, .map (mA A_26), .map (mA A_28)]⟩, ⟨40, b_13, [.int .u64 t_9.Term, .int .u64 t_9.Index]⟩, ⟨41, b_14, [.int .u64 k_10.Saga, .int .i64 k_10.Step, .bool k_10.Back]⟩]) (B' := [Ow 2 kT_ledger_Effect A_24 c_25 r_23.2.2.effects, Mp 3 ky41 (fun v => .bool v) A_26 c_27 r_23.2.2.said, Mp 4 ky41 (fun v => .bool v) A_28 c_29 r_23.2.2.tombs]) (ks := [54, 55, 56, 57, 58]) (by kernel_rfl) (by kernel_rfl) (by kernel_rfl) ?_
          refine GoO.exec (is := [5, 6, 7, 8]) (hs := [.p, .p, .p, .p]) (rest := []) (ks := [10, 11]) (env' := [(10, .bool r_23.1), (11, .int .i64 r_23.2.1)]) (H' := [⟨1, b_2, [.int .u64 r_23.2.2.fence.Term, .int .u64 r_23.2.2.fence.Index, .slice A_24 r_23.2.2.effects.length c_25, .map (mA A_26), .map (mA A_28)]⟩, ⟨40, b_13, [.int .u64 t_9.Term, .int .u64 t_9.Index]⟩, ⟨41, b_14, [.int .u64 k_10.Saga, .int .i64 k_10.Step, .bool k_10.Back]⟩]) (ps := []) (by kernel_rfl) trivial ?_
          refine GoO.regionEnd ?_
          exact GoO.ret' (h := c23_36e) (hs := []) (ps := []) (hk := [0]) (bk := [0, 1, 2]) Try.func23 (⟨A_24, c_25, A_26, c_27, A_28, c_29⟩ : Option Addr × Nat × Option Addr × Nat × Option Addr × Nat) (by kernel_rfl) trivial (by kernel_rfl) (by kernel_rfl)
        · refine GoO.skip' c23_37e ?_
          refine GoO.seq' c23_38e ?_
          refine GoO.seq' c23_39e ?_
          refine GoO.draw c23_40e (by kernel_rfl) [] [⟨1, b_2, [.int .u64 t_9.Term, .int .u64 t_9.Index, .slice A_3 l_1.effects.length c_4, .map (mA A_5), .map (mA A_7)]⟩, ⟨41, b_14, [.int .u64 k_10.Saga, .int .i64 k_10.Step, .bool k_10.Back]⟩] [Mp 4 ky41 (fun v => .bool v) A_7 c_8 l_1.tombs] (n := 6) (by kernel_rfl) ?_
          simp only [List.replicate]
          refine GoF.take [0, 1, 2, 3, 4] [.p, .p, .p, .b 0, .b 1] (ks := [0, 3, 4, 7, 64, 65]) (fu := 1) (li := [true, true, true, true, true, false]) (env' := [(0, .pointer (some ⟨b_2, 0, none⟩)), (3, .string (bs name_11)), (4, .bool fail_12), (7, .pointer (some ⟨b_14, 0, none⟩)), (64, .map (mA A_7)), (65, .agg ⟨[.int .u64 k_10.Saga, .int .i64 k_10.Step, .bool k_10.Back]⟩)]) (ps := [b_2 = b_2, b_14 = b_14]) (hk := [0, 2]) (bk := [2]) (by kernel_rfl) (And.intro rfl (And.intro rfl trivial)) rfl rfl ?_
          refine OpTo.goF (i := 5) (by kernel_rfl) (hk := [0, 2]) (bk := [2]) (GoO.mapLk (vt := 4) (K := ky41) (ev := (fun v => .bool v)) (A := A_7) (c := c_8) (l := l_1.tombs) (key := k_10) (j := 2) rfl (by kernel_rfl) (by kernel_rfl) (by kernel_rfl) rfl false (fun _ => by kernel_rfl) rfl ⟨rfl, rfl, ?_⟩)
          refine GoF.done (by kernel_rfl) ?_
          refine GoO.ite' c23_41e (by kernel_rfl) (fun h31 => ?_) (fun h31 => ?_)
          · refine GoO.seq' c23_42e ?_
            refine GoO.region' (is := [0, 1]) c23_43e (by kernel_rfl) ?_
            refine GoO.exec (is := [0, 1]) (hs := [.p, .p]) (rest := []) (ks := [10, 11]) (env' := [(10, .bool false), (11, .int .i64 51)]) (H' := [⟨1, b_2, [.int .u64 t_9.Term, .int .u64 t_9.Index, .slice A_3 l_1.effects.length c_4, .map (mA A_5), .map (mA A_7)]⟩, ⟨40, b_13, [.int .u64 t_9.Term, .int .u64 t_9.Index]⟩, ⟨41, b_14, [.int .u64 k_10.Saga, .int .i64 k_10.Step, .bool k_10.Back]⟩]) (ps := []) (by kernel_rfl) trivial ?_
            refine GoO.regionEnd ?_
            exact GoO.ret' (h := c23_44e) (hs := []) (ps := []) (hk := [0]) (bk := [0, 1, 2]) Try.func23 (⟨A_3, c_4, A_5, c_6, A_7, c_8⟩ : Option Addr × Nat × Option Addr × Nat × Option Addr × Nat) (by kernel_rfl) trivial (by kernel_rfl) (by kernel_rfl)
          · refine GoO.skip' c23_45e ?_
            refine GoO.seq' c23_46e ?_
            refine GoO.draw c23_47e (by kernel_rfl) [7] [⟨1, b_2, [.int .u64 t_9.Term, .int .u64 t_9.Index, .slice A_3 l_1.effects.length c_4, .map (mA A_5), .map (mA A_7)]⟩, ⟨41, b_14, [.int .u64 k_10.Saga, .int .i64 k_10.Step, .bool k_10.Back]⟩] [] (n := 8) (by kernel_rfl) ?_
            simp only [List.replicate]
            refine GoF.take [0, 1, 2, 3, 4, 5, 6] [.p, .p, .p, .b 0, .b 1, .p, .p] (ks := [0, 3, 4, 7, 70, 71, 73]) (fu := 1) (li := [true, true, true, true, true, true, true, false]) (env' := [(0, .pointer (some ⟨b_2, 0, none⟩)), (3, .string (bs name_11)), (4, .bool fail_12), (7, .pointer (some ⟨b_14, 0, none⟩)), (70, .map (mA A_5)), (71, .agg ⟨[.int .u64 k_10.Saga, .int .i64 k_10.Step, .bool k_10.Back]⟩), (73, .bool (!fail_12))]) (ps := [b_2 = b_2, b_14 = b_14]) (hk := [0, 2]) (bk := []) (by kernel_rfl) (And.intro rfl (And.intro rfl trivial)) rfl rfl ?_
            refine OpTo.goE (i := 7) (by kernel_rfl) rfl (GoO.mapUp (vt := 4) (K := ky41) (ev := (fun v => .bool v)) (A := A_5) (c := c_6) (tg := 3) (l := l_1.said) (key := k_10) (v := (!fail_12)) (j := 1) rfl (by kernel_rfl) (by kernel_rfl) (by kernel_rfl) (by kernel_rfl) rfl (by kernel_rfl) (by kernel_rfl) (by kernel_rfl) rfl ?_)
            refine GoF.done (by kernel_rfl) ?_
            refine GoO.seq' c23_48e ?_
            refine GoO.seq' c23_49e ?_
            refine GoO.region' (is := [0, 1]) c23_50e (by kernel_rfl) ?_
            refine GoO.exec (is := [0, 1]) (hs := [.p, .p]) (rest := []) (ks := [0, 3, 4, 7, 75]) (env' := [(0, .pointer (some ⟨b_2, 0, none⟩)), (3, .string (bs name_11)), (4, .bool fail_12), (7, .pointer (some ⟨b_14, 0, none⟩)), (75, .bool (!fail_12))]) (H' := [⟨1, b_2, [.int .u64 t_9.Term, .int .u64 t_9.Index, .slice A_3 l_1.effects.length c_4, .map (mA A_5), .map (mA A_7)]⟩, ⟨40, b_13, [.int .u64 t_9.Term, .int .u64 t_9.Index]⟩, ⟨41, b_14, [.int .u64 k_10.Saga, .int .i64 k_10.Step, .bool k_10.Back]⟩]) (ps := []) (by kernel_rfl) trivial ?_
            refine GoO.regionEnd ?_
            refine GoO.ite' c23_51e (by kernel_rfl) (fun h32 => ?_) (fun h32 => ?_)
            · refine GoO.draw c23_52e (by kernel_rfl) [10, 11, 12] [⟨1, b_2, [.int .u64 t_9.Term, .int .u64 t_9.Index, .slice A_3 l_1.effects.length c_4, .map (mA A_5), .map (mA A_7)]⟩, ⟨41, b_14, [.int .u64 k_10.Saga, .int .i64 k_10.Step, .bool k_10.Back]⟩] [] (n := 13) (by kernel_rfl) ?_
              simp only [List.replicate]
              refine GoF.take [0, 1, 2, 3, 4, 5, 6, 7] [.p, .p, .p, .p, .b 0, .b 1, .p, .p] (ks := [4, 76, 80, 83]) (fu := 5) (li := [true, true, true, true, true, true, true, true, false, false, false, false, false]) (env' := [(4, .bool fail_12), (76, .pointer (some ⟨b_2, 0, none⟩)), (80, .slice A_3 l_1.effects.length c_4), (83, .agg ⟨[.int .u64 k_10.Saga, .int .i64 k_10.Step, .bool k_10.Back, .string (bs name_11)]⟩)]) (ps := [b_2 = b_2, b_14 = b_14]) (hk := [0, 2]) (bk := []) (by kernel_rfl) (And.intro rfl (And.intro rfl trivial)) rfl rfl ?_
              refine OpTo.goF (i := 8) (by kernel_rfl) (hk := [0, 2]) (bk := []) (GoO.lit (e := 56) (K := kT_ledger_Effect) rfl (by kernel_rfl) (by kernel_rfl) (cs := [.int .u64 k_10.Saga, .int .i64 k_10.Step, .bool k_10.Back, .string (bs name_11)]) (by kernel_rfl) [(⟨k_10, name_11⟩ : T_ledger_Effect)] (by kernel_rfl) (by kernel_rfl) (fun w S hB => ⟨[.int .u64 k_10.Saga, .int .i64 k_10.Step, .bool k_10.Back, .string (bs name_11)], _, rfl, rfl, rfl⟩) 42 _ (fun _ _ => rfl) (fun A_33 c_34 => ⟨rfl, rfl, ?_⟩))
              refine GoF.guard (fun h35 => ?_)
              refine OpTo.goF (i := 9) (by kernel_rfl) (hk := [0, 2]) (bk := []) (GoO.appW (e := 56) (K := kT_ledger_Effect) (A := A_3) (c := c_4) (tg := 2) (bytes := 40) (zs := [.int .u64 0, .int .i64 0, .bool false, .string (bs [])]) (xs := l_1.effects) (ys := [(⟨k_10, name_11⟩ : T_ledger_Effect)]) (xv := .slice A_33 [(⟨k_10, name_11⟩ : T_ledger_Effect)].length c_34) (j := 1) (bk := [0, 2, 3]) rfl (by kernel_rfl) (by kernel_rfl) (by kernel_rfl) (by kernel_rfl) rfl (by kernel_rfl) rfl (fun w S hB => SrcIs.row (Reads.own w S (hB _ (List.mem_of_getElem? (i := 0) rfl)))) h35 rfl rfl rfl rfl _ (fun _ _ => rfl) (fun A_36 c_37 => ⟨rfl, rfl, ?_⟩))
              refine GoF.fin1 (i := 10) (hint := .p) (ps := []) (hk := []) (bk := []) (by kernel_rfl) rfl trivial (.inl rfl) ?_
              refine GoF.fin1 (i := 11) (hint := .p) (ps := []) (hk := []) (bk := []) (by kernel_rfl) rfl trivial (.inl rfl) ?_
              refine GoF.fin1 (i := 12) (hint := .b 0) (ps := [b_2 = b_2]) (hk := []) (bk := []) (by kernel_rfl) rfl (And.intro rfl trivial) (.inl rfl) ?_
              refine GoF.done (by kernel_rfl) ?_
              refine GoO.seq' c23_54e ?_
              refine GoO.region' (is := [0, 1, 2, 3]) c23_55e (by kernel_rfl) ?_
              refine GoO.exec (is := [0, 1, 2, 3]) (hs := [.p, .p, .p, .p]) (rest := []) (ks := [10, 11]) (env' := [(10, .bool (!fail_12)), (11, .int .i64 0)]) (H' := [⟨1, b_2, [.int .u64 t_9.Term, .int .u64 t_9.Index, .slice A_36 (l_1.effects ++ [(⟨k_10, name_11⟩ : T_ledger_Effect)]).length c_37, .map (mA A_5), .map (mA A_7)]⟩, ⟨40, b_13, [.int .u64 t_9.Term, .int .u64 t_9.Index]⟩, ⟨41, b_14, [.int .u64 k_10.Saga, .int .i64 k_10.Step, .bool k_10.Back]⟩]) (ps := []) (by kernel_rfl) trivial ?_
              refine GoO.regionEnd ?_
              exact GoO.ret' (h := c23_56e) (hs := []) (ps := []) (hk := [0]) (bk := [0, 2, 3]) Try.func23 (⟨A_36, c_37, A_5, c_6, A_7, c_8⟩ : Option Addr × Nat × Option Addr × Nat × Option Addr × Nat) (by kernel_rfl) trivial (by kernel_rfl) (by kernel_rfl)
            · refine GoO.skip' c23_53e ?_
              refine GoO.seq' c23_54e ?_
              refine GoO.region' (is := [0, 1, 2, 3]) c23_55e (by kernel_rfl) ?_
              refine GoO.exec (is := [0, 1, 2, 3]) (hs := [.p, .p, .p, .p]) (rest := []) (ks := [10, 11]) (env' := [(10, .bool (!fail_12)), (11, .int .i64 0)]) (H' := [⟨1, b_2, [.int .u64 t_9.Term, .int .u64 t_9.Index, .slice A_3 l_1.effects.length c_4, .map (mA A_5), .map (mA A_7)]⟩, ⟨40, b_13, [.int .u64 t_9.Term, .int .u64 t_9.Index]⟩, ⟨41, b_14, [.int .u64 k_10.Saga, .int .i64 k_10.Step, .bool k_10.Back]⟩]) (ps := []) (by kernel_rfl) trivial ?_
              refine GoO.regionEnd ?_
              exact GoO.ret' (h := c23_56e) (hs := []) (ps := []) (hk := [0]) (bk := [0, 1, 2]) Try.func23 (⟨A_3, c_4, A_5, c_6, A_7, c_8⟩ : Option Addr × Nat × Option Addr × Nat × Option Addr × Nat) (by kernel_rfl) trivial (by kernel_rfl) (by kernel_rfl)
theorem ledger_Ledger_Ask_ok (n : Nat) (l_1 : T_ledger_Ledger) (t_9 : T_api_Token) (k_10 : T_api_Key) (name_11 : (List UInt8)) (fail_12 : Bool) (b_2 : Nat) (A_3 : Option Addr) (c_4 : Nat) (A_5 : Option Addr) (c_6 : Nat) (A_7 : Option Addr) (c_8 : Nat) :
    Meets Try.prog 23 [.pointer (some ⟨b_2, 0, none⟩), .agg ⟨[.int .u64 t_9.Term, .int .u64 t_9.Index]⟩, .agg ⟨[.int .u64 k_10.Saga, .int .i64 k_10.Step, .bool k_10.Back]⟩, .string (bs name_11), .bool fail_12] 4 [1, 2, 3, 4] [⟨1, b_2, [.int .u64 l_1.fence.Term, .int .u64 l_1.fence.Index, .slice A_3 l_1.effects.length c_4, .map (mA A_5), .map (mA A_7)]⟩] [Ow 2 kT_ledger_Effect A_3 c_4 l_1.effects, Mp 3 ky41 (fun v => .bool v) A_5 c_6 l_1.said, Mp 4 ky41 (fun v => .bool v) A_7 c_8 l_1.tombs] (ledger_Ledger_Ask.f n l_1 t_9 k_10 name_11 fail_12) (ledger_Ledger_Ask.R b_2 A_3 c_4 A_5 c_6 A_7 c_8) := by
  refine Meets.of (c := c23_0) (n := 90) Try.func23 (by kernel_rfl) (by kernel_rfl) (by kernel_rfl) fun w0 S0 => ?_
  unfold ledger_Ledger_Ask.f
  show GoO (ledger_Ledger_Ask.cx b_2 A_3 c_4 A_5 c_6 A_7 c_8 w0 S0) [(0, .pointer (some ⟨b_2, 0, none⟩)), (1, .agg ⟨[.int .u64 t_9.Term, .int .u64 t_9.Index]⟩), (2, .agg ⟨[.int .u64 k_10.Saga, .int .i64 k_10.Step, .bool k_10.Back]⟩), (3, .string (bs name_11)), (4, .bool fail_12)] [⟨1, b_2, [.int .u64 l_1.fence.Term, .int .u64 l_1.fence.Index, .slice A_3 l_1.effects.length c_4, .map (mA A_5), .map (mA A_7)]⟩] [Ow 2 kT_ledger_Effect A_3 c_4 l_1.effects, Mp 3 ky41 (fun v => .bool v) A_5 c_6 l_1.said, Mp 4 ky41 (fun v => .bool v) A_7 c_8 l_1.tombs] [.code c23_0] _
  refine GoO.seq' c23_0e ?_
  refine GoO.region' (is := [0, 1, 2, 3]) c23_1e (by kernel_rfl) ?_
  refine OpTo.go (GoO.new rfl 40 (cs := [.int .u64 t_9.Term, .int .u64 t_9.Index]) (by kernel_rfl) _ (fun _ => rfl) (fun b_13 => ?_))
  refine OpTo.go (GoO.new rfl 41 (cs := [.int .u64 k_10.Saga, .int .i64 k_10.Step, .bool k_10.Back]) (by kernel_rfl) _ (fun _ => rfl) (fun b_14 => ?_))
  refine GoO.exec (is := [2, 3]) (hs := [.p, .p]) (rest := []) (ks := [0, 3, 4, 6, 7]) (env' := [(0, .pointer (some ⟨b_2, 0, none⟩)), (3, .string (bs name_11)), (4, .bool fail_12), (6, .pointer (some ⟨b_13, 0, none⟩)), (7, .pointer (some ⟨b_14, 0, none⟩))]) (H' := [⟨41, b_14, [.int .u64 k_10.Saga, .int .i64 k_10.Step, .bool k_10.Back]⟩, ⟨40, b_13, [.int .u64 t_9.Term, .int .u64 t_9.Index]⟩, ⟨1, b_2, [.int .u64 l_1.fence.Term, .int .u64 l_1.fence.Index, .slice A_3 l_1.effects.length c_4, .map (mA A_5), .map (mA A_7)]⟩]) (ps := []) (by kernel_rfl) trivial ?_
  refine GoO.regionEnd ?_
  refine GoO.seq' c23_2e ?_
  refine GoO.seq' c23_3e ?_
  refine GoO.region' (is := [0, 1, 2, 3, 4, 5, 6, 7, 8, 9, 10, 11, 12, 13, 14, 15, 16]) c23_4e (by kernel_rfl) ?_
  refine GoO.exec (is := [0, 1, 2, 3, 4, 5, 6, 7]) (hs := [.p, .p, .p, .p, .b 0, .p, .p, .p]) (rest := [8, 9, 10, 11, 12, 13, 14, 15, 16]) (ks := [0, 3, 4, 6, 7, 21]) (env' := [(0, .pointer (some ⟨b_2, 0, none⟩)), (3, .string (bs name_11)), (4, .bool fail_12), (6, .pointer (some ⟨b_13, 0, none⟩)), (7, .pointer (some ⟨b_14, 0, none⟩)), (21, .bool (decide (k_10.Step < 0)))]) (H' := [⟨41, b_14, [.int .u64 k_10.Saga, .int .i64 k_10.Step, .bool k_10.Back]⟩, ⟨40, b_13, [.int .u64 t_9.Term, .int .u64 t_9.Index]⟩, ⟨1, b_2, [.int .u64 l_1.fence.Term, .int .u64 l_1.fence.Index, .slice A_3 l_1.effects.length c_4, .map (mA A_5), .map (mA A_7)]⟩]) (ps := [b_14 = b_14]) (by kernel_rfl) (And.intro rfl trivial) ?_
  refine GoO.bsplit (t := 21) (by kernel_rfl) (fun h15 => ?_) (fun h15 => ?_)
  · refine GoO.exec (is := [8, 9, 10, 11, 12, 13, 14, 15, 16]) (hs := [.p, .p, .p, .p, .p, .p, .p, .p, .p]) (rest := []) (ks := [0, 3, 4, 6, 7, 30]) (env' := [(0, .pointer (some ⟨b_2, 0, none⟩)), (3, .string (bs name_11)), (4, .bool fail_12), (6, .pointer (some ⟨b_13, 0, none⟩)), (7, .pointer (some ⟨b_14, 0, none⟩)), (30, .bool true)]) (H' := [⟨41, b_14, [.int .u64 k_10.Saga, .int .i64 k_10.Step, .bool k_10.Back]⟩, ⟨40, b_13, [.int .u64 t_9.Term, .int .u64 t_9.Index]⟩, ⟨1, b_2, [.int .u64 l_1.fence.Term, .int .u64 l_1.fence.Index, .slice A_3 l_1.effects.length c_4, .map (mA A_5), .map (mA A_7)]⟩]) (ps := []) (by kernel_rfl) trivial ?_
    refine GoO.regionEnd ?_
    exact GoO.sub (ks := [0, 3, 4, 6, 7, 30]) (hk := [2, 1, 0]) (bk := [0, 1, 2]) (by kernel_rfl) (by kernel_rfl) (by kernel_rfl) (ledger_Ledger_Ask_j0_ok n l_1 t_9 k_10 name_11 fail_12 b_2 A_3 c_4 A_5 c_6 A_7 c_8 b_13 b_14 w0 S0 true)
  · refine GoO.exec (is := [8, 9, 10, 11, 12]) (hs := [.p, .b 0, .p, .p, .p]) (rest := [13, 14, 15, 16]) (ks := [0, 3, 4, 6, 7, 26]) (env' := [(0, .pointer (some ⟨b_2, 0, none⟩)), (3, .string (bs name_11)), (4, .bool fail_12), (6, .pointer (some ⟨b_13, 0, none⟩)), (7, .pointer (some ⟨b_14, 0, none⟩)), (26, .bool (decide (k_10.Step ≥ 64)))]) (H' := [⟨41, b_14, [.int .u64 k_10.Saga, .int .i64 k_10.Step, .bool k_10.Back]⟩, ⟨40, b_13, [.int .u64 t_9.Term, .int .u64 t_9.Index]⟩, ⟨1, b_2, [.int .u64 l_1.fence.Term, .int .u64 l_1.fence.Index, .slice A_3 l_1.effects.length c_4, .map (mA A_5), .map (mA A_7)]⟩]) (ps := [b_14 = b_14]) (by kernel_rfl) (And.intro rfl trivial) ?_
    refine GoO.bsplit (t := 26) (by kernel_rfl) (fun h16 => ?_) (fun h16 => ?_)
    · refine GoO.exec (is := [13, 14, 15, 16]) (hs := [.p, .p, .p, .p]) (rest := []) (ks := [0, 3, 4, 6, 7, 30]) (env' := [(0, .pointer (some ⟨b_2, 0, none⟩)), (3, .string (bs name_11)), (4, .bool fail_12), (6, .pointer (some ⟨b_13, 0, none⟩)), (7, .pointer (some ⟨b_14, 0, none⟩)), (30, .bool true)]) (H' := [⟨41, b_14, [.int .u64 k_10.Saga, .int .i64 k_10.Step, .bool k_10.Back]⟩, ⟨40, b_13, [.int .u64 t_9.Term, .int .u64 t_9.Index]⟩, ⟨1, b_2, [.int .u64 l_1.fence.Term, .int .u64 l_1.fence.Index, .slice A_3 l_1.effects.length c_4, .map (mA A_5), .map (mA A_7)]⟩]) (ps := []) (by kernel_rfl) trivial ?_
      refine GoO.regionEnd ?_
      exact GoO.sub (ks := [0, 3, 4, 6, 7, 30]) (hk := [2, 1, 0]) (bk := [0, 1, 2]) (by kernel_rfl) (by kernel_rfl) (by kernel_rfl) (ledger_Ledger_Ask_j0_ok n l_1 t_9 k_10 name_11 fail_12 b_2 A_3 c_4 A_5 c_6 A_7 c_8 b_13 b_14 w0 S0 true)
    · refine GoO.exec (is := [13, 14, 15, 16]) (hs := [.p, .p, .p, .p]) (rest := []) (ks := [0, 3, 4, 6, 7, 30]) (env' := [(0, .pointer (some ⟨b_2, 0, none⟩)), (3, .string (bs name_11)), (4, .bool fail_12), (6, .pointer (some ⟨b_13, 0, none⟩)), (7, .pointer (some ⟨b_14, 0, none⟩)), (30, .bool (decide ((name_11.length : Int) > 16)))]) (H' := [⟨41, b_14, [.int .u64 k_10.Saga, .int .i64 k_10.Step, .bool k_10.Back]⟩, ⟨40, b_13, [.int .u64 t_9.Term, .int .u64 t_9.Index]⟩, ⟨1, b_2, [.int .u64 l_1.fence.Term, .int .u64 l_1.fence.Index, .slice A_3 l_1.effects.length c_4, .map (mA A_5), .map (mA A_7)]⟩]) (ps := []) (by kernel_rfl) trivial ?_
      refine GoO.regionEnd ?_
      exact GoO.sub (ks := [0, 3, 4, 6, 7, 30]) (hk := [2, 1, 0]) (bk := [0, 1, 2]) (by kernel_rfl) (by kernel_rfl) (by kernel_rfl) (ledger_Ledger_Ask_j0_ok n l_1 t_9 k_10 name_11 fail_12 b_2 A_3 c_4 A_5 c_6 A_7 c_8 b_13 b_14 w0 S0 (decide ((name_11.length : Int) > 16)))

/-! (*tontine/ledger.Ledger).Dead -/
noncomputable def c25_0 : Code := bodyOf Try.f25
noncomputable def c25_1 : Code := cdL c25_0
noncomputable def c25_2 : Code := cdR c25_0
noncomputable def c25_3 : Code := cdL c25_2
noncomputable def c25_4 : Code := cdR c25_2
noncomputable def r25_1 : Array Oper := cdO c25_1
noncomputable def r25_3 : Array Oper := cdO c25_3
theorem c25_0e : c25_0 = .seq c25_1 c25_2 := by kernel_rfl
theorem c25_1e : c25_1 = .region 0 r25_1 false := by kernel_rfl
theorem c25_2e : c25_2 = .seq c25_3 c25_4 := by kernel_rfl
theorem c25_3e : c25_3 = .region 1 r25_3 false := by kernel_rfl
theorem c25_4e : c25_4 = .ret := by kernel_rfl
noncomputable def ledger_Ledger_Dead.R (b_2 : Nat) (A_3 : Option Addr) (c_4 : Nat) (A_5 : Option Addr) (c_6 : Nat) (A_7 : Option Addr) (c_8 : Nat) : Pst Bool where
  ε := Unit
  v := fun r x => .bool r
  H := fun r x => []
  B := fun r x => []
noncomputable def ledger_Ledger_Dead.cx (b_2 : Nat) (A_3 : Option Addr) (c_4 : Nat) (A_5 : Option Addr) (c_6 : Nat) (A_7 : Option Addr) (c_8 : Nat) (w0 : World) (S0 : Fam) : Cx Bool := ⟨Try.prog, 25, Try.f25, 19, w0, S0, [], 4, ledger_Ledger_Dead.R b_2 A_3 c_4 A_5 c_6 A_7 c_8⟩
theorem ledger_Ledger_Dead_ok (n : Nat) (l_1 : T_ledger_Ledger) (saga_9 : Int) (step_10 : Int) (b_2 : Nat) (A_3 : Option Addr) (c_4 : Nat) (A_5 : Option Addr) (c_6 : Nat) (A_7 : Option Addr) (c_8 : Nat) :
    Meets Try.prog 25 [.pointer (some ⟨b_2, 0, none⟩), .int .u64 saga_9, .int .i64 step_10] 4 [] [⟨1, b_2, [.int .u64 l_1.fence.Term, .int .u64 l_1.fence.Index, .slice A_3 l_1.effects.length c_4, .map (mA A_5), .map (mA A_7)]⟩] [Ow 2 kT_ledger_Effect A_3 c_4 l_1.effects, Mp 3 ky41 (fun v => .bool v) A_5 c_6 l_1.said, Mp 4 ky41 (fun v => .bool v) A_7 c_8 l_1.tombs] (ledger_Ledger_Dead.f n l_1 saga_9 step_10) (ledger_Ledger_Dead.R b_2 A_3 c_4 A_5 c_6 A_7 c_8) := by
  refine Meets.of (c := c25_0) (n := 19) Try.func25 (by kernel_rfl) (by kernel_rfl) (by kernel_rfl) fun w0 S0 => ?_
  unfold ledger_Ledger_Dead.f
  show GoO (ledger_Ledger_Dead.cx b_2 A_3 c_4 A_5 c_6 A_7 c_8 w0 S0) [(0, .pointer (some ⟨b_2, 0, none⟩)), (1, .int .u64 saga_9), (2, .int .i64 step_10)] [⟨1, b_2, [.int .u64 l_1.fence.Term, .int .u64 l_1.fence.Index, .slice A_3 l_1.effects.length c_4, .map (mA A_5), .map (mA A_7)]⟩] [Ow 2 kT_ledger_Effect A_3 c_4 l_1.effects, Mp 3 ky41 (fun v => .bool v) A_5 c_6 l_1.said, Mp 4 ky41 (fun v => .bool v) A_7 c_8 l_1.tombs] [.code c25_0] _
  refine GoO.seq' c25_0e ?_
  refine GoO.region' (is := [0]) c25_1e (by kernel_rfl) ?_
  refine GoO.exec (is := [0]) (hs := [.p]) (rest := []) (ks := [0, 1, 2]) (env' := [(0, .pointer (some ⟨b_2, 0, none⟩)), (1, .int .u64 saga_9), (2, .int .i64 step_10)]) (H' := [⟨1, b_2, [.int .u64 l_1.fence.Term, .int .u64 l_1.fence.Index, .slice A_3 l_1.effects.length c_4, .map (mA A_5), .map (mA A_7)]⟩]) (ps := []) (by kernel_rfl) trivial ?_
  refine GoO.regionEnd ?_
  refine GoO.seq' c25_2e ?_
  refine GoO.region' (is := [0, 1, 2, 3, 4, 5, 6, 7, 8, 9, 10, 11, 12]) c25_3e (by kernel_rfl) ?_
  refine GoO.exec (is := [0, 1, 2, 3, 4, 5, 6, 7, 8, 9]) (hs := [.p, .p, .p, .p, .p, .p, .b 0, .p, .p, .p]) (rest := [10, 11, 12]) (ks := [9, 13, 16]) (env' := [(9, .bool true), (13, .map (mA A_7)), (16, .agg ⟨[.int .u64 saga_9, .int .i64 step_10, .bool false]⟩)]) (H' := [⟨1, b_2, [.int .u64 l_1.fence.Term, .int .u64 l_1.fence.Index, .slice A_3 l_1.effects.length c_4, .map (mA A_5), .map (mA A_7)]⟩]) (ps := [b_2 = b_2]) (by kernel_rfl) (And.intro rfl trivial) ?_
  refine OpTo.go (GoO.mapLk (vt := 4) (K := ky41) (ev := (fun v => .bool v)) (A := A_7) (c := c_8) (l := l_1.tombs) (key := (⟨saga_9, step_10, false⟩ : T_api_Key)) (j := 2) rfl (by kernel_rfl) (by kernel_rfl) (by kernel_rfl) rfl false (fun _ => by kernel_rfl) rfl ?_)
  refine GoO.exec (is := [11, 12]) (hs := [.p, .p]) (rest := []) (ks := [6]) (env' := [(6, .bool ((getA (⟨saga_9, step_10, false⟩ : T_api_Key) l_1.tombs).getD false))]) (H' := [⟨1, b_2, [.int .u64 l_1.fence.Term, .int .u64 l_1.fence.Index, .slice A_3 l_1.effects.length c_4, .map (mA A_5), .map (mA A_7)]⟩]) (ps := []) (by kernel_rfl) trivial ?_
  refine GoO.regionEnd ?_
  exact GoO.ret' (h := c25_4e) (hs := []) (ps := []) (hk := []) (bk := []) Try.func25 () (by kernel_rfl) trivial (by kernel_rfl) (by kernel_rfl)

/-! (*tontine/ledger.Ledger).Effects -/
noncomputable def c24_0 : Code := bodyOf Try.f24
noncomputable def c24_1 : Code := cdL c24_0
noncomputable def c24_2 : Code := cdR c24_0
noncomputable def c24_3 : Code := cdL c24_2
noncomputable def c24_4 : Code := cdL c24_3
noncomputable def c24_5 : Code := cdR c24_3
noncomputable def c24_9 : Code := cdR c24_5
noncomputable def c24_10 : Code := cdR c24_2
noncomputable def c24_11 : Code := cdL c24_10
noncomputable def c24_12 : Code := cdR c24_10
noncomputable def c24_6 : Code := cdL c24_5
noncomputable def r24_1 : Array Oper := cdO c24_1
noncomputable def r24_4 : Array Oper := cdO c24_4
noncomputable def r24_11 : Array Oper := cdO c24_11
theorem c24_0e : c24_0 = .seq c24_1 c24_2 := by kernel_rfl
theorem c24_1e : c24_1 = .region 0 r24_1 false := by kernel_rfl
theorem c24_2e : c24_2 = .seq c24_3 c24_10 := by kernel_rfl
theorem c24_3e : c24_3 = .seq c24_4 c24_5 := by kernel_rfl
theorem c24_4e : c24_4 = .region 1 r24_4 false := by kernel_rfl
theorem c24_5e : c24_5 = .cond (cdC c24_5) c24_6 c24_9 := by kernel_rfl
theorem c24_9e : c24_9 = .skip := by kernel_rfl
theorem c24_10e : c24_10 = .seq c24_11 c24_12 := by kernel_rfl
theorem c24_11e : c24_11 = .region 3 r24_11 false := by kernel_rfl
theorem c24_12e : c24_12 = .ret := by kernel_rfl
noncomputable def ledger_Ledger_Effects.R (b_2 : Nat) (A_3 : Option Addr) (c_4 : Nat) (A_5 : Option Addr) (c_6 : Nat) (A_7 : Option Addr) (c_8 : Nat) : Pst (List T_ledger_Effect) where
  ε := Option Addr × Nat
  v := fun r x => .slice x.1 r.length x.2
  H := fun r x => []
  B := fun r x => [Ow 5 kT_ledger_Effect x.1 x.2 r]
noncomputable def ledger_Ledger_Effects.cx (b_2 : Nat) (A_3 : Option Addr) (c_4 : Nat) (A_5 : Option Addr) (c_6 : Nat) (A_7 : Option Addr) (c_8 : Nat) (w0 : World) (S0 : Fam) : Cx (List T_ledger_Effect) := ⟨Try.prog, 24, Try.f24, 10, w0, S0, [], 4, ledger_Ledger_Effects.R b_2 A_3 c_4 A_5 c_6 A_7 c_8⟩
theorem ledger_Ledger_Effects_ok (n : Nat) (l_1 : T_ledger_Ledger) (b_2 : Nat) (A_3 : Option Addr) (c_4 : Nat) (A_5 : Option Addr) (c_6 : Nat) (A_7 : Option Addr) (c_8 : Nat) :
    Meets Try.prog 24 [.pointer (some ⟨b_2, 0, none⟩)] 4 [] [⟨1, b_2, [.int .u64 l_1.fence.Term, .int .u64 l_1.fence.Index, .slice A_3 l_1.effects.length c_4, .map (mA A_5), .map (mA A_7)]⟩] [Ow 2 kT_ledger_Effect A_3 c_4 l_1.effects, Mp 3 ky41 (fun v => .bool v) A_5 c_6 l_1.said, Mp 4 ky41 (fun v => .bool v) A_7 c_8 l_1.tombs] (ledger_Ledger_Effects.f n l_1) (ledger_Ledger_Effects.R b_2 A_3 c_4 A_5 c_6 A_7 c_8) := by
  refine Meets.of (c := c24_0) (n := 10) Try.func24 (by kernel_rfl) (by kernel_rfl) (by kernel_rfl) fun w0 S0 => ?_
  unfold ledger_Ledger_Effects.f
  show GoO (ledger_Ledger_Effects.cx b_2 A_3 c_4 A_5 c_6 A_7 c_8 w0 S0) [(0, .pointer (some ⟨b_2, 0, none⟩))] [⟨1, b_2, [.int .u64 l_1.fence.Term, .int .u64 l_1.fence.Index, .slice A_3 l_1.effects.length c_4, .map (mA A_5), .map (mA A_7)]⟩] [Ow 2 kT_ledger_Effect A_3 c_4 l_1.effects, Mp 3 ky41 (fun v => .bool v) A_5 c_6 l_1.said, Mp 4 ky41 (fun v => .bool v) A_7 c_8 l_1.tombs] [.code c24_0] _
  refine GoO.seq' c24_0e ?_
  refine GoO.region' (is := [0]) c24_1e (by kernel_rfl) ?_
  refine GoO.exec (is := [0]) (hs := [.p]) (rest := []) (ks := [0]) (env' := [(0, .pointer (some ⟨b_2, 0, none⟩))]) (H' := [⟨1, b_2, [.int .u64 l_1.fence.Term, .int .u64 l_1.fence.Index, .slice A_3 l_1.effects.length c_4, .map (mA A_5), .map (mA A_7)]⟩]) (ps := []) (by kernel_rfl) trivial ?_
  refine GoO.regionEnd ?_
  refine GoO.seq' c24_2e ?_
  refine GoO.seq' c24_3e ?_
  refine GoO.region' (is := [0, 1]) c24_4e (by kernel_rfl) ?_
  refine GoO.exec (is := [0, 1]) (hs := [.p, .p]) (rest := []) (ks := [0, 4]) (env' := [(0, .pointer (some ⟨b_2, 0, none⟩)), (4, .bool false)]) (H' := [⟨1, b_2, [.int .u64 l_1.fence.Term, .int .u64 l_1.fence.Index, .slice A_3 l_1.effects.length c_4, .map (mA A_5), .map (mA A_7)]⟩]) (ps := []) (by kernel_rfl) trivial ?_
  refine GoO.regionEnd ?_
  refine GoO.condF c24_5e (by kernel_rfl) ?_
  refine GoO.skip' c24_9e ?_
  refine GoO.seq' c24_10e ?_
  refine GoO.region' (is := [0, 1, 2, 3, 4, 5]) c24_11e (by kernel_rfl) ?_
  refine GoO.exec (is := [0, 1, 2, 3]) (hs := [.p, .p, .p, .b 0]) (rest := [4, 5]) (ks := [8]) (env' := [(8, .slice A_3 l_1.effects.length c_4)]) (H' := [⟨1, b_2, [.int .u64 l_1.fence.Term, .int .u64 l_1.fence.Index, .slice A_3 l_1.effects.length c_4, .map (mA A_5), .map (mA A_7)]⟩]) (ps := [b_2 = b_2]) (by kernel_rfl) (And.intro rfl trivial) ?_
  refine GoO.nilOwn kT_ledger_Effect 40 ?_
  refine GoO.guard (fun h9 => ?_)
  refine OpTo.go (GoO.appW (e := 56) (K := kT_ledger_Effect) (A := none) (c := 0) (tg := 40) (bytes := 40) (zs := [.int .u64 0, .int .i64 0, .bool false, .string (bs [])]) (xs := ([] : List T_ledger_Effect)) (ys := l_1.effects) (xv := .slice A_3 l_1.effects.length c_4) (j := 0) (bk := [1, 2, 3]) rfl (by kernel_rfl) (by kernel_rfl) (by kernel_rfl) (by kernel_rfl) rfl (by kernel_rfl) rfl (fun w S hB => SrcIs.row (Reads.own w S (hB _ (List.mem_of_getElem? (i := 1) rfl)))) h9 rfl rfl rfl rfl _ (fun _ _ => rfl) (fun A_10 c_11 => ?_))
  refine GoO.exec (is := [5]) (hs := [.p]) (rest := []) (ks := [2]) (env' := [(2, .slice A_10 (([] : List T_ledger_Effect) ++ l_1.effects).length c_11)]) (H' := [⟨1, b_2, [.int .u64 l_1.fence.Term, .int .u64 l_1.fence.Index, .slice A_3 l_1.effects.length c_4, .map (mA A_5), .map (mA A_7)]⟩]) (ps := []) (by kernel_rfl) trivial ?_
  refine GoO.regionEnd ?_
  refine GoO.retag (t := 40) (u := 5) (j := 0) (hk := [0]) (bk := [1, 2, 3]) rfl rfl rfl rfl rfl rfl (by kernel_rfl) (by kernel_rfl) ?_
  exact GoO.ret' (h := c24_12e) (hs := []) (ps := []) (hk := []) (bk := [0]) Try.func24 (⟨A_10, c_11⟩ : Option Addr × Nat) (by kernel_rfl) trivial (by kernel_rfl) (by kernel_rfl)

/-! tontine/tontinelaw18.begun -/
noncomputable def c21_0 : Code := bodyOf Try.f21
noncomputable def c21_1 : Code := cdL c21_0
noncomputable def c21_2 : Code := cdR c21_0
noncomputable def c21_3 : Code := cdL c21_2
noncomputable def c21_4 : Code := cdR c21_2
noncomputable def c21_5 : Code := cdL c21_4
noncomputable def c21_6 : Code := cdR c21_4
noncomputable def c21_7 : Code := cdL c21_6
noncomputable def c21_8 : Code := cdR c21_6
noncomputable def c21_9 : Code := cdL c21_8
noncomputable def c21_10 : Code := cdR c21_8
noncomputable def c21_11 : Code := cdL c21_10
noncomputable def c21_12 : Code := cdR c21_10
noncomputable def r21_1 : Array Oper := cdO c21_1
noncomputable def r21_3 : Array Oper := cdO c21_3
noncomputable def r21_5 : Array Oper := cdO c21_5
noncomputable def r21_7 : Array Oper := cdO c21_7
noncomputable def r21_9 : Array Oper := cdO c21_9
noncomputable def r21_11 : Array Oper := cdO c21_11
theorem c21_0e : c21_0 = .seq c21_1 c21_2 := by kernel_rfl
theorem c21_1e : c21_1 = .region 0 r21_1 false := by kernel_rfl
theorem c21_2e : c21_2 = .seq c21_3 c21_4 := by kernel_rfl
theorem c21_3e : c21_3 = .region 1 r21_3 false := by kernel_rfl
theorem c21_4e : c21_4 = .seq c21_5 c21_6 := by kernel_rfl
theorem c21_5e : c21_5 = .region 2 r21_5 false := by kernel_rfl
theorem c21_6e : c21_6 = .seq c21_7 c21_8 := by kernel_rfl
theorem c21_7e : c21_7 = .region 3 r21_7 false := by kernel_rfl
theorem c21_8e : c21_8 = .seq c21_9 c21_10 := by kernel_rfl
theorem c21_9e : c21_9 = .region 4 r21_9 false := by kernel_rfl
theorem c21_10e : c21_10 = .seq c21_11 c21_12 := by kernel_rfl
theorem c21_11e : c21_11 = .region 5 r21_11 false := by kernel_rfl
theorem c21_12e : c21_12 = .ret := by kernel_rfl
noncomputable def tontinelaw18_begun.R : Pst Bool where
  ε := Unit
  v := fun r x => .bool r
  H := fun r x => []
  B := fun r x => []
noncomputable def tontinelaw18_begun.cx (w0 : World) (S0 : Fam) : Cx Bool := ⟨Try.prog, 21, Try.f21, 56, w0, S0, [], 0, tontinelaw18_begun.R⟩
theorem tontinelaw18_begun_ok (n : Nat) :
    Meets Try.prog 21 [] 0 [] [] [] (tontinelaw18_begun.f n) (tontinelaw18_begun.R) := by
  refine Meets.of (c := c21_0) (n := 56) Try.func21 (by kernel_rfl) (by kernel_rfl) (by kernel_rfl) fun w0 S0 => ?_
  unfold tontinelaw18_begun.f
  show GoO (tontinelaw18_begun.cx w0 S0) [] [] [] [.code c21_0] _
  refine GoO.seq' c21_0e ?_
  refine GoO.region' (is := [0]) c21_1e (by kernel_rfl) ?_
  refine GoO.exec (is := [0]) (hs := [.p]) (rest := []) (ks := []) (env' := []) (H' := []) (ps := []) (by kernel_rfl) trivial ?_
  refine GoO.regionEnd ?_
  refine GoO.seq' c21_2e ?_
  refine GoO.region' (is := [0, 1]) c21_3e (by kernel_rfl) ?_
  refine OpTo.go (GoO.call rfl (by kernel_rfl) (by kernel_rfl) (ledger_New_ok n) [[0]] [(40, 1), (41, 2), (42, 3), (43, 4)] [] [] (hks := []) (bks := []) (by kernel_rfl) (by kernel_rfl) (by kernel_rfl) (.inl rfl) rfl rfl (by kernel_rfl) (by kernel_rfl) _ (fun _ _ => rfl) _ _ (fun _ _ => rfl) (fun _ _ => rfl) (fun _ _ => by kernel_rfl) (fun _ _ => by kernel_rfl) (fun r_1 x_45 => ?_))
  obtain ⟨b_2, A_3, c_4, A_5, c_6, A_7, c_8⟩ := x_45
  refine GoO.shape (env' := [(8, .pointer (some ⟨b_2, 0, none⟩))]) (H' := [⟨40, b_2, [.int .u64 r_1.fence.Term, .int .u64 r_1.fence.Index, .slice A_3 r_1.effects.length c_4, .map (mA A_5), .map (mA A_7)]⟩]) (B' := [Ow 41 kT_ledger_Effect A_3 c_4 r_1.effects, Mp 42 ky41 (fun v => .bool v) A_5 c_6 r_1.said, Mp 43 ky41 (fun v => .bool v) A_7 c_8 r_1.tombs]) (ks := [8]) (by kernel_rfl) (by kernel_rfl) (by kernel_rfl) ?_
  refine GoO.exec (is := [1]) (hs := [.p]) (rest := []) (ks := [1]) (env' := [(1, .pointer (some ⟨b_2, 0, none⟩))]) (H' := [⟨40, b_2, [.int .u64 r_1.fence.Term, .int .u64 r_1.fence.Index, .slice A_3 r_1.effects.length c_4, .map (mA A_5), .map (mA A_7)]⟩]) (ps := []) (by kernel_rfl) trivial ?_
  refine GoO.regionEnd ?_
  refine GoO.seq' c21_4e ?_
  refine GoO.region' (is := [0, 1, 2, 3, 4, 5, 6, 7, 8]) c21_5e (by kernel_rfl) ?_
  refine GoO.exec (is := [0, 1, 2]) (hs := [.p, .p, .p]) (rest := [3, 4, 5, 6, 7, 8]) (ks := [1, 10, 11, 12]) (env' := [(1, .pointer (some ⟨b_2, 0, none⟩)), (10, .pointer (some ⟨b_2, 0, none⟩)), (11, .agg ⟨[.int .u64 2, .int .u64 5]⟩), (12, .agg ⟨[.int .u64 1, .int .i64 0, .bool false]⟩)]) (H' := [⟨40, b_2, [.int .u64 r_1.fence.Term, .int .u64 r_1.fence.Index, .slice A_3 r_1.effects.length c_4, .map (mA A_5), .map (mA A_7)]⟩]) (ps := []) (by kernel_rfl) trivial ?_
  refine OpTo.go (GoO.call rfl (by kernel_rfl) (by kernel_rfl) (ledger_Ledger_Ask_ok n (⟨(⟨r_1.fence.Term, r_1.fence.Index⟩ : T_api_Token), r_1.effects, r_1.said, r_1.tombs⟩ : T_ledger_Ledger) (⟨2, 5⟩ : T_api_Token) (⟨1, 0, false⟩ : T_api_Key) [115] false b_2 A_3 c_4 A_5 c_6 A_7 c_8) [[0], [40], [41], [42], [43]] [(40, 1), (41, 2), (42, 3), (43, 4)] [(1, 0)] [(2, 0), (3, 1), (4, 2)] (hks := []) (bks := []) (by kernel_rfl) (by kernel_rfl) (by kernel_rfl) (.inl rfl) rfl rfl (by kernel_rfl) (by kernel_rfl) _ (fun _ _ => rfl) _ _ (fun _ _ => rfl) (fun _ _ => rfl) (fun _ _ => by kernel_rfl) (fun _ _ => by kernel_rfl) (fun r_9 x_44 => ?_))
  obtain ⟨A_10, c_11, A_12, c_13, A_14, c_15⟩ := x_44
  refine GoO.shape (env' := [(1, .pointer (some ⟨b_2, 0, none⟩)), (10, .pointer (some ⟨b_2, 0, none⟩)), (11, .agg ⟨[.int .u64 2, .int .u64 5]⟩), (12, .agg ⟨[.int .u64 1, .int .i64 0, .bool false]⟩), (13, .tuple ⟨[.bool r_9.1, .int .i64 r_9.2.1]⟩)]) (H' := [⟨40, b_2, [.int .u64 r_9.2.2.fence.Term, .int .u64 r_9.2.2.fence.Index, .slice A_10 r_9.2.2.effects.length c_11, .map (mA A_12), .map (mA A_14)]⟩]) (B' := [Ow 41 kT_ledger_Effect A_10 c_11 r_9.2.2.effects, Mp 42 ky41 (fun v => .bool v) A_12 c_13 r_9.2.2.said, Mp 43 ky41 (fun v => .bool v) A_14 c_15 r_9.2.2.tombs]) (ks := [1, 10, 11, 12, 13]) (by kernel_rfl) (by kernel_rfl) (by kernel_rfl) ?_
  refine GoO.exec (is := [4, 5, 6, 7, 8]) (hs := [.p, .p, .p, .p, .p]) (rest := []) (ks := [1, 2, 3]) (env' := [(1, .pointer (some ⟨b_2, 0, none⟩)), (2, .bool r_9.1), (3, .int .i64 r_9.2.1)]) (H' := [⟨40, b_2, [.int .u64 r_9.2.2.fence.Term, .int .u64 r_9.2.2.fence.Index, .slice A_10 r_9.2.2.effects.length c_11, .map (mA A_12), .map (mA A_14)]⟩]) (ps := []) (by kernel_rfl) trivial ?_
  refine GoO.regionEnd ?_
  refine GoO.seq' c21_6e ?_
  refine GoO.region' (is := [0, 1, 2, 3, 4, 5, 6, 7, 8]) c21_7e (by kernel_rfl) ?_
  refine GoO.exec (is := [0, 1, 2]) (hs := [.p, .p, .p]) (rest := [3, 4, 5, 6, 7, 8]) (ks := [1, 2, 3, 17, 18, 19]) (env' := [(1, .pointer (some ⟨b_2, 0, none⟩)), (2, .bool r_9.1), (3, .int .i64 r_9.2.1), (17, .pointer (some ⟨b_2, 0, none⟩)), (18, .agg ⟨[.int .u64 1, .int .u64 9]⟩), (19, .agg ⟨[.int .u64 1, .int .i64 1, .bool false]⟩)]) (H' := [⟨40, b_2, [.int .u64 r_9.2.2.fence.Term, .int .u64 r_9.2.2.fence.Index, .slice A_10 r_9.2.2.effects.length c_11, .map (mA A_12), .map (mA A_14)]⟩]) (ps := []) (by kernel_rfl) trivial ?_
  refine OpTo.go (GoO.call rfl (by kernel_rfl) (by kernel_rfl) (ledger_Ledger_Ask_ok n (⟨(⟨r_9.2.2.fence.Term, r_9.2.2.fence.Index⟩ : T_api_Token), r_9.2.2.effects, r_9.2.2.said, r_9.2.2.tombs⟩ : T_ledger_Ledger) (⟨1, 9⟩ : T_api_Token) (⟨1, 1, false⟩ : T_api_Key) [116] false b_2 A_10 c_11 A_12 c_13 A_14 c_15) [[0], [40], [41], [42], [43]] [(40, 1), (41, 2), (42, 3), (43, 4)] [(1, 0)] [(2, 0), (3, 1), (4, 2)] (hks := []) (bks := []) (by kernel_rfl) (by kernel_rfl) (by kernel_rfl) (.inl rfl) rfl rfl (by kernel_rfl) (by kernel_rfl) _ (fun _ _ => rfl) _ _ (fun _ _ => rfl) (fun _ _ => rfl) (fun _ _ => by kernel_rfl) (fun _ _ => by kernel_rfl) (fun r_16 x_43 => ?_))
  obtain ⟨A_17, c_18, A_19, c_20, A_21, c_22⟩ := x_43
  refine GoO.shape (env' := [(1, .pointer (some ⟨b_2, 0, none⟩)), (2, .bool r_9.1), (3, .int .i64 r_9.2.1), (17, .pointer (some ⟨b_2, 0, none⟩)), (18, .agg ⟨[.int .u64 1, .int .u64 9]⟩), (19, .agg ⟨[.int .u64 1, .int .i64 1, .bool false]⟩), (20, .tuple ⟨[.bool r_16.1, .int .i64 r_16.2.1]⟩)]) (H' := [⟨40, b_2, [.int .u64 r_16.2.2.fence.Term, .int .u64 r_16.2.2.fence.Index, .slice A_17 r_16.2.2.effects.length c_18, .map (mA A_19), .map (mA A_21)]⟩]) (B' := [Ow 41 kT_ledger_Effect A_17 c_18 r_16.2.2.effects, Mp 42 ky41 (fun v => .bool v) A_19 c_20 r_16.2.2.said, Mp 43 ky41 (fun v => .bool v) A_21 c_22 r_16.2.2.tombs]) (ks := [1, 2, 3, 17, 18, 19, 20]) (by kernel_rfl) (by kernel_rfl) (by kernel_rfl) ?_
  refine GoO.exec (is := [4, 5, 6, 7, 8]) (hs := [.p, .p, .p, .p, .p]) (rest := []) (ks := [1, 2, 3, 5]) (env' := [(1, .pointer (some ⟨b_2, 0, none⟩)), (2, .bool r_9.1), (3, .int .i64 r_9.2.1), (5, .int .i64 r_16.2.1)]) (H' := [⟨40, b_2, [.int .u64 r_16.2.2.fence.Term, .int .u64 r_16.2.2.fence.Index, .slice A_17 r_16.2.2.effects.length c_18, .map (mA A_19), .map (mA A_21)]⟩]) (ps := []) (by kernel_rfl) trivial ?_
  refine GoO.regionEnd ?_
  refine GoO.seq' c21_8e ?_
  refine GoO.region' (is := [0, 1, 2, 3, 4, 5, 6, 7, 8]) c21_9e (by kernel_rfl) ?_
  refine GoO.exec (is := [0, 1, 2]) (hs := [.p, .p, .p]) (rest := [3, 4, 5, 6, 7, 8]) (ks := [1, 2, 3, 5, 24, 25, 26]) (env' := [(1, .pointer (some ⟨b_2, 0, none⟩)), (2, .bool r_9.1), (3, .int .i64 r_9.2.1), (5, .int .i64 r_16.2.1), (24, .pointer (some ⟨b_2, 0, none⟩)), (25, .agg ⟨[.int .u64 2, .int .u64 5]⟩), (26, .agg ⟨[.int .u64 1, .int .i64 1, .bool true]⟩)]) (H' := [⟨40, b_2, [.int .u64 r_16.2.2.fence.Term, .int .u64 r_16.2.2.fence.Index, .slice A_17 r_16.2.2.effects.length c_18, .map (mA A_19), .map (mA A_21)]⟩]) (ps := []) (by kernel_rfl) trivial ?_
  refine OpTo.go (GoO.call rfl (by kernel_rfl) (by kernel_rfl) (ledger_Ledger_Ask_ok n (⟨(⟨r_16.2.2.fence.Term, r_16.2.2.fence.Index⟩ : T_api_Token), r_16.2.2.effects, r_16.2.2.said, r_16.2.2.tombs⟩ : T_ledger_Ledger) (⟨2, 5⟩ : T_api_Token) (⟨1, 1, true⟩ : T_api_Key) [116] false b_2 A_17 c_18 A_19 c_20 A_21 c_22) [[0], [40], [41], [42], [43]] [(40, 1), (41, 2), (42, 3), (43, 4)] [(1, 0)] [(2, 0), (3, 1), (4, 2)] (hks := []) (bks := []) (by kernel_rfl) (by kernel_rfl) (by kernel_rfl) (.inl rfl) rfl rfl (by kernel_rfl) (by kernel_rfl) _ (fun _ _ => rfl) _ _ (fun _ _ => rfl) (fun _ _ => rfl) (fun _ _ => by kernel_rfl) (fun _ _ => by kernel_rfl) (fun r_23 x_42 => ?_))
  obtain ⟨A_24, c_25, A_26, c_27, A_28, c_29⟩ := x_42
  refine GoO.shape (env' := [(1, .pointer (some ⟨b_2, 0, none⟩)), (2, .bool r_9.1), (3, .int .i64 r_9.2.1), (5, .int .i64 r_16.2.1), (24, .pointer (some ⟨b_2, 0, none⟩)), (25, .agg ⟨[.int .u64 2, .int .u64 5]⟩), (26, .agg ⟨[.int .u64 1, .int .i64 1, .bool true]⟩), (27, .tuple ⟨[.bool r_23.1, .int .i64 r_23.2.1]⟩)]) (H' := [⟨40, b_2, [.int .u64 r_23.2.2.fence.Term, .int .u64 r_23.2.2.fence.Index, .slice A_24 r_23.2.2.effects.length c_25, .map (mA A_26), .map (mA A_28)]⟩]) (B' := [Ow 41 kT_ledger_Effect A_24 c_25 r_23.2.2.effects, Mp 42 ky41 (fun v => .bool v) A_26 c_27 r_23.2.2.said, Mp 43 ky41 (fun v => .bool v) A_28 c_29 r_23.2.2.tombs]) (ks := [1, 2, 3, 5, 24, 25, 26, 27]) (by kernel_rfl) (by kernel_rfl) (by kernel_rfl) ?_
  refine GoO.exec (is := [4, 5, 6, 7, 8]) (hs := [.p, .p, .p, .p, .p]) (rest := []) (ks := [1, 2, 3, 5, 6, 7]) (env' := [(1, .pointer (some ⟨b_2, 0, none⟩)), (2, .bool r_9.1), (3, .int .i64 r_9.2.1), (5, .int .i64 r_16.2.1), (6, .bool r_23.1), (7, .int .i64 r_23.2.1)]) (H' := [⟨40, b_2, [.int .u64 r_23.2.2.fence.Term, .int .u64 r_23.2.2.fence.Index, .slice A_24 r_23.2.2.effects.length c_25, .map (mA A_26), .map (mA A_28)]⟩]) (ps := []) (by kernel_rfl) trivial ?_
  refine GoO.regionEnd ?_
  refine GoO.seq' c21_10e ?_
  refine GoO.region' (is := [0, 1, 2, 3, 4, 5, 6, 7, 8, 9, 10, 11, 12, 13, 14, 15, 16, 17, 18, 19, 20, 21, 22, 23, 24, 25, 26]) c21_11e (by kernel_rfl) ?_
  refine GoO.exec (is := [0, 1]) (hs := [.p, .p]) (rest := [2, 3, 4, 5, 6, 7, 8, 9, 10, 11, 12, 13, 14, 15, 16, 17, 18, 19, 20, 21, 22, 23, 24, 25, 26]) (ks := [1, 3, 5, 6, 7, 31]) (env' := [(1, .pointer (some ⟨b_2, 0, none⟩)), (3, .int .i64 r_9.2.1), (5, .int .i64 r_16.2.1), (6, .bool r_23.1), (7, .int .i64 r_23.2.1), (31, .bool r_9.1)]) (H' := [⟨40, b_2, [.int .u64 r_23.2.2.fence.Term, .int .u64 r_23.2.2.fence.Index, .slice A_24 r_23.2.2.effects.length c_25, .map (mA A_26), .map (mA A_28)]⟩]) (ps := []) (by kernel_rfl) trivial ?_
  refine GoO.bsplit (t := 31) (by kernel_rfl) (fun h30 => ?_) (fun h30 => ?_)
  · refine GoO.exec (is := [2, 3, 4, 5]) (hs := [.p, .p, .p, .p]) (rest := [6, 7, 8, 9, 10, 11, 12, 13, 14, 15, 16, 17, 18, 19, 20, 21, 22, 23, 24, 25, 26]) (ks := [1, 5, 6, 7, 35]) (env' := [(1, .pointer (some ⟨b_2, 0, none⟩)), (5, .int .i64 r_16.2.1), (6, .bool r_23.1), (7, .int .i64 r_23.2.1), (35, .bool (r_9.2.1 == 0))]) (H' := [⟨40, b_2, [.int .u64 r_23.2.2.fence.Term, .int .u64 r_23.2.2.fence.Index, .slice A_24 r_23.2.2.effects.length c_25, .map (mA A_26), .map (mA A_28)]⟩]) (ps := []) (by kernel_rfl) trivial ?_
    refine GoO.bsplit (t := 35) (by kernel_rfl) (fun h31 => ?_) (fun h31 => ?_)
    · refine GoO.exec (is := [6, 7, 8, 9]) (hs := [.p, .p, .p, .p]) (rest := [10, 11, 12, 13, 14, 15, 16, 17, 18, 19, 20, 21, 22, 23, 24, 25, 26]) (ks := [1, 6, 7, 39]) (env' := [(1, .pointer (some ⟨b_2, 0, none⟩)), (6, .bool r_23.1), (7, .int .i64 r_23.2.1), (39, .bool (r_16.2.1 == 50))]) (H' := [⟨40, b_2, [.int .u64 r_23.2.2.fence.Term, .int .u64 r_23.2.2.fence.Index, .slice A_24 r_23.2.2.effects.length c_25, .map (mA A_26), .map (mA A_28)]⟩]) (ps := []) (by kernel_rfl) trivial ?_
      refine GoO.bsplit (t := 39) (by kernel_rfl) (fun h32 => ?_) (fun h32 => ?_)
      · refine GoO.exec (is := [10, 11, 12]) (hs := [.p, .p, .p]) (rest := [13, 14, 15, 16, 17, 18, 19, 20, 21, 22, 23, 24, 25, 26]) (ks := [1, 7, 42]) (env' := [(1, .pointer (some ⟨b_2, 0, none⟩)), (7, .int .i64 r_23.2.1), (42, .bool r_23.1)]) (H' := [⟨40, b_2, [.int .u64 r_23.2.2.fence.Term, .int .u64 r_23.2.2.fence.Index, .slice A_24 r_23.2.2.effects.length c_25, .map (mA A_26), .map (mA A_28)]⟩]) (ps := []) (by kernel_rfl) trivial ?_
        refine GoO.bsplit (t := 42) (by kernel_rfl) (fun h33 => ?_) (fun h33 => ?_)
        · refine GoO.exec (is := [13, 14, 15, 16]) (hs := [.p, .p, .p, .p]) (rest := [17, 18, 19, 20, 21, 22, 23, 24, 25, 26]) (ks := [1, 46]) (env' := [(1, .pointer (some ⟨b_2, 0, none⟩)), (46, .bool (r_23.2.1 == 0))]) (H' := [⟨40, b_2, [.int .u64 r_23.2.2.fence.Term, .int .u64 r_23.2.2.fence.Index, .slice A_24 r_23.2.2.effects.length c_25, .map (mA A_26), .map (mA A_28)]⟩]) (ps := []) (by kernel_rfl) trivial ?_
          refine GoO.bsplit (t := 46) (by kernel_rfl) (fun h34 => ?_) (fun h34 => ?_)
          · refine GoO.exec (is := [17]) (hs := [.p]) (rest := [18, 19, 20, 21, 22, 23, 24, 25, 26]) (ks := [1, 46, 47]) (env' := [(1, .pointer (some ⟨b_2, 0, none⟩)), (46, .bool true), (47, .pointer (some ⟨b_2, 0, none⟩))]) (H' := [⟨40, b_2, [.int .u64 r_23.2.2.fence.Term, .int .u64 r_23.2.2.fence.Index, .slice A_24 r_23.2.2.effects.length c_25, .map (mA A_26), .map (mA A_28)]⟩]) (ps := []) (by kernel_rfl) trivial ?_
            refine OpTo.go (GoO.call rfl (by kernel_rfl) (by kernel_rfl) (ledger_Ledger_Dead_ok n (⟨(⟨r_23.2.2.fence.Term, r_23.2.2.fence.Index⟩ : T_api_Token), r_23.2.2.effects, r_23.2.2.said, r_23.2.2.tombs⟩ : T_ledger_Ledger) 1 1 b_2 A_24 c_25 A_26 c_27 A_28 c_29) [[0], [40], [41], [42], [43]] [] [(1, 0)] [(2, 0), (3, 1), (4, 2)] (hks := [0]) (bks := [0, 1, 2]) (by kernel_rfl) (by kernel_rfl) (by kernel_rfl) (.inl rfl) rfl rfl (by kernel_rfl) (by kernel_rfl) _ (fun _ _ => rfl) _ _ (fun _ _ => rfl) (fun _ _ => rfl) (fun _ _ => by kernel_rfl) (fun _ _ => by kernel_rfl) (fun r_35 x_41 => ?_))
            refine GoO.shape (env' := [(1, .pointer (some ⟨b_2, 0, none⟩)), (46, .bool true), (47, .pointer (some ⟨b_2, 0, none⟩)), (48, .bool r_35)]) (H' := [⟨40, b_2, [.int .u64 r_23.2.2.fence.Term, .int .u64 r_23.2.2.fence.Index, .slice A_24 r_23.2.2.effects.length c_25, .map (mA A_26), .map (mA A_28)]⟩]) (B' := [Ow 41 kT_ledger_Effect A_24 c_25 r_23.2.2.effects, Mp 42 ky41 (fun v => .bool v) A_26 c_27 r_23.2.2.said, Mp 43 ky41 (fun v => .bool v) A_28 c_29 r_23.2.2.tombs]) (ks := [1, 46, 47, 48]) (by kernel_rfl) (by kernel_rfl) (by kernel_rfl) ?_
            refine GoO.exec (is := [19, 20]) (hs := [.p, .p]) (rest := [21, 22, 23, 24, 25, 26]) (ks := [1, 50]) (env' := [(1, .pointer (some ⟨b_2, 0, none⟩)), (50, .bool r_35)]) (H' := [⟨40, b_2, [.int .u64 r_23.2.2.fence.Term, .int .u64 r_23.2.2.fence.Index, .slice A_24 r_23.2.2.effects.length c_25, .map (mA A_26), .map (mA A_28)]⟩]) (ps := []) (by kernel_rfl) trivial ?_
            refine GoO.bsplit (t := 50) (by kernel_rfl) (fun h36 => ?_) (fun h36 => ?_)
            · refine GoO.exec (is := [21]) (hs := [.p]) (rest := [22, 23, 24, 25, 26]) (ks := [50, 51]) (env' := [(50, .bool true), (51, .pointer (some ⟨b_2, 0, none⟩))]) (H' := [⟨40, b_2, [.int .u64 r_23.2.2.fence.Term, .int .u64 r_23.2.2.fence.Index, .slice A_24 r_23.2.2.effects.length c_25, .map (mA A_26), .map (mA A_28)]⟩]) (ps := []) (by kernel_rfl) trivial ?_
              refine OpTo.go (GoO.call rfl (by kernel_rfl) (by kernel_rfl) (ledger_Ledger_Effects_ok n (⟨(⟨r_23.2.2.fence.Term, r_23.2.2.fence.Index⟩ : T_api_Token), r_23.2.2.effects, r_23.2.2.said, r_23.2.2.tombs⟩ : T_ledger_Ledger) b_2 A_24 c_25 A_26 c_27 A_28 c_29) [[0], [40], [41], [42], [43]] [(44, 5)] [(1, 0)] [(2, 0), (3, 1), (4, 2)] (hks := [0]) (bks := [0, 1, 2]) (by kernel_rfl) (by kernel_rfl) (by kernel_rfl) (.inl rfl) rfl rfl (by kernel_rfl) (by kernel_rfl) _ (fun _ _ => rfl) _ _ (fun _ _ => rfl) (fun _ _ => rfl) (fun _ _ => by kernel_rfl) (fun _ _ => by kernel_rfl) (fun r_37 x_40 => ?_))
              obtain ⟨A_38, c_39⟩ := x_40
              refine GoO.shape (env' := [(50, .bool true), (51, .pointer (some ⟨b_2, 0, none⟩)), (52, .slice A_38 r_37.length c_39)]) (H' := [⟨40, b_2, [.int .u64 r_23.2.2.fence.Term, .int .u64 r_23.2.2.fence.Index, .slice A_24 r_23.2.2.effects.length c_25, .map (mA A_26), .map (mA A_28)]⟩]) (B' := [Ow 44 kT_ledger_Effect A_38 c_39 r_37, Ow 41 kT_ledger_Effect A_24 c_25 r_23.2.2.effects, Mp 42 ky41 (fun v => .bool v) A_26 c_27 r_23.2.2.said, Mp 43 ky41 (fun v => .bool v) A_28 c_29 r_23.2.2.tombs]) (ks := [50, 51, 52]) (by kernel_rfl) (by kernel_rfl) (by kernel_rfl) ?_
              refine GoO.exec (is := [23, 24, 25, 26]) (hs := [.p, .p, .p, .p]) (rest := []) (ks := [0]) (env' := [(0, .bool ((r_37.length : Int) == 1))]) (H' := [⟨40, b_2, [.int .u64 r_23.2.2.fence.Term, .int .u64 r_23.2.2.fence.Index, .slice A_24 r_23.2.2.effects.length c_25, .map (mA A_26), .map (mA A_28)]⟩]) (ps := []) (by kernel_rfl) trivial ?_
              refine GoO.regionEnd ?_
              exact GoO.ret' (h := c21_12e) (hs := []) (ps := []) (hk := []) (bk := []) Try.func21 () (by kernel_rfl) trivial (by kernel_rfl) (by kernel_rfl)
            · refine GoO.exec (is := [21, 22, 23, 24, 25, 26]) (hs := [.p, .p, .p, .p, .p, .p]) (rest := []) (ks := [0]) (env' := [(0, .bool false)]) (H' := [⟨40, b_2, [.int .u64 r_23.2.2.fence.Term, .int .u64 r_23.2.2.fence.Index, .slice A_24 r_23.2.2.effects.length c_25, .map (mA A_26), .map (mA A_28)]⟩]) (ps := []) (by kernel_rfl) trivial ?_
              refine GoO.regionEnd ?_
              exact GoO.ret' (h := c21_12e) (hs := []) (ps := []) (hk := []) (bk := []) Try.func21 () (by kernel_rfl) trivial (by kernel_rfl) (by kernel_rfl)
          · refine GoO.exec (is := [17, 18, 19, 20, 21, 22, 23, 24, 25, 26]) (hs := [.p, .p, .p, .p, .p, .p, .p, .p, .p, .p]) (rest := []) (ks := [0]) (env' := [(0, .bool false)]) (H' := [⟨40, b_2, [.int .u64 r_23.2.2.fence.Term, .int .u64 r_23.2.2.fence.Index, .slice A_24 r_23.2.2.effects.length c_25, .map (mA A_26), .map (mA A_28)]⟩]) (ps := []) (by kernel_rfl) trivial ?_
            refine GoO.regionEnd ?_
            exact GoO.ret' (h := c21_12e) (hs := []) (ps := []) (hk := []) (bk := []) Try.func21 () (by kernel_rfl) trivial (by kernel_rfl) (by kernel_rfl)
        · refine GoO.exec (is := [13, 14, 15, 16, 17, 18, 19, 20, 21, 22, 23, 24, 25, 26]) (hs := [.p, .p, .p, .p, .p, .p, .p, .p, .p, .p, .p, .p, .p, .p]) (rest := []) (ks := [0]) (env' := [(0, .bool false)]) (H' := [⟨40, b_2, [.int .u64 r_23.2.2.fence.Term, .int .u64 r_23.2.2.fence.Index, .slice A_24 r_23.2.2.effects.length c_25, .map (mA A_26), .map (mA A_28)]⟩]) (ps := []) (by kernel_rfl) trivial ?_
          refine GoO.regionEnd ?_
          exact GoO.ret' (h := c21_12e) (hs := []) (ps := []) (hk := []) (bk := []) Try.func21 () (by kernel_rfl) trivial (by kernel_rfl) (by kernel_rfl)
      · refine GoO.exec (is := [10, 11, 12, 13, 14, 15, 16, 17, 18, 19, 20, 21, 22, 23, 24, 25, 26]) (hs := [.p, .p, .p, .p, .p, .p, .p, .p, .p, .p, .p, .p, .p, .p, .p, .p, .p]) (rest := []) (ks := [0]) (env' := [(0, .bool false)]) (H' := [⟨40, b_2, [.int .u64 r_23.2.2.fence.Term, .int .u64 r_23.2.2.fence.Index, .slice A_24 r_23.2.2.effects.length c_25, .map (mA A_26), .map (mA A_28)]⟩]) (ps := []) (by kernel_rfl) trivial ?_
        refine GoO.regionEnd ?_
        exact GoO.ret' (h := c21_12e) (hs := []) (ps := []) (hk := []) (bk := []) Try.func21 () (by kernel_rfl) trivial (by kernel_rfl) (by kernel_rfl)
    · refine GoO.exec (is := [6, 7, 8, 9, 10, 11, 12, 13, 14, 15, 16, 17, 18, 19, 20, 21, 22, 23, 24, 25, 26]) (hs := [.p, .p, .p, .p, .p, .p, .p, .p, .p, .p, .p, .p, .p, .p, .p, .p, .p, .p, .p, .p, .p]) (rest := []) (ks := [0]) (env' := [(0, .bool false)]) (H' := [⟨40, b_2, [.int .u64 r_23.2.2.fence.Term, .int .u64 r_23.2.2.fence.Index, .slice A_24 r_23.2.2.effects.length c_25, .map (mA A_26), .map (mA A_28)]⟩]) (ps := []) (by kernel_rfl) trivial ?_
      refine GoO.regionEnd ?_
      exact GoO.ret' (h := c21_12e) (hs := []) (ps := []) (hk := []) (bk := []) Try.func21 () (by kernel_rfl) trivial (by kernel_rfl) (by kernel_rfl)
  · refine GoO.exec (is := [2, 3, 4, 5, 6, 7, 8, 9, 10, 11, 12, 13, 14, 15, 16, 17, 18, 19, 20, 21, 22, 23, 24, 25, 26]) (hs := [.p, .p, .p, .p, .p, .p, .p, .p, .p, .p, .p, .p, .p, .p, .p, .p, .p, .p, .p, .p, .p, .p, .p, .p, .p]) (rest := []) (ks := [0]) (env' := [(0, .bool false)]) (H' := [⟨40, b_2, [.int .u64 r_23.2.2.fence.Term, .int .u64 r_23.2.2.fence.Index, .slice A_24 r_23.2.2.effects.length c_25, .map (mA A_26), .map (mA A_28)]⟩]) (ps := []) (by kernel_rfl) trivial ?_
    refine GoO.regionEnd ?_
    exact GoO.ret' (h := c21_12e) (hs := []) (ps := []) (hk := []) (bk := []) Try.func21 () (by kernel_rfl) trivial (by kernel_rfl) (by kernel_rfl)

/-! (*tontine/ledger.Ledger).Ask -/
noncomputable def c23n0_0 : Code := bodyOf Try.f23
noncomputable def c23n0_1 : Code := cdL c23n0_0
noncomputable def c23n0_2 : Code := cdR c23n0_0
noncomputable def c23n0_3 : Code := cdL c23n0_2
noncomputable def c23n0_4 : Code := cdL c23n0_3
noncomputable def c23n0_5 : Code := cdR c23n0_3
noncomputable def c23n0_6 : Code := cdL c23n0_5
noncomputable def c23n0_7 : Code := cdL c23n0_6
noncomputable def c23n0_8 : Code := cdR c23n0_6
noncomputable def c23n0_10 : Code := cdR c23n0_2
noncomputable def c23n0_9 : Code := cdR c23n0_5
noncomputable def r23n0_1 : Array Oper := cdO c23n0_1
noncomputable def r23n0_4 : Array Oper := cdO c23n0_4
noncomputable def r23n0_7 : Array Oper := cdO c23n0_7
theorem c23n0_0e : c23n0_0 = .seq c23n0_1 c23n0_2 := by kernel_rfl
theorem c23n0_1e : c23n0_1 = .region 0 r23n0_1 false := by kernel_rfl
theorem c23n0_2e : c23n0_2 = .seq c23n0_3 c23n0_10 := by kernel_rfl
theorem c23n0_3e : c23n0_3 = .seq c23n0_4 c23n0_5 := by kernel_rfl
theorem c23n0_4e : c23n0_4 = .region 1 r23n0_4 false := by kernel_rfl
theorem c23n0_5e : c23n0_5 = .cond (cdC c23n0_5) c23n0_6 c23n0_9 := by kernel_rfl
theorem c23n0_6e : c23n0_6 = .seq c23n0_7 c23n0_8 := by kernel_rfl
theorem c23n0_7e : c23n0_7 = .region 2 r23n0_7 false := by kernel_rfl
theorem c23n0_8e : c23n0_8 = .ret := by kernel_rfl
theorem c23n0_9e : c23n0_9 = .skip := by kernel_rfl
noncomputable def ledger_Ledger_Ask_n0.R : Pst (Bool × Int) where
  ε := Unit
  v := fun r x => .tuple ⟨[.bool r.1, .int .i64 r.2]⟩
  H := fun r x => []
  B := fun r x => []
noncomputable def ledger_Ledger_Ask_n0.cx (w0 : World) (S0 : Fam) : Cx (Bool × Int) := ⟨Try.prog, 23, Try.f23, 90, w0, S0, [], 0, ledger_Ledger_Ask_n0.R⟩
theorem ledger_Ledger_Ask_n0_ok (n : Nat) (t_1 : T_api_Token) (k_2 : T_api_Key) (name_3 : (List UInt8)) (fail_4 : Bool) :
    Meets Try.prog 23 [.pointer none, .agg ⟨[.int .u64 t_1.Term, .int .u64 t_1.Index]⟩, .agg ⟨[.int .u64 k_2.Saga, .int .i64 k_2.Step, .bool k_2.Back]⟩, .string (bs name_3), .bool fail_4] 0 [] [] [] (ledger_Ledger_Ask_n0.f n t_1 k_2 name_3 fail_4) (ledger_Ledger_Ask_n0.R) := by
  refine Meets.of (c := c23n0_0) (n := 90) Try.func23 (by kernel_rfl) (by kernel_rfl) (by kernel_rfl) fun w0 S0 => ?_
  unfold ledger_Ledger_Ask_n0.f
  show GoO (ledger_Ledger_Ask_n0.cx w0 S0) [(0, .pointer none), (1, .agg ⟨[.int .u64 t_1.Term, .int .u64 t_1.Index]⟩), (2, .agg ⟨[.int .u64 k_2.Saga, .int .i64 k_2.Step, .bool k_2.Back]⟩), (3, .string (bs name_3)), (4, .bool fail_4)] [] [] [.code c23n0_0] _
  refine GoO.seq' c23n0_0e ?_
  refine GoO.region' (is := [0, 1, 2, 3]) c23n0_1e (by kernel_rfl) ?_
  refine OpTo.go (GoO.new rfl 40 (cs := [.int .u64 t_1.Term, .int .u64 t_1.Index]) (by kernel_rfl) _ (fun _ => rfl) (fun b_5 => ?_))
  refine OpTo.go (GoO.new rfl 41 (cs := [.int .u64 k_2.Saga, .int .i64 k_2.Step, .bool k_2.Back]) (by kernel_rfl) _ (fun _ => rfl) (fun b_6 => ?_))
  refine GoO.exec (is := [2, 3]) (hs := [.p, .p]) (rest := []) (ks := [0, 3, 4, 6, 7]) (env' := [(0, .pointer none), (3, .string (bs name_3)), (4, .bool fail_4), (6, .pointer (some ⟨b_5, 0, none⟩)), (7, .pointer (some ⟨b_6, 0, none⟩))]) (H' := [⟨41, b_6, [.int .u64 k_2.Saga, .int .i64 k_2.Step, .bool k_2.Back]⟩, ⟨40, b_5, [.int .u64 t_1.Term, .int .u64 t_1.Index]⟩]) (ps := []) (by kernel_rfl) trivial ?_
  refine GoO.regionEnd ?_
  refine GoO.seq' c23n0_2e ?_
  refine GoO.seq' c23n0_3e ?_
  refine GoO.region' (is := [0, 1, 2, 3, 4, 5, 6, 7, 8, 9, 10, 11, 12, 13, 14, 15, 16]) c23n0_4e (by kernel_rfl) ?_
  refine GoO.exec (is := [0, 1, 2, 3, 4, 5, 6, 7, 8, 9, 10, 11, 12, 13, 14, 15, 16]) (hs := [.p, .p, .p, .p, .p, .p, .p, .p, .p, .p, .p, .p, .p, .p, .p, .p, .p]) (rest := []) (ks := [0, 3, 4, 6, 7, 30]) (env' := [(0, .pointer none), (3, .string (bs name_3)), (4, .bool fail_4), (6, .pointer (some ⟨b_5, 0, none⟩)), (7, .pointer (some ⟨b_6, 0, none⟩)), (30, .bool true)]) (H' := [⟨41, b_6, [.int .u64 k_2.Saga, .int .i64 k_2.Step, .bool k_2.Back]⟩, ⟨40, b_5, [.int .u64 t_1.Term, .int .u64 t_1.Index]⟩]) (ps := []) (by kernel_rfl) trivial ?_
  refine GoO.regionEnd ?_
  refine GoO.condT c23n0_5e (by kernel_rfl) ?_
  refine GoO.seq' c23n0_6e ?_
  refine GoO.region' (is := [0, 1]) c23n0_7e (by kernel_rfl) ?_
  refine GoO.exec (is := [0, 1]) (hs := [.p, .p]) (rest := []) (ks := [10, 11]) (env' := [(10, .bool false), (11, .int .i64 1)]) (H' := [⟨41, b_6, [.int .u64 k_2.Saga, .int .i64 k_2.Step, .bool k_2.Back]⟩, ⟨40, b_5, [.int .u64 t_1.Term, .int .u64 t_1.Index]⟩]) (ps := []) (by kernel_rfl) trivial ?_
  refine GoO.regionEnd ?_
  exact GoO.ret' (h := c23n0_8e) (hs := []) (ps := []) (hk := []) (bk := []) Try.func23 () (by kernel_rfl) trivial (by kernel_rfl) (by kernel_rfl)

/-! (*tontine/ledger.Ledger).Fence -/
noncomputable def c29n0_0 : Code := bodyOf Try.f29
noncomputable def c29n0_1 : Code := cdL c29n0_0
noncomputable def c29n0_2 : Code := cdR c29n0_0
noncomputable def c29n0_3 : Code := cdL c29n0_2
noncomputable def c29n0_4 : Code := cdL c29n0_3
noncomputable def c29n0_5 : Code := cdR c29n0_3
noncomputable def c29n0_6 : Code := cdL c29n0_5
noncomputable def c29n0_7 : Code := cdL c29n0_6
noncomputable def c29n0_8 : Code := cdR c29n0_6
noncomputable def c29n0_10 : Code := cdR c29n0_2
noncomputable def c29n0_9 : Code := cdR c29n0_5
noncomputable def r29n0_1 : Array Oper := cdO c29n0_1
noncomputable def r29n0_4 : Array Oper := cdO c29n0_4
noncomputable def r29n0_7 : Array Oper := cdO c29n0_7
theorem c29n0_0e : c29n0_0 = .seq c29n0_1 c29n0_2 := by kernel_rfl
theorem c29n0_1e : c29n0_1 = .region 0 r29n0_1 false := by kernel_rfl
theorem c29n0_2e : c29n0_2 = .seq c29n0_3 c29n0_10 := by kernel_rfl
theorem c29n0_3e : c29n0_3 = .seq c29n0_4 c29n0_5 := by kernel_rfl
theorem c29n0_4e : c29n0_4 = .region 1 r29n0_4 false := by kernel_rfl
theorem c29n0_5e : c29n0_5 = .cond (cdC c29n0_5) c29n0_6 c29n0_9 := by kernel_rfl
theorem c29n0_6e : c29n0_6 = .seq c29n0_7 c29n0_8 := by kernel_rfl
theorem c29n0_7e : c29n0_7 = .region 2 r29n0_7 false := by kernel_rfl
theorem c29n0_8e : c29n0_8 = .ret := by kernel_rfl
theorem c29n0_9e : c29n0_9 = .skip := by kernel_rfl
noncomputable def ledger_Ledger_Fence_n0.R : Pst T_api_Token where
  ε := Unit
  v := fun r x => .agg ⟨[.int .u64 r.Term, .int .u64 r.Index]⟩
  H := fun r x => []
  B := fun r x => []
noncomputable def ledger_Ledger_Fence_n0.cx (w0 : World) (S0 : Fam) : Cx T_api_Token := ⟨Try.prog, 29, Try.f29, 10, w0, S0, [], 0, ledger_Ledger_Fence_n0.R⟩
theorem ledger_Ledger_Fence_n0_ok (n : Nat) :
    Meets Try.prog 29 [.pointer none] 0 [] [] [] (ledger_Ledger_Fence_n0.f n) (ledger_Ledger_Fence_n0.R) := by
  refine Meets.of (c := c29n0_0) (n := 10) Try.func29 (by kernel_rfl) (by kernel_rfl) (by kernel_rfl) fun w0 S0 => ?_
  unfold ledger_Ledger_Fence_n0.f
  show GoO (ledger_Ledger_Fence_n0.cx w0 S0) [(0, .pointer none)] [] [] [.code c29n0_0] _
  refine GoO.seq' c29n0_0e ?_
  refine GoO.region' (is := [0]) c29n0_1e (by kernel_rfl) ?_
  refine OpTo.go (GoO.new rfl 40 (cs := [.int .u64 0, .int .u64 0]) (by kernel_rfl) _ (fun _ => rfl) (fun b_1 => ?_))
  refine GoO.regionEnd ?_
  refine GoO.seq' c29n0_2e ?_
  refine GoO.seq' c29n0_3e ?_
  refine GoO.region' (is := [0, 1]) c29n0_4e (by kernel_rfl) ?_
  refine GoO.exec (is := [0, 1]) (hs := [.p, .p]) (rest := []) (ks := [0, 2, 4]) (env' := [(0, .pointer none), (2, .pointer (some ⟨b_1, 0, none⟩)), (4, .bool true)]) (H' := [⟨40, b_1, [.int .u64 0, .int .u64 0]⟩]) (ps := []) (by kernel_rfl) trivial ?_
  refine GoO.regionEnd ?_
  refine GoO.condT c29n0_5e (by kernel_rfl) ?_
  refine GoO.seq' c29n0_6e ?_
  refine GoO.region' (is := [0, 1]) c29n0_7e (by kernel_rfl) ?_
  refine GoO.exec (is := [0, 1]) (hs := [.p, .b 0]) (rest := []) (ks := [2]) (env' := [(2, .pointer (some ⟨b_1, 0, none⟩))]) (H' := [⟨40, b_1, [.int .u64 0, .int .u64 0]⟩]) (ps := [b_1 = b_1]) (by kernel_rfl) (And.intro rfl trivial) ?_
  refine GoO.regionEnd ?_
  exact GoO.ret' (h := c29n0_8e) (hs := [0]) (ps := [b_1 = b_1]) (hk := []) (bk := []) Try.func29 () (by kernel_rfl) (And.intro rfl trivial) (by kernel_rfl) (by kernel_rfl)

/-! (*tontine/ledger.Ledger).Effects -/
noncomputable def c24n0_0 : Code := bodyOf Try.f24
noncomputable def c24n0_1 : Code := cdL c24n0_0
noncomputable def c24n0_2 : Code := cdR c24n0_0
noncomputable def c24n0_3 : Code := cdL c24n0_2
noncomputable def c24n0_4 : Code := cdL c24n0_3
noncomputable def c24n0_5 : Code := cdR c24n0_3
noncomputable def c24n0_6 : Code := cdL c24n0_5
noncomputable def c24n0_7 : Code := cdL c24n0_6
noncomputable def c24n0_8 : Code := cdR c24n0_6
noncomputable def c24n0_10 : Code := cdR c24n0_2
noncomputable def c24n0_9 : Code := cdR c24n0_5
noncomputable def r24n0_1 : Array Oper := cdO c24n0_1
noncomputable def r24n0_4 : Array Oper := cdO c24n0_4
noncomputable def r24n0_7 : Array Oper := cdO c24n0_7
theorem c24n0_0e : c24n0_0 = .seq c24n0_1 c24n0_2 := by kernel_rfl
theorem c24n0_1e : c24n0_1 = .region 0 r24n0_1 false := by kernel_rfl
theorem c24n0_2e : c24n0_2 = .seq c24n0_3 c24n0_10 := by kernel_rfl
theorem c24n0_3e : c24n0_3 = .seq c24n0_4 c24n0_5 := by kernel_rfl
theorem c24n0_4e : c24n0_4 = .region 1 r24n0_4 false := by kernel_rfl
theorem c24n0_5e : c24n0_5 = .cond (cdC c24n0_5) c24n0_6 c24n0_9 := by kernel_rfl
theorem c24n0_6e : c24n0_6 = .seq c24n0_7 c24n0_8 := by kernel_rfl
theorem c24n0_7e : c24n0_7 = .region 2 r24n0_7 false := by kernel_rfl
theorem c24n0_8e : c24n0_8 = .ret := by kernel_rfl
theorem c24n0_9e : c24n0_9 = .skip := by kernel_rfl
noncomputable def ledger_Ledger_Effects_n0.R : Pst (List T_ledger_Effect) where
  ε := Option Addr × Nat
  v := fun r x => .slice x.1 r.length x.2
  H := fun r x => []
  B := fun r x => [Ow 1 kT_ledger_Effect x.1 x.2 r]
noncomputable def ledger_Ledger_Effects_n0.cx (w0 : World) (S0 : Fam) : Cx (List T_ledger_Effect) := ⟨Try.prog, 24, Try.f24, 10, w0, S0, [], 0, ledger_Ledger_Effects_n0.R⟩
theorem ledger_Ledger_Effects_n0_ok (n : Nat) :
    Meets Try.prog 24 [.pointer none] 0 [] [] [] (ledger_Ledger_Effects_n0.f n) (ledger_Ledger_Effects_n0.R) := by
  refine Meets.of (c := c24n0_0) (n := 10) Try.func24 (by kernel_rfl) (by kernel_rfl) (by kernel_rfl) fun w0 S0 => ?_
  unfold ledger_Ledger_Effects_n0.f
  show GoO (ledger_Ledger_Effects_n0.cx w0 S0) [(0, .pointer none)] [] [] [.code c24n0_0] _
  refine GoO.seq' c24n0_0e ?_
  refine GoO.region' (is := [0]) c24n0_1e (by kernel_rfl) ?_
  refine GoO.exec (is := [0]) (hs := [.p]) (rest := []) (ks := [0]) (env' := [(0, .pointer none)]) (H' := []) (ps := []) (by kernel_rfl) trivial ?_
  refine GoO.regionEnd ?_
  refine GoO.seq' c24n0_2e ?_
  refine GoO.seq' c24n0_3e ?_
  refine GoO.region' (is := [0, 1]) c24n0_4e (by kernel_rfl) ?_
  refine GoO.exec (is := [0, 1]) (hs := [.p, .p]) (rest := []) (ks := [0, 4]) (env' := [(0, .pointer none), (4, .bool true)]) (H' := []) (ps := []) (by kernel_rfl) trivial ?_
  refine GoO.regionEnd ?_
  refine GoO.condT c24n0_5e (by kernel_rfl) ?_
  refine GoO.seq' c24n0_6e ?_
  refine GoO.region' (is := [0]) c24n0_7e (by kernel_rfl) ?_
  refine GoO.exec (is := [0]) (hs := [.p]) (rest := []) (ks := [2]) (env' := [(2, .slice none ([] : List T_ledger_Effect).length 0)]) (H' := []) (ps := []) (by kernel_rfl) trivial ?_
  refine GoO.regionEnd ?_
  refine GoO.nilOwn kT_ledger_Effect 1 ?_
  exact GoO.ret' (h := c24n0_8e) (hs := []) (ps := []) (hk := []) (bk := [0]) Try.func24 (⟨none, 0⟩ : Option Addr × Nat) (by kernel_rfl) trivial (by kernel_rfl) (by kernel_rfl)

/-! (*tontine/ledger.Ledger).Dead -/
noncomputable def c25n0_0 : Code := bodyOf Try.f25
noncomputable def c25n0_1 : Code := cdL c25n0_0
noncomputable def c25n0_2 : Code := cdR c25n0_0
noncomputable def c25n0_3 : Code := cdL c25n0_2
noncomputable def c25n0_4 : Code := cdR c25n0_2
noncomputable def r25n0_1 : Array Oper := cdO c25n0_1
noncomputable def r25n0_3 : Array Oper := cdO c25n0_3
theorem c25n0_0e : c25n0_0 = .seq c25n0_1 c25n0_2 := by kernel_rfl
theorem c25n0_1e : c25n0_1 = .region 0 r25n0_1 false := by kernel_rfl
theorem c25n0_2e : c25n0_2 = .seq c25n0_3 c25n0_4 := by kernel_rfl
theorem c25n0_3e : c25n0_3 = .region 1 r25n0_3 false := by kernel_rfl
theorem c25n0_4e : c25n0_4 = .ret := by kernel_rfl
noncomputable def ledger_Ledger_Dead_n0.R : Pst Bool where
  ε := Unit
  v := fun r x => .bool r
  H := fun r x => []
  B := fun r x => []
noncomputable def ledger_Ledger_Dead_n0.cx (w0 : World) (S0 : Fam) : Cx Bool := ⟨Try.prog, 25, Try.f25, 19, w0, S0, [], 0, ledger_Ledger_Dead_n0.R⟩
theorem ledger_Ledger_Dead_n0_ok (n : Nat) (saga_1 : Int) (step_2 : Int) :
    Meets Try.prog 25 [.pointer none, .int .u64 saga_1, .int .i64 step_2] 0 [] [] [] (ledger_Ledger_Dead_n0.f n saga_1 step_2) (ledger_Ledger_Dead_n0.R) := by
  refine Meets.of (c := c25n0_0) (n := 19) Try.func25 (by kernel_rfl) (by kernel_rfl) (by kernel_rfl) fun w0 S0 => ?_
  unfold ledger_Ledger_Dead_n0.f
  show GoO (ledger_Ledger_Dead_n0.cx w0 S0) [(0, .pointer none), (1, .int .u64 saga_1), (2, .int .i64 step_2)] [] [] [.code c25n0_0] _
  refine GoO.seq' c25n0_0e ?_
  refine GoO.region' (is := [0]) c25n0_1e (by kernel_rfl) ?_
  refine GoO.exec (is := [0]) (hs := [.p]) (rest := []) (ks := [0, 1, 2]) (env' := [(0, .pointer none), (1, .int .u64 saga_1), (2, .int .i64 step_2)]) (H' := []) (ps := []) (by kernel_rfl) trivial ?_
  refine GoO.regionEnd ?_
  refine GoO.seq' c25n0_2e ?_
  refine GoO.region' (is := [0, 1, 2, 3, 4, 5, 6, 7, 8, 9, 10, 11, 12]) c25n0_3e (by kernel_rfl) ?_
  refine GoO.exec (is := [0, 1, 2, 3, 4, 5, 6, 7, 8, 9, 10, 11, 12]) (hs := [.p, .p, .p, .p, .p, .p, .p, .p, .p, .p, .p, .p, .p]) (rest := []) (ks := [6]) (env' := [(6, .bool false)]) (H' := []) (ps := []) (by kernel_rfl) trivial ?_
  refine GoO.regionEnd ?_
  exact GoO.ret' (h := c25n0_4e) (hs := []) (ps := []) (hk := []) (bk := []) Try.func25 () (by kernel_rfl) trivial (by kernel_rfl) (by kernel_rfl)

/-! (*tontine/ledger.Ledger).Fence -/
noncomputable def c29_0 : Code := bodyOf Try.f29
noncomputable def c29_1 : Code := cdL c29_0
noncomputable def c29_2 : Code := cdR c29_0
noncomputable def c29_3 : Code := cdL c29_2
noncomputable def c29_4 : Code := cdL c29_3
noncomputable def c29_5 : Code := cdR c29_3
noncomputable def c29_9 : Code := cdR c29_5
noncomputable def c29_10 : Code := cdR c29_2
noncomputable def c29_11 : Code := cdL c29_10
noncomputable def c29_12 : Code := cdR c29_10
noncomputable def c29_6 : Code := cdL c29_5
noncomputable def r29_1 : Array Oper := cdO c29_1
noncomputable def r29_4 : Array Oper := cdO c29_4
noncomputable def r29_11 : Array Oper := cdO c29_11
theorem c29_0e : c29_0 = .seq c29_1 c29_2 := by kernel_rfl
theorem c29_1e : c29_1 = .region 0 r29_1 false := by kernel_rfl
theorem c29_2e : c29_2 = .seq c29_3 c29_10 := by kernel_rfl
theorem c29_3e : c29_3 = .seq c29_4 c29_5 := by kernel_rfl
theorem c29_4e : c29_4 = .region 1 r29_4 false := by kernel_rfl
theorem c29_5e : c29_5 = .cond (cdC c29_5) c29_6 c29_9 := by kernel_rfl
theorem c29_9e : c29_9 = .skip := by kernel_rfl
theorem c29_10e : c29_10 = .seq c29_11 c29_12 := by kernel_rfl
theorem c29_11e : c29_11 = .region 3 r29_11 false := by kernel_rfl
theorem c29_12e : c29_12 = .ret := by kernel_rfl
noncomputable def ledger_Ledger_Fence.R (b_2 : Nat) (A_3 : Option Addr) (c_4 : Nat) (A_5 : Option Addr) (c_6 : Nat) (A_7 : Option Addr) (c_8 : Nat) : Pst T_api_Token where
  ε := Unit
  v := fun r x => .agg ⟨[.int .u64 r.Term, .int .u64 r.Index]⟩
  H := fun r x => []
  B := fun r x => []
noncomputable def ledger_Ledger_Fence.cx (b_2 : Nat) (A_3 : Option Addr) (c_4 : Nat) (A_5 : Option Addr) (c_6 : Nat) (A_7 : Option Addr) (c_8 : Nat) (w0 : World) (S0 : Fam) : Cx T_api_Token := ⟨Try.prog, 29, Try.f29, 10, w0, S0, [], 4, ledger_Ledger_Fence.R b_2 A_3 c_4 A_5 c_6 A_7 c_8⟩
theorem ledger_Ledger_Fence_ok (n : Nat) (l_1 : T_ledger_Ledger) (b_2 : Nat) (A_3 : Option Addr) (c_4 : Nat) (A_5 : Option Addr) (c_6 : Nat) (A_7 : Option Addr) (c_8 : Nat) :
    Meets Try.prog 29 [.pointer (some ⟨b_2, 0, none⟩)] 4 [] [⟨1, b_2, [.int .u64 l_1.fence.Term, .int .u64 l_1.fence.Index, .slice A_3 l_1.effects.length c_4, .map (mA A_5), .map (mA A_7)]⟩] [Ow 2 kT_ledger_Effect A_3 c_4 l_1.effects, Mp 3 ky41 (fun v => .bool v) A_5 c_6 l_1.said, Mp 4 ky41 (fun v => .bool v) A_7 c_8 l_1.tombs] (ledger_Ledger_Fence.f n l_1) (ledger_Ledger_Fence.R b_2 A_3 c_4 A_5 c_6 A_7 c_8) := by
  refine Meets.of (c := c29_0) (n := 10) Try.func29 (by kernel_rfl) (by kernel_rfl) (by kernel_rfl) fun w0 S0 => ?_
  unfold ledger_Ledger_Fence.f
  show GoO (ledger_Ledger_Fence.cx b_2 A_3 c_4 A_5 c_6 A_7 c_8 w0 S0) [(0, .pointer (some ⟨b_2, 0, none⟩))] [⟨1, b_2, [.int .u64 l_1.fence.Term, .int .u64 l_1.fence.Index, .slice A_3 l_1.effects.length c_4, .map (mA A_5), .map (mA A_7)]⟩] [Ow 2 kT_ledger_Effect A_3 c_4 l_1.effects, Mp 3 ky41 (fun v => .bool v) A_5 c_6 l_1.said, Mp 4 ky41 (fun v => .bool v) A_7 c_8 l_1.tombs] [.code c29_0] _
  refine GoO.seq' c29_0e ?_
  refine GoO.region' (is := [0]) c29_1e (by kernel_rfl) ?_
  refine OpTo.go (GoO.new rfl 40 (cs := [.int .u64 0, .int .u64 0]) (by kernel_rfl) _ (fun _ => rfl) (fun b_9 => ?_))
  refine GoO.regionEnd ?_
  refine GoO.seq' c29_2e ?_
  refine GoO.seq' c29_3e ?_
  refine GoO.region' (is := [0, 1]) c29_4e (by kernel_rfl) ?_
  refine GoO.exec (is := [0, 1]) (hs := [.p, .p]) (rest := []) (ks := [0, 2, 4]) (env' := [(0, .pointer (some ⟨b_2, 0, none⟩)), (2, .pointer (some ⟨b_9, 0, none⟩)), (4, .bool false)]) (H' := [⟨40, b_9, [.int .u64 0, .int .u64 0]⟩, ⟨1, b_2, [.int .u64 l_1.fence.Term, .int .u64 l_1.fence.Index, .slice A_3 l_1.effects.length c_4, .map (mA A_5), .map (mA A_7)]⟩]) (ps := []) (by kernel_rfl) trivial ?_
  refine GoO.regionEnd ?_
  refine GoO.condF c29_5e (by kernel_rfl) ?_
  refine GoO.skip' c29_9e ?_
  refine GoO.seq' c29_10e ?_
  refine GoO.region' (is := [0, 1, 2, 3, 4]) c29_11e (by kernel_rfl) ?_
  refine GoO.exec (is := [0, 1, 2, 3, 4]) (hs := [.p, .p, .p, .b 1, .b 0]) (rest := []) (ks := [2]) (env' := [(2, .pointer (some ⟨b_9, 0, none⟩))]) (H' := [⟨40, b_9, [.int .u64 l_1.fence.Term, .int .u64 l_1.fence.Index]⟩, ⟨1, b_2, [.int .u64 l_1.fence.Term, .int .u64 l_1.fence.Index, .slice A_3 l_1.effects.length c_4, .map (mA A_5), .map (mA A_7)]⟩]) (ps := [b_2 = b_2, b_9 = b_9]) (by kernel_rfl) (And.intro rfl (And.intro rfl trivial)) ?_
  refine GoO.regionEnd ?_
  exact GoO.ret' (h := c29_12e) (hs := [0]) (ps := [b_9 = b_9]) (hk := []) (bk := []) Try.func29 () (by kernel_rfl) (And.intro rfl trivial) (by kernel_rfl) (by kernel_rfl)

/-! tontine/tontinelaw18.LedgerNone -/
noncomputable def c9_0 : Code := bodyOf Try.f9
noncomputable def c9_1 : Code := cdL c9_0
noncomputable def c9_2 : Code := cdR c9_0
noncomputable def c9_3 : Code := cdL c9_2
noncomputable def c9_4 : Code := cdL c9_3
noncomputable def c9_5 : Code := cdR c9_3
noncomputable def c9_6 : Code := cdL c9_5
noncomputable def c9_7 : Code := cdL c9_6
noncomputable def c9_8 : Code := cdR c9_6
noncomputable def c9_9 : Code := cdR c9_5
noncomputable def c9_10 : Code := cdR c9_2
noncomputable def c9_11 : Code := cdL c9_10
noncomputable def c9_12 : Code := cdR c9_10
noncomputable def c9_13 : Code := cdL c9_12
noncomputable def c9_14 : Code := cdR c9_12
noncomputable def c9_15 : Code := cdL c9_14
noncomputable def c9_16 : Code := cdR c9_14
noncomputable def c9_17 : Code := cdL c9_16
noncomputable def c9_18 : Code := cdR c9_16
noncomputable def c9_19 : Code := cdL c9_18
noncomputable def c9_20 : Code := cdR c9_18
noncomputable def c9_21 : Code := cdL c9_20
noncomputable def c9_22 : Code := cdR c9_20
noncomputable def r9_1 : Array Oper := cdO c9_1
noncomputable def r9_4 : Array Oper := cdO c9_4
noncomputable def r9_7 : Array Oper := cdO c9_7
noncomputable def r9_11 : Array Oper := cdO c9_11
noncomputable def r9_13 : Array Oper := cdO c9_13
noncomputable def r9_15 : Array Oper := cdO c9_15
noncomputable def r9_17 : Array Oper := cdO c9_17
noncomputable def r9_19 : Array Oper := cdO c9_19
noncomputable def r9_21 : Array Oper := cdO c9_21
theorem c9_0e : c9_0 = .seq c9_1 c9_2 := by kernel_rfl
theorem c9_1e : c9_1 = .region 0 r9_1 false := by kernel_rfl
theorem c9_2e : c9_2 = .seq c9_3 c9_10 := by kernel_rfl
theorem c9_3e : c9_3 = .seq c9_4 c9_5 := by kernel_rfl
theorem c9_4e : c9_4 = .region 1 r9_4 false := by kernel_rfl
theorem c9_5e : c9_5 = .cond (cdC c9_5) c9_6 c9_9 := by kernel_rfl
theorem c9_6e : c9_6 = .seq c9_7 c9_8 := by kernel_rfl
theorem c9_7e : c9_7 = .region 2 r9_7 false := by kernel_rfl
theorem c9_8e : c9_8 = .ret := by kernel_rfl
theorem c9_9e : c9_9 = .skip := by kernel_rfl
theorem c9_10e : c9_10 = .seq c9_11 c9_12 := by kernel_rfl
theorem c9_11e : c9_11 = .region 3 r9_11 false := by kernel_rfl
theorem c9_12e : c9_12 = .seq c9_13 c9_14 := by kernel_rfl
theorem c9_13e : c9_13 = .region 4 r9_13 false := by kernel_rfl
theorem c9_14e : c9_14 = .seq c9_15 c9_16 := by kernel_rfl
theorem c9_15e : c9_15 = .region 5 r9_15 false := by kernel_rfl
theorem c9_16e : c9_16 = .seq c9_17 c9_18 := by kernel_rfl
theorem c9_17e : c9_17 = .region 6 r9_17 false := by kernel_rfl
theorem c9_18e : c9_18 = .seq c9_19 c9_20 := by kernel_rfl
theorem c9_19e : c9_19 = .region 7 r9_19 false := by kernel_rfl
theorem c9_20e : c9_20 = .seq c9_21 c9_22 := by kernel_rfl
theorem c9_21e : c9_21 = .region 8 r9_21 false := by kernel_rfl
theorem c9_22e : c9_22 = .ret := by kernel_rfl
noncomputable def tontinelaw18_LedgerNone.R : Pst Bool where
  ε := Unit
  v := fun r x => .bool r
  H := fun r x => []
  B := fun r x => []
noncomputable def tontinelaw18_LedgerNone.cx (w0 : World) (S0 : Fam) : Cx Bool := ⟨Try.prog, 9, Try.f9, 92, w0, S0, [], 0, tontinelaw18_LedgerNone.R⟩
theorem tontinelaw18_LedgerNone_j0_ok (n : Nat) (k_2 : T_api_Key) (r_8 : Bool × Int) (r_17 : Bool × Int × T_ledger_Ledger) (b_5 : Nat) (b_10 : Nat) (A_18 : Option Addr) (c_19 : Nat) (A_20 : Option Addr) (c_21 : Nat) (A_22 : Option Addr) (c_23 : Nat) (w0 : World) (S0 : Fam) (bad_26 : Bool) :
    GoO (tontinelaw18_LedgerNone.cx w0 S0) [(4, .pointer (some ⟨b_5, 0, none⟩)), (7, .pointer none), (9, .int .i64 r_8.2), (10, .pointer (some ⟨b_10, 0, none⟩)), (12, .int .i64 r_17.2.1), (13, .bool bad_26)] [⟨41, b_5, [.int .u64 k_2.Saga, .int .i64 k_2.Step, .bool k_2.Back]⟩, ⟨42, b_10, [.int .u64 r_17.2.2.fence.Term, .int .u64 r_17.2.2.fence.Index, .slice A_18 r_17.2.2.effects.length c_19, .map (mA A_20), .map (mA A_22)]⟩] [Ow 43 kT_ledger_Effect A_18 c_19 r_17.2.2.effects, Mp 44 ky41 (fun v => .bool v) A_20 c_21 r_17.2.2.said, Mp 45 ky41 (fun v => .bool v) A_22 c_23 r_17.2.2.tombs] [.code c9_20] (tontinelaw18_LedgerNone.j0 n k_2 r_8 r_17 bad_26) := by
  unfold tontinelaw18_LedgerNone.j0
  refine GoO.seq' c9_20e ?_
  refine GoO.region' (is := [0, 1, 2, 3, 4, 5, 6, 7, 8, 9, 10, 11, 12, 13, 14, 15, 16, 17, 18, 19, 20, 21, 22, 23, 24, 25, 26, 27, 28, 29, 30, 31, 32, 33, 34, 35, 36, 37, 38, 39, 40, 41, 42, 43, 44, 45, 46]) c9_21e (by kernel_rfl) ?_
  refine GoO.exec (is := [0, 1, 2]) (hs := [.p, .p, .p]) (rest := [3, 4, 5, 6, 7, 8, 9, 10, 11, 12, 13, 14, 15, 16, 17, 18, 19, 20, 21, 22, 23, 24, 25, 26, 27, 28, 29, 30, 31, 32, 33, 34, 35, 36, 37, 38, 39, 40, 41, 42, 43, 44, 45, 46]) (ks := [4, 7, 10, 12, 13, 48]) (env' := [(4, .pointer (some ⟨b_5, 0, none⟩)), (7, .pointer none), (10, .pointer (some ⟨b_10, 0, none⟩)), (12, .int .i64 r_17.2.1), (13, .bool bad_26), (48, .bool (r_8.2 == 1))]) (H' := [⟨41, b_5, [.int .u64 k_2.Saga, .int .i64 k_2.Step, .bool k_2.Back]⟩, ⟨42, b_10, [.int .u64 r_17.2.2.fence.Term, .int .u64 r_17.2.2.fence.Index, .slice A_18 r_17.2.2.effects.length c_19, .map (mA A_20), .map (mA A_22)]⟩]) (ps := []) (by kernel_rfl) trivial ?_
  refine GoO.bsplit (t := 48) (by kernel_rfl) (fun h27 => ?_) (fun h27 => ?_)
  · refine GoO.exec (is := [3]) (hs := [.p]) (rest := [4, 5, 6, 7, 8, 9, 10, 11, 12, 13, 14, 15, 16, 17, 18, 19, 20, 21, 22, 23, 24, 25, 26, 27, 28, 29, 30, 31, 32, 33, 34, 35, 36, 37, 38, 39, 40, 41, 42, 43, 44, 45, 46]) (ks := [4, 7, 10, 12, 13, 48, 49]) (env' := [(4, .pointer (some ⟨b_5, 0, none⟩)), (7, .pointer none), (10, .pointer (some ⟨b_10, 0, none⟩)), (12, .int .i64 r_17.2.1), (13, .bool bad_26), (48, .bool true), (49, .pointer none)]) (H' := [⟨41, b_5, [.int .u64 k_2.Saga, .int .i64 k_2.Step, .bool k_2.Back]⟩, ⟨42, b_10, [.int .u64 r_17.2.2.fence.Term, .int .u64 r_17.2.2.fence.Index, .slice A_18 r_17.2.2.effects.length c_19, .map (mA A_20), .map (mA A_22)]⟩]) (ps := []) (by kernel_rfl) trivial ?_
    refine OpTo.go (GoO.call rfl (by kernel_rfl) (by kernel_rfl) (ledger_Ledger_Fence_n0_ok n) [[0]] [] [] [] (hks := [0, 1]) (bks := [0, 1, 2]) (by kernel_rfl) (by kernel_rfl) (by kernel_rfl) (.inl rfl) rfl rfl (by kernel_rfl) (by kernel_rfl) _ (fun _ _ => rfl) _ _ (fun _ _ => rfl) (fun _ _ => rfl) (fun _ _ => by kernel_rfl) (fun _ _ => by kernel_rfl) (fun r_28 x_43 => ?_))
    refine GoO.shape (env' := [(4, .pointer (some ⟨b_5, 0, none⟩)), (7, .pointer none), (10, .pointer (some ⟨b_10, 0, none⟩)), (12, .int .i64 r_17.2.1), (13, .bool bad_26), (48, .bool true), (49, .pointer none), (50, .agg ⟨[.int .u64 r_28.Term, .int .u64 r_28.Index]⟩)]) (H' := [⟨41, b_5, [.int .u64 k_2.Saga, .int .i64 k_2.Step, .bool k_2.Back]⟩, ⟨42, b_10, [.int .u64 r_17.2.2.fence.Term, .int .u64 r_17.2.2.fence.Index, .slice A_18 r_17.2.2.effects.length c_19, .map (mA A_20), .map (mA A_22)]⟩]) (B' := [Ow 43 kT_ledger_Effect A_18 c_19 r_17.2.2.effects, Mp 44 ky41 (fun v => .bool v) A_20 c_21 r_17.2.2.said, Mp 45 ky41 (fun v => .bool v) A_22 c_23 r_17.2.2.tombs]) (ks := [4, 7, 10, 12, 13, 48, 49, 50]) (by kernel_rfl) (by kernel_rfl) (by kernel_rfl) ?_
    refine GoO.exec (is := [5, 6, 7, 8]) (hs := [.p, .p, .p, .p]) (rest := [9, 10, 11, 12, 13, 14, 15, 16, 17, 18, 19, 20, 21, 22, 23, 24, 25, 26, 27, 28, 29, 30, 31, 32, 33, 34, 35, 36, 37, 38, 39, 40, 41, 42, 43, 44, 45, 46]) (ks := [4, 7, 10, 12, 13, 54]) (env' := [(4, .pointer (some ⟨b_5, 0, none⟩)), (7, .pointer none), (10, .pointer (some ⟨b_10, 0, none⟩)), (12, .int .i64 r_17.2.1), (13, .bool bad_26), (54, .bool ((r_28.Term == 0) && ((r_28.Index == 0) && true)))]) (H' := [⟨41, b_5, [.int .u64 k_2.Saga, .int .i64 k_2.Step, .bool k_2.Back]⟩, ⟨42, b_10, [.int .u64 r_17.2.2.fence.Term, .int .u64 r_17.2.2.fence.Index, .slice A_18 r_17.2.2.effects.length c_19, .map (mA A_20), .map (mA A_22)]⟩]) (ps := []) (by kernel_rfl) trivial ?_
    refine GoO.bsplit (t := 54) (by kernel_rfl) (fun h29 => ?_) (fun h29 => ?_)
    · refine GoO.exec (is := [9]) (hs := [.p]) (rest := [10, 11, 12, 13, 14, 15, 16, 17, 18, 19, 20, 21, 22, 23, 24, 25, 26, 27, 28, 29, 30, 31, 32, 33, 34, 35, 36, 37, 38, 39, 40, 41, 42, 43, 44, 45, 46]) (ks := [4, 7, 10, 12, 13, 54, 55]) (env' := [(4, .pointer (some ⟨b_5, 0, none⟩)), (7, .pointer none), (10, .pointer (some ⟨b_10, 0, none⟩)), (12, .int .i64 r_17.2.1), (13, .bool bad_26), (54, .bool true), (55, .pointer none)]) (H' := [⟨41, b_5, [.int .u64 k_2.Saga, .int .i64 k_2.Step, .bool k_2.Back]⟩, ⟨42, b_10, [.int .u64 r_17.2.2.fence.Term, .int .u64 r_17.2.2.fence.Index, .slice A_18 r_17.2.2.effects.length c_19, .map (mA A_20), .map (mA A_22)]⟩]) (ps := []) (by kernel_rfl) trivial ?_
      refine OpTo.go (GoO.call rfl (by kernel_rfl) (by kernel_rfl) (ledger_Ledger_Effects_n0_ok n) [[0]] [(46, 1)] [] [] (hks := [0, 1]) (bks := [0, 1, 2]) (by kernel_rfl) (by kernel_rfl) (by kernel_rfl) (.inl rfl) rfl rfl (by kernel_rfl) (by kernel_rfl) _ (fun _ _ => rfl) _ _ (fun _ _ => rfl) (fun _ _ => rfl) (fun _ _ => by kernel_rfl) (fun _ _ => by kernel_rfl) (fun r_30 x_42 => ?_))
      obtain ⟨A_31, c_32⟩ := x_42
      refine GoO.shape (env' := [(4, .pointer (some ⟨b_5, 0, none⟩)), (7, .pointer none), (10, .pointer (some ⟨b_10, 0, none⟩)), (12, .int .i64 r_17.2.1), (13, .bool bad_26), (54, .bool true), (55, .pointer none), (56, .slice A_31 r_30.length c_32)]) (H' := [⟨41, b_5, [.int .u64 k_2.Saga, .int .i64 k_2.Step, .bool k_2.Back]⟩, ⟨42, b_10, [.int .u64 r_17.2.2.fence.Term, .int .u64 r_17.2.2.fence.Index, .slice A_18 r_17.2.2.effects.length c_19, .map (mA A_20), .map (mA A_22)]⟩]) (B' := [Ow 46 kT_ledger_Effect A_31 c_32 r_30, Ow 43 kT_ledger_Effect A_18 c_19 r_17.2.2.effects, Mp 44 ky41 (fun v => .bool v) A_20 c_21 r_17.2.2.said, Mp 45 ky41 (fun v => .bool v) A_22 c_23 r_17.2.2.tombs]) (ks := [4, 7, 10, 12, 13, 54, 55, 56]) (by kernel_rfl) (by kernel_rfl) (by kernel_rfl) ?_
      refine GoO.exec (is := [11, 12, 13, 14]) (hs := [.p, .p, .p, .p]) (rest := [15, 16, 17, 18, 19, 20, 21, 22, 23, 24, 25, 26, 27, 28, 29, 30, 31, 32, 33, 34, 35, 36, 37, 38, 39, 40, 41, 42, 43, 44, 45, 46]) (ks := [4, 7, 10, 12, 13, 60]) (env' := [(4, .pointer (some ⟨b_5, 0, none⟩)), (7, .pointer none), (10, .pointer (some ⟨b_10, 0, none⟩)), (12, .int .i64 r_17.2.1), (13, .bool bad_26), (60, .bool ((r_30.length : Int) == 0))]) (H' := [⟨41, b_5, [.int .u64 k_2.Saga, .int .i64 k_2.Step, .bool k_2.Back]⟩, ⟨42, b_10, [.int .u64 r_17.2.2.fence.Term, .int .u64 r_17.2.2.fence.Index, .slice A_18 r_17.2.2.effects.length c_19, .map (mA A_20), .map (mA A_22)]⟩]) (ps := []) (by kernel_rfl) trivial ?_
      refine GoO.bsplit (t := 60) (by kernel_rfl) (fun h33 => ?_) (fun h33 => ?_)
      · refine GoO.exec (is := [15, 16, 17, 18, 19]) (hs := [.p, .p, .b 0, .p, .b 0]) (rest := [20, 21, 22, 23, 24, 25, 26, 27, 28, 29, 30, 31, 32, 33, 34, 35, 36, 37, 38, 39, 40, 41, 42, 43, 44, 45, 46]) (ks := [10, 12, 13, 60, 61, 63, 65]) (env' := [(10, .pointer (some ⟨b_10, 0, none⟩)), (12, .int .i64 r_17.2.1), (13, .bool bad_26), (60, .bool true), (61, .pointer none), (63, .int .u64 k_2.Saga), (65, .int .i64 k_2.Step)]) (H' := [⟨41, b_5, [.int .u64 k_2.Saga, .int .i64 k_2.Step, .bool k_2.Back]⟩, ⟨42, b_10, [.int .u64 r_17.2.2.fence.Term, .int .u64 r_17.2.2.fence.Index, .slice A_18 r_17.2.2.effects.length c_19, .map (mA A_20), .map (mA A_22)]⟩]) (ps := [b_5 = b_5, b_5 = b_5]) (by kernel_rfl) (And.intro rfl (And.intro rfl trivial)) ?_
        refine OpTo.go (GoO.call rfl (by kernel_rfl) (by kernel_rfl) (ledger_Ledger_Dead_n0_ok n k_2.Saga k_2.Step) [[0]] [] [] [] (hks := [0, 1]) (bks := [0, 1, 2, 3]) (by kernel_rfl) (by kernel_rfl) (by kernel_rfl) (.inl rfl) rfl rfl (by kernel_rfl) (by kernel_rfl) _ (fun _ _ => rfl) _ _ (fun _ _ => rfl) (fun _ _ => rfl) (fun _ _ => by kernel_rfl) (fun _ _ => by kernel_rfl) (fun r_34 x_41 => ?_))
        refine GoO.shape (env' := [(10, .pointer (some ⟨b_10, 0, none⟩)), (12, .int .i64 r_17.2.1), (13, .bool bad_26), (60, .bool true), (61, .pointer none), (63, .int .u64 k_2.Saga), (65, .int .i64 k_2.Step), (66, .bool r_34)]) (H' := [⟨41, b_5, [.int .u64 k_2.Saga, .int .i64 k_2.Step, .bool k_2.Back]⟩, ⟨42, b_10, [.int .u64 r_17.2.2.fence.Term, .int .u64 r_17.2.2.fence.Index, .slice A_18 r_17.2.2.effects.length c_19, .map (mA A_20), .map (mA A_22)]⟩]) (B' := [Ow 46 kT_ledger_Effect A_31 c_32 r_30, Ow 43 kT_ledger_Effect A_18 c_19 r_17.2.2.effects, Mp 44 ky41 (fun v => .bool v) A_20 c_21 r_17.2.2.said, Mp 45 ky41 (fun v => .bool v) A_22 c_23 r_17.2.2.tombs]) (ks := [10, 12, 13, 60, 61, 63, 65, 66]) (by kernel_rfl) (by kernel_rfl) (by kernel_rfl) ?_
        refine GoO.exec (is := [21, 22, 23]) (hs := [.p, .p, .p]) (rest := [24, 25, 26, 27, 28, 29, 30, 31, 32, 33, 34, 35, 36, 37, 38, 39, 40, 41, 42, 43, 44, 45, 46]) (ks := [10, 12, 13, 69]) (env' := [(10, .pointer (some ⟨b_10, 0, none⟩)), (12, .int .i64 r_17.2.1), (13, .bool bad_26), (69, .bool (!r_34))]) (H' := [⟨41, b_5, [.int .u64 k_2.Saga, .int .i64 k_2.Step, .bool k_2.Back]⟩, ⟨42, b_10, [.int .u64 r_17.2.2.fence.Term, .int .u64 r_17.2.2.fence.Index, .slice A_18 r_17.2.2.effects.length c_19, .map (mA A_20), .map (mA A_22)]⟩]) (ps := []) (by kernel_rfl) trivial ?_
        refine GoO.bsplit (t := 69) (by kernel_rfl) (fun h35 => ?_) (fun h35 => ?_)
        · refine GoO.exec (is := [24, 25, 26, 27, 28, 29]) (hs := [.p, .p, .p, .p, .p, .p]) (rest := [30, 31, 32, 33, 34, 35, 36, 37, 38, 39, 40, 41, 42, 43, 44, 45, 46]) (ks := [10, 12, 13, 75]) (env' := [(10, .pointer (some ⟨b_10, 0, none⟩)), (12, .int .i64 r_17.2.1), (13, .bool bad_26), (75, .bool ((r_17.2.1 == 1) == bad_26))]) (H' := [⟨41, b_5, [.int .u64 k_2.Saga, .int .i64 k_2.Step, .bool k_2.Back]⟩, ⟨42, b_10, [.int .u64 r_17.2.2.fence.Term, .int .u64 r_17.2.2.fence.Index, .slice A_18 r_17.2.2.effects.length c_19, .map (mA A_20), .map (mA A_22)]⟩]) (ps := []) (by kernel_rfl) trivial ?_
          refine GoO.bsplit (t := 75) (by kernel_rfl) (fun h36 => ?_) (fun h36 => ?_)
          · refine GoO.exec (is := [30, 31, 32, 33, 34, 35, 36]) (hs := [.p, .p, .p, .p, .p, .p, .p]) (rest := [37, 38, 39, 40, 41, 42, 43, 44, 45, 46]) (ks := [10, 13, 82]) (env' := [(10, .pointer (some ⟨b_10, 0, none⟩)), (13, .bool bad_26), (82, .bool ((r_17.2.1 == 0) == (!bad_26)))]) (H' := [⟨41, b_5, [.int .u64 k_2.Saga, .int .i64 k_2.Step, .bool k_2.Back]⟩, ⟨42, b_10, [.int .u64 r_17.2.2.fence.Term, .int .u64 r_17.2.2.fence.Index, .slice A_18 r_17.2.2.effects.length c_19, .map (mA A_20), .map (mA A_22)]⟩]) (ps := []) (by kernel_rfl) trivial ?_
            refine GoO.bsplit (t := 82) (by kernel_rfl) (fun h37 => ?_) (fun h37 => ?_)
            · refine GoO.exec (is := [37, 38, 39]) (hs := [.p, .p, .p]) (rest := [40, 41, 42, 43, 44, 45, 46]) (ks := [10, 82, 85]) (env' := [(10, .pointer (some ⟨b_10, 0, none⟩)), (82, .bool true), (85, .bool (!bad_26))]) (H' := [⟨41, b_5, [.int .u64 k_2.Saga, .int .i64 k_2.Step, .bool k_2.Back]⟩, ⟨42, b_10, [.int .u64 r_17.2.2.fence.Term, .int .u64 r_17.2.2.fence.Index, .slice A_18 r_17.2.2.effects.length c_19, .map (mA A_20), .map (mA A_22)]⟩]) (ps := []) (by kernel_rfl) trivial ?_
              refine GoO.bsplit (t := 85) (by kernel_rfl) (fun h38 => ?_) (fun h38 => ?_)
              · refine GoO.exec (is := [40, 41, 42, 43, 44, 45, 46]) (hs := [.p, .p, .p, .p, .p, .p, .p]) (rest := []) (ks := [6]) (env' := [(6, .bool true)]) (H' := [⟨41, b_5, [.int .u64 k_2.Saga, .int .i64 k_2.Step, .bool k_2.Back]⟩, ⟨42, b_10, [.int .u64 r_17.2.2.fence.Term, .int .u64 r_17.2.2.fence.Index, .slice A_18 r_17.2.2.effects.length c_19, .map (mA A_20), .map (mA A_22)]⟩]) (ps := []) (by kernel_rfl) trivial ?_
                refine GoO.regionEnd ?_
                exact GoO.ret' (h := c9_22e) (hs := []) (ps := []) (hk := []) (bk := []) Try.func9 () (by kernel_rfl) trivial (by kernel_rfl) (by kernel_rfl)
              · refine GoO.exec (is := [40]) (hs := [.p]) (rest := [41, 42, 43, 44, 45, 46]) (ks := [82, 85, 86]) (env' := [(82, .bool true), (85, .bool false), (86, .pointer (some ⟨b_10, 0, none⟩))]) (H' := [⟨41, b_5, [.int .u64 k_2.Saga, .int .i64 k_2.Step, .bool k_2.Back]⟩, ⟨42, b_10, [.int .u64 r_17.2.2.fence.Term, .int .u64 r_17.2.2.fence.Index, .slice A_18 r_17.2.2.effects.length c_19, .map (mA A_20), .map (mA A_22)]⟩]) (ps := []) (by kernel_rfl) trivial ?_
                refine OpTo.go (GoO.call rfl (by kernel_rfl) (by kernel_rfl) (ledger_Ledger_Fence_ok n (⟨(⟨r_17.2.2.fence.Term, r_17.2.2.fence.Index⟩ : T_api_Token), r_17.2.2.effects, r_17.2.2.said, r_17.2.2.tombs⟩ : T_ledger_Ledger) b_10 A_18 c_19 A_20 c_21 A_22 c_23) [[0], [42], [43], [44], [45]] [] [(1, 1)] [(2, 1), (3, 2), (4, 3)] (hks := [0, 1]) (bks := [0, 1, 2, 3]) (by kernel_rfl) (by kernel_rfl) (by kernel_rfl) (.inl rfl) rfl rfl (by kernel_rfl) (by kernel_rfl) _ (fun _ _ => rfl) _ _ (fun _ _ => rfl) (fun _ _ => rfl) (fun _ _ => by kernel_rfl) (fun _ _ => by kernel_rfl) (fun r_39 x_40 => ?_))
                refine GoO.shape (env' := [(82, .bool true), (85, .bool false), (86, .pointer (some ⟨b_10, 0, none⟩)), (87, .agg ⟨[.int .u64 r_39.Term, .int .u64 r_39.Index]⟩)]) (H' := [⟨41, b_5, [.int .u64 k_2.Saga, .int .i64 k_2.Step, .bool k_2.Back]⟩, ⟨42, b_10, [.int .u64 r_17.2.2.fence.Term, .int .u64 r_17.2.2.fence.Index, .slice A_18 r_17.2.2.effects.length c_19, .map (mA A_20), .map (mA A_22)]⟩]) (B' := [Ow 46 kT_ledger_Effect A_31 c_32 r_30, Ow 43 kT_ledger_Effect A_18 c_19 r_17.2.2.effects, Mp 44 ky41 (fun v => .bool v) A_20 c_21 r_17.2.2.said, Mp 45 ky41 (fun v => .bool v) A_22 c_23 r_17.2.2.tombs]) (ks := [82, 85, 86, 87]) (by kernel_rfl) (by kernel_rfl) (by kernel_rfl) ?_
                refine GoO.exec (is := [42, 43, 44, 45, 46]) (hs := [.p, .p, .p, .p, .p]) (rest := []) (ks := [6]) (env' := [(6, .bool ((r_39.Term == 0) && ((r_39.Index == 0) && true)))]) (H' := [⟨41, b_5, [.int .u64 k_2.Saga, .int .i64 k_2.Step, .bool k_2.Back]⟩, ⟨42, b_10, [.int .u64 r_17.2.2.fence.Term, .int .u64 r_17.2.2.fence.Index, .slice A_18 r_17.2.2.effects.length c_19, .map (mA A_20), .map (mA A_22)]⟩]) (ps := []) (by kernel_rfl) trivial ?_
                refine GoO.regionEnd ?_
                exact GoO.ret' (h := c9_22e) (hs := []) (ps := []) (hk := []) (bk := []) Try.func9 () (by kernel_rfl) trivial (by kernel_rfl) (by kernel_rfl)
            · refine GoO.exec (is := [37, 38, 39, 40, 41, 42, 43, 44, 45, 46]) (hs := [.p, .p, .p, .p, .p, .p, .p, .p, .p, .p]) (rest := []) (ks := [6]) (env' := [(6, .bool false)]) (H' := [⟨41, b_5, [.int .u64 k_2.Saga, .int .i64 k_2.Step, .bool k_2.Back]⟩, ⟨42, b_10, [.int .u64 r_17.2.2.fence.Term, .int .u64 r_17.2.2.fence.Index, .slice A_18 r_17.2.2.effects.length c_19, .map (mA A_20), .map (mA A_22)]⟩]) (ps := []) (by kernel_rfl) trivial ?_
              refine GoO.regionEnd ?_
              exact GoO.ret' (h := c9_22e) (hs := []) (ps := []) (hk := []) (bk := []) Try.func9 () (by kernel_rfl) trivial (by kernel_rfl) (by kernel_rfl)
          · refine GoO.exec (is := [30, 31, 32, 33, 34, 35, 36, 37, 38, 39, 40, 41, 42, 43, 44, 45, 46]) (hs := [.p, .p, .p, .p, .p, .p, .p, .p, .p, .p, .p, .p, .p, .p, .p, .p, .p]) (rest := []) (ks := [6]) (env' := [(6, .bool false)]) (H' := [⟨41, b_5, [.int .u64 k_2.Saga, .int .i64 k_2.Step, .bool k_2.Back]⟩, ⟨42, b_10, [.int .u64 r_17.2.2.fence.Term, .int .u64 r_17.2.2.fence.Index, .slice A_18 r_17.2.2.effects.length c_19, .map (mA A_20), .map (mA A_22)]⟩]) (ps := []) (by kernel_rfl) trivial ?_
            refine GoO.regionEnd ?_
            exact GoO.ret' (h := c9_22e) (hs := []) (ps := []) (hk := []) (bk := []) Try.func9 () (by kernel_rfl) trivial (by kernel_rfl) (by kernel_rfl)
        · refine GoO.exec (is := [24, 25, 26, 27, 28, 29, 30, 31, 32, 33, 34, 35, 36, 37, 38, 39, 40, 41, 42, 43, 44, 45, 46]) (hs := [.p, .p, .p, .p, .p, .p, .p, .p, .p, .p, .p, .p, .p, .p, .p, .p, .p, .p, .p, .p, .p, .p, .p]) (rest := []) (ks := [6]) (env' := [(6, .bool false)]) (H' := [⟨41, b_5, [.int .u64 k_2.Saga, .int .i64 k_2.Step, .bool k_2.Back]⟩, ⟨42, b_10, [.int .u64 r_17.2.2.fence.Term, .int .u64 r_17.2.2.fence.Index, .slice A_18 r_17.2.2.effects.length c_19, .map (mA A_20), .map (mA A_22)]⟩]) (ps := []) (by kernel_rfl) trivial ?_
          refine GoO.regionEnd ?_
          exact GoO.ret' (h := c9_22e) (hs := []) (ps := []) (hk := []) (bk := []) Try.func9 () (by kernel_rfl) trivial (by kernel_rfl) (by kernel_rfl)
      · refine GoO.exec (is := [15, 16, 17, 18, 19, 20, 21, 22, 23, 24, 25, 26, 27, 28, 29, 30, 31, 32, 33, 34, 35, 36, 37, 38, 39, 40, 41, 42, 43, 44, 45, 46]) (hs := [.p, .p, .p, .p, .p, .p, .p, .p, .p, .p, .p, .p, .p, .p, .p, .p, .p, .p, .p, .p, .p, .p, .p, .p, .p, .p, .p, .p, .p, .p, .p, .p]) (rest := []) (ks := [6]) (env' := [(6, .bool false)]) (H' := [⟨41, b_5, [.int .u64 k_2.Saga, .int .i64 k_2.Step, .bool k_2.Back]⟩, ⟨42, b_10, [.int .u64 r_17.2.2.fence.Term, .int .u64 r_17.2.2.fence.Index, .slice A_18 r_17.2.2.effects.length c_19, .map (mA A_20), .map (mA A_22)]⟩]) (ps := []) (by kernel_rfl) trivial ?_
        refine GoO.regionEnd ?_
        exact GoO.ret' (h := c9_22e) (hs := []) (ps := []) (hk := []) (bk := []) Try.func9 () (by kernel_rfl) trivial (by kernel_rfl) (by kernel_rfl)
    · refine GoO.exec (is := [9, 10, 11, 12, 13, 14, 15, 16, 17, 18, 19, 20, 21, 22, 23, 24, 25, 26, 27, 28, 29, 30, 31, 32, 33, 34, 35, 36, 37, 38, 39, 40, 41, 42, 43, 44, 45, 46]) (hs := [.p, .p, .p, .p, .p, .p, .p, .p, .p, .p, .p, .p, .p, .p, .p, .p, .p, .p, .p, .p, .p, .p, .p, .p, .p, .p, .p, .p, .p, .p, .p, .p, .p, .p, .p, .p, .p, .p]) (rest := []) (ks := [6]) (env' := [(6, .bool false)]) (H' := [⟨41, b_5, [.int .u64 k_2.Saga, .int .i64 k_2.Step, .bool k_2.Back]⟩, ⟨42, b_10, [.int .u64 r_17.2.2.fence.Term, .int .u64 r_17.2.2.fence.Index, .slice A_18 r_17.2.2.effects.length c_19, .map (mA A_20), .map (mA A_22)]⟩]) (ps := []) (by kernel_rfl) trivial ?_
      refine GoO.regionEnd ?_
      exact GoO.ret' (h := c9_22e) (hs := []) (ps := []) (hk := []) (bk := []) Try.func9 () (by kernel_rfl) trivial (by kernel_rfl) (by kernel_rfl)
  · refine GoO.exec (is := [3, 4, 5, 6, 7, 8, 9, 10, 11, 12, 13, 14, 15, 16, 17, 18, 19, 20, 21, 22, 23, 24, 25, 26, 27, 28, 29, 30, 31, 32, 33, 34, 35, 36, 37, 38, 39, 40, 41, 42, 43, 44, 45, 46]) (hs := [.p, .p, .p, .p, .p, .p, .p, .p, .p, .p, .p, .p, .p, .p, .p, .p, .p, .p, .p, .p, .p, .p, .p, .p, .p, .p, .p, .p, .p, .p, .p, .p, .p, .p, .p, .p, .p, .p, .p, .p, .p, .p, .p, .p]) (rest := []) (ks := [6]) (env' := [(6, .bool false)]) (H' := [⟨41, b_5, [.int .u64 k_2.Saga, .int .i64 k_2.Step, .bool k_2.Back]⟩, ⟨42, b_10, [.int .u64 r_17.2.2.fence.Term, .int .u64 r_17.2.2.fence.Index, .slice A_18 r_17.2.2.effects.length c_19, .map (mA A_20), .map (mA A_22)]⟩]) (ps := []) (by kernel_rfl) trivial ?_
    refine GoO.regionEnd ?_
    exact GoO.ret' (h := c9_22e) (hs := []) (ps := []) (hk := []) (bk := []) Try.func9 () (by kernel_rfl) trivial (by kernel_rfl) (by kernel_rfl)
theorem tontinelaw18_LedgerNone_ok (n : Nat) (t_1 : T_api_Token) (k_2 : T_api_Key) (name_3 : (List UInt8)) :
    Meets Try.prog 9 [.agg ⟨[.int .u64 t_1.Term, .int .u64 t_1.Index]⟩, .agg ⟨[.int .u64 k_2.Saga, .int .i64 k_2.Step, .bool k_2.Back]⟩, .string (bs name_3)] 0 [] [] [] (tontinelaw18_LedgerNone.f n t_1 k_2 name_3) (tontinelaw18_LedgerNone.R) := by
  refine Meets.of (c := c9_0) (n := 92) Try.func9 (by kernel_rfl) (by kernel_rfl) (by kernel_rfl) fun w0 S0 => ?_
  unfold tontinelaw18_LedgerNone.f
  show GoO (tontinelaw18_LedgerNone.cx w0 S0) [(0, .agg ⟨[.int .u64 t_1.Term, .int .u64 t_1.Index]⟩), (1, .agg ⟨[.int .u64 k_2.Saga, .int .i64 k_2.Step, .bool k_2.Back]⟩), (2, .string (bs name_3))] [] [] [.code c9_0] _
  refine GoO.seq' c9_0e ?_
  refine GoO.region' (is := [0, 1, 2]) c9_1e (by kernel_rfl) ?_
  refine OpTo.go (GoO.new rfl 40 (cs := [.int .u64 t_1.Term, .int .u64 t_1.Index]) (by kernel_rfl) _ (fun _ => rfl) (fun b_4 => ?_))
  refine OpTo.go (GoO.new rfl 41 (cs := [.int .u64 k_2.Saga, .int .i64 k_2.Step, .bool k_2.Back]) (by kernel_rfl) _ (fun _ => rfl) (fun b_5 => ?_))
  refine GoO.exec (is := [2]) (hs := [.p]) (rest := []) (ks := [2, 3, 4]) (env' := [(2, .string (bs name_3)), (3, .pointer (some ⟨b_4, 0, none⟩)), (4, .pointer (some ⟨b_5, 0, none⟩))]) (H' := [⟨41, b_5, [.int .u64 k_2.Saga, .int .i64 k_2.Step, .bool k_2.Back]⟩, ⟨40, b_4, [.int .u64 t_1.Term, .int .u64 t_1.Index]⟩]) (ps := []) (by kernel_rfl) trivial ?_
  refine GoO.regionEnd ?_
  refine GoO.seq' c9_2e ?_
  refine GoO.seq' c9_3e ?_
  refine GoO.region' (is := [0, 1]) c9_4e (by kernel_rfl) ?_
  refine OpTo.go (GoO.call rfl (by kernel_rfl) (by kernel_rfl) (tontinelaw18_begun_ok n) [[0]] [] [] [] (hks := [0, 1]) (bks := []) (by kernel_rfl) (by kernel_rfl) (by kernel_rfl) (.inl rfl) rfl rfl (by kernel_rfl) (by kernel_rfl) _ (fun _ _ => rfl) _ _ (fun _ _ => rfl) (fun _ _ => rfl) (fun _ _ => by kernel_rfl) (fun _ _ => by kernel_rfl) (fun r_6 x_47 => ?_))
  refine GoO.shape (env' := [(2, .string (bs name_3)), (3, .pointer (some ⟨b_4, 0, none⟩)), (4, .pointer (some ⟨b_5, 0, none⟩)), (14, .bool r_6)]) (H' := [⟨41, b_5, [.int .u64 k_2.Saga, .int .i64 k_2.Step, .bool k_2.Back]⟩, ⟨40, b_4, [.int .u64 t_1.Term, .int .u64 t_1.Index]⟩]) (B' := []) (ks := [2, 3, 4, 14]) (by kernel_rfl) (by kernel_rfl) (by kernel_rfl) ?_
  refine GoO.exec (is := [1]) (hs := [.p]) (rest := []) (ks := [2, 3, 4, 15]) (env' := [(2, .string (bs name_3)), (3, .pointer (some ⟨b_4, 0, none⟩)), (4, .pointer (some ⟨b_5, 0, none⟩)), (15, .bool (!r_6))]) (H' := [⟨41, b_5, [.int .u64 k_2.Saga, .int .i64 k_2.Step, .bool k_2.Back]⟩, ⟨40, b_4, [.int .u64 t_1.Term, .int .u64 t_1.Index]⟩]) (ps := []) (by kernel_rfl) trivial ?_
  refine GoO.regionEnd ?_
  refine GoO.ite' c9_5e (by kernel_rfl) (fun h7 => ?_) (fun h7 => ?_)
  · refine GoO.seq' c9_6e ?_
    refine GoO.region' (is := [0]) c9_7e (by kernel_rfl) ?_
    refine GoO.exec (is := [0]) (hs := [.p]) (rest := []) (ks := [6]) (env' := [(6, .bool false)]) (H' := [⟨41, b_5, [.int .u64 k_2.Saga, .int .i64 k_2.Step, .bool k_2.Back]⟩, ⟨40, b_4, [.int .u64 t_1.Term, .int .u64 t_1.Index]⟩]) (ps := []) (by kernel_rfl) trivial ?_
    refine GoO.regionEnd ?_
    exact GoO.ret' (h := c9_8e) (hs := []) (ps := []) (hk := []) (bk := []) Try.func9 () (by kernel_rfl) trivial (by kernel_rfl) (by kernel_rfl)
  · refine GoO.skip' c9_9e ?_
    refine GoO.seq' c9_10e ?_
    refine GoO.region' (is := [0]) c9_11e (by kernel_rfl) ?_
    refine GoO.exec (is := [0]) (hs := [.p]) (rest := []) (ks := [2, 3, 4, 7]) (env' := [(2, .string (bs name_3)), (3, .pointer (some ⟨b_4, 0, none⟩)), (4, .pointer (some ⟨b_5, 0, none⟩)), (7, .pointer none)]) (H' := [⟨41, b_5, [.int .u64 k_2.Saga, .int .i64 k_2.Step, .bool k_2.Back]⟩, ⟨40, b_4, [.int .u64 t_1.Term, .int .u64 t_1.Index]⟩]) (ps := []) (by kernel_rfl) trivial ?_
    refine GoO.regionEnd ?_
    refine GoO.seq' c9_12e ?_
    refine GoO.region' (is := [0, 1, 2, 3, 4, 5, 6, 7, 8, 9]) c9_13e (by kernel_rfl) ?_
    refine GoO.exec (is := [0, 1, 2, 3]) (hs := [.p, .b 1, .b 0, .p]) (rest := [4, 5, 6, 7, 8, 9]) (ks := [2, 3, 4, 7, 17, 18, 19, 20]) (env' := [(2, .string (bs name_3)), (3, .pointer (some ⟨b_4, 0, none⟩)), (4, .pointer (some ⟨b_5, 0, none⟩)), (7, .pointer none), (17, .pointer none), (18, .agg ⟨[.int .u64 t_1.Term, .int .u64 t_1.Index]⟩), (19, .agg ⟨[.int .u64 k_2.Saga, .int .i64 k_2.Step, .bool k_2.Back]⟩), (20, .string (bs name_3))]) (H' := [⟨41, b_5, [.int .u64 k_2.Saga, .int .i64 k_2.Step, .bool k_2.Back]⟩, ⟨40, b_4, [.int .u64 t_1.Term, .int .u64 t_1.Index]⟩]) (ps := [b_4 = b_4, b_5 = b_5]) (by kernel_rfl) (And.intro rfl (And.intro rfl trivial)) ?_
    refine OpTo.go (GoO.call rfl (by kernel_rfl) (by kernel_rfl) (ledger_Ledger_Ask_n0_ok n t_1 k_2 name_3 false) [[0]] [] [] [] (hks := [0, 1]) (bks := []) (by kernel_rfl) (by kernel_rfl) (by kernel_rfl) (.inl rfl) rfl rfl (by kernel_rfl) (by kernel_rfl) _ (fun _ _ => rfl) _ _ (fun _ _ => rfl) (fun _ _ => rfl) (fun _ _ => by kernel_rfl) (fun _ _ => by kernel_rfl) (fun r_8 x_46 => ?_))
    refine GoO.shape (env' := [(2, .string (bs name_3)), (3, .pointer (some ⟨b_4, 0, none⟩)), (4, .pointer (some ⟨b_5, 0, none⟩)), (7, .pointer none), (17, .pointer none), (18, .agg ⟨[.int .u64 t_1.Term, .int .u64 t_1.Index]⟩), (19, .agg ⟨[.int .u64 k_2.Saga, .int .i64 k_2.Step, .bool k_2.Back]⟩), (20, .string (bs name_3)), (21, .tuple ⟨[.bool r_8.1, .int .i64 r_8.2]⟩)]) (H' := [⟨41, b_5, [.int .u64 k_2.Saga, .int .i64 k_2.Step, .bool k_2.Back]⟩, ⟨40, b_4, [.int .u64 t_1.Term, .int .u64 t_1.Index]⟩]) (B' := []) (ks := [2, 3, 4, 7, 17, 18, 19, 20, 21]) (by kernel_rfl) (by kernel_rfl) (by kernel_rfl) ?_
    refine GoO.exec (is := [5, 6, 7, 8, 9]) (hs := [.p, .p, .p, .p, .p]) (rest := []) (ks := [2, 3, 4, 7, 9]) (env' := [(2, .string (bs name_3)), (3, .pointer (some ⟨b_4, 0, none⟩)), (4, .pointer (some ⟨b_5, 0, none⟩)), (7, .pointer none), (9, .int .i64 r_8.2)]) (H' := [⟨41, b_5, [.int .u64 k_2.Saga, .int .i64 k_2.Step, .bool k_2.Back]⟩, ⟨40, b_4, [.int .u64 t_1.Term, .int .u64 t_1.Index]⟩]) (ps := []) (by kernel_rfl) trivial ?_
    refine GoO.regionEnd ?_
    refine GoO.seq' c9_14e ?_
    refine GoO.region' (is := [0, 1]) c9_15e (by kernel_rfl) ?_
    refine OpTo.go (GoO.call rfl (by kernel_rfl) (by kernel_rfl) (ledger_New_ok n) [[0]] [(42, 1), (43, 2), (44, 3), (45, 4)] [] [] (hks := [0, 1]) (bks := []) (by kernel_rfl) (by kernel_rfl) (by kernel_rfl) (.inl rfl) rfl rfl (by kernel_rfl) (by kernel_rfl) _ (fun _ _ => rfl) _ _ (fun _ _ => rfl) (fun _ _ => rfl) (fun _ _ => by kernel_rfl) (fun _ _ => by kernel_rfl) (fun r_9 x_45 => ?_))
    obtain ⟨b_10, A_11, c_12, A_13, c_14, A_15, c_16⟩ := x_45
    refine GoO.shape (env' := [(2, .string (bs name_3)), (3, .pointer (some ⟨b_4, 0, none⟩)), (4, .pointer (some ⟨b_5, 0, none⟩)), (7, .pointer none), (9, .int .i64 r_8.2), (24, .pointer (some ⟨b_10, 0, none⟩))]) (H' := [⟨42, b_10, [.int .u64 r_9.fence.Term, .int .u64 r_9.fence.Index, .slice A_11 r_9.effects.length c_12, .map (mA A_13), .map (mA A_15)]⟩, ⟨41, b_5, [.int .u64 k_2.Saga, .int .i64 k_2.Step, .bool k_2.Back]⟩, ⟨40, b_4, [.int .u64 t_1.Term, .int .u64 t_1.Index]⟩]) (B' := [Ow 43 kT_ledger_Effect A_11 c_12 r_9.effects, Mp 44 ky41 (fun v => .bool v) A_13 c_14 r_9.said, Mp 45 ky41 (fun v => .bool v) A_15 c_16 r_9.tombs]) (ks := [2, 3, 4, 7, 9, 24]) (by kernel_rfl) (by kernel_rfl) (by kernel_rfl) ?_
    refine GoO.exec (is := [1]) (hs := [.p]) (rest := []) (ks := [2, 3, 4, 7, 9, 10]) (env' := [(2, .string (bs name_3)), (3, .pointer (some ⟨b_4, 0, none⟩)), (4, .pointer (some ⟨b_5, 0, none⟩)), (7, .pointer none), (9, .int .i64 r_8.2), (10, .pointer (some ⟨b_10, 0, none⟩))]) (H' := [⟨42, b_10, [.int .u64 r_9.fence.Term, .int .u64 r_9.fence.Index, .slice A_11 r_9.effects.length c_12, .map (mA A_13), .map (mA A_15)]⟩, ⟨41, b_5, [.int .u64 k_2.Saga, .int .i64 k_2.Step, .bool k_2.Back]⟩, ⟨40, b_4, [.int .u64 t_1.Term, .int .u64 t_1.Index]⟩]) (ps := []) (by kernel_rfl) trivial ?_
    refine GoO.regionEnd ?_
    refine GoO.seq' c9_16e ?_
    refine GoO.region' (is := [0, 1, 2, 3, 4, 5, 6, 7, 8, 9]) c9_17e (by kernel_rfl) ?_
    refine GoO.exec (is := [0, 1, 2, 3]) (hs := [.p, .b 2, .b 1, .p]) (rest := [4, 5, 6, 7, 8, 9]) (ks := [2, 4, 7, 9, 10, 26, 27, 28, 29]) (env' := [(2, .string (bs name_3)), (4, .pointer (some ⟨b_5, 0, none⟩)), (7, .pointer none), (9, .int .i64 r_8.2), (10, .pointer (some ⟨b_10, 0, none⟩)), (26, .pointer (some ⟨b_10, 0, none⟩)), (27, .agg ⟨[.int .u64 t_1.Term, .int .u64 t_1.Index]⟩), (28, .agg ⟨[.int .u64 k_2.Saga, .int .i64 k_2.Step, .bool k_2.Back]⟩), (29, .string (bs name_3))]) (H' := [⟨42, b_10, [.int .u64 r_9.fence.Term, .int .u64 r_9.fence.Index, .slice A_11 r_9.effects.length c_12, .map (mA A_13), .map (mA A_15)]⟩, ⟨41, b_5, [.int .u64 k_2.Saga, .int .i64 k_2.Step, .bool k_2.Back]⟩, ⟨40, b_4, [.int .u64 t_1.Term, .int .u64 t_1.Index]⟩]) (ps := [b_4 = b_4, b_5 = b_5]) (by kernel_rfl) (And.intro rfl (And.intro rfl trivial)) ?_
    refine OpTo.go (GoO.call rfl (by kernel_rfl) (by kernel_rfl) (ledger_Ledger_Ask_ok n (⟨(⟨r_9.fence.Term, r_9.fence.Index⟩ : T_api_Token), r_9.effects, r_9.said, r_9.tombs⟩ : T_ledger_Ledger) t_1 k_2 name_3 false b_10 A_11 c_12 A_13 c_14 A_15 c_16) [[0], [42], [43], [44], [45]] [(42, 1), (43, 2), (44, 3), (45, 4)] [(1, 0)] [(2, 0), (3, 1), (4, 2)] (hks := [1, 2]) (bks := []) (by kernel_rfl) (by kernel_rfl) (by kernel_rfl) (.inl rfl) rfl rfl (by kernel_rfl) (by kernel_rfl) _ (fun _ _ => rfl) _ _ (fun _ _ => rfl) (fun _ _ => rfl) (fun _ _ => by kernel_rfl) (fun _ _ => by kernel_rfl) (fun r_17 x_44 => ?_))
    obtain ⟨A_18, c_19, A_20, c_21, A_22, c_23⟩ := x_44
    refine GoO.shape (env' := [(2, .string (bs name_3)), (4, .pointer (some ⟨b_5, 0, none⟩)), (7, .pointer none), (9, .int .i64 r_8.2), (10, .pointer (some ⟨b_10, 0, none⟩)), (26, .pointer (some ⟨b_10, 0, none⟩)), (27, .agg ⟨[.int .u64 t_1.Term, .int .u64 t_1.Index]⟩), (28, .agg ⟨[.int .u64 k_2.Saga, .int .i64 k_2.Step, .bool k_2.Back]⟩), (29, .string (bs name_3)), (30, .tuple ⟨[.bool r_17.1, .int .i64 r_17.2.1]⟩)]) (H' := [⟨42, b_10, [.int .u64 r_17.2.2.fence.Term, .int .u64 r_17.2.2.fence.Index, .slice A_18 r_17.2.2.effects.length c_19, .map (mA A_20), .map (mA A_22)]⟩, ⟨41, b_5, [.int .u64 k_2.Saga, .int .i64 k_2.Step, .bool k_2.Back]⟩, ⟨40, b_4, [.int .u64 t_1.Term, .int .u64 t_1.Index]⟩]) (B' := [Ow 43 kT_ledger_Effect A_18 c_19 r_17.2.2.effects, Mp 44 ky41 (fun v => .bool v) A_20 c_21 r_17.2.2.said, Mp 45 ky41 (fun v => .bool v) A_22 c_23 r_17.2.2.tombs]) (ks := [2, 4, 7, 9, 10, 26, 27, 28, 29, 30]) (by kernel_rfl) (by kernel_rfl) (by kernel_rfl) ?_
    refine GoO.exec (is := [5, 6, 7, 8, 9]) (hs := [.p, .p, .p, .p, .p]) (rest := []) (ks := [2, 4, 7, 9, 10, 12]) (env' := [(2, .string (bs name_3)), (4, .pointer (some ⟨b_5, 0, none⟩)), (7, .pointer none), (9, .int .i64 r_8.2), (10, .pointer (some ⟨b_10, 0, none⟩)), (12, .int .i64 r_17.2.1)]) (H' := [⟨42, b_10, [.int .u64 r_17.2.2.fence.Term, .int .u64 r_17.2.2.fence.Index, .slice A_18 r_17.2.2.effects.length c_19, .map (mA A_20), .map (mA A_22)]⟩, ⟨41, b_5, [.int .u64 k_2.Saga, .int .i64 k_2.Step, .bool k_2.Back]⟩, ⟨40, b_4, [.int .u64 t_1.Term, .int .u64 t_1.Index]⟩]) (ps := []) (by kernel_rfl) trivial ?_
    refine GoO.regionEnd ?_
    refine GoO.seq' c9_18e ?_
    refine GoO.region' (is := [0, 1, 2, 3, 4, 5, 6, 7, 8, 9, 10, 11, 12, 13]) c9_19e (by kernel_rfl) ?_
    refine GoO.exec (is := [0, 1, 2, 3]) (hs := [.p, .b 1, .p, .p]) (rest := [4, 5, 6, 7, 8, 9, 10, 11, 12, 13]) (ks := [2, 4, 7, 9, 10, 12, 36]) (env' := [(2, .string (bs name_3)), (4, .pointer (some ⟨b_5, 0, none⟩)), (7, .pointer none), (9, .int .i64 r_8.2), (10, .pointer (some ⟨b_10, 0, none⟩)), (12, .int .i64 r_17.2.1), (36, .bool (decide (k_2.Step < 0)))]) (H' := [⟨42, b_10, [.int .u64 r_17.2.2.fence.Term, .int .u64 r_17.2.2.fence.Index, .slice A_18 r_17.2.2.effects.length c_19, .map (mA A_20), .map (mA A_22)]⟩, ⟨41, b_5, [.int .u64 k_2.Saga, .int .i64 k_2.Step, .bool k_2.Back]⟩, ⟨40, b_4, [.int .u64 t_1.Term, .int .u64 t_1.Index]⟩]) (ps := [b_5 = b_5]) (by kernel_rfl) (And.intro rfl trivial) ?_
    refine GoO.bsplit (t := 36) (by kernel_rfl) (fun h24 => ?_) (fun h24 => ?_)
    · refine GoO.exec (is := [4, 5, 6, 7, 8, 9, 10, 11, 12, 13]) (hs := [.p, .p, .p, .p, .p, .p, .p, .p, .p, .p]) (rest := []) (ks := [4, 7, 9, 10, 12, 13]) (env' := [(4, .pointer (some ⟨b_5, 0, none⟩)), (7, .pointer none), (9, .int .i64 r_8.2), (10, .pointer (some ⟨b_10, 0, none⟩)), (12, .int .i64 r_17.2.1), (13, .bool true)]) (H' := [⟨42, b_10, [.int .u64 r_17.2.2.fence.Term, .int .u64 r_17.2.2.fence.Index, .slice A_18 r_17.2.2.effects.length c_19, .map (mA A_20), .map (mA A_22)]⟩, ⟨41, b_5, [.int .u64 k_2.Saga, .int .i64 k_2.Step, .bool k_2.Back]⟩, ⟨40, b_4, [.int .u64 t_1.Term, .int .u64 t_1.Index]⟩]) (ps := []) (by kernel_rfl) trivial ?_
      refine GoO.regionEnd ?_
      exact GoO.sub (ks := [4, 7, 9, 10, 12, 13]) (hk := [1, 0]) (bk := [0, 1, 2]) (by kernel_rfl) (by kernel_rfl) (by kernel_rfl) (tontinelaw18_LedgerNone_j0_ok n k_2 r_8 r_17 b_5 b_10 A_18 c_19 A_20 c_21 A_22 c_23 w0 S0 true)
    · refine GoO.exec (is := [4, 5, 6, 7, 8]) (hs := [.p, .b 1, .p, .p, .p]) (rest := [9, 10, 11, 12, 13]) (ks := [2, 4, 7, 9, 10, 12, 41]) (env' := [(2, .string (bs name_3)), (4, .pointer (some ⟨b_5, 0, none⟩)), (7, .pointer none), (9, .int .i64 r_8.2), (10, .pointer (some ⟨b_10, 0, none⟩)), (12, .int .i64 r_17.2.1), (41, .bool (decide (k_2.Step ≥ 64)))]) (H' := [⟨42, b_10, [.int .u64 r_17.2.2.fence.Term, .int .u64 r_17.2.2.fence.Index, .slice A_18 r_17.2.2.effects.length c_19, .map (mA A_20), .map (mA A_22)]⟩, ⟨41, b_5, [.int .u64 k_2.Saga, .int .i64 k_2.Step, .bool k_2.Back]⟩, ⟨40, b_4, [.int .u64 t_1.Term, .int .u64 t_1.Index]⟩]) (ps := [b_5 = b_5]) (by kernel_rfl) (And.intro rfl trivial) ?_
      refine GoO.bsplit (t := 41) (by kernel_rfl) (fun h25 => ?_) (fun h25 => ?_)
      · refine GoO.exec (is := [9, 10, 11, 12, 13]) (hs := [.p, .p, .p, .p, .p]) (rest := []) (ks := [4, 7, 9, 10, 12, 13]) (env' := [(4, .pointer (some ⟨b_5, 0, none⟩)), (7, .pointer none), (9, .int .i64 r_8.2), (10, .pointer (some ⟨b_10, 0, none⟩)), (12, .int .i64 r_17.2.1), (13, .bool true)]) (H' := [⟨42, b_10, [.int .u64 r_17.2.2.fence.Term, .int .u64 r_17.2.2.fence.Index, .slice A_18 r_17.2.2.effects.length c_19, .map (mA A_20), .map (mA A_22)]⟩, ⟨41, b_5, [.int .u64 k_2.Saga, .int .i64 k_2.Step, .bool k_2.Back]⟩, ⟨40, b_4, [.int .u64 t_1.Term, .int .u64 t_1.Index]⟩]) (ps := []) (by kernel_rfl) trivial ?_
        refine GoO.regionEnd ?_
        exact GoO.sub (ks := [4, 7, 9, 10, 12, 13]) (hk := [1, 0]) (bk := [0, 1, 2]) (by kernel_rfl) (by kernel_rfl) (by kernel_rfl) (tontinelaw18_LedgerNone_j0_ok n k_2 r_8 r_17 b_5 b_10 A_18 c_19 A_20 c_21 A_22 c_23 w0 S0 true)
      · refine GoO.exec (is := [9, 10, 11, 12, 13]) (hs := [.p, .p, .p, .p, .p]) (rest := []) (ks := [4, 7, 9, 10, 12, 13]) (env' := [(4, .pointer (some ⟨b_5, 0, none⟩)), (7, .pointer none), (9, .int .i64 r_8.2), (10, .pointer (some ⟨b_10, 0, none⟩)), (12, .int .i64 r_17.2.1), (13, .bool (decide ((name_3.length : Int) > 16)))]) (H' := [⟨42, b_10, [.int .u64 r_17.2.2.fence.Term, .int .u64 r_17.2.2.fence.Index, .slice A_18 r_17.2.2.effects.length c_19, .map (mA A_20), .map (mA A_22)]⟩, ⟨41, b_5, [.int .u64 k_2.Saga, .int .i64 k_2.Step, .bool k_2.Back]⟩, ⟨40, b_4, [.int .u64 t_1.Term, .int .u64 t_1.Index]⟩]) (ps := []) (by kernel_rfl) trivial ?_
        refine GoO.regionEnd ?_
        exact GoO.sub (ks := [4, 7, 9, 10, 12, 13]) (hk := [1, 0]) (bk := [0, 1, 2]) (by kernel_rfl) (by kernel_rfl) (by kernel_rfl) (tontinelaw18_LedgerNone_j0_ok n k_2 r_8 r_17 b_5 b_10 A_18 c_19 A_20 c_21 A_22 c_23 w0 S0 (decide ((name_3.length : Int) > 16)))
end Go.GL
