import Derived.Test.YtmpockelhphkdaaKindsT2
import Derived.Test.YtmpockelhphkdaaProg
set_option linter.unusedVariables false
set_option linter.unusedSimpArgs false
set_option maxRecDepth 100000
namespace Go.GL
open Go Go.Proofs

theorem ky41_dec (a b : T_api_Key) : decide (a = b) = ((a.Saga == b.Saga) && ((a.Step == b.Step) && ((a.Back == b.Back) && true))) := by cases a; cases b; rw [Bool.eq_iff_iff]; simp

noncomputable def ky41 : Ky Try.prog 45 T_api_Key where
  enc := fun k => .agg ⟨[.int .u64 k.Saga, .int .i64 k.Step, .bool k.Back]⟩
  eq := fun a b w => by
    have h : eqV Try.prog 2 45 (.agg ⟨[.int .u64 a.Saga, .int .i64 a.Step, .bool a.Back]⟩) (.agg ⟨[.int .u64 b.Saga, .int .i64 b.Step, .bool b.Back]⟩) = some ((a.Saga == b.Saga) && ((a.Step == b.Step) && ((a.Back == b.Back) && true))) := by kernel_rfl
    rw [ky41_dec a b]; exact eqV_ok 9998 2 45 _ _ _ h w
  chk := fun a e w => by kernel_rfl
  td := (Try.prog.underlying 45).getD default
  und := by kernel_rfl
  now := fun a b => .inl (by kernel_rfl)
  same := fun a => by simp [Instr.sameBits]

/-! tontine/ledger.New -/
noncomputable def c22_0 : Code := bodyOf Try.f22
noncomputable def c22_1 : Code := cdL c22_0
noncomputable def c22_2 : Code := cdR c22_0
noncomputable def c22_3 : Code := cdL c22_2
noncomputable def c22_4 : Code := cdR c22_2
noncomputable def r22_1 : Array Oper := cdO c22_1
noncomputable def r22_3 : Array Oper := cdO c22_3
theorem c22_0e : c22_0 = .seq c22_1 c22_2 := by kernel_rfl
theorem c22_1e : c22_1 = .region 0 r22_1 false := by kernel_rfl
theorem c22_2e : c22_2 = .seq c22_3 c22_4 := by kernel_rfl
theorem c22_3e : c22_3 = .region 1 r22_3 false := by kernel_rfl
theorem c22_4e : c22_4 = .ret := by kernel_rfl
noncomputable def ledger_New.R : Pst T_ledger_Ledger where
  ε := Nat × Option Addr × Nat × Option Addr × Nat × Option Addr × Nat
  v := fun r x => .pointer (some ⟨x.1, 0, none⟩)
  H := fun r x => [⟨1, x.1, [.int .u64 r.fence.Term, .int .u64 r.fence.Index, .slice x.2.1 r.effects.length x.2.2.1, .map (mA x.2.2.2.1), .map (mA x.2.2.2.2.2.1)]⟩]
  B := fun r x => [Ow 2 kT_ledger_Effect x.2.1 x.2.2.1 r.effects, Mp 3 ky41 (fun v => .bool v) x.2.2.2.1 x.2.2.2.2.1 r.said, Mp 4 ky41 (fun v => .bool v) x.2.2.2.2.2.1 x.2.2.2.2.2.2 r.tombs]
noncomputable def ledger_New.cx (w0 : World) (S0 : Fam) : Cx T_ledger_Ledger := ⟨Try.prog, 22, Try.f22, 5, w0, S0, [], 0, ledger_New.R⟩
theorem ledger_New_ok (n : Nat) :
    Meets Try.prog 22 [] 0 [] [] [] (ledger_New.f n) (ledger_New.R) := by
  refine Meets.of (c := c22_0) (n := 5) Try.func22 (by kernel_rfl) (by kernel_rfl) (by kernel_rfl) fun w0 S0 => ?_
  unfold ledger_New.f
  show GoO (ledger_New.cx w0 S0) [] [] [] [.code c22_0] _
  refine GoO.seq' c22_0e ?_
  refine GoO.region' (is := [0]) c22_1e (by kernel_rfl) ?_
  refine GoO.exec (is := [0]) (hs := [.p]) (rest := []) (ks := []) (env' := []) (H' := []) (ps := []) (by kernel_rfl) trivial ?_
  refine GoO.regionEnd ?_
  refine GoO.seq' c22_2e ?_
  refine GoO.region' (is := [0, 1, 2, 3, 4]) c22_3e (by kernel_rfl) ?_
  refine OpTo.go (GoO.mkMap rfl 40 ky41 (fun v => .bool v) _ (fun _ _ => rfl) (fun A_1 c_2 => ?_))
  refine OpTo.go (GoO.mkMap rfl 41 ky41 (fun v => .bool v) _ (fun _ _ => rfl) (fun A_3 c_4 => ?_))
  refine GoO.exec (is := [2]) (hs := [.p]) (rest := [3, 4]) (ks := [3]) (env' := [(3, .agg ⟨[.int .u64 0, .int .u64 0, .slice none ([] : List T_ledger_Effect).length 0, .map (mA A_1), .map (mA A_3)]⟩)]) (H' := []) (ps := []) (by kernel_rfl) trivial ?_
  refine OpTo.go (GoO.new rfl 42 (cs := [.int .u64 0, .int .u64 0, .slice none ([] : List T_ledger_Effect).length 0, .map (mA A_1), .map (mA A_3)]) (by kernel_rfl) _ (fun _ => rfl) (fun b_5 => ?_))
  refine GoO.exec (is := [4]) (hs := [.p]) (rest := []) (ks := [0]) (env' := [(0, .pointer (some ⟨b_5, 0, none⟩))]) (H' := [⟨42, b_5, [.int .u64 0, .int .u64 0, .slice none ([] : List T_ledger_Effect).length 0, .map (mA A_1), .map (mA A_3)]⟩]) (ps := []) (by kernel_rfl) trivial ?_
  refine GoO.regionEnd ?_
  refine GoO.nilOwn kT_ledger_Effect 2 ?_
  refine GoO.retag (t := 40) (u := 3) (j := 2) (hk := [0]) (bk := [0, 1]) rfl rfl rfl rfl rfl rfl (by kernel_rfl) (by kernel_rfl) ?_
  refine GoO.retag (t := 41) (u := 4) (j := 2) (hk := [0]) (bk := [0, 1]) rfl rfl rfl rfl rfl rfl (by kernel_rfl) (by kernel_rfl) ?_
  refine GoO.retagB (t := 42) (u := 1) (j := 0) (hk := []) (bk := [0, 1, 2]) rfl rfl rfl rfl rfl rfl (by kernel_rfl) (by kernel_rfl) ?_
  exact GoO.ret' (h := c22_4e) (hs := []) (ps := []) (hk := [0]) (bk := [2, 1, 0]) Try.func22 (⟨b_5, none, 0, A_1, c_2, A_3, c_4⟩ : Nat × Option Addr × Nat × Option Addr × Nat × Option Addr × Nat) (by kernel_rfl) trivial (by kernel_rfl) (by kernel_rfl)

/-! tontine/ledger.Less -/
noncomputable def c26_0 : Code := bodyOf Try.f26
noncomputable def c26_1 : Code := cdL c26_0
noncomputable def c26_2 : Code := cdR c26_0
noncomputable def c26_3 : Code := cdL c26_2
noncomputable def c26_4 : Code := cdR c26_2
noncomputable def r26_1 : Array Oper := cdO c26_1
noncomputable def r26_3 : Array Oper := cdO c26_3
theorem c26_0e : c26_0 = .seq c26_1 c26_2 := by kernel_rfl
theorem c26_1e : c26_1 = .region 0 r26_1 false := by kernel_rfl
theorem c26_2e : c26_2 = .seq c26_3 c26_4 := by kernel_rfl
theorem c26_3e : c26_3 = .region 1 r26_3 false := by kernel_rfl
theorem c26_4e : c26_4 = .ret := by kernel_rfl
noncomputable def ledger_Less.R : Pst Bool where
  ε := Unit
  v := fun r x => .bool r
  H := fun r x => []
  B := fun r x => []
noncomputable def ledger_Less.cx (w0 : World) (S0 : Fam) : Cx Bool := ⟨Try.prog, 26, Try.f26, 24, w0, S0, [], 0, ledger_Less.R⟩
theorem ledger_Less_ok (n : Nat) (a_1 : T_api_Token) (b_2 : T_api_Token) :
    Meets Try.prog 26 [.agg ⟨[.int .u64 a_1.Term, .int .u64 a_1.Index]⟩, .agg ⟨[.int .u64 b_2.Term, .int .u64 b_2.Index]⟩] 0 [] [] [] (ledger_Less.f n a_1 b_2) (ledger_Less.R) := by
  refine Meets.of (c := c26_0) (n := 24) Try.func26 (by kernel_rfl) (by kernel_rfl) (by kernel_rfl) fun w0 S0 => ?_
  unfold ledger_Less.f
  show GoO (ledger_Less.cx w0 S0) [(0, .agg ⟨[.int .u64 a_1.Term, .int .u64 a_1.Index]⟩), (1, .agg ⟨[.int .u64 b_2.Term, .int .u64 b_2.Index]⟩)] [] [] [.code c26_0] _
  refine GoO.seq' c26_0e ?_
  refine GoO.region' (is := [0, 1, 2]) c26_1e (by kernel_rfl) ?_
  refine OpTo.go (GoO.new rfl 40 (cs := [.int .u64 a_1.Term, .int .u64 a_1.Index]) (by kernel_rfl) _ (fun _ => rfl) (fun b_3 => ?_))
  refine OpTo.go (GoO.new rfl 41 (cs := [.int .u64 b_2.Term, .int .u64 b_2.Index]) (by kernel_rfl) _ (fun _ => rfl) (fun b_4 => ?_))
  refine GoO.exec (is := [2]) (hs := [.p]) (rest := []) (ks := [2, 3]) (env' := [(2, .pointer (some ⟨b_3, 0, none⟩)), (3, .pointer (some ⟨b_4, 0, none⟩))]) (H' := [⟨41, b_4, [.int .u64 b_2.Term, .int .u64 b_2.Index]⟩, ⟨40, b_3, [.int .u64 a_1.Term, .int .u64 a_1.Index]⟩]) (ps := []) (by kernel_rfl) trivial ?_
  refine GoO.regionEnd ?_
  refine GoO.seq' c26_2e ?_
  refine GoO.region' (is := [0, 1, 2, 3, 4, 5, 6, 7, 8, 9, 10, 11, 12, 13, 14, 15, 16, 17, 18, 19]) c26_3e (by kernel_rfl) ?_
  refine GoO.exec (is := [0, 1, 2, 3, 4, 5]) (hs := [.p, .b 1, .p, .b 0, .p, .p]) (rest := [6, 7, 8, 9, 10, 11, 12, 13, 14, 15, 16, 17, 18, 19]) (ks := [2, 3, 10]) (env' := [(2, .pointer (some ⟨b_3, 0, none⟩)), (3, .pointer (some ⟨b_4, 0, none⟩)), (10, .bool (decide (a_1.Term < b_2.Term)))]) (H' := [⟨41, b_4, [.int .u64 b_2.Term, .int .u64 b_2.Index]⟩, ⟨40, b_3, [.int .u64 a_1.Term, .int .u64 a_1.Index]⟩]) (ps := [b_3 = b_3, b_4 = b_4]) (by kernel_rfl) (And.intro rfl (And.intro rfl trivial)) ?_
  refine GoO.bsplit (t := 10) (by kernel_rfl) (fun h5 => ?_) (fun h5 => ?_)
  · refine GoO.exec (is := [6, 7, 8, 9, 10, 11, 12, 13, 14, 15, 16, 17, 18, 19]) (hs := [.p, .p, .p, .p, .p, .p, .p, .p, .p, .p, .p, .p, .p, .p]) (rest := []) (ks := [4]) (env' := [(4, .bool true)]) (H' := [⟨41, b_4, [.int .u64 b_2.Term, .int .u64 b_2.Index]⟩, ⟨40, b_3, [.int .u64 a_1.Term, .int .u64 a_1.Index]⟩]) (ps := []) (by kernel_rfl) trivial ?_
    refine GoO.regionEnd ?_
    exact GoO.ret' (h := c26_4e) (hs := []) (ps := []) (hk := []) (bk := []) Try.func26 () (by kernel_rfl) trivial (by kernel_rfl) (by kernel_rfl)
  · refine GoO.exec (is := [6, 7, 8, 9, 10, 11]) (hs := [.p, .b 1, .p, .b 0, .p, .p]) (rest := [12, 13, 14, 15, 16, 17, 18, 19]) (ks := [2, 3, 10, 16]) (env' := [(2, .pointer (some ⟨b_3, 0, none⟩)), (3, .pointer (some ⟨b_4, 0, none⟩)), (10, .bool false), (16, .bool (a_1.Term == b_2.Term))]) (H' := [⟨41, b_4, [.int .u64 b_2.Term, .int .u64 b_2.Index]⟩, ⟨40, b_3, [.int .u64 a_1.Term, .int .u64 a_1.Index]⟩]) (ps := [b_3 = b_3, b_4 = b_4]) (by kernel_rfl) (And.intro rfl (And.intro rfl trivial)) ?_
    refine GoO.bsplit (t := 16) (by kernel_rfl) (fun h6 => ?_) (fun h6 => ?_)
    · refine GoO.exec (is := [12, 13, 14, 15, 16, 17, 18, 19]) (hs := [.p, .b 1, .p, .b 0, .p, .p, .p, .p]) (rest := []) (ks := [4]) (env' := [(4, .bool (decide (a_1.Index < b_2.Index)))]) (H' := [⟨41, b_4, [.int .u64 b_2.Term, .int .u64 b_2.Index]⟩, ⟨40, b_3, [.int .u64 a_1.Term, .int .u64 a_1.Index]⟩]) (ps := [b_3 = b_3, b_4 = b_4]) (by kernel_rfl) (And.intro rfl (And.intro rfl trivial)) ?_
      refine GoO.regionEnd ?_
      exact GoO.ret' (h := c26_4e) (hs := []) (ps := []) (hk := []) (bk := []) Try.func26 () (by kernel_rfl) trivial (by kernel_rfl) (by kernel_rfl)
    · refine GoO.exec (is := [12, 13, 14, 15, 16, 17, 18, 19]) (hs := [.p, .p, .p, .p, .p, .p, .p, .p]) (rest := []) (ks := [4]) (env' := [(4, .bool false)]) (H' := [⟨41, b_4, [.int .u64 b_2.Term, .int .u64 b_2.Index]⟩, ⟨40, b_3, [.int .u64 a_1.Term, .int .u64 a_1.Index]⟩]) (ps := []) (by kernel_rfl) trivial ?_
      refine GoO.regionEnd ?_
      exact GoO.ret' (h := c26_4e) (hs := []) (ps := []) (hk := []) (bk := []) Try.func26 () (by kernel_rfl) trivial (by kernel_rfl) (by kernel_rfl)

/-! (*tontine/ledger.Ledger).undo -/
noncomputable def c41_0 : Code := bodyOf Try.f41
noncomputable def c41_1 : Code := cdL c41_0
noncomputable def c41_2 : Code := cdR c41_0
noncomputable def c41_3 : Code := cdL c41_2
noncomputable def c41_4 : Code := cdL c41_3
noncomputable def c41_5 : Code := cdR c41_3
noncomputable def c41_6 : Code := cdL c41_5
noncomputable def c41_7 : Code := cdL c41_6
noncomputable def c41_8 : Code := cdR c41_6
noncomputable def c41_9 : Code := cdR c41_5
noncomputable def c41_10 : Code := cdR c41_2
noncomputable def c41_11 : Code := cdL c41_10
noncomputable def c41_12 : Code := cdR c41_10
noncomputable def c41_13 : Code := cdL c41_12
noncomputable def c41_14 : Code := cdR c41_12
noncomputable def c41_15 : Code := cdL c41_14
noncomputable def c41_16 : Code := cdL c41_15
noncomputable def c41_17 : Code := cdR c41_15
noncomputable def c41_18 : Code := cdL c41_17
noncomputable def c41_19 : Code := cdR c41_17
noncomputable def c41_20 : Code := cdR c41_14
noncomputable def c41_21 : Code := cdL c41_20
noncomputable def c41_22 : Code := cdR c41_20
noncomputable def c41_23 : Code := cdL c41_22
noncomputable def c41_24 : Code := cdR c41_22
noncomputable def r41_1 : Array Oper := cdO c41_1
noncomputable def r41_4 : Array Oper := cdO c41_4
noncomputable def r41_7 : Array Oper := cdO c41_7
noncomputable def r41_11 : Array Oper := cdO c41_11
noncomputable def r41_13 : Array Oper := cdO c41_13
noncomputable def r41_16 : Array Oper := cdO c41_16
noncomputable def r41_18 : Array Oper := cdO c41_18
noncomputable def r41_19 : Array Oper := cdO c41_19
noncomputable def r41_21 : Array Oper := cdO c41_21
noncomputable def r41_23 : Array Oper := cdO c41_23
theorem c41_0e : c41_0 = .seq c41_1 c41_2 := by kernel_rfl
theorem c41_1e : c41_1 = .region 0 r41_1 false := by kernel_rfl
theorem c41_2e : c41_2 = .seq c41_3 c41_10 := by kernel_rfl
theorem c41_3e : c41_3 = .seq c41_4 c41_5 := by kernel_rfl
theorem c41_4e : c41_4 = .region 1 r41_4 false := by kernel_rfl
theorem c41_5e : c41_5 = .cond (cdC c41_5) c41_6 c41_9 := by kernel_rfl
theorem c41_6e : c41_6 = .seq c41_7 c41_8 := by kernel_rfl
theorem c41_7e : c41_7 = .region 2 r41_7 false := by kernel_rfl
theorem c41_8e : c41_8 = .ret := by kernel_rfl
theorem c41_9e : c41_9 = .skip := by kernel_rfl
theorem c41_10e : c41_10 = .seq c41_11 c41_12 := by kernel_rfl
theorem c41_11e : c41_11 = .region 3 r41_11 false := by kernel_rfl
theorem c41_12e : c41_12 = .seq c41_13 c41_14 := by kernel_rfl
theorem c41_13e : c41_13 = .region 4 r41_13 false := by kernel_rfl
theorem c41_14e : c41_14 = .seq c41_15 c41_20 := by kernel_rfl
theorem c41_15e : c41_15 = .seq c41_16 c41_17 := by kernel_rfl
theorem c41_16e : c41_16 = .region 5 r41_16 true := by kernel_rfl
theorem c41_17e : c41_17 = .cond (cdC c41_17) c41_18 c41_19 := by kernel_rfl
theorem c41_18e : c41_18 = .region 6 r41_18 true := by kernel_rfl
theorem c41_19e : c41_19 = .region 7 r41_19 true := by kernel_rfl
theorem c41_20e : c41_20 = .seq c41_21 c41_22 := by kernel_rfl
theorem c41_21e : c41_21 = .region 8 r41_21 true := by kernel_rfl
theorem c41_22e : c41_22 = .seq c41_23 c41_24 := by kernel_rfl
theorem c41_23e : c41_23 = .region 9 r41_23 false := by kernel_rfl
theorem c41_24e : c41_24 = .ret := by kernel_rfl
noncomputable def ledger_Ledger_undo.R (b_2 : Nat) (A_3 : Option Addr) (c_4 : Nat) (A_5 : Option Addr) (c_6 : Nat) (A_7 : Option Addr) (c_8 : Nat) : Pst (Bool × Int × T_ledger_Ledger) where
  ε := Option Addr × Nat × Option Addr × Nat × Option Addr × Nat
  v := fun r x => .tuple ⟨[.bool r.1, .int .i64 r.2.1]⟩
  H := fun r x => [⟨1, b_2, [.int .u64 r.2.2.fence.Term, .int .u64 r.2.2.fence.Index, .slice x.1 r.2.2.effects.length x.2.1, .map (mA x.2.2.1), .map (mA x.2.2.2.2.1)]⟩]
  B := fun r x => [Ow 2 kT_ledger_Effect x.1 x.2.1 r.2.2.effects, Mp 3 ky41 (fun v => .bool v) x.2.2.1 x.2.2.2.1 r.2.2.said, Mp 4 ky41 (fun v => .bool v) x.2.2.2.2.1 x.2.2.2.2.2 r.2.2.tombs]
noncomputable def ledger_Ledger_undo.cx (b_2 : Nat) (A_3 : Option Addr) (c_4 : Nat) (A_5 : Option Addr) (c_6 : Nat) (A_7 : Option Addr) (c_8 : Nat) (w0 : World) (S0 : Fam) : Cx (Bool × Int × T_ledger_Ledger) := ⟨Try.prog, 41, Try.f41, 42, w0, S0, [1, 2, 3, 4], 4, ledger_Ledger_undo.R b_2 A_3 c_4 A_5 c_6 A_7 c_8⟩
theorem ledger_Ledger_undo_j0_ok (n : Nat) (l_1 : T_ledger_Ledger) (k_9 : T_api_Key) (b_2 : Nat) (A_5 : Option Addr) (c_6 : Nat) (b_12 : Nat) (A_3 : Option Addr) (c_4 : Nat) (A_7 : Option Addr) (c_8 : Nat) (w0 : World) (S0 : Fam) (f_21 : (List T_ledger_Effect)) (f_24 : (List (T_api_Key × Bool))) (A_22 : Option Addr) (c_23 : Nat) (A_25 : Option Addr) (c_26 : Nat) :
    GoO (ledger_Ledger_undo.cx b_2 A_3 c_4 A_5 c_6 A_7 c_8 w0 S0) [(0, .pointer (some ⟨b_2, 0, none⟩)), (5, .pointer (some ⟨b_12, 0, none⟩))] [⟨1, b_2, [.int .u64 l_1.fence.Term, .int .u64 l_1.fence.Index, .slice A_22 f_21.length c_23, .map (mA A_5), .map (mA A_25)]⟩, ⟨40, b_12, [.int .u64 k_9.Saga, .int .i64 k_9.Step, .bool k_9.Back]⟩] [Ow 2 kT_ledger_Effect A_22 c_23 f_21, Mp 3 ky41 (fun v => .bool v) A_5 c_6 l_1.said, Mp 4 ky41 (fun v => .bool v) A_25 c_26 f_24] [.code c41_20] (ledger_Ledger_undo.j0 n l_1 k_9 f_21 f_24) := by
  unfold ledger_Ledger_undo.j0
  refine GoO.seq' c41_20e ?_
  refine GoO.draw c41_21e (by kernel_rfl) [5] [⟨1, b_2, [.int .u64 l_1.fence.Term, .int .u64 l_1.fence.Index, .slice A_22 f_21.length c_23, .map (mA A_5), .map (mA A_25)]⟩, ⟨40, b_12, [.int .u64 k_9.Saga, .int .i64 k_9.Step, .bool k_9.Back]⟩] [] (n := 6) (by kernel_rfl) ?_
  simp only [List.replicate]
  refine GoF.take [0, 1, 2, 3, 4] [.p, .p, .p, .b 0, .b 1] (ks := [40, 41]) (fu := 1) (li := [true, true, true, true, true, false]) (env' := [(40, .map (mA A_5)), (41, .agg ⟨[.int .u64 k_9.Saga, .int .i64 k_9.Step, .bool k_9.Back]⟩)]) (ps := [b_2 = b_2, b_12 = b_12]) (hk := [0, 1]) (bk := []) (by kernel_rfl) (And.intro rfl (And.intro rfl trivial)) rfl rfl ?_
  refine OpTo.goE (i := 5) (by kernel_rfl) rfl (GoO.mapUp (vt := 4) (K := ky41) (ev := (fun v => .bool v)) (A := A_5) (c := c_6) (tg := 3) (l := l_1.said) (key := k_9) (v := true) (j := 1) rfl (by kernel_rfl) (by kernel_rfl) (by kernel_rfl) (by kernel_rfl) rfl (by kernel_rfl) (by kernel_rfl) (by kernel_rfl) rfl ?_)
  refine GoF.done (by kernel_rfl) ?_
  refine GoO.seq' c41_22e ?_
  refine GoO.region' (is := [0, 1]) c41_23e (by kernel_rfl) ?_
  refine GoO.exec (is := [0, 1]) (hs := [.p, .p]) (rest := []) (ks := [8, 9]) (env' := [(8, .bool true), (9, .int .i64 0)]) (H' := [⟨1, b_2, [.int .u64 l_1.fence.Term, .int .u64 l_1.fence.Index, .slice A_22 f_21.length c_23, .map (mA A_5), .map (mA A_25)]⟩, ⟨40, b_12, [.int .u64 k_9.Saga, .int .i64 k_9.Step, .bool k_9.Back]⟩]) (ps := []) (by kernel_rfl) trivial ?_
  refine GoO.regionEnd ?_
  exact GoO.ret' (h := c41_24e) (hs := []) (ps := []) (hk := [0]) (bk := [0, 1, 2]) Try.func41 (⟨A_22, c_23, A_5, c_6, A_25, c_26⟩ : Option Addr × Nat × Option Addr × Nat × Option Addr × Nat) (by kernel_rfl) trivial (by kernel_rfl) (by kernel_rfl)
theorem ledger_Ledger_undo_ok (n : Nat) (l_1 : T_ledger_Ledger) (k_9 : T_api_Key) (name_10 : (List UInt8)) (fail_11 : Bool) (b_2 : Nat) (A_3 : Option Addr) (c_4 : Nat) (A_5 : Option Addr) (c_6 : Nat) (A_7 : Option Addr) (c_8 : Nat) :
    Meets Try.prog 41 [.pointer (some ⟨b_2, 0, none⟩), .agg ⟨[.int .u64 k_9.Saga, .int .i64 k_9.Step, .bool k_9.Back]⟩, .string (bs name_10), .bool fail_11] 4 [1, 2, 3, 4] [⟨1, b_2, [.int .u64 l_1.fence.Term, .int .u64 l_1.fence.Index, .slice A_3 l_1.effects.length c_4, .map (mA A_5), .map (mA A_7)]⟩] [Ow 2 kT_ledger_Effect A_3 c_4 l_1.effects, Mp 3 ky41 (fun v => .bool v) A_5 c_6 l_1.said, Mp 4 ky41 (fun v => .bool v) A_7 c_8 l_1.tombs] (ledger_Ledger_undo.f n l_1 k_9 name_10 fail_11) (ledger_Ledger_undo.R b_2 A_3 c_4 A_5 c_6 A_7 c_8) := by
  refine Meets.of (c := c41_0) (n := 42) Try.func41 (by kernel_rfl) (by kernel_rfl) (by kernel_rfl) fun w0 S0 => ?_
  unfold ledger_Ledger_undo.f
  show GoO (ledger_Ledger_undo.cx b_2 A_3 c_4 A_5 c_6 A_7 c_8 w0 S0) [(0, .pointer (some ⟨b_2, 0, none⟩)), (1, .agg ⟨[.int .u64 k_9.Saga, .int .i64 k_9.Step, .bool k_9.Back]⟩), (2, .string (bs name_10)), (3, .bool fail_11)] [⟨1, b_2, [.int .u64 l_1.fence.Term, .int .u64 l_1.fence.Index, .slice A_3 l_1.effects.length c_4, .map (mA A_5), .map (mA A_7)]⟩] [Ow 2 kT_ledger_Effect A_3 c_4 l_1.effects, Mp 3 ky41 (fun v => .bool v) A_5 c_6 l_1.said, Mp 4 ky41 (fun v => .bool v) A_7 c_8 l_1.tombs] [.code c41_0] _
  refine GoO.seq' c41_0e ?_
  refine GoO.region' (is := [0, 1, 2]) c41_1e (by kernel_rfl) ?_
  refine OpTo.go (GoO.new rfl 40 (cs := [.int .u64 k_9.Saga, .int .i64 k_9.Step, .bool k_9.Back]) (by kernel_rfl) _ (fun _ => rfl) (fun b_12 => ?_))
  refine GoO.exec (is := [1, 2]) (hs := [.p, .p]) (rest := []) (ks := [0, 2, 3, 5]) (env' := [(0, .pointer (some ⟨b_2, 0, none⟩)), (2, .string (bs name_10)), (3, .bool fail_11), (5, .pointer (some ⟨b_12, 0, none⟩))]) (H' := [⟨40, b_12, [.int .u64 k_9.Saga, .int .i64 k_9.Step, .bool k_9.Back]⟩, ⟨1, b_2, [.int .u64 l_1.fence.Term, .int .u64 l_1.fence.Index, .slice A_3 l_1.effects.length c_4, .map (mA A_5), .map (mA A_7)]⟩]) (ps := []) (by kernel_rfl) trivial ?_
  refine GoO.regionEnd ?_
  refine GoO.seq' c41_2e ?_
  refine GoO.seq' c41_3e ?_
  refine GoO.region' (is := [0]) c41_4e (by kernel_rfl) ?_
  refine GoO.exec (is := [0]) (hs := [.p]) (rest := []) (ks := [0, 2, 5, 11]) (env' := [(0, .pointer (some ⟨b_2, 0, none⟩)), (2, .string (bs name_10)), (5, .pointer (some ⟨b_12, 0, none⟩)), (11, .bool fail_11)]) (H' := [⟨40, b_12, [.int .u64 k_9.Saga, .int .i64 k_9.Step, .bool k_9.Back]⟩, ⟨1, b_2, [.int .u64 l_1.fence.Term, .int .u64 l_1.fence.Index, .slice A_3 l_1.effects.length c_4, .map (mA A_5), .map (mA A_7)]⟩]) (ps := []) (by kernel_rfl) trivial ?_
  refine GoO.regionEnd ?_
  refine GoO.ite' c41_5e (by kernel_rfl) (fun h13 => ?_) (fun h13 => ?_)
  · refine GoO.seq' c41_6e ?_
    refine GoO.region' (is := [0, 1]) c41_7e (by kernel_rfl) ?_
    refine GoO.exec (is := [0, 1]) (hs := [.p, .p]) (rest := []) (ks := [8, 9]) (env' := [(8, .bool false), (9, .int .i64 0)]) (H' := [⟨40, b_12, [.int .u64 k_9.Saga, .int .i64 k_9.Step, .bool k_9.Back]⟩, ⟨1, b_2, [.int .u64 l_1.fence.Term, .int .u64 l_1.fence.Index, .slice A_3 l_1.effects.length c_4, .map (mA A_5), .map (mA A_7)]⟩]) (ps := []) (by kernel_rfl) trivial ?_
    refine GoO.regionEnd ?_
    exact GoO.ret' (h := c41_8e) (hs := []) (ps := []) (hk := [1]) (bk := [0, 1, 2]) Try.func41 (⟨A_3, c_4, A_5, c_6, A_7, c_8⟩ : Option Addr × Nat × Option Addr × Nat × Option Addr × Nat) (by kernel_rfl) trivial (by kernel_rfl) (by kernel_rfl)
  · refine GoO.skip' c41_9e ?_
    refine GoO.seq' c41_10e ?_
    refine GoO.region' (is := [0, 1, 2]) c41_11e (by kernel_rfl) ?_
    refine GoO.exec (is := [0]) (hs := [.b 0]) (rest := [1, 2]) (ks := [0, 2, 5, 12]) (env' := [(0, .pointer (some ⟨b_2, 0, none⟩)), (2, .string (bs name_10)), (5, .pointer (some ⟨b_12, 0, none⟩)), (12, .agg ⟨[.int .u64 k_9.Saga, .int .i64 k_9.Step, .bool k_9.Back]⟩)]) (H' := [⟨40, b_12, [.int .u64 k_9.Saga, .int .i64 k_9.Step, .bool k_9.Back]⟩, ⟨1, b_2, [.int .u64 l_1.fence.Term, .int .u64 l_1.fence.Index, .slice A_3 l_1.effects.length c_4, .map (mA A_5), .map (mA A_7)]⟩]) (ps := [b_12 = b_12]) (by kernel_rfl) (And.intro rfl trivial) ?_
    refine OpTo.go (GoO.new rfl 41 (cs := [.int .u64 0, .int .i64 0, .bool false]) (by kernel_rfl) _ (fun _ => rfl) (fun b_14 => ?_))
    refine GoO.exec (is := [2]) (hs := [.b 0]) (rest := []) (ks := [0, 2, 5, 10]) (env' := [(0, .pointer (some ⟨b_2, 0, none⟩)), (2, .string (bs name_10)), (5, .pointer (some ⟨b_12, 0, none⟩)), (10, .pointer (some ⟨b_14, 0, none⟩))]) (H' := [⟨41, b_14, [.int .u64 k_9.Saga, .int .i64 k_9.Step, .bool k_9.Back]⟩, ⟨40, b_12, [.int .u64 k_9.Saga, .int .i64 k_9.Step, .bool k_9.Back]⟩, ⟨1, b_2, [.int .u64 l_1.fence.Term, .int .u64 l_1.fence.Index, .slice A_3 l_1.effects.length c_4, .map (mA A_5), .map (mA A_7)]⟩]) (ps := [b_14 = b_14]) (by kernel_rfl) (And.intro rfl trivial) ?_
    refine GoO.regionEnd ?_
    refine GoO.seq' c41_12e ?_
    refine GoO.region' (is := [0, 1]) c41_13e (by kernel_rfl) ?_
    refine GoO.exec (is := [0, 1]) (hs := [.p, .b 0]) (rest := []) (ks := [0, 2, 5, 10]) (env' := [(0, .pointer (some ⟨b_2, 0, none⟩)), (2, .string (bs name_10)), (5, .pointer (some ⟨b_12, 0, none⟩)), (10, .pointer (some ⟨b_14, 0, none⟩))]) (H' := [⟨41, b_14, [.int .u64 k_9.Saga, .int .i64 k_9.Step, .bool false]⟩, ⟨40, b_12, [.int .u64 k_9.Saga, .int .i64 k_9.Step, .bool k_9.Back]⟩, ⟨1, b_2, [.int .u64 l_1.fence.Term, .int .u64 l_1.fence.Index, .slice A_3 l_1.effects.length c_4, .map (mA A_5), .map (mA A_7)]⟩]) (ps := [b_14 = b_14]) (by kernel_rfl) (And.intro rfl trivial) ?_
    refine GoO.regionEnd ?_
    refine GoO.seq' c41_14e ?_
    refine GoO.seq' c41_15e ?_
    refine GoO.draw c41_16e (by kernel_rfl) [] [⟨41, b_14, [.int .u64 k_9.Saga, .int .i64 k_9.Step, .bool false]⟩, ⟨1, b_2, [.int .u64 l_1.fence.Term, .int .u64 l_1.fence.Index, .slice A_3 l_1.effects.length c_4, .map (mA A_5), .map (mA A_7)]⟩] [Mp 3 ky41 (fun v => .bool v) A_5 c_6 l_1.said] (n := 6) (by kernel_rfl) ?_
    simp only [List.replicate]
    refine GoF.take [0, 1, 2, 3, 4] [.p, .p, .p, .b 1, .b 0] (ks := [0, 2, 5, 10, 17, 18]) (fu := 1) (li := [true, true, true, true, true, false]) (env' := [(0, .pointer (some ⟨b_2, 0, none⟩)), (2, .string (bs name_10)), (5, .pointer (some ⟨b_12, 0, none⟩)), (10, .pointer (some ⟨b_14, 0, none⟩)), (17, .map (mA A_5)), (18, .agg ⟨[.int .u64 k_9.Saga, .int .i64 k_9.Step, .bool false]⟩)]) (ps := [b_2 = b_2, b_14 = b_14]) (hk := [0, 2]) (bk := [1]) (by kernel_rfl) (And.intro rfl (And.intro rfl trivial)) rfl rfl ?_
    refine OpTo.goF (i := 5) (by kernel_rfl) (hk := [0, 2]) (bk := [1]) (GoO.mapLk (vt := 4) (K := ky41) (ev := (fun v => .bool v)) (A := A_5) (c := c_6) (l := l_1.said) (key := (⟨k_9.Saga, k_9.Step, false⟩ : T_api_Key)) (j := 1) rfl (by kernel_rfl) (by kernel_rfl) (by kernel_rfl) rfl false (fun _ => by kernel_rfl) rfl ⟨rfl, rfl, ?_⟩)
    refine GoF.done (by kernel_rfl) ?_
    refine GoO.ite' c41_17e (by kernel_rfl) (fun h15 => ?_) (fun h15 => ?_)
    · refine GoO.draw c41_18e (by kernel_rfl) [10, 11, 12] [⟨40, b_12, [.int .u64 k_9.Saga, .int .i64 k_9.Step, .bool k_9.Back]⟩, ⟨1, b_2, [.int .u64 l_1.fence.Term, .int .u64 l_1.fence.Index, .slice A_3 l_1.effects.length c_4, .map (mA A_5), .map (mA A_7)]⟩] [] (n := 13) (by kernel_rfl) ?_
      simp only [List.replicate]
      refine GoF.take [0, 1, 2, 3, 4, 5, 6, 7] [.p, .p, .p, .p, .b 1, .b 0, .p, .p] (ks := [0, 5, 20, 24, 27]) (fu := 5) (li := [true, true, true, true, true, true, true, true, false, false, false, false, false]) (env' := [(0, .pointer (some ⟨b_2, 0, none⟩)), (5, .pointer (some ⟨b_12, 0, none⟩)), (20, .pointer (some ⟨b_2, 0, none⟩)), (24, .slice A_3 l_1.effects.length c_4), (27, .agg ⟨[.int .u64 k_9.Saga, .int .i64 k_9.Step, .bool k_9.Back, .string (bs name_10)]⟩)]) (ps := [b_2 = b_2, b_12 = b_12]) (hk := [1, 2]) (bk := []) (by kernel_rfl) (And.intro rfl (And.intro rfl trivial)) rfl rfl ?_
      refine OpTo.goF (i := 8) (by kernel_rfl) (hk := [1, 2]) (bk := []) (GoO.lit (e := 56) (K := kT_ledger_Effect) rfl (by kernel_rfl) (by kernel_rfl) (cs := [.int .u64 k_9.Saga, .int .i64 k_9.Step, .bool k_9.Back, .string (bs name_10)]) (by kernel_rfl) [(⟨k_9, name_10⟩ : T_ledger_Effect)] (by kernel_rfl) (by kernel_rfl) (fun w S hB => ⟨[.int .u64 k_9.Saga, .int .i64 k_9.Step, .bool k_9.Back, .string (bs name_10)], _, rfl, rfl, rfl⟩) 42 _ (fun _ _ => rfl) (fun A_16 c_17 => ⟨rfl, rfl, ?_⟩))
      refine GoF.guard (fun h18 => ?_)
      refine OpTo.goF (i := 9) (by kernel_rfl) (hk := [1, 2]) (bk := []) (GoO.appW (e := 56) (K := kT_ledger_Effect) (A := A_3) (c := c_4) (tg := 2) (bytes := 40) (zs := [.int .u64 0, .int .i64 0, .bool false, .string (bs [])]) (xs := l_1.effects) (ys := [(⟨k_9, name_10⟩ : T_ledger_Effect)]) (xv := .slice A_16 [(⟨k_9, name_10⟩ : T_ledger_Effect)].length c_17) (j := 1) (bk := [0, 2, 3]) rfl (by kernel_rfl) (by kernel_rfl) (by kernel_rfl) (by kernel_rfl) rfl (by kernel_rfl) rfl (fun w S hB => SrcIs.row (Reads.own w S (hB _ (List.mem_of_getElem? (i := 0) rfl)))) h18 rfl rfl rfl rfl _ (fun _ _ => rfl) (fun A_19 c_20 => ⟨rfl, rfl, ?_⟩))
      refine GoF.fin1 (i := 10) (hint := .p) (ps := []) (hk := []) (bk := []) (by kernel_rfl) rfl trivial (.inl rfl) ?_
      refine GoF.fin1 (i := 11) (hint := .p) (ps := []) (hk := []) (bk := []) (by kernel_rfl) rfl trivial (.inl rfl) ?_
      refine GoF.fin1 (i := 12) (hint := .b 2) (ps := [b_2 = b_2]) (hk := []) (bk := []) (by kernel_rfl) rfl (And.intro rfl trivial) (.inl rfl) ?_
      refine GoF.done (by kernel_rfl) ?_
      exact GoO.sub (ks := [0, 5]) (hk := [2, 1]) (bk := [0, 2, 3]) (by kernel_rfl) (by kernel_rfl) (by kernel_rfl) (ledger_Ledger_undo_j0_ok n l_1 k_9 b_2 A_5 c_6 b_12 A_3 c_4 A_7 c_8 w0 S0 (l_1.effects ++ [(⟨k_9, name_10⟩ : T_ledger_Effect)]) l_1.tombs A_19 c_20 A_7 c_8)
    · refine GoO.draw c41_19e (by kernel_rfl) [5] [⟨41, b_14, [.int .u64 k_9.Saga, .int .i64 k_9.Step, .bool false]⟩, ⟨1, b_2, [.int .u64 l_1.fence.Term, .int .u64 l_1.fence.Index, .slice A_3 l_1.effects.length c_4, .map (mA A_5), .map (mA A_7)]⟩] [] (n := 6) (by kernel_rfl) ?_
      simp only [List.replicate]
      refine GoF.take [0, 1, 2, 3, 4] [.p, .p, .p, .b 1, .b 0] (ks := [0, 5, 35, 36]) (fu := 1) (li := [true, true, true, true, true, false]) (env' := [(0, .pointer (some ⟨b_2, 0, none⟩)), (5, .pointer (some ⟨b_12, 0, none⟩)), (35, .map (mA A_7)), (36, .agg ⟨[.int .u64 k_9.Saga, .int .i64 k_9.Step, .bool false]⟩)]) (ps := [b_2 = b_2, b_14 = b_14]) (hk := [0, 2]) (bk := []) (by kernel_rfl) (And.intro rfl (And.intro rfl trivial)) rfl rfl ?_
      refine OpTo.goE (i := 5) (by kernel_rfl) rfl (GoO.mapUp (vt := 4) (K := ky41) (ev := (fun v => .bool v)) (A := A_7) (c := c_8) (tg := 4) (l := l_1.tombs) (key := (⟨k_9.Saga, k_9.Step, false⟩ : T_api_Key)) (v := true) (j := 2) rfl (by kernel_rfl) (by kernel_rfl) (by kernel_rfl) (by kernel_rfl) rfl (by kernel_rfl) (by kernel_rfl) (by kernel_rfl) rfl ?_)
      refine GoF.done (by kernel_rfl) ?_
      exact GoO.sub (ks := [0, 5]) (hk := [2, 1]) (bk := [0, 1, 2]) (by kernel_rfl) (by kernel_rfl) (by kernel_rfl) (ledger_Ledger_undo_j0_ok n l_1 k_9 b_2 A_5 c_6 b_12 A_3 c_4 A_7 c_8 w0 S0 l_1.effects (putA (⟨k_9.Saga, k_9.Step, false⟩ : T_api_Key) true l_1.tombs) A_3 c_4 A_7 c_8)

/-! (*tontine/ledger.Ledger).Ask -/
noncomputable def c23_0 : Code := bodyOf Try.f23
noncomputable def c23_1 : Code := cdL c23_0
noncomputable def c23_2 : Code := cdR c23_0
noncomputable def c23_3 : Code := cdL c23_2
noncomputable def c23_4 : Code := cdL c23_3
noncomputable def c23_5 : Code := cdR c23_3
noncomputable def c23_6 : Code := cdL c23_5
noncomputable def c23_7 : Code := cdL c23_6
noncomputable def c23_8 : Code := cdR c23_6
noncomputable def c23_9 : Code := cdR c23_5
noncomputable def c23_10 : Code := cdR c23_2
noncomputable def c23_11 : Code := cdL c23_10
noncomputable def c23_12 : Code := cdL c23_11
noncomputable def c23_13 : Code := cdR c23_11
noncomputable def c23_14 : Code := cdL c23_13
noncomputable def c23_15 : Code := cdL c23_14
noncomputable def c23_16 : Code := cdR c23_14
noncomputable def c23_17 : Code := cdR c23_13
noncomputable def c23_18 : Code := cdR c23_10
noncomputable def c23_19 : Code := cdL c23_18
noncomputable def c23_20 : Code := cdR c23_18
noncomputable def c23_21 : Code := cdL c23_20
noncomputable def c23_22 : Code := cdL c23_21
noncomputable def c23_23 : Code := cdR c23_21
noncomputable def c23_24 : Code := cdL c23_23
noncomputable def c23_25 : Code := cdR c23_23
noncomputable def c23_26 : Code := cdL c23_25
noncomputable def c23_27 : Code := cdL c23_26
noncomputable def c23_28 : Code := cdR c23_26
noncomputable def c23_29 : Code := cdR c23_25
noncomputable def c23_30 : Code := cdR c23_20
noncomputable def c23_31 : Code := cdL c23_30
noncomputable def c23_32 : Code := cdL c23_31
noncomputable def c23_33 : Code := cdR c23_31
noncomputable def c23_34 : Code := cdL c23_33
noncomputable def c23_35 : Code := cdL c23_34
noncomputable def c23_36 : Code := cdR c23_34
noncomputable def c23_37 : Code := cdR c23_33
noncomputable def c23_38 : Code := cdR c23_30
noncomputable def c23_39 : Code := cdL c23_38
noncomputable def c23_40 : Code := cdL c23_39
noncomputable def c23_41 : Code := cdR c23_39
noncomputable def c23_42 : Code := cdL c23_41
noncomputable def c23_43 : Code := cdL c23_42
noncomputable def c23_44 : Code := cdR c23_42
noncomputable def c23_45 : Code := cdR c23_41
noncomputable def c23_46 : Code := cdR c23_38
noncomputable def c23_47 : Code := cdL c23_46
noncomputable def c23_48 : Code := cdR c23_46
noncomputable def c23_49 : Code := cdL c23_48
noncomputable def c23_50 : Code := cdL c23_49
noncomputable def c23_51 : Code := cdR c23_49
noncomputable def c23_52 : Code := cdL c23_51
noncomputable def c23_53 : Code := cdR c23_51
noncomputable def c23_54 : Code := cdR c23_48
noncomputable def c23_55 : Code := cdL c23_54
noncomputable def c23_56 : Code := cdR c23_54
noncomputable def r23_1 : Array Oper := cdO c23_1
noncomputable def r23_4 : Array Oper := cdO c23_4
noncomputable def r23_7 : Array Oper := cdO c23_7
noncomputable def r23_12 : Array Oper := cdO c23_12
noncomputable def r23_15 : Array Oper := cdO c23_15
noncomputable def r23_19 : Array Oper := cdO c23_19
noncomputable def r23_22 : Array Oper := cdO c23_22
noncomputable def r23_24 : Array Oper := cdO c23_24
noncomputable def r23_27 : Array Oper := cdO c23_27
noncomputable def r23_32 : Array Oper := cdO c23_32
noncomputable def r23_35 : Array Oper := cdO c23_35
noncomputable def r23_40 : Array Oper := cdO c23_40
noncomputable def r23_43 : Array Oper := cdO c23_43
noncomputable def r23_47 : Array Oper := cdO c23_47
noncomputable def r23_50 : Array Oper := cdO c23_50
noncomputable def r23_52 : Array Oper := cdO c23_52
noncomputable def r23_55 : Array Oper := cdO c23_55
theorem c23_0e : c23_0 = .seq c23_1 c23_2 := by kernel_rfl
theorem c23_1e : c23_1 = .region 0 r23_1 false := by kernel_rfl
theorem c23_2e : c23_2 = .seq c23_3 c23_10 := by kernel_rfl
theorem c23_3e : c23_3 = .seq c23_4 c23_5 := by kernel_rfl
theorem c23_4e : c23_4 = .region 1 r23_4 false := by kernel_rfl
theorem c23_5e : c23_5 = .cond (cdC c23_5) c23_6 c23_9 := by kernel_rfl
theorem c23_6e : c23_6 = .seq c23_7 c23_8 := by kernel_rfl
theorem c23_7e : c23_7 = .region 2 r23_7 false := by kernel_rfl
theorem c23_8e : c23_8 = .ret := by kernel_rfl
theorem c23_9e : c23_9 = .skip := by kernel_rfl
theorem c23_10e : c23_10 = .seq c23_11 c23_18 := by kernel_rfl
theorem c23_11e : c23_11 = .seq c23_12 c23_13 := by kernel_rfl
theorem c23_12e : c23_12 = .region 3 r23_12 true := by kernel_rfl
theorem c23_13e : c23_13 = .cond (cdC c23_13) c23_14 c23_17 := by kernel_rfl
theorem c23_14e : c23_14 = .seq c23_15 c23_16 := by kernel_rfl
theorem c23_15e : c23_15 = .region 4 r23_15 false := by kernel_rfl
theorem c23_16e : c23_16 = .ret := by kernel_rfl
theorem c23_17e : c23_17 = .skip := by kernel_rfl
theorem c23_18e : c23_18 = .seq c23_19 c23_20 := by kernel_rfl
theorem c23_19e : c23_19 = .region 5 r23_19 false := by kernel_rfl
theorem c23_20e : c23_20 = .seq c23_21 c23_30 := by kernel_rfl
theorem c23_21e : c23_21 = .seq c23_22 c23_23 := by kernel_rfl
theorem c23_22e : c23_22 = .region 6 r23_22 true := by kernel_rfl
theorem c23_23e : c23_23 = .seq c23_24 c23_25 := by kernel_rfl
theorem c23_24e : c23_24 = .region 7 r23_24 false := by kernel_rfl
theorem c23_25e : c23_25 = .cond (cdC c23_25) c23_26 c23_29 := by kernel_rfl
theorem c23_26e : c23_26 = .seq c23_27 c23_28 := by kernel_rfl
theorem c23_27e : c23_27 = .region 8 r23_27 false := by kernel_rfl
theorem c23_28e : c23_28 = .ret := by kernel_rfl
theorem c23_29e : c23_29 = .skip := by kernel_rfl
theorem c23_30e : c23_30 = .seq c23_31 c23_38 := by kernel_rfl
theorem c23_31e : c23_31 = .seq c23_32 c23_33 := by kernel_rfl
theorem c23_32e : c23_32 = .region 9 r23_32 false := by kernel_rfl
theorem c23_33e : c23_33 = .cond (cdC c23_33) c23_34 c23_37 := by kernel_rfl
theorem c23_34e : c23_34 = .seq c23_35 c23_36 := by kernel_rfl
theorem c23_35e : c23_35 = .region 10 r23_35 false := by kernel_rfl
theorem c23_36e : c23_36 = .ret := by kernel_rfl
theorem c23_37e : c23_37 = .skip := by kernel_rfl
theorem c23_38e : c23_38 = .seq c23_39 c23_46 := by kernel_rfl
theorem c23_39e : c23_39 = .seq c23_40 c23_41 := by kernel_rfl
theorem c23_40e : c23_40 = .region 11 r23_40 true := by kernel_rfl
theorem c23_41e : c23_41 = .cond (cdC c23_41) c23_42 c23_45 := by kernel_rfl
theorem c23_42e : c23_42 = .seq c23_43 c23_44 := by kernel_rfl
theorem c23_43e : c23_43 = .region 12 r23_43 false := by kernel_rfl
theorem c23_44e : c23_44 = .ret := by kernel_rfl
theorem c23_45e : c23_45 = .skip := by kernel_rfl
theorem c23_46e : c23_46 = .seq c23_47 c23_48 := by kernel_rfl
theorem c23_47e : c23_47 = .region 13 r23_47 true := by kernel_rfl
theorem c23_48e : c23_48 = .seq c23_49 c23_54 := by kernel_rfl
theorem c23_49e : c23_49 = .seq c23_50 c23_51 := by kernel_rfl
theorem c23_50e : c23_50 = .region 14 r23_50 false := by kernel_rfl
theorem c23_51e : c23_51 = .cond (cdC c23_51) c23_52 c23_53 := by kernel_rfl
theorem c23_52e : c23_52 = .region 15 r23_52 true := by kernel_rfl
theorem c23_53e : c23_53 = .skip := by kernel_rfl
theorem c23_54e : c23_54 = .seq c23_55 c23_56 := by kernel_rfl
theorem c23_55e : c23_55 = .region 16 r23_55 false := by kernel_rfl
theorem c23_56e : c23_56 = .ret := by kernel_rfl
noncomputable def ledger_Ledger_Ask.R (b_2 : Nat) (A_3 : Option Addr) (c_4 : Nat) (A_5 : Option Addr) (c_6 : Nat) (A_7 : Option Addr) (c_8 : Nat) : Pst (Bool × Int × T_ledger_Ledger) where
  ε := Option Addr × Nat × Option Addr × Nat × Option Addr × Nat
  v := fun r x => .tuple ⟨[.bool r.1, .int .i64 r.2.1]⟩
  H := fun r x => [⟨1, b_2, [.int .u64 r.2.2.fence.Term, .int .u64 r.2.2.fence.Index, .slice x.1 r.2.2.effects.length x.2.1, .map (mA x.2.2.1), .map (mA x.2.2.2.2.1)]⟩]
  B := fun r x => [Ow 2 kT_ledger_Effect x.1 x.2.1 r.2.2.effects, Mp 3 ky41 (fun v => .bool v) x.2.2.1 x.2.2.2.1 r.2.2.said, Mp 4 ky41 (fun v => .bool v) x.2.2.2.2.1 x.2.2.2.2.2 r.2.2.tombs]
noncomputable def ledger_Ledger_Ask.cx (b_2 : Nat) (A_3 : Option Addr) (c_4 : Nat) (A_5 : Option Addr) (c_6 : Nat) (A_7 : Option Addr) (c_8 : Nat) (w0 : World) (S0 : Fam) : Cx (Bool × Int × T_ledger_Ledger) := ⟨Try.prog, 23, Try.f23, 90, w0, S0, [1, 2, 3, 4], 4, ledger_Ledger_Ask.R b_2 A_3 c_4 A_5 c_6 A_7 c_8⟩
theorem ledger_Ledger_Ask_j0_ok (n : Nat) (l_1 : T_ledger_Ledger) (t_9 : T_api_Token) (k_10 : T_api_Key) (name_11 : (List UInt8)) (fail_12 : Bool) (b_2 : Nat) (A_3 : Option Addr) (c_4 : Nat) (A_5 : Option Addr) (c_6 : Nat) (A_7 : Option Addr) (c_8 : Nat) (b_13 : Nat) (b_14 : Nat) (w0 : World) (S0 : Fam) (b_17 : Bool) :
    GoO (ledger_Ledger_Ask.cx b_2 A_3 c_4 A_5 c_6 A_7 c_8 w0 S0) [(0, .pointer (some ⟨b_2, 0, none⟩)), (3, .string (bs name_11)), (4, .bool fail_12), (6, .pointer (some ⟨b_13, 0, none⟩)), (7, .pointer (some ⟨b_14, 0, none⟩)), (30, .bool b_17)] [⟨1, b_2, [.int .u64 l_1.fence.Term, .int .u64 l_1.fence.Index, .slice A_3 l_1.effects.length c_4, .map (mA A_5), .map (mA A_7)]⟩, ⟨40, b_13, [.int .u64 t_9.Term, .int .u64 t_9.Index]⟩, ⟨41, b_14, [.int .u64 k_10.Saga, .int .i64 k_10.Step, .bool k_10.Back]⟩] [Ow 2 kT_ledger_Effect A_3 c_4 l_1.effects, Mp 3 ky41 (fun v => .bool v) A_5 c_6 l_1.said, Mp 4 ky41 (fun v => .bool v) A_7 c_8 l_1.tombs] [.code c23_5, .code c23_10] (ledger_Ledger_Ask.j0 n l_1 t_9 k_10 name_11 fail_12 b_17) := by
  unfold ledger_Ledger_Ask.j0
  refine GoO.ite' c23_5e (by kernel_rfl) (fun h18 => ?_) (fun h18 => ?_)
  · refine GoO.seq' c23_6e ?_
    refine GoO.region' (is := [0, 1]) c23_7e (by kernel_rfl) ?_
    refine GoO.exec (is := [0, 1]) (hs := [.p, .p]) (rest := []) (ks := [10, 11]) (env' := [(10, .bool false), (11, .int .i64 1)]) (H' := [⟨1, b_2, [.int .u64 l_1.fence.Term, .int .u64 l_1.fence.Index, .slice A_3 l_1.effects.length c_4, .map (mA A_5), .map (mA A_7)]⟩, ⟨40, b_13, [.int .u64 t_9.Term, .int .u64 t_9.Index]⟩, ⟨41, b_14, [.int .u64 k_10.Saga, .int .i64 k_10.Step, .bool k_10.Back]⟩]) (ps := []) (by kernel_rfl) trivial ?_
    refine GoO.regionEnd ?_
    exact GoO.ret' (h := c23_8e) (hs := []) (ps := []) (hk := [0]) (bk := [0, 1, 2]) Try.func23 (⟨A_3, c_4, A_5, c_6, A_7, c_8⟩ : Option Addr × Nat × Option Addr × Nat × Option Addr × Nat) (by kernel_rfl) trivial (by kernel_rfl) (by kernel_rfl)
  · refine GoO.skip' c23_9e ?_
    refine GoO.seq' c23_10e ?_
    refine GoO.seq' c23_11e ?_
    refine GoO.draw c23_12e (by kernel_rfl) [] [⟨1, b_2, [.int .u64 l_1.fence.Term, .int .u64 l_1.fence.Index, .slice A_3 l_1.effects.length c_4, .map (mA A_5), .map (mA A_7)]⟩, ⟨40, b_13, [.int .u64 t_9.Term, .int .u64 t_9.Index]⟩] [] (n := 6) (by kernel_rfl) ?_
    simp only [List.replicate]
    refine GoF.take [0, 1, 2, 3, 4] [.b 1, .p, .p, .p, .b 0] (ks := [0, 3, 4, 6, 7, 31, 35]) (fu := 1) (li := [true, true, true, true, true, false]) (env' := [(0, .pointer (some ⟨b_2, 0, none⟩)), (3, .string (bs name_11)), (4, .bool fail_12), (6, .pointer (some ⟨b_13, 0, none⟩)), (7, .pointer (some ⟨b_14, 0, none⟩)), (31, .agg ⟨[.int .u64 t_9.Term, .int .u64 t_9.Index]⟩), (35, .agg ⟨[.int .u64 l_1.fence.Term, .int .u64 l_1.fence.Index]⟩)]) (ps := [b_13 = b_13, b_2 = b_2]) (hk := [0, 1]) (bk := []) (by kernel_rfl) (And.intro rfl (And.intro rfl trivial)) rfl rfl ?_
    refine OpTo.goF (i := 5) (by kernel_rfl) (hk := [0, 1]) (bk := []) (GoO.call rfl (by kernel_rfl) (by kernel_rfl) (ledger_Less_ok n t_9 (⟨l_1.fence.Term, l_1.fence.Index⟩ : T_api_Token)) [[0]] [] [] [] (hks := [0, 1, 2]) (bks := [0, 1, 2]) (by kernel_rfl) (by kernel_rfl) (by kernel_rfl) (.inl rfl) rfl rfl (by kernel_rfl) (by kernel_rfl) _ (fun _ _ => rfl) _ _ (fun _ _ => rfl) (fun _ _ => rfl) (fun _ _ => by kernel_rfl) (fun _ _ => by kernel_rfl) (fun r_19 x_38 => ⟨rfl, rfl, ?_⟩))
    refine GoF.shape (env' := [(0, .pointer (some ⟨b_2, 0, none⟩)), (3, .string (bs name_11)), (4, .bool fail_12), (6, .pointer (some ⟨b_13, 0, none⟩)), (7, .pointer (some ⟨b_14, 0, none⟩)), (31, .agg ⟨[.int .u64 t_9.Term, .int .u64 t_9.Index]⟩), (35, .agg ⟨[.int .u64 l_1.fence.Term, .int .u64 l_1.fence.Index]⟩), (36, .bool r_19)]) (H' := [⟨1, b_2, [.int .u64 l_1.fence.Term, .int .u64 l_1.fence.Index, .slice A_3 l_1.effects.length c_4, .map (mA A_5), .map (mA A_7)]⟩, ⟨40, b_13, [.int .u64 t_9.Term, .int .u64 t_9.Index]⟩, ⟨41, b_14, [.int .u64 k_10.Saga, .int .i64 k_10.Step, .bool k_10.Back]⟩]) (B' := [Ow 2 kT_ledger_Effect A_3 c_4 l_1.effects, Mp 3 ky41 (fun v => .bool v) A_5 c_6 l_1.said, Mp 4 ky41 (fun v => .bool v) A_7 c_8 l_1.tombs]) (ks := [0, 3, 4, 6, 7, 31, 35, 36]) (by kernel_rfl) (by kernel_rfl) (by kernel_rfl) ?_
    refine GoF.done (by kernel_rfl) ?_
    refine GoO.ite' c23_13e (by kernel_rfl) (fun h20 => ?_) (fun h20 => ?_)
    · refine GoO.seq' c23_14e ?_
      refine GoO.region' (is := [0, 1]) c23_15e (by kernel_rfl) ?_
      refine GoO.exec (is := [0, 1]) (hs := [.p, .p]) (rest := []) (ks := [10, 11]) (env' := [(10, .bool false), (11, .int .i64 50)]) (H' := [⟨1, b_2, [.int .u64 l_1.fence.Term, .int .u64 l_1.fence.Index, .slice A_3 l_1.effects.length c_4, .map (mA A_5), .map (mA A_7)]⟩, ⟨40, b_13, [.int .u64 t_9.Term, .int .u64 t_9.Index]⟩, ⟨41, b_14, [.int .u64 k_10.Saga, .int .i64 k_10.Step, .bool k_10.Back]⟩]) (ps := []) (by kernel_rfl) trivial ?_
      refine GoO.regionEnd ?_
      exact GoO.ret' (h := c23_16e) (hs := []) (ps := []) (hk := [0]) (bk := [0, 1, 2]) Try.func23 (⟨A_3, c_4, A_5, c_6, A_7, c_8⟩ : Option Addr × Nat × Option Addr × Nat × Option Addr × Nat) (by kernel_rfl) trivial (by kernel_rfl) (by kernel_rfl)
    · refine GoO.skip' c23_17e ?_
      refine GoO.seq' c23_18e ?_
      refine GoO.region' (is := [0, 1, 2, 3, 4]) c23_19e (by kernel_rfl) ?_
      refine GoO.exec (is := [0, 1, 2, 3, 4]) (hs := [.p, .b 1, .p, .p, .b 0]) (rest := []) (ks := [0, 3, 4, 7]) (env' := [(0, .pointer (some ⟨b_2, 0, none⟩)), (3, .string (bs name_11)), (4, .bool fail_12), (7, .pointer (some ⟨b_14, 0, none⟩))]) (H' := [⟨1, b_2, [.int .u64 t_9.Term, .int .u64 t_9.Index, .slice A_3 l_1.effects.length c_4, .map (mA A_5), .map (mA A_7)]⟩, ⟨40, b_13, [.int .u64 t_9.Term, .int .u64 t_9.Index]⟩, ⟨41, b_14, [.int .u64 k_10.Saga, .int .i64 k_10.Step, .bool k_10.Back]⟩]) (ps := [b_13 = b_13, b_2 = b_2]) (by kernel_rfl) (And.intro rfl (And.intro rfl trivial)) ?_
      refine GoO.regionEnd ?_
      refine GoO.seq' c23_20e ?_
      refine GoO.seq' c23_21e ?_
      refine GoO.draw c23_22e (by kernel_rfl) [10] [⟨1, b_2, [.int .u64 t_9.Term, .int .u64 t_9.Index, .slice A_3 l_1.effects.length c_4, .map (mA A_5), .map (mA A_7)]⟩, ⟨41, b_14, [.int .u64 k_10.Saga, .int .i64 k_10.Step, .bool k_10.Back]⟩] [Mp 3 ky41 (fun v => .bool v) A_5 c_6 l_1.said] (n := 11) (by kernel_rfl) ?_
      simp only [List.replicate]
      refine GoF.take [0, 1, 2, 3, 4] [.p, .p, .p, .b 0, .b 1] (ks := [0, 3, 4, 7, 45, 46]) (fu := 6) (li := [true, true, true, true, true, false, false, false, false, false, false]) (env' := [(0, .pointer (some ⟨b_2, 0, none⟩)), (3, .string (bs name_11)), (4, .bool fail_12), (7, .pointer (some ⟨b_14, 0, none⟩)), (45, .map (mA A_5)), (46, .agg ⟨[.int .u64 k_10.Saga, .int .i64 k_10.Step, .bool k_10.Back]⟩)]) (ps := [b_2 = b_2, b_14 = b_14]) (hk := [0, 2]) (bk := [1]) (by kernel_rfl) (And.intro rfl (And.intro rfl trivial)) rfl rfl ?_
      refine OpTo.goF (i := 5) (by kernel_rfl) (hk := [0, 2]) (bk := [1]) (GoO.mapLk (vt := 4) (K := ky41) (ev := (fun v => .bool v)) (A := A_5) (c := c_6) (l := l_1.said) (key := k_10) (j := 1) rfl (by kernel_rfl) (by kernel_rfl) (by kernel_rfl) rfl false (fun _ => by kernel_rfl) rfl ⟨rfl, rfl, ?_⟩)
      refine GoF.take [6, 7, 8, 9] [.p, .p, .p, .p] (ks := [0, 3, 4, 7, 12, 49]) (fu := 1) (li := [true, true, true, true, true, true, true, true, true, true, false]) (env' := [(0, .pointer (some ⟨b_2, 0, none⟩)), (3, .string (bs name_11)), (4, .bool fail_12), (7, .pointer (some ⟨b_14, 0, none⟩)), (12, .bool ((getA k_10 l_1.said).getD false)), (49, .bool ((getA k_10 l_1.said).isSome))]) (ps := []) (hk := [0, 2]) (bk := [1]) (by kernel_rfl) trivial rfl rfl ?_
      refine GoF.fin1 (i := 10) (hint := .p) (ps := []) (hk := []) (bk := []) (by kernel_rfl) rfl trivial (.inl rfl) ?_
      refine GoF.done (by kernel_rfl) ?_
      refine GoO.seq' c23_23e ?_
      refine GoO.region' (is := [0]) c23_24e (by kernel_rfl) ?_
      refine GoO.exec (is := [0]) (hs := [.p]) (rest := []) (ks := [0, 3, 4, 7, 12, 50]) (env' := [(0, .pointer (some ⟨b_2, 0, none⟩)), (3, .string (bs name_11)), (4, .bool fail_12), (7, .pointer (some ⟨b_14, 0, none⟩)), (12, .bool ((getA k_10 l_1.said).getD false)), (50, .bool ((getA k_10 l_1.said).isSome))]) (H' := [⟨1, b_2, [.int .u64 t_9.Term, .int .u64 t_9.Index, .slice A_3 l_1.effects.length c_4, .map (mA A_5), .map (mA A_7)]⟩, ⟨40, b_13, [.int .u64 t_9.Term, .int .u64 t_9.Index]⟩, ⟨41, b_14, [.int .u64 k_10.Saga, .int .i64 k_10.Step, .bool k_10.Back]⟩]) (ps := []) (by kernel_rfl) trivial ?_
      refine GoO.regionEnd ?_
      refine GoO.ite' c23_25e (by kernel_rfl) (fun h21 => ?_) (fun h21 => ?_)
      · refine GoO.seq' c23_26e ?_
        refine GoO.region' (is := [0, 1, 2]) c23_27e (by kernel_rfl) ?_
        refine GoO.exec (is := [0, 1, 2]) (hs := [.p, .p, .p]) (rest := []) (ks := [10, 11]) (env' := [(10, .bool ((getA k_10 l_1.said).getD false)), (11, .int .i64 0)]) (H' := [⟨1, b_2, [.int .u64 t_9.Term, .int .u64 t_9.Index, .slice A_3 l_1.effects.length c_4, .map (mA A_5), .map (mA A_7)]⟩, ⟨40, b_13, [.int .u64 t_9.Term, .int .u64 t_9.Index]⟩, ⟨41, b_14, [.int .u64 k_10.Saga, .int .i64 k_10.Step, .bool k_10.Back]⟩]) (ps := []) (by kernel_rfl) trivial ?_
        refine GoO.regionEnd ?_
        exact GoO.ret' (h := c23_28e) (hs := []) (ps := []) (hk := [0]) (bk := [0, 1, 2]) Try.func23 (⟨A_3, c_4, A_5, c_6, A_7, c_8⟩ : Option Addr × Nat × Option Addr × Nat × Option Addr × Nat) (by kernel_rfl) trivial (by kernel_rfl) (by kernel_rfl)
      · refine GoO.skip' c23_29e ?_
        refine GoO.seq' c23_30e ?_
        refine GoO.seq' c23_31e ?_
        refine GoO.region' (is := [0, 1]) c23_32e (by kernel_rfl) ?_
        refine GoO.exec (is := [0, 1]) (hs := [.p, .b 2]) (rest := []) (ks := [0, 3, 4, 7, 53]) (env' := [(0, .pointer (some ⟨b_2, 0, none⟩)), (3, .string (bs name_11)), (4, .bool fail_12), (7, .pointer (some ⟨b_14, 0, none⟩)), (53, .bool k_10.Back)]) (H' := [⟨1, b_2, [.int .u64 t_9.Term, .int .u64 t_9.Index, .slice A_3 l_1.effects.length c_4, .map (mA A_5), .map (mA A_7)]⟩, ⟨40, b_13, [.int .u64 t_9.Term, .int .u64 t_9.Index]⟩, ⟨41, b_14, [.int .u64 k_10.Saga, .int .i64 k_10.Step, .bool k_10.Back]⟩]) (ps := [b_14 = b_14]) (by kernel_rfl) (And.intro rfl trivial) ?_
        refine GoO.regionEnd ?_
        refine GoO.ite' c23_33e (by kernel_rfl) (fun h22 => ?_) (fun h22 => ?_)
        · refine GoO.seq' c23_34e ?_
          refine GoO.region' (is := [0, 1, 2, 3, 4, 5, 6, 7, 8]) c23_35e (by kernel_rfl) ?_
          refine GoO.exec (is := [0, 1, 2, 3]) (hs := [.p, .b 2, .p, .p]) (rest := [4, 5, 6, 7, 8]) (ks := [54, 55, 56, 57]) (env' := [(54, .pointer (some ⟨b_2, 0, none⟩)), (55, .agg ⟨[.int .u64 k_10.Saga, .int .i64 k_10.Step, .bool k_10.Back]⟩), (56, .string (bs name_11)), (57, .bool fail_12)]) (H' := [⟨1, b_2, [.int .u64 t_9.Term, .int .u64 t_9.Index, .slice A_3 l_1.effects.length c_4, .map (mA A_5), .map (mA A_7)]⟩, ⟨40, b_13, [.int .u64 t_9.Term, .int .u64 t_9.Index]⟩, ⟨41, b_14, [.int .u64 k_10.Saga, .int .i64 k_10.Step, .bool k_10.Back]⟩]) (ps := [b_14 = b_14]) (by kernel_rfl) (And.intro rfl trivial) ?_
          refine OpTo.go (GoO.call rfl (by kernel_rfl) (by kernel_rfl) (ledger_Ledger_undo_ok n (⟨t_9, l_1.effects, l_1.said, l_1.tombs⟩ : T_ledger_Ledger) k_10 name_11 fail_12 b_2 A_3 c_4 A_5 c_6 A_7 c_8) [[0], [1], [2], [3], [4]] [(1, 1), (2, 2), (3, 3), (4, 4)] [(1, 0)] [(2, 0), (3, 1), (4, 2)] (hks := [1, 2]) (bks := []) (by kernel_rfl) (by kernel_rfl) (by kernel_rfl) (.inl rfl) rfl rfl (by kernel_rfl) (by kernel_rfl) _ (fun _ _ => rfl) _ _ (fun _ _ => rfl) (fun _ _ => rfl) (fun _ _ => by kernel_rfl) (fun _ _ => by kernel_rfl) (fun r_23 x_30 => ?_))
          obtain ⟨A_24, c_25, A_26, c_27, A_28, c_29⟩ := x_30
          refine GoO.shape (env' := [(54, .pointer (some ⟨b_2, 0, none⟩)), (55, .agg ⟨[.int .u64 k_10.Saga, .int .i64 k_10.Step, .bool k_10.Back]⟩), (56, .string (bs name_11)), (57, .bool fail_12), (58, .tuple ⟨[.bool r_23.1, .int .i64 r_23.2.1]⟩)]) (H' := [⟨1, b_2, [.int .u64 r_23.2.2.fence.Term, .int .u64 r_23.2.2.fence.Index, .slice A_24 r_23.2.2.effects.length c_25, .map (mA A_26), .map (mA A_28)]⟩, ⟨40, b_13, [.int .u64 t_9.Term, .int .u64 t_9.Index]⟩, ⟨41, b_14, [.int .u64 k_10.Saga, .int .i64 k_10.Step, .bool k_10.Back]⟩]) (B' := [Ow 2 kT_ledger_Effect A_24 c_25 r_23.2.2.effects, Mp 3 ky41 (fun v => .bool v) A_26 c_27 r_23.2.2.said, Mp 4 ky41 (fun v => .bool v) A_28 c_29 r_23.2.2.tombs]) (ks := [54, 55, 56, 57, 58]) (by kernel_rfl) (by kernel_rfl) (by kernel_rfl) ?_
          refine GoO.exec (is := [5, 6, 7, 8]) (hs := [.p, .p, .p, .p]) (rest := []) (ks := [10, 11]) (env' := [(10, .bool r_23.1), (11, .int .i64 r_23.2.1)]) (H' := [⟨1, b_2, [.int .u64 r_23.2.2.fence.Term, .int .u64 r_23.2.2.fence.Index, .slice A_24 r_23.2.2.effects.length c_25, .map (mA A_26), .map (mA A_28)]⟩, ⟨40, b_13, [.int .u64 t_9.Term, .int .u64 t_9.Index]⟩, ⟨41, b_14, [.int .u64 k_10.Saga, .int .i64 k_10.Step, .bool k_10.Back]⟩]) (ps := []) (by kernel_rfl) trivial ?_
          refine GoO.regionEnd ?_
          exact GoO.ret' (h := c23_36e) (hs := []) (ps := []) (hk := [0]) (bk := [0, 1, 2]) Try.func23 (⟨A_24, c_25, A_26, c_27, A_28, c_29⟩ : Option Addr × Nat × Option Addr × Nat × Option Addr × Nat) (by kernel_rfl) trivial (by kernel_rfl) (by kernel_rfl)
        · refine GoO.skip' c23_37e ?_
          refine GoO.seq' c23_38e ?_
          refine GoO.seq' c23_39e ?_
          refine GoO.draw c23_40e (by kernel_rfl) [] [⟨1, b_2, [.int .u64 t_9.Term, .int .u64 t_9.Index, .slice A_3 l_1.effects.length c_4, .map (mA A_5), .map (mA A_7)]⟩, ⟨41, b_14, [.int .u64 k_10.Saga, .int .i64 k_10.Step, .bool k_10.Back]⟩] [Mp 4 ky41 (fun v => .bool v) A_7 c_8 l_1.tombs] (n := 6) (by kernel_rfl) ?_
          simp only [List.replicate]
          refine GoF.take [0, 1, 2, 3, 4] [.p, .p, .p, .b 0, .b 1] (ks := [0, 3, 4, 7, 64, 65]) (fu := 1) (li := [true, true, true, true, true, false]) (env' := [(0, .pointer (some ⟨b_2, 0, none⟩)), (3, .string (bs name_11)), (4, .bool fail_12), (7, .pointer (some ⟨b_14, 0, none⟩)), (64, .map (mA A_7)), (65, .agg ⟨[.int .u64 k_10.Saga, .int .i64 k_10.Step, .bool k_10.Back]⟩)]) (ps := [b_2 = b_2, b_14 = b_14]) (hk := [0, 2]) (bk := [2]) (by kernel_rfl) (And.intro rfl (And.intro rfl trivial)) rfl rfl ?_
          refine OpTo.goF (i := 5) (by kernel_rfl) (hk := [0, 2]) (bk := [2]) (GoO.mapLk (vt := 4) (K := ky41) (ev := (fun v => .bool v)) (A := A_7) (c := c_8) (l := l_1.tombs) (key := k_10) (j := 2) rfl (by kernel_rfl) (by kernel_rfl) (by kernel_rfl) rfl false (fun _ => by kernel_rfl) rfl ⟨rfl, rfl, ?_⟩)
          refine GoF.done (by kernel_rfl) ?_
          refine GoO.ite' c23_41e (by kernel_rfl) (fun h31 => ?_) (fun h31 => ?_)
          · refine GoO.seq' c23_42e ?_
            refine GoO.region' (is := [0, 1]) c23_43e (by kernel_rfl) ?_
            refine GoO.exec (is := [0, 1]) (hs := [.p, .p]) (rest := []) (ks := [10, 11]) (env' := [(10, .bool false), (11, .int .i64 51)]) (H' := [⟨1, b_2, [.int .u64 t_9.Term, .int .u64 t_9.Index, .slice A_3 l_1.effects.length c_4, .map (mA A_5), .map (mA A_7)]⟩, ⟨40, b_13, [.int .u64 t_9.Term, .int .u64 t_9.Index]⟩, ⟨41, b_14, [.int .u64 k_10.Saga, .int .i64 k_10.Step, .bool k_10.Back]⟩]) (ps := []) (by kernel_rfl) trivial ?_
            refine GoO.regionEnd ?_
            exact GoO.ret' (h := c23_44e) (hs := []) (ps := []) (hk := [0]) (bk := [0, 1, 2]) Try.func23 (⟨A_3, c_4, A_5, c_6, A_7, c_8⟩ : Option Addr × Nat × Option Addr × Nat × Option Addr × Nat) (by kernel_rfl) trivial (by kernel_rfl) (by kernel_rfl)
          · refine GoO.skip' c23_45e ?_
            refine GoO.seq' c23_46e ?_
            refine GoO.draw c23_47e (by kernel_rfl) [7] [⟨1, b_2, [.int .u64 t_9.Term, .int .u64 t_9.Index, .slice A_3 l_1.effects.length c_4, .map (mA A_5), .map (mA A_7)]⟩, ⟨41, b_14, [.int .u64 k_10.Saga, .int .i64 k_10.Step, .bool k_10.Back]⟩] [] (n := 8) (by kernel_rfl) ?_
            simp only [List.replicate]
            refine GoF.take [0, 1, 2, 3, 4, 5, 6] [.p, .p, .p, .b 0, .b 1, .p, .p] (ks := [0, 3, 4, 7, 70, 71, 73]) (fu := 1) (li := [true, true, true, true, true, true, true, false]) (env' := [(0, .pointer (some ⟨b_2, 0, none⟩)), (3, .string (bs name_11)), (4, .bool fail_12), (7, .pointer (some ⟨b_14, 0, none⟩)), (70, .map (mA A_5)), (71, .agg ⟨[.int .u64 k_10.Saga, .int .i64 k_10.Step, .bool k_10.Back]⟩), (73, .bool (!fail_12))]) (ps := [b_2 = b_2, b_14 = b_14]) (hk := [0, 2]) (bk := []) (by kernel_rfl) (And.intro rfl (And.intro rfl trivial)) rfl rfl ?_
            refine OpTo.goE (i := 7) (by kernel_rfl) rfl (GoO.mapUp (vt := 4) (K := ky41) (ev := (fun v => .bool v)) (A := A_5) (c := c_6) (tg := 3) (l := l_1.said) (key := k_10) (v := (!fail_12)) (j := 1) rfl (by kernel_rfl) (by kernel_rfl) (by kernel_rfl) (by kernel_rfl) rfl (by kernel_rfl) (by kernel_rfl) (by kernel_rfl) rfl ?_)
            refine GoF.done (by kernel_rfl) ?_
            refine GoO.seq' c23_48e ?_
            refine GoO.seq' c23_49e ?_
            refine GoO.region' (is := [0, 1]) c23_50e (by kernel_rfl) ?_
            refine GoO.exec (is := [0, 1]) (hs := [.p, .p]) (rest := []) (ks := [0, 3, 4, 7, 75]) (env' := [(0, .pointer (some ⟨b_2, 0, none⟩)), (3, .string (bs name_11)), (4, .bool fail_12), (7, .pointer (some ⟨b_14, 0, none⟩)), (75, .bool (!fail_12))]) (H' := [⟨1, b_2, [.int .u64 t_9.Term, .int .u64 t_9.Index, .slice A_3 l_1.effects.length c_4, .map (mA A_5), .map (mA A_7)]⟩, ⟨40, b_13, [.int .u64 t_9.Term, .int .u64 t_9.Index]⟩, ⟨41, b_14, [.int .u64 k_10.Saga, .int .i64 k_10.Step, .bool k_10.Back]⟩]) (ps := []) (by kernel_rfl) trivial ?_
            refine GoO.regionEnd ?_
            refine GoO.ite' c23_51e (by kernel_rfl) (fun h32 => ?_) (fun h32 => ?_)
            · refine GoO.draw c23_52e (by kernel_rfl) [10, 11, 12] [⟨1, b_2, [.int .u64 t_9.Term, .int .u64 t_9.Index, .slice A_3 l_1.effects.length c_4, .map (mA A_5), .map (mA A_7)]⟩, ⟨41, b_14, [.int .u64 k_10.Saga, .int .i64 k_10.Step, .bool k_10.Back]⟩] [] (n := 13) (by kernel_rfl) ?_
              simp only [List.replicate]
              refine GoF.take [0, 1, 2, 3, 4, 5, 6, 7] [.p, .p, .p, .p, .b 0, .b 1, .p, .p] (ks := [4, 76, 80, 83]) (fu := 5) (li := [true, true, true, true, true, true, true, true, false, false, false, false, false]) (env' := [(4, .bool fail_12), (76, .pointer (some ⟨b_2, 0, none⟩)), (80, .slice A_3 l_1.effects.length c_4), (83, .agg ⟨[.int .u64 k_10.Saga, .int .i64 k_10.Step, .bool k_10.Back, .string (bs name_11)]⟩)]) (ps := [b_2 = b_2, b_14 = b_14]) (hk := [0, 2]) (bk := []) (by kernel_rfl) (And.intro rfl (And.intro rfl trivial)) rfl rfl ?_
              refine OpTo.goF (i := 8) (by kernel_rfl) (hk := [0, 2]) (bk := []) (GoO.lit (e := 56) (K := kT_ledger_Effect) rfl (by kernel_rfl) (by kernel_rfl) (cs := [.int .u64 k_10.Saga, .int .i64 k_10.Step, .bool k_10.Back, .string (bs name_11)]) (by kernel_rfl) [(⟨k_10, name_11⟩ : T_ledger_Effect)] (by kernel_rfl) (by kernel_rfl) (fun w S hB => ⟨[.int .u64 k_10.Saga, .int .i64 k_10.Step, .bool k_10.Back, .string (bs name_11)], _, rfl, rfl, rfl⟩) 42 _ (fun _ _ => rfl) (fun A_33 c_34 => ⟨rfl, rfl, ?_⟩))
              refine GoF.guard (fun h35 => ?_)
              refine OpTo.goF (i := 9) (by kernel_rfl) (hk := [0, 2]) (bk := []) (GoO.appW (e := 56) (K := kT_ledger_Effect) (A := A_3) (c := c_4) (tg := 2) (bytes := 40) (zs := [.int .u64 0, .int .i64 0, .bool false, .string (bs [])]) (xs := l_1.effects) (ys := [(⟨k_10, name_11⟩ : T_ledger_Effect)]) (xv := .slice A_33 [(⟨k_10, name_11⟩ : T_ledger_Effect)].length c_34) (j := 1) (bk := [0, 2, 3]) rfl (by kernel_rfl) (by kernel_rfl) (by kernel_rfl) (by kernel_rfl) rfl (by kernel_rfl) rfl (fun w S hB => SrcIs.row (Reads.own w S (hB _ (List.mem_of_getElem? (i := 0) rfl)))) h35 rfl rfl rfl rfl _ (fun _ _ => rfl) (fun A_36 c_37 => ⟨rfl, rfl, ?_⟩))
              refine GoF.fin1 (i := 10) (hint := .p) (ps := []) (hk := []) (bk := []) (by kernel_rfl) rfl trivial (.inl rfl) ?_
              refine GoF.fin1 (i := 11) (hint := .p) (ps := []) (hk := []) (bk := []) (by kernel_rfl) rfl trivial (.inl rfl) ?_
              refine GoF.fin1 (i := 12) (hint := .b 0) (ps := [b_2 = b_2]) (hk := []) (bk := []) (by kernel_rfl) rfl (And.intro rfl trivial) (.inl rfl) ?_
              refine GoF.done (by kernel_rfl) ?_
              refine GoO.seq' c23_54e ?_
              refine GoO.region' (is := [0, 1, 2, 3]) c23_55e (by kernel_rfl) ?_
              refine GoO.exec (is := [0, 1, 2, 3]) (hs := [.p, .p, .p, .p]) (rest := []) (ks := [10, 11]) (env' := [(10, .bool (!fail_12)), (11, .int .i64 0)]) (H' := [⟨1, b_2, [.int .u64 t_9.Term, .int .u64 t_9.Index, .slice A_36 (l_1.effects ++ [(⟨k_10, name_11⟩ : T_ledger_Effect)]).length c_37, .map (mA A_5), .map (mA A_7)]⟩, ⟨40, b_13, [.int .u64 t_9.Term, .int .u64 t_9.Index]⟩, ⟨41, b_14, [.int .u64 k_10.Saga, .int .i64 k_10.Step, .bool k_10.Back]⟩]) (ps := []) (by kernel_rfl) trivial ?_
              refine GoO.regionEnd ?_
              exact GoO.ret' (h := c23_56e) (hs := []) (ps := []) (hk := [0]) (bk := [0, 2, 3]) Try.func23 (⟨A_36, c_37, A_5, c_6, A_7, c_8⟩ : Option Addr × Nat × Option Addr × Nat × Option Addr × Nat) (by kernel_rfl) trivial (by kernel_rfl) (by kernel_rfl)
            · refine GoO.skip' c23_53e ?_
              refine GoO.seq' c23_54e ?_
              refine GoO.region' (is := [0, 1, 2, 3]) c23_55e (by kernel_rfl) ?_
              refine GoO.exec (is := [0, 1, 2, 3]) (hs := [.p, .p, .p, .p]) (rest := []) (ks := [10, 11]) (env' := [(10, .bool (!fail_12)), (11, .int .i64 0)]) (H' := [⟨1, b_2, [.int .u64 t_9.Term, .int .u64 t_9.Index, .slice A_3 l_1.effects.length c_4, .map (mA A_5), .map (mA A_7)]⟩, ⟨40, b_13, [.int .u64 t_9.Term, .int .u64 t_9.Index]⟩, ⟨41, b_14, [.int .u64 k_10.Saga, .int .i64 k_10.Step, .bool k_10.Back]⟩]) (ps := []) (by kernel_rfl) trivial ?_
              refine GoO.regionEnd ?_
              exact GoO.ret' (h := c23_56e) (hs := []) (ps := []) (hk := [0]) (bk := [0, 1, 2]) Try.func23 (⟨A_3, c_4, A_5, c_6, A_7, c_8⟩ : Option Addr × Nat × Option Addr × Nat × Option Addr × Nat) (by kernel_rfl) trivial (by kernel_rfl) (by kernel_rfl)
theorem ledger_Ledger_Ask_ok (n : Nat) (l_1 : T_ledger_Ledger) (t_9 : T_api_Token) (k_10 : T_api_Key) (name_11 : (List UInt8)) (fail_12 : Bool) (b_2 : Nat) (A_3 : Option Addr) (c_4 : Nat) (A_5 : Option Addr) (c_6 : Nat) (A_7 : Option Addr) (c_8 : Nat) :
    Meets Try.prog 23 [.pointer (some ⟨b_2, 0, none⟩), .agg ⟨[.int .u64 t_9.Term, .int .u64 t_9.Index]⟩, .agg ⟨[.int .u64 k_10.Saga, .int .i64 k_10.Step, .bool k_10.Back]⟩, .string (bs name_11), .bool fail_12] 4 [1, 2, 3, 4] [⟨1, b_2, [.int .u64 l_1.fence.Term, .int .u64 l_1.fence.Index, .slice A_3 l_1.effects.length c_4, .map (mA A_5), .map (mA A_7)]⟩] [Ow 2 kT_ledger_Effect A_3 c_4 l_1.effects, Mp 3 ky41 (fun v => .bool v) A_5 c_6 l_1.said, Mp 4 ky41 (fun v => .bool v) A_7 c_8 l_1.tombs] (ledger_Ledger_Ask.f n l_1 t_9 k_10 name_11 fail_12) (ledger_Ledger_Ask.R b_2 A_3 c_4 A_5 c_6 A_7 c_8) := by
  refine Meets.of (c := c23_0) (n := 90) Try.func23 (by kernel_rfl) (by kernel_rfl) (by kernel_rfl) fun w0 S0 => ?_
  unfold ledger_Ledger_Ask.f
  show GoO (ledger_Ledger_Ask.cx b_2 A_3 c_4 A_5 c_6 A_7 c_8 w0 S0) [(0, .pointer (some ⟨b_2, 0, none⟩)), (1, .agg ⟨[.int .u64 t_9.Term, .int .u64 t_9.Index]⟩), (2, .agg ⟨[.int .u64 k_10.Saga, .int .i64 k_10.Step, .bool k_10.Back]⟩), (3, .string (bs name_11)), (4, .bool fail_12)] [⟨1, b_2, [.int .u64 l_1.fence.Term, .int .u64 l_1.fence.Index, .slice A_3 l_1.effects.length c_4, .map (mA A_5), .map (mA A_7)]⟩] [Ow 2 kT_ledger_Effect A_3 c_4 l_1.effects, Mp 3 ky41 (fun v => .bool v) A_5 c_6 l_1.said, Mp 4 ky41 (fun v => .bool v) A_7 c_8 l_1.tombs] [.code c23_0] _
  refine GoO.seq' c23_0e ?_
  refine GoO.region' (is := [0, 1, 2, 3]) c23_1e (by kernel_rfl) ?_
  refine OpTo.go (GoO.new rfl 40 (cs := [.int .u64 t_9.Term, .int .u64 t_9.Index]) (by kernel_rfl) _ (fun _ => rfl) (fun b_13 => ?_))
  refine OpTo.go (GoO.new rfl 41 (cs := [.int .u64 k_10.Saga, .int .i64 k_10.Step, .bool k_10.Back]) (by kernel_rfl) _ (fun _ => rfl) (fun b_14 => ?_))
  refine GoO.exec (is := [2, 3]) (hs := [.p, .p]) (rest := []) (ks := [0, 3, 4, 6, 7]) (env' := [(0, .pointer (some ⟨b_2, 0, none⟩)), (3, .string (bs name_11)), (4, .bool fail_12), (6, .pointer (some ⟨b_13, 0, none⟩)), (7, .pointer (some ⟨b_14, 0, none⟩))]) (H' := [⟨41, b_14, [.int .u64 k_10.Saga, .int .i64 k_10.Step, .bool k_10.Back]⟩, ⟨40, b_13, [.int .u64 t_9.Term, .int .u64 t_9.Index]⟩, ⟨1, b_2, [.int .u64 l_1.fence.Term, .int .u64 l_1.fence.Index, .slice A_3 l_1.effects.length c_4, .map (mA A_5), .map (mA A_7)]⟩]) (ps := []) (by kernel_rfl) trivial ?_
  refine GoO.regionEnd ?_
  refine GoO.seq' c23_2e ?_
  refine GoO.seq' c23_3e ?_
  refine GoO.region' (is := [0, 1, 2, 3, 4, 5, 6, 7, 8, 9, 10, 11, 12, 13, 14, 15, 16]) c23_4e (by kernel_rfl) ?_
  refine GoO.exec (is := [0, 1, 2, 3, 4, 5, 6, 7]) (hs := [.p, .p, .p, .p, .b 0, .p, .p, .p]) (rest := [8, 9, 10, 11, 12, 13, 14, 15, 16]) (ks := [0, 3, 4, 6, 7, 21]) (env' := [(0, .pointer (some ⟨b_2, 0, none⟩)), (3, .string (bs name_11)), (4, .bool fail_12), (6, .pointer (some ⟨b_13, 0, none⟩)), (7, .pointer (some ⟨b_14, 0, none⟩)), (21, .bool (decide (k_10.Step < 0)))]) (H' := [⟨41, b_14, [.int .u64 k_10.Saga, .int .i64 k_10.Step, .bool k_10.Back]⟩, ⟨40, b_13, [.int .u64 t_9.Term, .int .u64 t_9.Index]⟩, ⟨1, b_2, [.int .u64 l_1.fence.Term, .int .u64 l_1.fence.Index, .slice A_3 l_1.effects.length c_4, .map (mA A_5), .map (mA A_7)]⟩]) (ps := [b_14 = b_14]) (by kernel_rfl) (And.intro rfl trivial) ?_
  refine GoO.bsplit (t := 21) (by kernel_rfl) (fun h15 => ?_) (fun h15 => ?_)
  · refine GoO.exec (is := [8, 9, 10, 11, 12, 13, 14, 15, 16]) (hs := [.p, .p, .p, .p, .p, .p, .p, .p, .p]) (rest := []) (ks := [0, 3, 4, 6, 7, 30]) (env' := [(0, .pointer (some ⟨b_2, 0, none⟩)), (3, .string (bs name_11)), (4, .bool fail_12), (6, .pointer (some ⟨b_13, 0, none⟩)), (7, .pointer (some ⟨b_14, 0, none⟩)), (30, .bool true)]) (H' := [⟨41, b_14, [.int .u64 k_10.Saga, .int .i64 k_10.Step, .bool k_10.Back]⟩, ⟨40, b_13, [.int .u64 t_9.Term, .int .u64 t_9.Index]⟩, ⟨1, b_2, [.int .u64 l_1.fence.Term, .int .u64 l_1.fence.Index, .slice A_3 l_1.effects.length c_4, .map (mA A_5), .map (mA A_7)]⟩]) (ps := []) (by kernel_rfl) trivial ?_
    refine GoO.regionEnd ?_
    exact GoO.sub (ks := [0, 3, 4, 6, 7, 30]) (hk := [2, 1, 0]) (bk := [0, 1, 2]) (by kernel_rfl) (by kernel_rfl) (by kernel_rfl) (ledger_Ledger_Ask_j0_ok n l_1 t_9 k_10 name_11 fail_12 b_2 A_3 c_4 A_5 c_6 A_7 c_8 b_13 b_14 w0 S0 true)
  · refine GoO.exec (is := [8, 9, 10, 11, 12]) (hs := [.p, .b 0, .p, .p, .p]) (rest := [13, 14, 15, 16]) (ks := [0, 3, 4, 6, 7, 26]) (env' := [(0, .pointer (some ⟨b_2, 0, none⟩)), (3, .string (bs name_11)), (4, .bool fail_12), (6, .pointer (some ⟨b_13, 0, none⟩)), (7, .pointer (some ⟨b_14, 0, none⟩)), (26, .bool (decide (k_10.Step ≥ 64)))]) (H' := [⟨41, b_14, [.int .u64 k_10.Saga, .int .i64 k_10.Step, .bool k_10.Back]⟩, ⟨40, b_13, [.int .u64 t_9.Term, .int .u64 t_9.Index]⟩, ⟨1, b_2, [.int .u64 l_1.fence.Term, .int .u64 l_1.fence.Index, .slice A_3 l_1.effects.length c_4, .map (mA A_5), .map (mA A_7)]⟩]) (ps := [b_14 = b_14]) (by kernel_rfl) (And.intro rfl trivial) ?_
    refine GoO.bsplit (t := 26) (by kernel_rfl) (fun h16 => ?_) (fun h16 => ?_)
    · refine GoO.exec (is := [13, 14, 15, 16]) (hs := [.p, .p, .p, .p]) (rest := []) (ks := [0, 3, 4, 6, 7, 30]) (env' := [(0, .pointer (some ⟨b_2, 0, none⟩)), (3, .string (bs name_11)), (4, .bool fail_12), (6, .pointer (some ⟨b_13, 0, none⟩)), (7, .pointer (some ⟨b_14, 0, none⟩)), (30, .bool true)]) (H' := [⟨41, b_14, [.int .u64 k_10.Saga, .int .i64 k_10.Step, .bool k_10.Back]⟩, ⟨40, b_13, [.int .u64 t_9.Term, .int .u64 t_9.Index]⟩, ⟨1, b_2, [.int .u64 l_1.fence.Term, .int .u64 l_1.fence.Index, .slice A_3 l_1.effects.length c_4, .map (mA A_5), .map (mA A_7)]⟩]) (ps := []) (by kernel_rfl) trivial ?_
      refine GoO.regionEnd ?_
      exact GoO.sub (ks := [0, 3, 4, 6, 7, 30]) (hk := [2, 1, 0]) (bk := [0, 1, 2]) (by kernel_rfl) (by kernel_rfl) (by kernel_rfl) (ledger_Ledger_Ask_j0_ok n l_1 t_9 k_10 name_11 fail_12 b_2 A_3 c_4 A_5 c_6 A_7 c_8 b_13 b_14 w0 S0 true)
    · refine GoO.exec (is := [13, 14, 15, 16]) (hs := [.p, .p, .p, .p]) (rest := []) (ks := [0, 3, 4, 6, 7, 30]) (env' := [(0, .pointer (some ⟨b_2, 0, none⟩)), (3, .string (bs name_11)), (4, .bool fail_12), (6, .pointer (some ⟨b_13, 0, none⟩)), (7, .pointer (some ⟨b_14, 0, none⟩)), (30, .bool (decide ((name_11.length : Int) > 16)))]) (H' := [⟨41, b_14, [.int .u64 k_10.Saga, .int .i64 k_10.Step, .bool k_10.Back]⟩, ⟨40, b_13, [.int .u64 t_9.Term, .int .u64 t_9.Index]⟩, ⟨1, b_2, [.int .u64 l_1.fence.Term, .int .u64 l_1.fence.Index, .slice A_3 l_1.effects.length c_4, .map (mA A_5), .map (mA A_7)]⟩]) (ps := []) (by kernel_rfl) trivial ?_
      refine GoO.regionEnd ?_
      exact GoO.sub (ks := [0, 3, 4, 6, 7, 30]) (hk := [2, 1, 0]) (bk := [0, 1, 2]) (by kernel_rfl) (by kernel_rfl) (by kernel_rfl) (ledger_Ledger_Ask_j0_ok n l_1 t_9 k_10 name_11 fail_12 b_2 A_3 c_4 A_5 c_6 A_7 c_8 b_13 b_14 w0 S0 (decide ((name_11.length : Int) > 16)))

/-! (*tontine/ledger.Ledger).Dead -/
noncomputable def c25_0 : Code := bodyOf Try.f25
noncomputable def c25_1 : Code := cdL c25_0
noncomputable def c25_2 : Code := cdR c25_0
noncomputable def c25_3 : Code := cdL c25_2
noncomputable def c25_4 : Code := cdR c25_2
noncomputable def r25_1 : Array Oper := cdO c25_1
noncomputable def r25_3 : Array Oper := cdO c25_3
theorem c25_0e : c25_0 = .seq c25_1 c25_2 := by kernel_rfl
theorem c25_1e : c25_1 = .region 0 r25_1 false := by kernel_rfl
theorem c25_2e : c25_2 = .seq c25_3 c25_4 := by kernel_rfl
theorem c25_3e : c25_3 = .region 1 r25_3 false := by kernel_rfl
theorem c25_4e : c25_4 = .ret := by kernel_rfl
noncomputable def ledger_Ledger_Dead.R (b_2 : Nat) (A_3 : Option Addr) (c_4 : Nat) (A_5 : Option Addr) (c_6 : Nat) (A_7 : Option Addr) (c_8 : Nat) : Pst Bool where
  ε := Unit
  v := fun r x => .bool r
  H := fun r x => []
  B := fun r x => []
noncomputable def ledger_Ledger_Dead.cx (b_2 : Nat) (A_3 : Option Addr) (c_4 : Nat) (A_5 : Option Addr) (c_6 : Nat) (A_7 : Option Addr) (c_8 : Nat) (w0 : World) (S0 : Fam) : Cx Bool := ⟨Try.prog, 25, Try.f25, 19, w0, S0, [], 4, ledger_Ledger_Dead.R b_2 A_3 c_4 A_5 c_6 A_7 c_8⟩
theorem ledger_Ledger_Dead_ok (n : Nat) (l_1 : T_ledger_Ledger) (saga_9 : Int) (step_10 : Int) (b_2 : Nat) (A_3 : Option Addr) (c_4 : Nat) (A_5 : Option Addr) (c_6 : Nat) (A_7 : Option Addr) (c_8 : Nat) :
    Meets Try.prog 25 [.pointer (some ⟨b_2, 0, none⟩), .int .u64 saga_9, .int .i64 step_10] 4 [] [⟨1, b_2, [.int .u64 l_1.fence.Term, .int .u64 l_1.fence.Index, .slice A_3 l_1.effects.length c_4, .map (mA A_5), .map (mA A_7)]⟩] [Ow 2 kT_ledger_Effect A_3 c_4 l_1.effects, Mp 3 ky41 (fun v => .bool v) A_5 c_6 l_1.said, Mp 4 ky41 (fun v => .bool v) A_7 c_8 l_1.tombs] (ledger_Ledger_Dead.f n l_1 saga_9 step_10) (ledger_Ledger_Dead.R b_2 A_3 c_4 A_5 c_6 A_7 c_8) := by
  refine Meets.of (c := c25_0) (n := 19) Try.func25 (by kernel_rfl) (by kernel_rfl) (by kernel_rfl) fun w0 S0 => ?_
  unfold ledger_Ledger_Dead.f
  show GoO (ledger_Ledger_Dead.cx b_2 A_3 c_4 A_5 c_6 A_7 c_8 w0 S0) [(0, .pointer (some ⟨b_2, 0, none⟩)), (1, .int .u64 saga_9), (2, .int .i64 step_10)] [⟨1, b_2, [.int .u64 l_1.fence.Term, .int .u64 l_1.fence.Index, .slice A_3 l_1.effects.length c_4, .map (mA A_5), .map (mA A_7)]⟩] [Ow 2 kT_ledger_Effect A_3 c_4 l_1.effects, Mp 3 ky41 (fun v => .bool v) A_5 c_6 l_1.said, Mp 4 ky41 (fun v => .bool v) A_7 c_8 l_1.tombs] [.code c25_0] _
  refine GoO.seq' c25_0e ?_
  refine GoO.region' (is := [0]) c25_1e (by kernel_rfl) ?_
  refine GoO.exec (is := [0]) (hs := [.p]) (rest := []) (ks := [0, 1, 2]) (env' := [(0, .pointer (some ⟨b_2, 0, none⟩)), (1, .int .u64 saga_9), (2, .int .i64 step_10)]) (H' := [⟨1, b_2, [.int .u64 l_1.fence.Term, .int .u64 l_1.fence.Index, .slice A_3 l_1.effects.length c_4, .map (mA A_5), .map (mA A_7)]⟩]) (ps := []) (by kernel_rfl) trivial ?_
  refine GoO.regionEnd ?_
  refine GoO.seq' c25_2e ?_
  refine GoO.region' (is := [0, 1, 2, 3, 4, 5, 6, 7, 8, 9, 10, 11, 12]) c25_3e (by kernel_rfl) ?_
  refine GoO.exec (is := [0, 1, 2, 3, 4, 5, 6, 7, 8, 9]) (hs := [.p, .p, .p, .p, .p, .p, .b 0, .p, .p, .p]) (rest := [10, 11, 12]) (ks := [9, 13, 16]) (env' := [(9, .bool true), (13, .map (mA A_7)), (16, .agg ⟨[.int .u64 saga_9, .int .i64 step_10, .bool false]⟩)]) (H' := [⟨1, b_2, [.int .u64 l_1.fence.Term, .int .u64 l_1.fence.Index, .slice A_3 l_1.effects.length c_4, .map (mA A_5), .map (mA A_7)]⟩]) (ps := [b_2 = b_2]) (by kernel_rfl) (And.intro rfl trivial) ?_
  refine OpTo.go (GoO.mapLk (vt := 4) (K := ky41) (ev := (fun v => .bool v)) (A := A_7) (c := c_8) (l := l_1.tombs) (key := (⟨saga_9, step_10, false⟩ : T_api_Key)) (j := 2) rfl (by kernel_rfl) (by kernel_rfl) (by kernel_rfl) rfl false (fun _ => by kernel_rfl) rfl ?_)
  refine GoO.exec (is := [11, 12]) (hs := [.p, .p]) (rest := []) (ks := [6]) (env' := [(6, .bool ((getA (⟨saga_9, step_10, false⟩ : T_api_Key) l_1.tombs).getD false))]) (H' := [⟨1, b_2, [.int .u64 l_1.fence.Term, .int .u64 l_1.fence.Index, .slice A_3 l_1.effects.length c_4, .map (mA A_5), .map (mA A_7)]⟩]) (ps := []) (by kernel_rfl) trivial ?_
  refine GoO.regionEnd ?_
  exact GoO.ret' (h := c25_4e) (hs := []) (ps := []) (hk := []) (bk := []) Try.func25 () (by kernel_rfl) trivial (by kernel_rfl) (by kernel_rfl)

/-! (*tontine/ledger.Ledger).Effects -/
noncomputable def c24_0 : Code := bodyOf Try.f24
noncomputable def c24_1 : Code := cdL c24_0
noncomputable def c24_2 : Code := cdR c24_0
noncomputable def c24_3 : Code := cdL c24_2
noncomputable def c24_4 : Code := cdL c24_3
noncomputable def c24_5 : Code := cdR c24_3
noncomputable def c24_9 : Code := cdR c24_5
noncomputable def c24_10 : Code := cdR c24_2
noncomputable def c24_11 : Code := cdL c24_10
noncomputable def c24_12 : Code := cdR c24_10
noncomputable def c24_6 : Code := cdL c24_5
noncomputable def r24_1 : Array Oper := cdO c24_1
noncomputable def r24_4 : Array Oper := cdO c24_4
noncomputable def r24_11 : Array Oper := cdO c24_11
theorem c24_0e : c24_0 = .seq c24_1 c24_2 := by kernel_rfl
theorem c24_1e : c24_1 = .region 0 r24_1 false := by kernel_rfl
theorem c24_2e : c24_2 = .seq c24_3 c24_10 := by kernel_rfl
theorem c24_3e : c24_3 = .seq c24_4 c24_5 := by kernel_rfl
theorem c24_4e : c24_4 = .region 1 r24_4 false := by kernel_rfl
theorem c24_5e : c24_5 = .cond (cdC c24_5) c24_6 c24_9 := by kernel_rfl
theorem c24_9e : c24_9 = .skip := by kernel_rfl
theorem c24_10e : c24_10 = .seq c24_11 c24_12 := by kernel_rfl
theorem c24_11e : c24_11 = .region 3 r24_11 false := by kernel_rfl
theorem c24_12e : c24_12 = .ret := by kernel_rfl
noncomputable def ledger_Ledger_Effects.R (b_2 : Nat) (A_3 : Option Addr) (c_4 : Nat) (A_5 : Option Addr) (c_6 : Nat) (A_7 : Option Addr) (c_8 : Nat) : Pst (List T_ledger_Effect) where
  ε := Option Addr × Nat
  v := fun r x => .slice x.1 r.length x.2
  H := fun r x => []
  B := fun r x => [Ow 5 kT_ledger_Effect x.1 x.2 r]
noncomputable def ledger_Ledger_Effects.cx (b_2 : Nat) (A_3 : Option Addr) (c_4 : Nat) (A_5 : Option Addr) (c_6 : Nat) (A_7 : Option Addr) (c_8 : Nat) (w0 : World) (S0 : Fam) : Cx (List T_ledger_Effect) := ⟨Try.prog, 24, Try.f24, 10, w0, S0, [], 4, ledger_Ledger_Effects.R b_2 A_3 c_4 A_5 c_6 A_7 c_8⟩
theorem ledger_Ledger_Effects_ok (n : Nat) (l_1 : T_ledger_Ledger) (b_2 : Nat) (A_3 : Option Addr) (c_4 : Nat) (A_5 : Option Addr) (c_6 : Nat) (A_7 : Option Addr) (c_8 : Nat) :
    Meets Try.prog 24 [.pointer (some ⟨b_2, 0, none⟩)] 4 [] [⟨1, b_2, [.int .u64 l_1.fence.Term, .int .u64 l_1.fence.Index, .slice A_3 l_1.effects.length c_4, .map (mA A_5), .map (mA A_7)]⟩] [Ow 2 kT_ledger_Effect A_3 c_4 l_1.effects, Mp 3 ky41 (fun v => .bool v) A_5 c_6 l_1.said, Mp 4 ky41 (fun v => .bool v) A_7 c_8 l_1.tombs] (ledger_Ledger_Effects.f n l_1) (ledger_Ledger_Effects.R b_2 A_3 c_4 A_5 c_6 A_7 c_8) := by
  refine Meets.of (c := c24_0) (n := 10) Try.func24 (by kernel_rfl) (by kernel_rfl) (by kernel_rfl) fun w0 S0 => ?_
  unfold ledger_Ledger_Effects.f
  show GoO (ledger_Ledger_Effects.cx b_2 A_3 c_4 A_5 c_6 A_7 c_8 w0 S0) [(0, .pointer (some ⟨b_2, 0, none⟩))] [⟨1, b_2, [.int .u64 l_1.fence.Term, .int .u64 l_1.fence.Index, .slice A_3 l_1.effects.length c_4, .map (mA A_5), .map (mA A_7)]⟩] [Ow 2 kT_ledger_Effect A_3 c_4 l_1.effects, Mp 3 ky41 (fun v => .bool v) A_5 c_6 l_1.said, Mp 4 ky41 (fun v => .bool v) A_7 c_8 l_1.tombs] [.code c24_0] _
  refine GoO.seq' c24_0e ?_
  refine GoO.region' (is := [0]) c24_1e (by kernel_rfl) ?_
  refine GoO.exec (is := [0]) (hs := [.p]) (rest := []) (ks := [0]) (env' := [(0, .pointer (some ⟨b_2, 0, none⟩))]) (H' := [⟨1, b_2, [.int .u64 l_1.fence.Term, .int .u64 l_1.fence.Index, .slice A_3 l_1.effects.length c_4, .map (mA A_5), .map (mA A_7)]⟩]) (ps := []) (by kernel_rfl) trivial ?_
  refine GoO.regionEnd ?_
  refine GoO.seq' c24_2e ?_
  refine GoO.seq' c24_3e ?_
  refine GoO.region' (is := [0, 1]) c24_4e (by kernel_rfl) ?_
  refine GoO.exec (is := [0, 1]) (hs := [.p, .p]) (rest := []) (ks := [0, 4]) (env' := [(0, .pointer (some ⟨b_2, 0, none⟩)), (4, .bool false)]) (H' := [⟨1, b_2, [.int .u64 l_1.fence.Term, .int .u64 l_1.fence.Index, .slice A_3 l_1.effects.length c_4, .map (mA A_5), .map (mA A_7)]⟩]) (ps := []) (by kernel_rfl) trivial ?_
  refine GoO.regionEnd ?_
  refine GoO.condF c24_5e (by kernel_rfl) ?_
  refine GoO.skip' c24_9e ?_
  refine GoO.seq' c24_10e ?_
  refine GoO.region' (is := [0, 1, 2, 3, 4, 5]) c24_11e (by kernel_rfl) ?_
  refine GoO.exec (is := [0, 1, 2, 3]) (hs := [.p, .p, .p, .b 0]) (rest := [4, 5]) (ks := [8]) (env' := [(8, .slice A_3 l_1.effects.length c_4)]) (H' := [⟨1, b_2, [.int .u64 l_1.fence.Term, .int .u64 l_1.fence.Index, .slice A_3 l_1.effects.length c_4, .map (mA A_5), .map (mA A_7)]⟩]) (ps := [b_2 = b_2]) (by kernel_rfl) (And.intro rfl trivial) ?_
  refine GoO.nilOwn kT_ledger_Effect 40 ?_
  refine GoO.guard (fun h9 => ?_)
  refine OpTo.go (GoO.appW (e := 56) (K := kT_ledger_Effect) (A := none) (c := 0) (tg := 40) (bytes := 40) (zs := [.int .u64 0, .int .i64 0, .bool false, .string (bs [])]) (xs := ([] : List T_ledger_Effect)) (ys := l_1.effects) (xv := .slice A_3 l_1.effects.length c_4) (j := 0) (bk := [1, 2, 3]) rfl (by kernel_rfl) (by kernel_rfl) (by kernel_rfl) (by kernel_rfl) rfl (by kernel_rfl) rfl (fun w S hB => SrcIs.row (Reads.own w S (hB _ (List.mem_of_getElem? (i := 1) rfl)))) h9 rfl rfl rfl rfl _ (fun _ _ => rfl) (fun A_10 c_11 => ?_))
  refine GoO.exec (is := [5]) (hs := [.p]) (rest := []) (ks := [2]) (env' := [(2, .slice A_10 (([] : List T_ledger_Effect) ++ l_1.effects).length c_11)]) (H' := [⟨1, b_2, [.int .u64 l_1.fence.Term, .int .u64 l_1.fence.Index, .slice A_3 l_1.effects.length c_4, .map (mA A_5), .map (mA A_7)]⟩]) (ps := []) (by kernel_rfl) trivial ?_
  refine GoO.regionEnd ?_
  refine GoO.retag (t := 40) (u := 5) (j := 0) (hk := [0]) (bk := [1, 2, 3]) rfl rfl rfl rfl rfl rfl (by kernel_rfl) (by kernel_rfl) ?_
  exact GoO.ret' (h := c24_12e) (hs := []) (ps := []) (hk := []) (bk := [0]) Try.func24 (⟨A_10, c_11⟩ : Option Addr × Nat) (by kernel_rfl) trivial (by kernel_rfl) (by kernel_rfl)

/-! tontine/tontinelaw18.begun -/
noncomputable def c21_0 : Code := bodyOf Try.f21
noncomputable def c21_1 : Code := cdL c21_0
noncomputable def c21_2 : Code := cdR c21_0
noncomputable def c21_3 : Code := cdL c21_2
noncomputable def c21_4 : Code := cdR c21_2
noncomputable def c21_5 : Code := cdL c21_4
noncomputable def c21_6 : Code := cdR c21_4
noncomputable def c21_7 : Code := cdL c21_6
noncomputable def c21_8 : Code := cdR c21_6
noncomputable def c21_9 : Code := cdL c21_8
noncomputable def c21_10 : Code := cdR c21_8
noncomputable def c21_11 : Code := cdL c21_10
noncomputable def c21_12 : Code := cdR c21_10
noncomputable def r21_1 : Array Oper := cdO c21_1
noncomputable def r21_3 : Array Oper := cdO c21_3
noncomputable def r21_5 : Array Oper := cdO c21_5
noncomputable def r21_7 : Array Oper := cdO c21_7
noncomputable def r21_9 : Array Oper := cdO c21_9
noncomputable def r21_11 : Array Oper := cdO c21_11
theorem c21_0e : c21_0 = .seq c21_1 c21_2 := by kernel_rfl
theorem c21_1e : c21_1 = .region 0 r21_1 false := by kernel_rfl
theorem c21_2e : c21_2 = .seq c21_3 c21_4 := by kernel_rfl
theorem c21_3e : c21_3 = .region 1 r21_3 false := by kernel_rfl
theorem c21_4e : c21_4 = .seq c21_5 c21_6 := by kernel_rfl
theorem c21_5e : c21_5 = .region 2 r21_5 false := by kernel_rfl
theorem c21_6e : c21_6 = .seq c21_7 c21_8 := by kernel_rfl
theorem c21_7e : c21_7 = .region 3 r21_7 false := by kernel_rfl
theorem c21_8e : c21_8 = .seq c21_9 c21_10 := by kernel_rfl
theorem c21_9e : c21_9 = .region 4 r21_9 false := by kernel_rfl
theorem c21_10e : c21_10 = .seq c21_11 c21_12 := by kernel_rfl
theorem c21_11e : c21_11 = .region 5 r21_11 false := by kernel_rfl
theorem c21_12e : c21_12 = .ret := by kernel_rfl
noncomputable def tontinelaw18_begun.R : Pst Bool where
  ε := Unit
  v := fun r x => .bool r
  H := fun r x => []
  B := fun r x => []
noncomputable def tontinelaw18_begun.cx (w0 : World) (S0 : Fam) : Cx Bool := ⟨Try.prog, 21, Try.f21, 56, w0, S0, [], 0, tontinelaw18_begun.R⟩
theorem tontinelaw18_begun_ok (n : Nat) :
    Meets Try.prog 21 [] 0 [] [] [] (tontinelaw18_begun.f n) (tontinelaw18_begun.R) := by
  refine Meets.of (c := c21_0) (n := 56) Try.func21 (by kernel_rfl) (by kernel_rfl) (by kernel_rfl) fun w0 S0 => ?_
  unfold tontinelaw18_begun.f
  show GoO (tontinelaw18_begun.cx w0 S0) [] [] [] [.code c21_0] _
  refine GoO.seq' c21_0e ?_
  refine GoO.region' (is := [0]) c21_1e (by kernel_rfl) ?_
  refine GoO.exec (is := [0]) (hs := [.p]) (rest := []) (ks := []) (env' := []) (H' := []) (ps := []) (by kernel_rfl) trivial ?_
  refine GoO.regionEnd ?_
  refine GoO.seq' c21_2e ?_
  refine GoO.region' (is := [0, 1]) c21_3e (by kernel_rfl) ?_
  refine OpTo.go (GoO.call rfl (by kernel_rfl) (by kernel_rfl) (ledger_New_ok n) [[0]] [(40, 1), (41, 2), (42, 3), (43, 4)] [] [] (hks := []) (bks := []) (by kernel_rfl) (by kernel_rfl) (by kernel_rfl) (.inl rfl) rfl rfl (by kernel_rfl) (by kernel_rfl) _ (fun _ _ => rfl) _ _ (fun _ _ => rfl) (fun _ _ => rfl) (fun _ _ => by kernel_rfl) (fun _ _ => by kernel_rfl) (fun r_1 x_45 => ?_))
  obtain ⟨b_2, A_3, c_4, A_5, c_6, A_7, c_8⟩ := x_45
  refine GoO.shape (env' := [(8, .pointer (some ⟨b_2, 0, none⟩))]) (H' := [⟨40, b_2, [.int .u64 r_1.fence.Term, .int .u64 r_1.fence.Index, .slice A_3 r_1.effects.length c_4, .map (mA A_5), .map (mA A_7)]⟩]) (B' := [Ow 41 kT_ledger_Effect A_3 c_4 r_1.effects, Mp 42 ky41 (fun v => .bool v) A_5 c_6 r_1.said, Mp 43 ky41 (fun v => .bool v) A_7 c_8 r_1.tombs]) (ks := [8]) (by kernel_rfl) (by kernel_rfl) (by kernel_rfl) ?_
  refine GoO.exec (is := [1]) (hs := [.p]) (rest := []) (ks := [1]) (env' := [(1, .pointer (some ⟨b_2, 0, none⟩))]) (H' := [⟨40, b_2, [.int .u64 r_1.fence.Term, .int .u64 r_1.fence.Index, .slice A_3 r_1.effects.length c_4, .map (mA A_5), .map (mA A_7)]⟩]) (ps := []) (by kernel_rfl) trivial ?_
  refine GoO.regionEnd ?_
  refine GoO.seq' c21_4e ?_
  refine GoO.region' (is := [0, 1, 2, 3, 4, 5, 6, 7, 8]) c21_5e (by kernel_rfl) ?_
  refine GoO.exec (is := [0, 1, 2]) (hs := [.p, .p, .p]) (rest := [3, 4, 5, 6, 7, 8]) (ks := [1, 10, 11, 12]) (env' := [(1, .pointer (some ⟨b_2, 0, none⟩)), (10, .pointer (some ⟨b_2, 0, none⟩)), (11, .agg ⟨[.int .u64 2, .int .u64 5]⟩), (12, .agg ⟨[.int .u64 1, .int .i64 0, .bool false]⟩)]) (H' := [⟨40, b_2, [.int .u64 r_1.fence.Term, .int .u64 r_1.fence.Index, .slice A_3 r_1.effects.length c_4, .map (mA A_5), .map (mA A_7)]⟩]) (ps := []) (by kernel_rfl) trivial ?_
  refine OpTo.go (GoO.call rfl (by kernel_rfl) (by kernel_rfl) (ledger_Ledger_Ask_ok n (⟨(⟨r_1.fence.Term, r_1.fence.Index⟩ : T_api_Token), r_1.effects, r_1.said, r_1.tombs⟩ : T_ledger_Ledger) (⟨2, 5⟩ : T_api_Token) (⟨1, 0, false⟩ : T_api_Key) [115] false b_2 A_3 c_4 A_5 c_6 A_7 c_8) [[0], [40], [41], [42], [43]] [(40, 1), (41, 2), (42, 3), (43, 4)] [(1, 0)] [(2, 0), (3, 1), (4, 2)] (hks := []) (bks := []) (by kernel_rfl) (by kernel_rfl) (by kernel_rfl) (.inl rfl) rfl rfl (by kernel_rfl) (by kernel_rfl) _ (fun _ _ => rfl) _ _ (fun _ _ => rfl) (fun _ _ => rfl) (fun _ _ => by kernel_rfl) (fun _ _ => by kernel_rfl) (fun r_9 x_44 => ?_))
  obtain ⟨A_10, c_11, A_12, c_13, A_14, c_15⟩ := x_44
  refine GoO.shape (env' := [(1, .pointer (some ⟨b_2, 0, none⟩)), (10, .pointer (some ⟨b_2, 0, none⟩)), (11, .agg ⟨[.int .u64 2, .int .u64 5]⟩), (12, .agg ⟨[.int .u64 1, .int .i64 0, .bool false]⟩), (13, .tuple ⟨[.bool r_9.1, .int .i64 r_9.2.1]⟩)]) (H' := [⟨40, b_2, [.int .u64 r_9.2.2.fence.Term, .int .u64 r_9.2.2.fence.Index, .slice A_10 r_9.2.2.effects.length c_11, .map (mA A_12), .map (mA A_14)]⟩]) (B' := [Ow 41 kT_ledger_Effect A_10 c_11 r_9.2.2.effects, Mp 42 ky41 (fun v => .bool v) A_12 c_13 r_9.2.2.said, Mp 43 ky41 (fun v => .bool v) A_14 c_15 r_9.2.2.tombs]) (ks := [1, 10, 11, 12, 13]) (by kernel_rfl) (by kernel_rfl) (by kernel_rfl) ?_
  refine GoO.exec (is := [4, 5, 6, 7, 8]) (hs := [.p, .p, .p, .p, .p]) (rest := []) (ks := [1, 2, 3]) (env' := [(1, .pointer (some ⟨b_2, 0, none⟩)), (2, .bool r_9.1), (3, .int .i64 r_9.2.1)]) (H' := [⟨40, b_2, [.int .u64 r_9.2.2.fence.Term, .int .u64 r_9.2.2.fence.Index, .slice A_10 r_9.2.2.effects.length c_11, .map (mA A_12), .map (mA A_14)]⟩]) (ps := []) (by kernel_rfl) trivial ?_
  refine GoO.regionEnd ?_
  refine GoO.seq' c21_6e ?_
  refine GoO.region' (is := [0, 1, 2, 3, 4, 5, 6, 7, 8]) c21_7e (by kernel_rfl) ?_
  refine GoO.exec (is := [0, 1, 2]) (hs := [.p, .p, .p]) (rest := [3, 4, 5, 6, 7, 8]) (ks := [1, 2, 3, 17, 18, 19]) (env' := [(1, .pointer (some ⟨b_2, 0, none⟩)), (2, .bool r_9.1), (3, .int .i64 r_9.2.1), (17, .pointer (some ⟨b_2, 0, none⟩)), (18, .agg ⟨[.int .u64 1, .int .u64 9]⟩), (19, .agg ⟨[.int .u64 1, .int .i64 1, .bool false]⟩)]) (H' := [⟨40, b_2, [.int .u64 r_9.2.2.fence.Term, .int .u64 r_9.2.2.fence.Index, .slice A_10 r_9.2.2.effects.length c_11, .map (mA A_12), .map (mA A_14)]⟩]) (ps := []) (by kernel_rfl) trivial ?_
  refine OpTo.go (GoO.call rfl (by kernel_rfl) (by kernel_rfl) (ledger_Ledger_Ask_ok n (⟨(⟨r_9.2.2.fence.Term, r_9.2.2.fence.Index⟩ : T_api_Token), r_9.2.2.effects, r_9.2.2.said, r_9.2.2.tombs⟩ : T_ledger_Ledger) (⟨1, 9⟩ : T_api_Token) (⟨1, 1, false⟩ : T_api_Key) [116] false b_2 A_10 c_11 A_12 c_13 A_14 c_15) [[0], [40], [41], [42], [43]] [(40, 1), (41, 2), (42, 3), (43, 4)] [(1, 0)] [(2, 0), (3, 1), (4, 2)] (hks := []) (bks := []) (by kernel_rfl) (by kernel_rfl) (by kernel_rfl) (.inl rfl) rfl rfl (by kernel_rfl) (by kernel_rfl) _ (fun _ _ => rfl) _ _ (fun _ _ => rfl) (fun _ _ => rfl) (fun _ _ => by kernel_rfl) (fun _ _ => by kernel_rfl) (fun r_16 x_43 => ?_))
  obtain ⟨A_17, c_18, A_19, c_20, A_21, c_22⟩ := x_43
  refine GoO.shape (env' := [(1, .pointer (some ⟨b_2, 0, none⟩)), (2, .bool r_9.1), (3, .int .i64 r_9.2.1), (17, .pointer (some ⟨b_2, 0, none⟩)), (18, .agg ⟨[.int .u64 1, .int .u64 9]⟩), (19, .agg ⟨[.int .u64 1, .int .i64 1, .bool false]⟩), (20, .tuple ⟨[.bool r_16.1, .int .i64 r_16.2.1]⟩)]) (H' := [⟨40, b_2, [.int .u64 r_16.2.2.fence.Term, .int .u64 r_16.2.2.fence.Index, .slice A_17 r_16.2.2.effects.length c_18, .map (mA A_19), .map (mA A_21)]⟩]) (B' := [Ow 41 kT_ledger_Effect A_17 c_18 r_16.2.2.effects, Mp 42 ky41 (fun v => .bool v) A_19 c_20 r_16.2.2.said, Mp 43 ky41 (fun v => .bool v) A_21 c_22 r_16.2.2.tombs]) (ks := [1, 2, 3, 17, 18, 19, 20]) (by kernel_rfl) (by kernel_rfl) (by kernel_rfl) ?_
  refine GoO.exec (is := [4, 5, 6, 7, 8]) (hs := [.p, .p, .p, .p, .p]) (rest := []) (ks := [1, 2, 3, 5]) (env' := [(1, .pointer (some ⟨b_2, 0, none⟩)), (2, .bool r_9.1), (3, .int .i64 r_9.2.1), (5, .int .i64 r_16.2.1)]) (H' := [⟨40, b_2, [.int .u64 r_16.2.2.fence.Term, .int .u64 r_16.2.2.fence.Index, .slice A_17 r_16.2.2.effects.length c_18, .map (mA A_19), .map (mA A_21)]⟩]) (ps := []) (by kernel_rfl) trivial ?_
  refine GoO.regionEnd ?_
  refine GoO.seq' c21_8e ?_
  refine GoO.region' (is := [0, 1, 2, 3, 4, 5, 6, 7, 8]) c21_9e (by kernel_rfl) ?_
  refine GoO.exec (is := [0, 1, 2]) (hs := [.p, .p, .p]) (rest := [3, 4, 5, 6, 7, 8]) (ks := [1, 2, 3, 5, 24, 25, 26]) (env' := [(1, .pointer (some ⟨b_2, 0, none⟩)), (2, .bool r_9.1), (3, .int .i64 r_9.2.1), (5, .int .i64 r_16.2.1), (24, .pointer (some ⟨b_2, 0, none⟩)), (25, .agg ⟨[.int .u64 2, .int .u64 5]⟩), (26, .agg ⟨[.int .u64 1, .int .i64 1, .bool true]⟩)]) (H' := [⟨40, b_2, [.int .u64 r_16.2.2.fence.Term, .int .u64 r_16.2.2.fence.Index, .slice A_17 r_16.2.2.effects.length c_18, .map (mA A_19), .map (mA A_21)]⟩]) (ps := []) (by kernel_rfl) trivial ?_
  refine OpTo.go (GoO.call rfl (by kernel_rfl) (by kernel_rfl) (ledger_Ledger_Ask_ok n (⟨(⟨r_16.2.2.fence.Term, r_16.2.2.fence.Index⟩ : T_api_Token), r_16.2.2.effects, r_16.2.2.said, r_16.2.2.tombs⟩ : T_ledger_Ledger) (⟨2, 5⟩ : T_api_Token) (⟨1, 1, true⟩ : T_api_Key) [116] false b_2 A_17 c_18 A_19 c_20 A_21 c_22) [[0], [40], [41], [42], [43]] [(40, 1), (41, 2), (42, 3), (43, 4)] [(1, 0)] [(2, 0), (3, 1), (4, 2)] (hks := []) (bks := []) (by kernel_rfl) (by kernel_rfl) (by kernel_rfl) (.inl rfl) rfl rfl (by kernel_rfl) (by kernel_rfl) _ (fun _ _ => rfl) _ _ (fun _ _ => rfl) (fun _ _ => rfl) (fun _ _ => by kernel_rfl) (fun _ _ => by kernel_rfl) (fun r_23 x_42 => ?_))
  obtain ⟨A_24, c_25, A_26, c_27, A_28, c_29⟩ := x_42
  refine GoO.shape (env' := [(1, .pointer (some ⟨b_2, 0, none⟩)), (2, .bool r_9.1), (3, .int .i64 r_9.2.1), (5, .int .i64 r_16.2.1), (24, .pointer (some ⟨b_2, 0, none⟩)), (25, .agg ⟨[.int .u64 2, .int .u64 5]⟩), (26, .agg ⟨[.int .u64 1, .int .i64 1, .bool true]⟩), (27, .tuple ⟨[.bool r_23.1, .int .i64 r_23.2.1]⟩)]) (H' := [⟨40, b_2, [.int .u64 r_23.2.2.fence.Term, .int .u64 r_23.2.2.fence.Index, .slice A_24 r_23.2.2.effects.length c_25, .map (mA A_26), .map (mA A_28)]⟩]) (B' := [Ow 41 kT_ledger_Effect A_24 c_25 r_23.2.2.effects, Mp 42 ky41 (fun v => .bool v) A_26 c_27 r_23.2.2.said, Mp 43 ky41 (fun v => .bool v) A_28 c_29 r_23.2.2.tombs]) (ks := [1, 2, 3, 5, 24, 25, 26, 27]) (by kernel_rfl) (by kernel_rfl) (by kernel_rfl) ?_
  refine GoO.exec (is := [4, 5, 6, 7, 8]) (hs := [.p, .p, .p, .p, .p]) (rest := []) (ks := [1, 2, 3, 5, 6, 7]) (env' := [(1, .pointer (some ⟨b_2, 0, none⟩)), (2, .bool r_9.1), (3, .int .i64 r_9.2.1), (5, .int .i64 r_16.2.1), (6, .bool r_23.1), (7, .int .i64 r_23.2.1)]) (H' := [⟨40, b_2, [.int .u64 r_23.2.2.fence.Term, .int .u64 r_23.2.2.fence.Index, .slice A_24 r_23.2.2.effects.length c_25, .map (mA A_26), .map (mA A_28)]⟩]) (ps := []) (by kernel_rfl) trivial ?_
  refine GoO.regionEnd ?_
  refine GoO.seq' c21_10e ?_
  refine GoO.region' (is := [0, 1, 2, 3, 4, 5, 6, 7, 8, 9, 10, 11, 12, 13, 14, 15, 16, 17, 18, 19, 20, 21, 22, 23, 24, 25, 26]) c21_11e (by kernel_rfl) ?_
  refine GoO.exec (is := [0, 1]) (hs := [.p, .p]) (rest := [2, 3, 4, 5, 6, 7, 8, 9, 10, 11, 12, 13, 14, 15, 16, 17, 18, 19, 20, 21, 22, 23, 24, 25, 26]) (ks := [1, 3, 5, 6, 7, 31]) (env' := [(1, .pointer (some ⟨b_2, 0, none⟩)), (3, .int .i64 r_9.2.1), (5, .int .i64 r_16.2.1), (6, .bool r_23.1), (7, .int .i64 r_23.2.1), (31, .bool r_9.1)]) (H' := [⟨40, b_2, [.int .u64 r_23.2.2.fence.Term, .int .u64 r_23.2.2.fence.Index, .slice A_24 r_23.2.2.effects.length c_25, .map (mA A_26), .map (mA A_28)]⟩]) (ps := []) (by kernel_rfl) trivial ?_
  refine GoO.bsplit (t := 31) (by kernel_rfl) (fun h30 => ?_) (fun h30 => ?_)
  · refine GoO.exec (is := [2, 3, 4, 5]) (hs := [.p, .p, .p, .p]) (rest := [6, 7, 8, 9, 10, 11, 12, 13, 14, 15, 16, 17, 18, 19, 20, 21, 22, 23, 24, 25, 26]) (ks := [1, 5, 6, 7, 35]) (env' := [(1, .pointer (some ⟨b_2, 0, none⟩)), (5, .int .i64 r_16.2.1), (6, .bool r_23.1), (7, .int .i64 r_23.2.1), (35, .bool (r_9.2.1 == 0))]) (H' := [⟨40, b_2, [.int .u64 r_23.2.2.fence.Term, .int .u64 r_23.2.2.fence.Index, .slice A_24 r_23.2.2.effects.length c_25, .map (mA A_26), .map (mA A_28)]⟩]) (ps := []) (by kernel_rfl) trivial ?_
    refine GoO.bsplit (t := 35) (by kernel_rfl) (fun h31 => ?_) (fun h31 => ?_)
    · refine GoO.exec (is := [6, 7, 8, 9]) (hs := [.p, .p, .p, .p]) (rest := [10, 11, 12, 13, 14, 15, 16, 17, 18, 19, 20, 21, 22, 23, 24, 25, 26]) (ks := [1, 6, 7, 39]) (env' := [(1, .pointer (some ⟨b_2, 0, none⟩)), (6, .bool r_23.1), (7, .int .i64 r_23.2.1), (39, .bool (r_16.2.1 == 50))]) (H' := [⟨40, b_2, [.int .u64 r_23.2.2.fence.Term, .int .u64 r_23.2.2.fence.Index, .slice A_24 r_23.2.2.effects.length c_25, .map (mA A_26), .map (mA A_28)]⟩]) (ps := []) (by kernel_rfl) trivial ?_
      refine GoO.bsplit (t := 39) (by kernel_rfl) (fun h32 => ?_) (fun h32 => ?_)
      · refine GoO.exec (is := [10, 11, 12]) (hs := [.p, .p, .p]) (rest := [13, 14, 15, 16, 17, 18, 19, 20, 21, 22, 23, 24, 25, 26]) (ks := [1, 7, 42]) (env' := [(1, .pointer (some ⟨b_2, 0, none⟩)), (7, .int .i64 r_23.2.1), (42, .bool r_23.1)]) (H' := [⟨40, b_2, [.int .u64 r_23.2.2.fence.Term, .int .u64 r_23.2.2.fence.Index, .slice A_24 r_23.2.2.effects.length c_25, .map (mA A_26), .map (mA A_28)]⟩]) (ps := []) (by kernel_rfl) trivial ?_
        refine GoO.bsplit (t := 42) (by kernel_rfl) (fun h33 => ?_) (fun h33 => ?_)
        · refine GoO.exec (is := [13, 14, 15, 16]) (hs := [.p, .p, .p, .p]) (rest := [17, 18, 19, 20, 21, 22, 23, 24, 25, 26]) (ks := [1, 46]) (env' := [(1, .pointer (some ⟨b_2, 0, none⟩)), (46, .bool (r_23.2.1 == 0))]) (H' := [⟨40, b_2, [.int .u64 r_23.2.2.fence.Term, .int .u64 r_23.2.2.fence.Index, .slice A_24 r_23.2.2.effects.length c_25, .map (mA A_26), .map (mA A_28)]⟩]) (ps := []) (by kernel_rfl) trivial ?_
          refine GoO.bsplit (t := 46) (by kernel_rfl) (fun h34 => ?_) (fun h34 => ?_)
          · refine GoO.exec (is := [17]) (hs := [.p]) (rest := [18, 19, 20, 21, 22, 23, 24, 25, 26]) (ks := [1, 46, 47]) (env' := [(1, .pointer (some ⟨b_2, 0, none⟩)), (46, .bool true), (47, .pointer (some ⟨b_2, 0, none⟩))]) (H' := [⟨40, b_2, [.int .u64 r_23.2.2.fence.Term, .int .u64 r_23.2.2.fence.Index, .slice A_24 r_23.2.2.effects.length c_25, .map (mA A_26), .map (mA A_28)]⟩]) (ps := []) (by kernel_rfl) trivial ?_
            refine OpTo.go (GoO.call rfl (by kernel_rfl) (by kernel_rfl) (ledger_Ledger_Dead_ok n (⟨(⟨r_23.2.2.fence.Term, r_23.2.2.fence.Index⟩ : T_api_Token), r_23.2.2.effects, r_23.2.2.said, r_23.2.2.tombs⟩ : T_ledger_Ledger) 1 1 b_2 A_24 c_25 A_26 c_27 A_28 c_29) [[0], [40], [41], [42], [43]] [] [(1, 0)] [(2, 0), (3, 1), (4, 2)] (hks := [0]) (bks := [0, 1, 2]) (by kernel_rfl) (by kernel_rfl) (by kernel_rfl) (.inl rfl) rfl rfl (by kernel_rfl) (by kernel_rfl) _ (fun _ _ => rfl) _ _ (fun _ _ => rfl) (fun _ _ => rfl) (fun _ _ => by kernel_rfl) (fun _ _ => by kernel_rfl) (fun r_35 x_41 => ?_))
            refine GoO.shape (env' := [(1, .pointer (some ⟨b_2, 0, none⟩)), (46, .bool true), (47, .pointer (some ⟨b_2, 0, none⟩)), (48, .bool r_35)]) (H' := [⟨40, b_2, [.int .u64 r_23.2.2.fence.Term, .int .u64 r_23.2.2.fence.Index, .slice A_24 r_23.2.2.effects.length c_25, .map (mA A_26), .map (mA A_28)]⟩]) (B' := [Ow 41 kT_ledger_Effect A_24 c_25 r_23.2.2.effects, Mp 42 ky41 (fun v => .bool v) A_26 c_27 r_23.2.2.said, Mp 43 ky41 (fun v => .bool v) A_28 c_29 r_23.2.2.tombs]) (ks := [1, 46, 47, 48]) (by kernel_rfl) (by kernel_rfl) (by kernel_rfl) ?_
            refine GoO.exec (is := [19, 20]) (hs := [.p, .p]) (rest := [21, 22, 23, 24, 25, 26]) (ks := [1, 50]) (env' := [(1, .pointer (some ⟨b_2, 0, none⟩)), (50, .bool r_35)]) (H' := [⟨40, b_2, [.int .u64 r_23.2.2.fence.Term, .int .u64 r_23.2.2.fence.Index, .slice A_24 r_23.2.2.effects.length c_25, .map (mA A_26), .map (mA A_28)]⟩]) (ps := []) (by kernel_rfl) trivial ?_
            refine GoO.bsplit (t := 50) (by kernel_rfl) (fun h36 => ?_) (fun h36 => ?_)
            · refine GoO.exec (is := [21]) (hs := [.p]) (rest := [22, 23, 24, 25, 26]) (ks := [50, 51]) (env' := [(50, .bool true), (51, .pointer (some ⟨b_2, 0, none⟩))]) (H' := [⟨40, b_2, [.int .u64 r_23.2.2.fence.Term, .int .u64 r_23.2.2.fence.Index, .slice A_24 r_23.2.2.effects.length c_25, .map (mA A_26), .map (mA A_28)]⟩]) (ps := []) (by kernel_rfl) trivial ?_
              refine OpTo.go (GoO.call rfl (by kernel_rfl) (by kernel_rfl) (ledger_Ledger_Effects_ok n (⟨(⟨r_23.2.2.fence.Term, r_23.2.2.fence.Index⟩ : T_api_Token), r_23.2.2.effects, r_23.2.2.said, r_23.2.2.tombs⟩ : T_ledger_Ledger) b_2 A_24 c_25 A_26 c_27 A_28 c_29) [[0], [40], [41], [42], [43]] [(44, 5)] [(1, 0)] [(2, 0), (3, 1), (4, 2)] (hks := [0]) (bks := [0, 1, 2]) (by kernel_rfl) (by kernel_rfl) (by kernel_rfl) (.inl rfl) rfl rfl (by kernel_rfl) (by kernel_rfl) _ (fun _ _ => rfl) _ _ (fun _ _ => rfl) (fun _ _ => rfl) (fun _ _ => by kernel_rfl) (fun _ _ => by kernel_rfl) (fun r_37 x_40 => ?_))
              obtain ⟨A_38, c_39⟩ := x_40
              refine GoO.shape (env' := [(50, .bool true), (51, .pointer (some ⟨b_2, 0, none⟩)), (52, .slice A_38 r_37.length c_39)]) (H' := [⟨40, b_2, [.int .u64 r_23.2.2.fence.Term, .int .u64 r_23.2.2.fence.Index, .slice A_24 r_23.2.2.effects.length c_25, .map (mA A_26), .map (mA A_28)]⟩]) (B' := [Ow 44 kT_ledger_Effect A_38 c_39 r_37, Ow 41 kT_ledger_Effect A_24 c_25 r_23.2.2.effects, Mp 42 ky41 (fun v => .bool v) A_26 c_27 r_23.2.2.said, Mp 43 ky41 (fun v => .bool v) A_28 c_29 r_23.2.2.tombs]) (ks := [50, 51, 52]) (by kernel_rfl) (by kernel_rfl) (by kernel_rfl) ?_
              refine GoO.exec (is := [23, 24, 25, 26]) (hs := [.p, .p, .p, .p]) (rest := []) (ks := [0]) (env' := [(0, .bool ((r_37.length : Int) == 1))]) (H' := [⟨40, b_2, [.int .u64 r_23.2.2.fence.Term, .int .u64 r_23.2.2.fence.Index, .slice A_24 r_23.2.2.effects.length c_25, .map (mA A_26), .map (mA A_28)]⟩]) (ps := []) (by kernel_rfl) trivial ?_
              refine GoO.regionEnd ?_
              exact GoO.ret' (h := c21_12e) (hs := []) (ps := []) (hk := []) (bk := []) Try.func21 () (by kernel_rfl) trivial (by kernel_rfl) (by kernel_rfl)
            · refine GoO.exec (is := [21, 22, 23, 24, 25, 26]) (hs := [.p, .p, .p, .p, .p, .p]) (rest := []) (ks := [0]) (env' := [(0, .bool false)]) (H' := [⟨40, b_2, [.int .u64 r_23.2.2.fence.Term, .int .u64 r_23.2.2.fence.Index, .slice A_24 r_23.2.2.effects.length c_25, .map (mA A_26), .map (mA A_28)]⟩]) (ps := []) (by kernel_rfl) trivial ?_
              refine GoO.regionEnd ?_
              exact GoO.ret' (h := c21_12e) (hs := []) (ps := []) (hk := []) (bk := []) Try.func21 () (by kernel_rfl) trivial (by kernel_rfl) (by kernel_rfl)
          · refine GoO.exec (is := [17, 18, 19, 20, 21, 22, 23, 24, 25, 26]) (hs := [.p, .p, .p, .p, .p, .p, .p, .p, .p, .p]) (rest := []) (ks := [0]) (env' := [(0, .bool false)]) (H' := [⟨40, b_2, [.int .u64 r_23.2.2.fence.Term, .int .u64 r_23.2.2.fence.Index, .slice A_24 r_23.2.2.effects.length c_25, .map (mA A_26), .map (mA A_28)]⟩]) (ps := []) (by kernel_rfl) trivial ?_
            refine GoO.regionEnd ?_
            exact GoO.ret' (h := c21_12e) (hs := []) (ps := []) (hk := []) (bk := []) Try.func21 () (by kernel_rfl) trivial (by kernel_rfl) (by kernel_rfl)
        · refine GoO.exec (is := [13, 14, 15, 16, 17, 18, 19, 20, 21, 22, 23, 24, 25, 26]) (hs := [.p, .p, .p, .p, .p, .p, .p, .p, .p, .p, .p, .p, .p, .p]) (rest := []) (ks := [0]) (env' := [(0, .bool false)]) (H' := [⟨40, b_2, [.int .u64 r_23.2.2.fence.Term, .int .u64 r_23.2.2.fence.Index, .slice A_24 r_23.2.2.effects.length c_25, .map (mA A_26), .map (mA A_28)]⟩]) (ps := []) (by kernel_rfl) trivial ?_
          refine GoO.regionEnd ?_
          exact GoO.ret' (h := c21_12e) (hs := []) (ps := []) (hk := []) (bk := []) Try.func21 () (by kernel_rfl) trivial (by kernel_rfl) (by kernel_rfl)
      · refine GoO.exec (is := [10, 11, 12, 13, 14, 15, 16, 17, 18, 19, 20, 21, 22, 23, 24, 25, 26]) (hs := [.p, .p, .p, .p, .p, .p, .p, .p, .p, .p, .p, .p, .p, .p, .p, .p, .p]) (rest := []) (ks := [0]) (env' := [(0, .bool false)]) (H' := [⟨40, b_2, [.int .u64 r_23.2.2.fence.Term, .int .u64 r_23.2.2.fence.Index, .slice A_24 r_23.2.2.effects.length c_25, .map (mA A_26), .map (mA A_28)]⟩]) (ps := []) (by kernel_rfl) trivial ?_
        refine GoO.regionEnd ?_
        exact GoO.ret' (h := c21_12e) (hs := []) (ps := []) (hk := []) (bk := []) Try.func21 () (by kernel_rfl) trivial (by kernel_rfl) (by kernel_rfl)
    · refine GoO.exec (is := [6, 7, 8, 9, 10, 11, 12, 13, 14, 15, 16, 17, 18, 19, 20, 21, 22, 23, 24, 25, 26]) (hs := [.p, .p, .p, .p, .p, .p, .p, .p, .p, .p, .p, .p, .p, .p, .p, .p, .p, .p, .p, .p, .p]) (rest := []) (ks := [0]) (env' := [(0, .bool false)]) (H' := [⟨40, b_2, [.int .u64 r_23.2.2.fence.Term, .int .u64 r_23.2.2.fence.Index, .slice A_24 r_23.2.2.effects.length c_25, .map (mA A_26), .map (mA A_28)]⟩]) (ps := []) (by kernel_rfl) trivial ?_
      refine GoO.regionEnd ?_
      exact GoO.ret' (h := c21_12e) (hs := []) (ps := []) (hk := []) (bk := []) Try.func21 () (by kernel_rfl) trivial (by kernel_rfl) (by kernel_rfl)
  · refine GoO.exec (is := [2, 3, 4, 5, 6, 7, 8, 9, 10, 11, 12, 13, 14, 15, 16, 17, 18, 19, 20, 21, 22, 23, 24, 25, 26]) (hs := [.p, .p, .p, .p, .p, .p, .p, .p, .p, .p, .p, .p, .p, .p, .p, .p, .p, .p, .p, .p, .p, .p, .p, .p, .p]) (rest := []) (ks := [0]) (env' := [(0, .bool false)]) (H' := [⟨40, b_2, [.int .u64 r_23.2.2.fence.Term, .int .u64 r_23.2.2.fence.Index, .slice A_24 r_23.2.2.effects.length c_25, .map (mA A_26), .map (mA A_28)]⟩]) (ps := []) (by kernel_rfl) trivial ?_
    refine GoO.regionEnd ?_
    exact GoO.ret' (h := c21_12e) (hs := []) (ps := []) (hk := []) (bk := []) Try.func21 () (by kernel_rfl) trivial (by kernel_rfl) (by kernel_rfl)

/-! tontine/tontineref18.Less -/
noncomputable def c27_0 : Code := bodyOf Try.f27
noncomputable def c27_1 : Code := cdL c27_0
noncomputable def c27_2 : Code := cdR c27_0
noncomputable def c27_3 : Code := cdL c27_2
noncomputable def c27_4 : Code := cdL c27_3
noncomputable def c27_5 : Code := cdR c27_3
noncomputable def c27_6 : Code := cdL c27_5
noncomputable def c27_7 : Code := cdL c27_6
noncomputable def c27_8 : Code := cdR c27_6
noncomputable def c27_9 : Code := cdR c27_5
noncomputable def c27_10 : Code := cdR c27_2
noncomputable def c27_11 : Code := cdL c27_10
noncomputable def c27_12 : Code := cdR c27_10
noncomputable def r27_1 : Array Oper := cdO c27_1
noncomputable def r27_4 : Array Oper := cdO c27_4
noncomputable def r27_7 : Array Oper := cdO c27_7
noncomputable def r27_11 : Array Oper := cdO c27_11
theorem c27_0e : c27_0 = .seq c27_1 c27_2 := by kernel_rfl
theorem c27_1e : c27_1 = .region 0 r27_1 false := by kernel_rfl
theorem c27_2e : c27_2 = .seq c27_3 c27_10 := by kernel_rfl
theorem c27_3e : c27_3 = .seq c27_4 c27_5 := by kernel_rfl
theorem c27_4e : c27_4 = .region 1 r27_4 false := by kernel_rfl
theorem c27_5e : c27_5 = .cond (cdC c27_5) c27_6 c27_9 := by kernel_rfl
theorem c27_6e : c27_6 = .seq c27_7 c27_8 := by kernel_rfl
theorem c27_7e : c27_7 = .region 2 r27_7 false := by kernel_rfl
theorem c27_8e : c27_8 = .ret := by kernel_rfl
theorem c27_9e : c27_9 = .skip := by kernel_rfl
theorem c27_10e : c27_10 = .seq c27_11 c27_12 := by kernel_rfl
theorem c27_11e : c27_11 = .region 3 r27_11 false := by kernel_rfl
theorem c27_12e : c27_12 = .ret := by kernel_rfl
noncomputable def tontineref18_Less.R : Pst Bool where
  ε := Unit
  v := fun r x => .bool r
  H := fun r x => []
  B := fun r x => []
noncomputable def tontineref18_Less.cx (w0 : World) (S0 : Fam) : Cx Bool := ⟨Try.prog, 27, Try.f27, 20, w0, S0, [], 0, tontineref18_Less.R⟩
theorem tontineref18_Less_ok (n : Nat) (a_1 : T_api_Token) (b_2 : T_api_Token) :
    Meets Try.prog 27 [.agg ⟨[.int .u64 a_1.Term, .int .u64 a_1.Index]⟩, .agg ⟨[.int .u64 b_2.Term, .int .u64 b_2.Index]⟩] 0 [] [] [] (tontineref18_Less.f n a_1 b_2) (tontineref18_Less.R) := by
  refine Meets.of (c := c27_0) (n := 20) Try.func27 (by kernel_rfl) (by kernel_rfl) (by kernel_rfl) fun w0 S0 => ?_
  unfold tontineref18_Less.f
  show GoO (tontineref18_Less.cx w0 S0) [(0, .agg ⟨[.int .u64 a_1.Term, .int .u64 a_1.Index]⟩), (1, .agg ⟨[.int .u64 b_2.Term, .int .u64 b_2.Index]⟩)] [] [] [.code c27_0] _
  refine GoO.seq' c27_0e ?_
  refine GoO.region' (is := [0, 1, 2]) c27_1e (by kernel_rfl) ?_
  refine OpTo.go (GoO.new rfl 40 (cs := [.int .u64 a_1.Term, .int .u64 a_1.Index]) (by kernel_rfl) _ (fun _ => rfl) (fun b_3 => ?_))
  refine OpTo.go (GoO.new rfl 41 (cs := [.int .u64 b_2.Term, .int .u64 b_2.Index]) (by kernel_rfl) _ (fun _ => rfl) (fun b_4 => ?_))
  refine GoO.exec (is := [2]) (hs := [.p]) (rest := []) (ks := [2, 3]) (env' := [(2, .pointer (some ⟨b_3, 0, none⟩)), (3, .pointer (some ⟨b_4, 0, none⟩))]) (H' := [⟨41, b_4, [.int .u64 b_2.Term, .int .u64 b_2.Index]⟩, ⟨40, b_3, [.int .u64 a_1.Term, .int .u64 a_1.Index]⟩]) (ps := []) (by kernel_rfl) trivial ?_
  refine GoO.regionEnd ?_
  refine GoO.seq' c27_2e ?_
  refine GoO.seq' c27_3e ?_
  refine GoO.region' (is := [0, 1, 2, 3, 4]) c27_4e (by kernel_rfl) ?_
  refine GoO.exec (is := [0, 1, 2, 3, 4]) (hs := [.p, .b 1, .p, .b 0, .p]) (rest := []) (ks := [2, 3, 9]) (env' := [(2, .pointer (some ⟨b_3, 0, none⟩)), (3, .pointer (some ⟨b_4, 0, none⟩)), (9, .bool (a_1.Term != b_2.Term))]) (H' := [⟨41, b_4, [.int .u64 b_2.Term, .int .u64 b_2.Index]⟩, ⟨40, b_3, [.int .u64 a_1.Term, .int .u64 a_1.Index]⟩]) (ps := [b_3 = b_3, b_4 = b_4]) (by kernel_rfl) (And.intro rfl (And.intro rfl trivial)) ?_
  refine GoO.regionEnd ?_
  refine GoO.ite' c27_5e (by kernel_rfl) (fun h5 => ?_) (fun h5 => ?_)
  · refine GoO.seq' c27_6e ?_
    refine GoO.region' (is := [0, 1, 2, 3, 4, 5]) c27_7e (by kernel_rfl) ?_
    refine GoO.exec (is := [0, 1, 2, 3, 4, 5]) (hs := [.p, .b 1, .p, .b 0, .p, .p]) (rest := []) (ks := [4]) (env' := [(4, .bool (decide (a_1.Term < b_2.Term)))]) (H' := [⟨41, b_4, [.int .u64 b_2.Term, .int .u64 b_2.Index]⟩, ⟨40, b_3, [.int .u64 a_1.Term, .int .u64 a_1.Index]⟩]) (ps := [b_3 = b_3, b_4 = b_4]) (by kernel_rfl) (And.intro rfl (And.intro rfl trivial)) ?_
    refine GoO.regionEnd ?_
    exact GoO.ret' (h := c27_8e) (hs := []) (ps := []) (hk := []) (bk := []) Try.func27 () (by kernel_rfl) trivial (by kernel_rfl) (by kernel_rfl)
  · refine GoO.skip' c27_9e ?_
    refine GoO.seq' c27_10e ?_
    refine GoO.region' (is := [0, 1, 2, 3, 4, 5]) c27_11e (by kernel_rfl) ?_
    refine GoO.exec (is := [0, 1, 2, 3, 4, 5]) (hs := [.p, .b 1, .p, .b 0, .p, .p]) (rest := []) (ks := [4]) (env' := [(4, .bool (decide (a_1.Index < b_2.Index)))]) (H' := [⟨41, b_4, [.int .u64 b_2.Term, .int .u64 b_2.Index]⟩, ⟨40, b_3, [.int .u64 a_1.Term, .int .u64 a_1.Index]⟩]) (ps := [b_3 = b_3, b_4 = b_4]) (by kernel_rfl) (And.intro rfl (And.intro rfl trivial)) ?_
    refine GoO.regionEnd ?_
    exact GoO.ret' (h := c27_12e) (hs := []) (ps := []) (hk := []) (bk := []) Try.func27 () (by kernel_rfl) trivial (by kernel_rfl) (by kernel_rfl)

/-! (*tontine/tontineref18.Ledger).said -/
noncomputable def c42_0 : Code := bodyOf Try.f42
noncomputable def c42_1 : Code := cdL c42_0
noncomputable def c42_2 : Code := cdR c42_0
noncomputable def c42_3 : Code := cdL c42_2
noncomputable def c42_4 : Code := cdL c42_3
noncomputable def c42_5 : Code := cdR c42_3
noncomputable def c42_6 : Code := cdL c42_5
noncomputable def c42_7 : Code := cdL c42_6
noncomputable def c42_8 : Code := cdL c42_7
noncomputable def c42_9 : Code := cdL c42_8
noncomputable def c42_10 : Code := cdR c42_8
noncomputable def c42_11 : Code := cdL c42_10
noncomputable def c42_12 : Code := cdR c42_10
noncomputable def c42_13 : Code := cdR c42_7
noncomputable def c42_14 : Code := cdL c42_13
noncomputable def c42_15 : Code := cdL c42_14
noncomputable def c42_16 : Code := cdL c42_15
noncomputable def c42_17 : Code := cdR c42_15
noncomputable def c42_18 : Code := cdL c42_17
noncomputable def c42_19 : Code := cdL c42_18
noncomputable def c42_20 : Code := cdR c42_18
noncomputable def c42_21 : Code := cdR c42_17
noncomputable def c42_22 : Code := cdR c42_13
noncomputable def c42_23 : Code := cdR c42_2
noncomputable def c42_24 : Code := cdL c42_23
noncomputable def c42_25 : Code := cdR c42_23
noncomputable def r42_1 : Array Oper := cdO c42_1
noncomputable def r42_4 : Array Oper := cdO c42_4
noncomputable def r42_9 : Array Oper := cdO c42_9
noncomputable def r42_16 : Array Oper := cdO c42_16
noncomputable def r42_19 : Array Oper := cdO c42_19
noncomputable def r42_22 : Array Oper := cdO c42_22
noncomputable def r42_24 : Array Oper := cdO c42_24
theorem c42_0e : c42_0 = .seq c42_1 c42_2 := by kernel_rfl
theorem c42_1e : c42_1 = .region 0 r42_1 false := by kernel_rfl
theorem c42_2e : c42_2 = .seq c42_3 c42_23 := by kernel_rfl
theorem c42_3e : c42_3 = .seq c42_4 c42_5 := by kernel_rfl
theorem c42_4e : c42_4 = .region 1 r42_4 false := by kernel_rfl
theorem c42_5e : c42_5 = .block 0 c42_6 := by kernel_rfl
theorem c42_6e : c42_6 = .loop c42_7 := by kernel_rfl
theorem c42_7e : c42_7 = .seq c42_8 c42_13 := by kernel_rfl
theorem c42_8e : c42_8 = .seq c42_9 c42_10 := by kernel_rfl
theorem c42_9e : c42_9 = .region 2 r42_9 false := by kernel_rfl
theorem c42_10e : c42_10 = .cond (cdC c42_10) c42_11 c42_12 := by kernel_rfl
theorem c42_11e : c42_11 = .skip := by kernel_rfl
theorem c42_12e : c42_12 = .exit 0 := by kernel_rfl
theorem c42_13e : c42_13 = .seq c42_14 c42_22 := by kernel_rfl
theorem c42_14e : c42_14 = .block 1 c42_15 := by kernel_rfl
theorem c42_15e : c42_15 = .seq c42_16 c42_17 := by kernel_rfl
theorem c42_16e : c42_16 = .region 4 r42_16 true := by kernel_rfl
theorem c42_17e : c42_17 = .cond (cdC c42_17) c42_18 c42_21 := by kernel_rfl
theorem c42_18e : c42_18 = .seq c42_19 c42_20 := by kernel_rfl
theorem c42_19e : c42_19 = .region 5 r42_19 false := by kernel_rfl
theorem c42_20e : c42_20 = .ret := by kernel_rfl
theorem c42_21e : c42_21 = .skip := by kernel_rfl
theorem c42_22e : c42_22 = .region 3 r42_22 false := by kernel_rfl
theorem c42_23e : c42_23 = .seq c42_24 c42_25 := by kernel_rfl
theorem c42_24e : c42_24 = .region 6 r42_24 false := by kernel_rfl
theorem c42_25e : c42_25 = .ret := by kernel_rfl
noncomputable def tontineref18_Ledger_said.R (b_2 : Nat) (A_3 : Option Addr) (c_4 : Nat) (A_5 : Option Addr) (c_6 : Nat) (A_7 : Option Addr) (c_8 : Nat) (A_9 : Option Addr) (c_10 : Nat) : Pst (Bool × Bool) where
  ε := Unit
  v := fun r x => .tuple ⟨[.bool r.1, .bool r.2]⟩
  H := fun r x => []
  B := fun r x => []
noncomputable def tontineref18_Ledger_said.cx (b_2 : Nat) (A_3 : Option Addr) (c_4 : Nat) (A_5 : Option Addr) (c_6 : Nat) (A_7 : Option Addr) (c_8 : Nat) (A_9 : Option Addr) (c_10 : Nat) (w0 : World) (S0 : Fam) : Cx (Bool × Bool) := ⟨Try.prog, 42, Try.f42, 34, w0, S0, [], 5, tontineref18_Ledger_said.R b_2 A_3 c_4 A_5 c_6 A_7 c_8 A_9 c_10⟩
theorem tontineref18_Ledger_said_l0_ok (n : Nat) (l_1 : T_tontineref18_Ledger) (k_11 : T_api_Key) (b_2 : Nat) (A_3 : Option Addr) (c_4 : Nat) (A_5 : Option Addr) (c_6 : Nat) (A_7 : Option Addr) (c_8 : Nat) (A_9 : Option Addr) (c_10 : Nat) (b_12 : Nat) (w0 : World) (S0 : Fam) :
    ∀ (k : Nat) (i_13 : Int), GoO (tontineref18_Ledger_said.cx b_2 A_3 c_4 A_5 c_6 A_7 c_8 A_9 c_10 w0 S0) [(0, .pointer (some ⟨b_2, 0, none⟩)), (3, .pointer (some ⟨b_12, 0, none⟩)), (6, .int .i64 i_13)] [⟨1, b_2, [.int .u64 l_1.Fence.Term, .int .u64 l_1.Fence.Index, .slice A_3 l_1.Keys.length c_4, .slice A_5 l_1.Names.length c_6, .slice A_7 l_1.Good.length c_8, .slice A_9 l_1.Dead.length c_10]⟩, ⟨40, b_12, [.int .u64 k_11.Saga, .int .i64 k_11.Step, .bool k_11.Back]⟩] [Ow 2 kT_api_Key A_3 c_4 l_1.Keys, Ow 3 Kd.str A_5 c_6 l_1.Names, Ow 4 kT_tontineref18_Said A_7 c_8 l_1.Good, Ow 5 kT_api_Key A_9 c_10 l_1.Dead] [.code c42_7, .inLoop c42_7, .inBlock 0, .code c42_23] (tontineref18_Ledger_said.l0 n l_1 k_11 k i_13) := by
  intro k
  induction k with
  | zero => intros; rw [tontineref18_Ledger_said.l0.eq_1]; exact GoO.stop
  | succ k ih0 =>
    intro i_13
    rw [tontineref18_Ledger_said.l0.eq_2]
    refine GoO.seq' c42_7e ?_
    refine GoO.seq' c42_8e ?_
    refine GoO.region' (is := [0, 1, 2, 3, 4, 5, 6]) c42_9e (by kernel_rfl) ?_
    refine GoO.exec (is := [0, 1, 2, 3, 4, 5, 6]) (hs := [.p, .p, .p, .p, .b 0, .p, .p]) (rest := []) (ks := [0, 3, 6, 13]) (env' := [(0, .pointer (some ⟨b_2, 0, none⟩)), (3, .pointer (some ⟨b_12, 0, none⟩)), (6, .int .i64 i_13), (13, .bool (decide (i_13 < (l_1.Good.length : Int))))]) (H' := [⟨1, b_2, [.int .u64 l_1.Fence.Term, .int .u64 l_1.Fence.Index, .slice A_3 l_1.Keys.length c_4, .slice A_5 l_1.Names.length c_6, .slice A_7 l_1.Good.length c_8, .slice A_9 l_1.Dead.length c_10]⟩, ⟨40, b_12, [.int .u64 k_11.Saga, .int .i64 k_11.Step, .bool k_11.Back]⟩]) (ps := [b_2 = b_2]) (by kernel_rfl) (And.intro rfl trivial) ?_
    refine GoO.regionEnd ?_
    refine GoO.ite' c42_10e (by kernel_rfl) (fun h14 => ?_) (fun h14 => ?_)
    · refine GoO.skip' c42_11e ?_
      refine GoO.seq' c42_13e ?_
      refine GoO.block' c42_14e ?_
      refine GoO.seq' c42_15e ?_
      refine GoO.draw c42_16e (by kernel_rfl) [] [⟨1, b_2, [.int .u64 l_1.Fence.Term, .int .u64 l_1.Fence.Index, .slice A_3 l_1.Keys.length c_4, .slice A_5 l_1.Names.length c_6, .slice A_7 l_1.Good.length c_8, .slice A_9 l_1.Dead.length c_10]⟩, ⟨40, b_12, [.int .u64 k_11.Saga, .int .i64 k_11.Step, .bool k_11.Back]⟩] [Ow 4 kT_tontineref18_Said A_7 c_8 l_1.Good] (n := 10) (by kernel_rfl) ?_
      simp only [List.replicate]
      refine GoF.take [0, 1, 2, 3, 4, 8] [.p, .p, .p, .b 0, .p, .b 1] (ks := [0, 3, 6, 19, 20, 24]) (fu := 4) (li := [true, true, true, true, true, false, false, false, true, false]) (env' := [(0, .pointer (some ⟨b_2, 0, none⟩)), (3, .pointer (some ⟨b_12, 0, none⟩)), (6, .int .i64 i_13), (19, .slice A_7 l_1.Good.length c_8), (20, .int .i64 i_13), (24, .agg ⟨[.int .u64 k_11.Saga, .int .i64 k_11.Step, .bool k_11.Back]⟩)]) (ps := [b_2 = b_2, b_12 = b_12]) (hk := [0, 1]) (bk := [2]) (by kernel_rfl) (And.intro rfl (And.intro rfl trivial)) rfl rfl ?_
      refine GoF.guard (fun h15 => ?_)
      refine GoF.idx (i := 5) (hk := [0, 1]) (bk := [2]) (kk := .i64) (e := 98) (K := kT_tontineref18_Said) (A := A_7) (c := c_8) (xs := l_1.Good) (iv := i_13) (j := 0) (by kernel_rfl) rfl rfl rfl (by kernel_rfl) (by kernel_rfl) (by kernel_rfl) (by kernel_rfl) rfl Reads.own rfl h15.1 h15.2 (by decide) rfl ?_
      refine GoF.fldE (i := 6) (hk := [0, 1]) (bk := [2]) (K := kT_tontineref18_Said) (A := A_7) (c := c_8) (xs := l_1.Good) (iN := i_13.toNat) (off := 0) (n := 0) (j := 0) (by kernel_rfl) rfl rfl rfl (by kernel_rfl) (by kernel_rfl) rfl Reads.own (by first | exact idx_lt h15.1 h15.2 | (simp only [List.length_set]; exact idx_lt h15.1 h15.2)) (by decide) rfl ?_
      refine GoF.ldE (i := 7) (hk := [0, 1]) (bk := [2]) (K := kT_tontineref18_Said) (A := A_7) (c := c_8) (xs := l_1.Good) (iN := i_13.toNat) (off := 0) (j := 0) (v := .agg ⟨[.int .u64 ((rdL l_1.Good i_13).Key.Saga), .int .i64 ((rdL l_1.Good i_13).Key.Step), .bool ((rdL l_1.Good i_13).Key.Back)]⟩) (by kernel_rfl) rfl rfl rfl (hK := rfl) (by kernel_rfl) rfl Reads.own (by first | exact idx_lt h15.1 h15.2 | (simp only [List.length_set]; exact idx_lt h15.1 h15.2)) (by decide) (by kernel_rfl) rfl ?_
      refine GoF.take [9] [.p] (ks := [0, 3, 6, 25]) (fu := 0) (li := [true, true, true, true, true, true, true, true, true, true]) (env' := [(0, .pointer (some ⟨b_2, 0, none⟩)), (3, .pointer (some ⟨b_12, 0, none⟩)), (6, .int .i64 i_13), (25, .bool ((((rdL l_1.Good i_13).Key.Saga) == k_11.Saga) && ((((rdL l_1.Good i_13).Key.Step) == k_11.Step) && ((((rdL l_1.Good i_13).Key.Back) == k_11.Back) && true))))]) (ps := []) (hk := [0, 1]) (bk := [2]) (by kernel_rfl) trivial rfl rfl ?_
      refine GoF.done (by kernel_rfl) ?_
      refine GoO.ite' c42_17e (by kernel_rfl) (fun h16 => ?_) (fun h16 => ?_)
      · refine GoO.seq' c42_18e ?_
        refine GoO.region' (is := [0, 1, 2, 3, 4, 5, 6, 7, 8, 9]) c42_19e (by kernel_rfl) ?_
        refine GoO.exec (is := [0, 1, 2, 3, 4]) (hs := [.p, .p, .p, .b 0, .p]) (rest := [5, 6, 7, 8, 9]) (ks := [29, 30]) (env' := [(29, .slice A_7 l_1.Good.length c_8), (30, .int .i64 i_13)]) (H' := [⟨1, b_2, [.int .u64 l_1.Fence.Term, .int .u64 l_1.Fence.Index, .slice A_3 l_1.Keys.length c_4, .slice A_5 l_1.Names.length c_6, .slice A_7 l_1.Good.length c_8, .slice A_9 l_1.Dead.length c_10]⟩, ⟨40, b_12, [.int .u64 k_11.Saga, .int .i64 k_11.Step, .bool k_11.Back]⟩]) (ps := [b_2 = b_2]) (by kernel_rfl) (And.intro rfl trivial) ?_
        refine GoO.guard (fun h17 => ?_)
        refine OpTo.go (GoO.idx (kk := .i64) (e := 98) (K := kT_tontineref18_Said) (A := A_7) (c := c_8) (xs := l_1.Good) (iv := i_13) (j := 2) rfl (by kernel_rfl) (by kernel_rfl) (by kernel_rfl) (by kernel_rfl) rfl Reads.own rfl h17.1 h17.2 (by decide) rfl ?_)
        refine OpTo.go (GoO.fldE (K := kT_tontineref18_Said) (A := A_7) (c := c_8) (xs := l_1.Good) (iN := i_13.toNat) (off := 0) (n := 3) (j := 2) rfl (by kernel_rfl) (by kernel_rfl) rfl Reads.own (by first | exact idx_lt h17.1 h17.2 | (simp only [List.length_set]; exact idx_lt h17.1 h17.2)) (by decide) rfl ?_)
        refine OpTo.go (GoO.ldE' (K := kT_tontineref18_Said) (A := A_7) (c := c_8) (xs := l_1.Good) (iN := i_13.toNat) (off := 3) (j := 2) rfl (by kernel_rfl) rfl Reads.own (by first | exact idx_lt h17.1 h17.2 | (simp only [List.length_set]; exact idx_lt h17.1 h17.2)) (by decide) (Opn.flat _ _ _ _ _) (v := fun _ => .bool ((rdL l_1.Good i_13).Ok)) (fun _ => by kernel_rfl) _ (fun _ => rfl) (fun _ => ?_))
        refine GoO.exec (is := [8, 9]) (hs := [.p, .p]) (rest := []) (ks := [4, 5]) (env' := [(4, .bool ((rdL l_1.Good i_13).Ok)), (5, .bool true)]) (H' := [⟨1, b_2, [.int .u64 l_1.Fence.Term, .int .u64 l_1.Fence.Index, .slice A_3 l_1.Keys.length c_4, .slice A_5 l_1.Names.length c_6, .slice A_7 l_1.Good.length c_8, .slice A_9 l_1.Dead.length c_10]⟩, ⟨40, b_12, [.int .u64 k_11.Saga, .int .i64 k_11.Step, .bool k_11.Back]⟩]) (ps := []) (by kernel_rfl) trivial ?_
        refine GoO.regionEnd ?_
        exact GoO.ret' (h := c42_20e) (hs := []) (ps := []) (hk := []) (bk := []) Try.func42 () (by kernel_rfl) trivial (by kernel_rfl) (by kernel_rfl)
      · refine GoO.skip' c42_21e ?_
        refine GoO.inBlock ?_
        refine GoO.region' (is := [0, 1, 2]) c42_22e (by kernel_rfl) ?_
        refine GoO.exec (is := [0, 1, 2]) (hs := [.p, .p, .p]) (rest := []) (ks := [0, 3, 6]) (env' := [(0, .pointer (some ⟨b_2, 0, none⟩)), (3, .pointer (some ⟨b_12, 0, none⟩)), (6, .int .i64 (wi64 (i_13 + 1)))]) (H' := [⟨1, b_2, [.int .u64 l_1.Fence.Term, .int .u64 l_1.Fence.Index, .slice A_3 l_1.Keys.length c_4, .slice A_5 l_1.Names.length c_6, .slice A_7 l_1.Good.length c_8, .slice A_9 l_1.Dead.length c_10]⟩, ⟨40, b_12, [.int .u64 k_11.Saga, .int .i64 k_11.Step, .bool k_11.Back]⟩]) (ps := []) (by kernel_rfl) trivial ?_
        refine GoO.regionEnd ?_
        refine GoO.inLoop ?_
        exact GoO.sub (ks := [0, 3, 6]) (hk := [0, 1]) (bk := [0, 1, 2, 3]) (by kernel_rfl) (by kernel_rfl) (by kernel_rfl) (ih0 (wi64 (i_13 + 1)))
    · refine GoO.exit' c42_12e rfl ?_
      refine GoO.seq' c42_23e ?_
      refine GoO.region' (is := [0, 1]) c42_24e (by kernel_rfl) ?_
      refine GoO.exec (is := [0, 1]) (hs := [.p, .p]) (rest := []) (ks := [4, 5]) (env' := [(4, .bool false), (5, .bool false)]) (H' := [⟨1, b_2, [.int .u64 l_1.Fence.Term, .int .u64 l_1.Fence.Index, .slice A_3 l_1.Keys.length c_4, .slice A_5 l_1.Names.length c_6, .slice A_7 l_1.Good.length c_8, .slice A_9 l_1.Dead.length c_10]⟩, ⟨40, b_12, [.int .u64 k_11.Saga, .int .i64 k_11.Step, .bool k_11.Back]⟩]) (ps := []) (by kernel_rfl) trivial ?_
      refine GoO.regionEnd ?_
      exact GoO.ret' (h := c42_25e) (hs := []) (ps := []) (hk := []) (bk := []) Try.func42 () (by kernel_rfl) trivial (by kernel_rfl) (by kernel_rfl)
theorem tontineref18_Ledger_said_ok (n : Nat) (l_1 : T_tontineref18_Ledger) (k_11 : T_api_Key) (b_2 : Nat) (A_3 : Option Addr) (c_4 : Nat) (A_5 : Option Addr) (c_6 : Nat) (A_7 : Option Addr) (c_8 : Nat) (A_9 : Option Addr) (c_10 : Nat) :
    Meets Try.prog 42 [.pointer (some ⟨b_2, 0, none⟩), .agg ⟨[.int .u64 k_11.Saga, .int .i64 k_11.Step, .bool k_11.Back]⟩] 5 [] [⟨1, b_2, [.int .u64 l_1.Fence.Term, .int .u64 l_1.Fence.Index, .slice A_3 l_1.Keys.length c_4, .slice A_5 l_1.Names.length c_6, .slice A_7 l_1.Good.length c_8, .slice A_9 l_1.Dead.length c_10]⟩] [Ow 2 kT_api_Key A_3 c_4 l_1.Keys, Ow 3 Kd.str A_5 c_6 l_1.Names, Ow 4 kT_tontineref18_Said A_7 c_8 l_1.Good, Ow 5 kT_api_Key A_9 c_10 l_1.Dead] (tontineref18_Ledger_said.f n l_1 k_11) (tontineref18_Ledger_said.R b_2 A_3 c_4 A_5 c_6 A_7 c_8 A_9 c_10) := by
  refine Meets.of (c := c42_0) (n := 34) Try.func42 (by kernel_rfl) (by kernel_rfl) (by kernel_rfl) fun w0 S0 => ?_
  unfold tontineref18_Ledger_said.f
  show GoO (tontineref18_Ledger_said.cx b_2 A_3 c_4 A_5 c_6 A_7 c_8 A_9 c_10 w0 S0) [(0, .pointer (some ⟨b_2, 0, none⟩)), (1, .agg ⟨[.int .u64 k_11.Saga, .int .i64 k_11.Step, .bool k_11.Back]⟩)] [⟨1, b_2, [.int .u64 l_1.Fence.Term, .int .u64 l_1.Fence.Index, .slice A_3 l_1.Keys.length c_4, .slice A_5 l_1.Names.length c_6, .slice A_7 l_1.Good.length c_8, .slice A_9 l_1.Dead.length c_10]⟩] [Ow 2 kT_api_Key A_3 c_4 l_1.Keys, Ow 3 Kd.str A_5 c_6 l_1.Names, Ow 4 kT_tontineref18_Said A_7 c_8 l_1.Good, Ow 5 kT_api_Key A_9 c_10 l_1.Dead] [.code c42_0] _
  refine GoO.seq' c42_0e ?_
  refine GoO.region' (is := [0, 1, 2]) c42_1e (by kernel_rfl) ?_
  refine OpTo.go (GoO.new rfl 40 (cs := [.int .u64 k_11.Saga, .int .i64 k_11.Step, .bool k_11.Back]) (by kernel_rfl) _ (fun _ => rfl) (fun b_12 => ?_))
  refine GoO.exec (is := [1, 2]) (hs := [.p, .p]) (rest := []) (ks := [0, 3]) (env' := [(0, .pointer (some ⟨b_2, 0, none⟩)), (3, .pointer (some ⟨b_12, 0, none⟩))]) (H' := [⟨40, b_12, [.int .u64 k_11.Saga, .int .i64 k_11.Step, .bool k_11.Back]⟩, ⟨1, b_2, [.int .u64 l_1.Fence.Term, .int .u64 l_1.Fence.Index, .slice A_3 l_1.Keys.length c_4, .slice A_5 l_1.Names.length c_6, .slice A_7 l_1.Good.length c_8, .slice A_9 l_1.Dead.length c_10]⟩]) (ps := []) (by kernel_rfl) trivial ?_
  refine GoO.regionEnd ?_
  refine GoO.seq' c42_2e ?_
  refine GoO.seq' c42_3e ?_
  refine GoO.region' (is := [0]) c42_4e (by kernel_rfl) ?_
  refine GoO.exec (is := [0]) (hs := [.p]) (rest := []) (ks := [0, 3, 6]) (env' := [(0, .pointer (some ⟨b_2, 0, none⟩)), (3, .pointer (some ⟨b_12, 0, none⟩)), (6, .int .i64 0)]) (H' := [⟨40, b_12, [.int .u64 k_11.Saga, .int .i64 k_11.Step, .bool k_11.Back]⟩, ⟨1, b_2, [.int .u64 l_1.Fence.Term, .int .u64 l_1.Fence.Index, .slice A_3 l_1.Keys.length c_4, .slice A_5 l_1.Names.length c_6, .slice A_7 l_1.Good.length c_8, .slice A_9 l_1.Dead.length c_10]⟩]) (ps := []) (by kernel_rfl) trivial ?_
  refine GoO.regionEnd ?_
  refine GoO.block' c42_5e ?_
  refine GoO.loop' c42_6e ?_
  exact GoO.sub (ks := [0, 3, 6]) (hk := [1, 0]) (bk := [0, 1, 2, 3]) (by kernel_rfl) (by kernel_rfl) (by kernel_rfl) (tontineref18_Ledger_said_l0_ok n l_1 k_11 b_2 A_3 c_4 A_5 c_6 A_7 c_8 A_9 c_10 b_12 w0 S0 n 0)

/-! (*tontine/tontineref18.Ledger).IsDead -/
noncomputable def c30_0 : Code := bodyOf Try.f30
noncomputable def c30_1 : Code := cdL c30_0
noncomputable def c30_2 : Code := cdR c30_0
noncomputable def c30_3 : Code := cdL c30_2
noncomputable def c30_4 : Code := cdL c30_3
noncomputable def c30_5 : Code := cdR c30_3
noncomputable def c30_6 : Code := cdL c30_5
noncomputable def c30_7 : Code := cdL c30_6
noncomputable def c30_8 : Code := cdL c30_7
noncomputable def c30_9 : Code := cdL c30_8
noncomputable def c30_10 : Code := cdR c30_8
noncomputable def c30_11 : Code := cdL c30_10
noncomputable def c30_12 : Code := cdR c30_10
noncomputable def c30_13 : Code := cdR c30_7
noncomputable def c30_14 : Code := cdL c30_13
noncomputable def c30_15 : Code := cdL c30_14
noncomputable def c30_16 : Code := cdL c30_15
noncomputable def c30_17 : Code := cdR c30_15
noncomputable def c30_18 : Code := cdL c30_17
noncomputable def c30_19 : Code := cdL c30_18
noncomputable def c30_20 : Code := cdR c30_18
noncomputable def c30_21 : Code := cdR c30_17
noncomputable def c30_22 : Code := cdR c30_13
noncomputable def c30_23 : Code := cdR c30_2
noncomputable def c30_24 : Code := cdL c30_23
noncomputable def c30_25 : Code := cdR c30_23
noncomputable def r30_1 : Array Oper := cdO c30_1
noncomputable def r30_4 : Array Oper := cdO c30_4
noncomputable def r30_9 : Array Oper := cdO c30_9
noncomputable def r30_16 : Array Oper := cdO c30_16
noncomputable def r30_19 : Array Oper := cdO c30_19
noncomputable def r30_22 : Array Oper := cdO c30_22
noncomputable def r30_24 : Array Oper := cdO c30_24
theorem c30_0e : c30_0 = .seq c30_1 c30_2 := by kernel_rfl
theorem c30_1e : c30_1 = .region 0 r30_1 false := by kernel_rfl
theorem c30_2e : c30_2 = .seq c30_3 c30_23 := by kernel_rfl
theorem c30_3e : c30_3 = .seq c30_4 c30_5 := by kernel_rfl
theorem c30_4e : c30_4 = .region 1 r30_4 false := by kernel_rfl
theorem c30_5e : c30_5 = .block 0 c30_6 := by kernel_rfl
theorem c30_6e : c30_6 = .loop c30_7 := by kernel_rfl
theorem c30_7e : c30_7 = .seq c30_8 c30_13 := by kernel_rfl
theorem c30_8e : c30_8 = .seq c30_9 c30_10 := by kernel_rfl
theorem c30_9e : c30_9 = .region 2 r30_9 false := by kernel_rfl
theorem c30_10e : c30_10 = .cond (cdC c30_10) c30_11 c30_12 := by kernel_rfl
theorem c30_11e : c30_11 = .skip := by kernel_rfl
theorem c30_12e : c30_12 = .exit 0 := by kernel_rfl
theorem c30_13e : c30_13 = .seq c30_14 c30_22 := by kernel_rfl
theorem c30_14e : c30_14 = .block 1 c30_15 := by kernel_rfl
theorem c30_15e : c30_15 = .seq c30_16 c30_17 := by kernel_rfl
theorem c30_16e : c30_16 = .region 4 r30_16 true := by kernel_rfl
theorem c30_17e : c30_17 = .cond (cdC c30_17) c30_18 c30_21 := by kernel_rfl
theorem c30_18e : c30_18 = .seq c30_19 c30_20 := by kernel_rfl
theorem c30_19e : c30_19 = .region 5 r30_19 false := by kernel_rfl
theorem c30_20e : c30_20 = .ret := by kernel_rfl
theorem c30_21e : c30_21 = .skip := by kernel_rfl
theorem c30_22e : c30_22 = .region 3 r30_22 false := by kernel_rfl
theorem c30_23e : c30_23 = .seq c30_24 c30_25 := by kernel_rfl
theorem c30_24e : c30_24 = .region 6 r30_24 false := by kernel_rfl
theorem c30_25e : c30_25 = .ret := by kernel_rfl
noncomputable def tontineref18_Ledger_IsDead.R (b_2 : Nat) (A_3 : Option Addr) (c_4 : Nat) (A_5 : Option Addr) (c_6 : Nat) (A_7 : Option Addr) (c_8 : Nat) (A_9 : Option Addr) (c_10 : Nat) : Pst Bool where
  ε := Unit
  v := fun r x => .bool r
  H := fun r x => []
  B := fun r x => []
noncomputable def tontineref18_Ledger_IsDead.cx (b_2 : Nat) (A_3 : Option Addr) (c_4 : Nat) (A_5 : Option Addr) (c_6 : Nat) (A_7 : Option Addr) (c_8 : Nat) (A_9 : Option Addr) (c_10 : Nat) (w0 : World) (S0 : Fam) : Cx Bool := ⟨Try.prog, 30, Try.f30, 24, w0, S0, [], 5, tontineref18_Ledger_IsDead.R b_2 A_3 c_4 A_5 c_6 A_7 c_8 A_9 c_10⟩
theorem tontineref18_Ledger_IsDead_l0_ok (n : Nat) (l_1 : T_tontineref18_Ledger) (k_11 : T_api_Key) (b_2 : Nat) (A_3 : Option Addr) (c_4 : Nat) (A_5 : Option Addr) (c_6 : Nat) (A_7 : Option Addr) (c_8 : Nat) (A_9 : Option Addr) (c_10 : Nat) (b_12 : Nat) (w0 : World) (S0 : Fam) :
    ∀ (k : Nat) (i_13 : Int), GoO (tontineref18_Ledger_IsDead.cx b_2 A_3 c_4 A_5 c_6 A_7 c_8 A_9 c_10 w0 S0) [(0, .pointer (some ⟨b_2, 0, none⟩)), (3, .pointer (some ⟨b_12, 0, none⟩)), (5, .int .i64 i_13)] [⟨1, b_2, [.int .u64 l_1.Fence.Term, .int .u64 l_1.Fence.Index, .slice A_3 l_1.Keys.length c_4, .slice A_5 l_1.Names.length c_6, .slice A_7 l_1.Good.length c_8, .slice A_9 l_1.Dead.length c_10]⟩, ⟨40, b_12, [.int .u64 k_11.Saga, .int .i64 k_11.Step, .bool k_11.Back]⟩] [Ow 2 kT_api_Key A_3 c_4 l_1.Keys, Ow 3 Kd.str A_5 c_6 l_1.Names, Ow 4 kT_tontineref18_Said A_7 c_8 l_1.Good, Ow 5 kT_api_Key A_9 c_10 l_1.Dead] [.code c30_7, .inLoop c30_7, .inBlock 0, .code c30_23] (tontineref18_Ledger_IsDead.l0 n l_1 k_11 k i_13) := by
  intro k
  induction k with
  | zero => intros; rw [tontineref18_Ledger_IsDead.l0.eq_1]; exact GoO.stop
  | succ k ih0 =>
    intro i_13
    rw [tontineref18_Ledger_IsDead.l0.eq_2]
    refine GoO.seq' c30_7e ?_
    refine GoO.seq' c30_8e ?_
    refine GoO.region' (is := [0, 1, 2, 3, 4, 5, 6]) c30_9e (by kernel_rfl) ?_
    refine GoO.exec (is := [0, 1, 2, 3, 4, 5, 6]) (hs := [.p, .p, .p, .p, .b 0, .p, .p]) (rest := []) (ks := [0, 3, 5, 12]) (env' := [(0, .pointer (some ⟨b_2, 0, none⟩)), (3, .pointer (some ⟨b_12, 0, none⟩)), (5, .int .i64 i_13), (12, .bool (decide (i_13 < (l_1.Dead.length : Int))))]) (H' := [⟨1, b_2, [.int .u64 l_1.Fence.Term, .int .u64 l_1.Fence.Index, .slice A_3 l_1.Keys.length c_4, .slice A_5 l_1.Names.length c_6, .slice A_7 l_1.Good.length c_8, .slice A_9 l_1.Dead.length c_10]⟩, ⟨40, b_12, [.int .u64 k_11.Saga, .int .i64 k_11.Step, .bool k_11.Back]⟩]) (ps := [b_2 = b_2]) (by kernel_rfl) (And.intro rfl trivial) ?_
    refine GoO.regionEnd ?_
    refine GoO.ite' c30_10e (by kernel_rfl) (fun h14 => ?_) (fun h14 => ?_)
    · refine GoO.skip' c30_11e ?_
      refine GoO.seq' c30_13e ?_
      refine GoO.block' c30_14e ?_
      refine GoO.seq' c30_15e ?_
      refine GoO.draw c30_16e (by kernel_rfl) [] [⟨1, b_2, [.int .u64 l_1.Fence.Term, .int .u64 l_1.Fence.Index, .slice A_3 l_1.Keys.length c_4, .slice A_5 l_1.Names.length c_6, .slice A_7 l_1.Good.length c_8, .slice A_9 l_1.Dead.length c_10]⟩, ⟨40, b_12, [.int .u64 k_11.Saga, .int .i64 k_11.Step, .bool k_11.Back]⟩] [Ow 5 kT_api_Key A_9 c_10 l_1.Dead] (n := 9) (by kernel_rfl) ?_
      simp only [List.replicate]
      refine GoF.take [0, 1, 2, 3, 4, 7] [.p, .p, .p, .b 0, .p, .b 1] (ks := [0, 3, 5, 18, 19, 22]) (fu := 3) (li := [true, true, true, true, true, false, false, true, false]) (env' := [(0, .pointer (some ⟨b_2, 0, none⟩)), (3, .pointer (some ⟨b_12, 0, none⟩)), (5, .int .i64 i_13), (18, .slice A_9 l_1.Dead.length c_10), (19, .int .i64 i_13), (22, .agg ⟨[.int .u64 k_11.Saga, .int .i64 k_11.Step, .bool k_11.Back]⟩)]) (ps := [b_2 = b_2, b_12 = b_12]) (hk := [0, 1]) (bk := [3]) (by kernel_rfl) (And.intro rfl (And.intro rfl trivial)) rfl rfl ?_
      refine GoF.guard (fun h15 => ?_)
      refine GoF.idx (i := 5) (hk := [0, 1]) (bk := [3]) (kk := .i64) (e := 45) (K := kT_api_Key) (A := A_9) (c := c_10) (xs := l_1.Dead) (iv := i_13) (j := 0) (by kernel_rfl) rfl rfl rfl (by kernel_rfl) (by kernel_rfl) (by kernel_rfl) (by kernel_rfl) rfl Reads.own rfl h15.1 h15.2 (by decide) rfl ?_
      refine GoF.ldE (i := 6) (hk := [0, 1]) (bk := [3]) (K := kT_api_Key) (A := A_9) (c := c_10) (xs := l_1.Dead) (iN := i_13.toNat) (off := 0) (j := 0) (v := .agg ⟨[.int .u64 ((rdL l_1.Dead i_13).Saga), .int .i64 ((rdL l_1.Dead i_13).Step), .bool ((rdL l_1.Dead i_13).Back)]⟩) (by kernel_rfl) rfl rfl rfl (hK := rfl) (by kernel_rfl) rfl Reads.own (by first | exact idx_lt h15.1 h15.2 | (simp only [List.length_set]; exact idx_lt h15.1 h15.2)) (by decide) (by kernel_rfl) rfl ?_
      refine GoF.take [8] [.p] (ks := [0, 3, 5, 23]) (fu := 0) (li := [true, true, true, true, true, true, true, true, true]) (env' := [(0, .pointer (some ⟨b_2, 0, none⟩)), (3, .pointer (some ⟨b_12, 0, none⟩)), (5, .int .i64 i_13), (23, .bool ((((rdL l_1.Dead i_13).Saga) == k_11.Saga) && ((((rdL l_1.Dead i_13).Step) == k_11.Step) && ((((rdL l_1.Dead i_13).Back) == k_11.Back) && true))))]) (ps := []) (hk := [0, 1]) (bk := [3]) (by kernel_rfl) trivial rfl rfl ?_
      refine GoF.done (by kernel_rfl) ?_
      refine GoO.ite' c30_17e (by kernel_rfl) (fun h16 => ?_) (fun h16 => ?_)
      · refine GoO.seq' c30_18e ?_
        refine GoO.region' (is := [0]) c30_19e (by kernel_rfl) ?_
        refine GoO.exec (is := [0]) (hs := [.p]) (rest := []) (ks := [4]) (env' := [(4, .bool true)]) (H' := [⟨1, b_2, [.int .u64 l_1.Fence.Term, .int .u64 l_1.Fence.Index, .slice A_3 l_1.Keys.length c_4, .slice A_5 l_1.Names.length c_6, .slice A_7 l_1.Good.length c_8, .slice A_9 l_1.Dead.length c_10]⟩, ⟨40, b_12, [.int .u64 k_11.Saga, .int .i64 k_11.Step, .bool k_11.Back]⟩]) (ps := []) (by kernel_rfl) trivial ?_
        refine GoO.regionEnd ?_
        exact GoO.ret' (h := c30_20e) (hs := []) (ps := []) (hk := []) (bk := []) Try.func30 () (by kernel_rfl) trivial (by kernel_rfl) (by kernel_rfl)
      · refine GoO.skip' c30_21e ?_
        refine GoO.inBlock ?_
        refine GoO.region' (is := [0, 1, 2]) c30_22e (by kernel_rfl) ?_
        refine GoO.exec (is := [0, 1, 2]) (hs := [.p, .p, .p]) (rest := []) (ks := [0, 3, 5]) (env' := [(0, .pointer (some ⟨b_2, 0, none⟩)), (3, .pointer (some ⟨b_12, 0, none⟩)), (5, .int .i64 (wi64 (i_13 + 1)))]) (H' := [⟨1, b_2, [.int .u64 l_1.Fence.Term, .int .u64 l_1.Fence.Index, .slice A_3 l_1.Keys.length c_4, .slice A_5 l_1.Names.length c_6, .slice A_7 l_1.Good.length c_8, .slice A_9 l_1.Dead.length c_10]⟩, ⟨40, b_12, [.int .u64 k_11.Saga, .int .i64 k_11.Step, .bool k_11.Back]⟩]) (ps := []) (by kernel_rfl) trivial ?_
        refine GoO.regionEnd ?_
        refine GoO.inLoop ?_
        exact GoO.sub (ks := [0, 3, 5]) (hk := [0, 1]) (bk := [0, 1, 2, 3]) (by kernel_rfl) (by kernel_rfl) (by kernel_rfl) (ih0 (wi64 (i_13 + 1)))
    · refine GoO.exit' c30_12e rfl ?_
      refine GoO.seq' c30_23e ?_
      refine GoO.region' (is := [0]) c30_24e (by kernel_rfl) ?_
      refine GoO.exec (is := [0]) (hs := [.p]) (rest := []) (ks := [4]) (env' := [(4, .bool false)]) (H' := [⟨1, b_2, [.int .u64 l_1.Fence.Term, .int .u64 l_1.Fence.Index, .slice A_3 l_1.Keys.length c_4, .slice A_5 l_1.Names.length c_6, .slice A_7 l_1.Good.length c_8, .slice A_9 l_1.Dead.length c_10]⟩, ⟨40, b_12, [.int .u64 k_11.Saga, .int .i64 k_11.Step, .bool k_11.Back]⟩]) (ps := []) (by kernel_rfl) trivial ?_
      refine GoO.regionEnd ?_
      exact GoO.ret' (h := c30_25e) (hs := []) (ps := []) (hk := []) (bk := []) Try.func30 () (by kernel_rfl) trivial (by kernel_rfl) (by kernel_rfl)
theorem tontineref18_Ledger_IsDead_ok (n : Nat) (l_1 : T_tontineref18_Ledger) (k_11 : T_api_Key) (b_2 : Nat) (A_3 : Option Addr) (c_4 : Nat) (A_5 : Option Addr) (c_6 : Nat) (A_7 : Option Addr) (c_8 : Nat) (A_9 : Option Addr) (c_10 : Nat) :
    Meets Try.prog 30 [.pointer (some ⟨b_2, 0, none⟩), .agg ⟨[.int .u64 k_11.Saga, .int .i64 k_11.Step, .bool k_11.Back]⟩] 5 [] [⟨1, b_2, [.int .u64 l_1.Fence.Term, .int .u64 l_1.Fence.Index, .slice A_3 l_1.Keys.length c_4, .slice A_5 l_1.Names.length c_6, .slice A_7 l_1.Good.length c_8, .slice A_9 l_1.Dead.length c_10]⟩] [Ow 2 kT_api_Key A_3 c_4 l_1.Keys, Ow 3 Kd.str A_5 c_6 l_1.Names, Ow 4 kT_tontineref18_Said A_7 c_8 l_1.Good, Ow 5 kT_api_Key A_9 c_10 l_1.Dead] (tontineref18_Ledger_IsDead.f n l_1 k_11) (tontineref18_Ledger_IsDead.R b_2 A_3 c_4 A_5 c_6 A_7 c_8 A_9 c_10) := by
  refine Meets.of (c := c30_0) (n := 24) Try.func30 (by kernel_rfl) (by kernel_rfl) (by kernel_rfl) fun w0 S0 => ?_
  unfold tontineref18_Ledger_IsDead.f
  show GoO (tontineref18_Ledger_IsDead.cx b_2 A_3 c_4 A_5 c_6 A_7 c_8 A_9 c_10 w0 S0) [(0, .pointer (some ⟨b_2, 0, none⟩)), (1, .agg ⟨[.int .u64 k_11.Saga, .int .i64 k_11.Step, .bool k_11.Back]⟩)] [⟨1, b_2, [.int .u64 l_1.Fence.Term, .int .u64 l_1.Fence.Index, .slice A_3 l_1.Keys.length c_4, .slice A_5 l_1.Names.length c_6, .slice A_7 l_1.Good.length c_8, .slice A_9 l_1.Dead.length c_10]⟩] [Ow 2 kT_api_Key A_3 c_4 l_1.Keys, Ow 3 Kd.str A_5 c_6 l_1.Names, Ow 4 kT_tontineref18_Said A_7 c_8 l_1.Good, Ow 5 kT_api_Key A_9 c_10 l_1.Dead] [.code c30_0] _
  refine GoO.seq' c30_0e ?_
  refine GoO.region' (is := [0, 1]) c30_1e (by kernel_rfl) ?_
  refine OpTo.go (GoO.new rfl 40 (cs := [.int .u64 k_11.Saga, .int .i64 k_11.Step, .bool k_11.Back]) (by kernel_rfl) _ (fun _ => rfl) (fun b_12 => ?_))
  refine GoO.exec (is := [1]) (hs := [.p]) (rest := []) (ks := [0, 3]) (env' := [(0, .pointer (some ⟨b_2, 0, none⟩)), (3, .pointer (some ⟨b_12, 0, none⟩))]) (H' := [⟨40, b_12, [.int .u64 k_11.Saga, .int .i64 k_11.Step, .bool k_11.Back]⟩, ⟨1, b_2, [.int .u64 l_1.Fence.Term, .int .u64 l_1.Fence.Index, .slice A_3 l_1.Keys.length c_4, .slice A_5 l_1.Names.length c_6, .slice A_7 l_1.Good.length c_8, .slice A_9 l_1.Dead.length c_10]⟩]) (ps := []) (by kernel_rfl) trivial ?_
  refine GoO.regionEnd ?_
  refine GoO.seq' c30_2e ?_
  refine GoO.seq' c30_3e ?_
  refine GoO.region' (is := [0]) c30_4e (by kernel_rfl) ?_
  refine GoO.exec (is := [0]) (hs := [.p]) (rest := []) (ks := [0, 3, 5]) (env' := [(0, .pointer (some ⟨b_2, 0, none⟩)), (3, .pointer (some ⟨b_12, 0, none⟩)), (5, .int .i64 0)]) (H' := [⟨40, b_12, [.int .u64 k_11.Saga, .int .i64 k_11.Step, .bool k_11.Back]⟩, ⟨1, b_2, [.int .u64 l_1.Fence.Term, .int .u64 l_1.Fence.Index, .slice A_3 l_1.Keys.length c_4, .slice A_5 l_1.Names.length c_6, .slice A_7 l_1.Good.length c_8, .slice A_9 l_1.Dead.length c_10]⟩]) (ps := []) (by kernel_rfl) trivial ?_
  refine GoO.regionEnd ?_
  refine GoO.block' c30_5e ?_
  refine GoO.loop' c30_6e ?_
  exact GoO.sub (ks := [0, 3, 5]) (hk := [1, 0]) (bk := [0, 1, 2, 3]) (by kernel_rfl) (by kernel_rfl) (by kernel_rfl) (tontineref18_Ledger_IsDead_l0_ok n l_1 k_11 b_2 A_3 c_4 A_5 c_6 A_7 c_8 A_9 c_10 b_12 w0 S0 n 0)

/-! (*tontine/tontineref18.Ledger).effect -/
noncomputable def c43_0 : Code := bodyOf Try.f43
noncomputable def c43_1 : Code := cdL c43_0
noncomputable def c43_2 : Code := cdR c43_0
noncomputable def c43_3 : Code := cdL c43_2
noncomputable def c43_4 : Code := cdR c43_2
noncomputable def r43_1 : Array Oper := cdO c43_1
noncomputable def r43_3 : Array Oper := cdO c43_3
noncomputable def r43_4 : Array Oper := cdO c43_4
theorem c43_0e : c43_0 = .seq c43_1 c43_2 := by kernel_rfl
theorem c43_1e : c43_1 = .region 0 r43_1 false := by kernel_rfl
theorem c43_2e : c43_2 = .seq c43_3 c43_4 := by kernel_rfl
theorem c43_3e : c43_3 = .region 1 r43_3 true := by kernel_rfl
theorem c43_4e : c43_4 = .region 2 r43_4 false := by kernel_rfl
noncomputable def tontineref18_Ledger_effect.R (b_2 : Nat) (A_3 : Option Addr) (c_4 : Nat) (A_5 : Option Addr) (c_6 : Nat) (A_7 : Option Addr) (c_8 : Nat) (A_9 : Option Addr) (c_10 : Nat) : Pst T_tontineref18_Ledger where
  ε := Option Addr × Nat × Option Addr × Nat × Option Addr × Nat × Option Addr × Nat
  v := fun r x => .tuple ⟨[]⟩
  H := fun r x => [⟨1, b_2, [.int .u64 r.Fence.Term, .int .u64 r.Fence.Index, .slice x.1 r.Keys.length x.2.1, .slice x.2.2.1 r.Names.length x.2.2.2.1, .slice x.2.2.2.2.1 r.Good.length x.2.2.2.2.2.1, .slice x.2.2.2.2.2.2.1 r.Dead.length x.2.2.2.2.2.2.2]⟩]
  B := fun r x => [Ow 2 kT_api_Key x.1 x.2.1 r.Keys, Ow 3 Kd.str x.2.2.1 x.2.2.2.1 r.Names, Ow 4 kT_tontineref18_Said x.2.2.2.2.1 x.2.2.2.2.2.1 r.Good, Ow 5 kT_api_Key x.2.2.2.2.2.2.1 x.2.2.2.2.2.2.2 r.Dead]
noncomputable def tontineref18_Ledger_effect.cx (b_2 : Nat) (A_3 : Option Addr) (c_4 : Nat) (A_5 : Option Addr) (c_6 : Nat) (A_7 : Option Addr) (c_8 : Nat) (A_9 : Option Addr) (c_10 : Nat) (w0 : World) (S0 : Fam) : Cx T_tontineref18_Ledger := ⟨Try.prog, 43, Try.f43, 26, w0, S0, [1, 2, 3, 4, 5], 5, tontineref18_Ledger_effect.R b_2 A_3 c_4 A_5 c_6 A_7 c_8 A_9 c_10⟩
theorem tontineref18_Ledger_effect_ok (n : Nat) (l_1 : T_tontineref18_Ledger) (k_11 : T_api_Key) (name_12 : (List UInt8)) (b_2 : Nat) (A_3 : Option Addr) (c_4 : Nat) (A_5 : Option Addr) (c_6 : Nat) (A_7 : Option Addr) (c_8 : Nat) (A_9 : Option Addr) (c_10 : Nat) :
    Meets Try.prog 43 [.pointer (some ⟨b_2, 0, none⟩), .agg ⟨[.int .u64 k_11.Saga, .int .i64 k_11.Step, .bool k_11.Back]⟩, .string (bs name_12)] 5 [1, 2, 3, 4, 5] [⟨1, b_2, [.int .u64 l_1.Fence.Term, .int .u64 l_1.Fence.Index, .slice A_3 l_1.Keys.length c_4, .slice A_5 l_1.Names.length c_6, .slice A_7 l_1.Good.length c_8, .slice A_9 l_1.Dead.length c_10]⟩] [Ow 2 kT_api_Key A_3 c_4 l_1.Keys, Ow 3 Kd.str A_5 c_6 l_1.Names, Ow 4 kT_tontineref18_Said A_7 c_8 l_1.Good, Ow 5 kT_api_Key A_9 c_10 l_1.Dead] (tontineref18_Ledger_effect.f n l_1 k_11 name_12) (tontineref18_Ledger_effect.R b_2 A_3 c_4 A_5 c_6 A_7 c_8 A_9 c_10) := by
  refine Meets.of (c := c43_0) (n := 26) Try.func43 (by kernel_rfl) (by kernel_rfl) (by kernel_rfl) fun w0 S0 => ?_
  unfold tontineref18_Ledger_effect.f
  show GoO (tontineref18_Ledger_effect.cx b_2 A_3 c_4 A_5 c_6 A_7 c_8 A_9 c_10 w0 S0) [(0, .pointer (some ⟨b_2, 0, none⟩)), (1, .agg ⟨[.int .u64 k_11.Saga, .int .i64 k_11.Step, .bool k_11.Back]⟩), (2, .string (bs name_12))] [⟨1, b_2, [.int .u64 l_1.Fence.Term, .int .u64 l_1.Fence.Index, .slice A_3 l_1.Keys.length c_4, .slice A_5 l_1.Names.length c_6, .slice A_7 l_1.Good.length c_8, .slice A_9 l_1.Dead.length c_10]⟩] [Ow 2 kT_api_Key A_3 c_4 l_1.Keys, Ow 3 Kd.str A_5 c_6 l_1.Names, Ow 4 kT_tontineref18_Said A_7 c_8 l_1.Good, Ow 5 kT_api_Key A_9 c_10 l_1.Dead] [.code c43_0] _
  refine GoO.seq' c43_0e ?_
  refine GoO.region' (is := [0]) c43_1e (by kernel_rfl) ?_
  refine OpTo.go (GoO.new rfl 40 (cs := [.int .u64 k_11.Saga, .int .i64 k_11.Step, .bool k_11.Back]) (by kernel_rfl) _ (fun _ => rfl) (fun b_13 => ?_))
  refine GoO.regionEnd ?_
  refine GoO.seq' c43_2e ?_
  refine GoO.draw c43_3e (by kernel_rfl) [8, 9, 10] [⟨40, b_13, [.int .u64 k_11.Saga, .int .i64 k_11.Step, .bool k_11.Back]⟩, ⟨1, b_2, [.int .u64 l_1.Fence.Term, .int .u64 l_1.Fence.Index, .slice A_3 l_1.Keys.length c_4, .slice A_5 l_1.Names.length c_6, .slice A_7 l_1.Good.length c_8, .slice A_9 l_1.Dead.length c_10]⟩] [] (n := 11) (by kernel_rfl) ?_
  simp only [List.replicate]
  refine GoF.take [0, 1, 2, 3, 4, 5] [.p, .p, .p, .p, .b 1, .b 0] (ks := [0, 2, 6, 10, 11]) (fu := 5) (li := [true, true, true, true, true, true, false, false, false, false, false]) (env' := [(0, .pointer (some ⟨b_2, 0, none⟩)), (2, .string (bs name_12)), (6, .pointer (some ⟨b_2, 0, none⟩)), (10, .slice A_3 l_1.Keys.length c_4), (11, .agg ⟨[.int .u64 k_11.Saga, .int .i64 k_11.Step, .bool k_11.Back]⟩)]) (ps := [b_2 = b_2, b_13 = b_13]) (hk := [0, 1]) (bk := []) (by kernel_rfl) (And.intro rfl (And.intro rfl trivial)) rfl rfl ?_
  refine OpTo.goF (i := 6) (by kernel_rfl) (hk := [0, 1]) (bk := []) (GoO.lit (e := 45) (K := kT_api_Key) rfl (by kernel_rfl) (by kernel_rfl) (cs := [.int .u64 k_11.Saga, .int .i64 k_11.Step, .bool k_11.Back]) (by kernel_rfl) [k_11] (by kernel_rfl) (by kernel_rfl) (fun w S hB => ⟨[.int .u64 k_11.Saga, .int .i64 k_11.Step, .bool k_11.Back], _, rfl, rfl, rfl⟩) 41 _ (fun _ _ => rfl) (fun A_14 c_15 => ⟨rfl, rfl, ?_⟩))
  refine GoF.guard (fun h16 => ?_)
  refine OpTo.goF (i := 7) (by kernel_rfl) (hk := [0, 1]) (bk := []) (GoO.appW (e := 45) (K := kT_api_Key) (A := A_3) (c := c_4) (tg := 2) (bytes := 24) (zs := [.int .u64 0, .int .i64 0, .bool false]) (xs := l_1.Keys) (ys := [k_11]) (xv := .slice A_14 [k_11].length c_15) (j := 1) (bk := [0, 2, 3, 4]) rfl (by kernel_rfl) (by kernel_rfl) (by kernel_rfl) (by kernel_rfl) rfl (by kernel_rfl) rfl (fun w S hB => SrcIs.row (Reads.own w S (hB _ (List.mem_of_getElem? (i := 0) rfl)))) h16 rfl rfl rfl rfl _ (fun _ _ => rfl) (fun A_17 c_18 => ⟨rfl, rfl, ?_⟩))
  refine GoF.fin1 (i := 8) (hint := .p) (ps := []) (hk := []) (bk := []) (by kernel_rfl) rfl trivial (.inl rfl) ?_
  refine GoF.fin1 (i := 9) (hint := .p) (ps := []) (hk := []) (bk := []) (by kernel_rfl) rfl trivial (.inl rfl) ?_
  refine GoF.fin1 (i := 10) (hint := .b 1) (ps := [b_2 = b_2]) (hk := []) (bk := []) (by kernel_rfl) rfl (And.intro rfl trivial) (.inl rfl) ?_
  refine GoF.done (by kernel_rfl) ?_
  refine GoO.region' (is := [0, 1, 2, 3, 4, 5, 6, 7, 8, 9, 10]) c43_4e (by kernel_rfl) ?_
  refine GoO.exec (is := [0, 1, 2, 3, 4, 5]) (hs := [.p, .p, .p, .p, .b 1, .p]) (rest := [6, 7, 8, 9, 10]) (ks := [16, 20, 21]) (env' := [(16, .pointer (some ⟨b_2, 0, none⟩)), (20, .slice A_5 l_1.Names.length c_6), (21, .string (bs name_12))]) (H' := [⟨40, b_13, [.int .u64 k_11.Saga, .int .i64 k_11.Step, .bool k_11.Back]⟩, ⟨1, b_2, [.int .u64 l_1.Fence.Term, .int .u64 l_1.Fence.Index, .slice A_17 (l_1.Keys ++ [k_11]).length c_18, .slice A_5 l_1.Names.length c_6, .slice A_7 l_1.Good.length c_8, .slice A_9 l_1.Dead.length c_10]⟩]) (ps := [b_2 = b_2]) (by kernel_rfl) (And.intro rfl trivial) ?_
  refine OpTo.go (GoO.lit (e := 9) (K := Kd.str) rfl (by kernel_rfl) (by kernel_rfl) (cs := [.string (bs name_12)]) (by kernel_rfl) [name_12] (by kernel_rfl) (by kernel_rfl) (fun w S hB => ⟨[.string (bs name_12)], _, rfl, rfl, rfl⟩) 42 _ (fun _ _ => rfl) (fun A_19 c_20 => ?_))
  refine GoO.guard (fun h21 => ?_)
  refine OpTo.go (GoO.appW (e := 9) (K := Kd.str) (A := A_5) (c := c_6) (tg := 3) (bytes := 16) (zs := [.string (bs [])]) (xs := l_1.Names) (ys := [name_12]) (xv := .slice A_19 [name_12].length c_20) (j := 3) (bk := [0, 1, 2, 4, 5]) rfl (by kernel_rfl) (by kernel_rfl) (by kernel_rfl) (by kernel_rfl) rfl (by kernel_rfl) rfl (fun w S hB => SrcIs.row (Reads.own w S (hB _ (List.mem_of_getElem? (i := 0) rfl)))) h21 rfl rfl rfl rfl _ (fun _ _ => rfl) (fun A_22 c_23 => ?_))
  refine GoO.exec (is := [8, 9, 10]) (hs := [.p, .p, .b 1]) (rest := []) (ks := []) (env' := []) (H' := [⟨40, b_13, [.int .u64 k_11.Saga, .int .i64 k_11.Step, .bool k_11.Back]⟩, ⟨1, b_2, [.int .u64 l_1.Fence.Term, .int .u64 l_1.Fence.Index, .slice A_17 (l_1.Keys ++ [k_11]).length c_18, .slice A_22 (l_1.Names ++ [name_12]).length c_23, .slice A_7 l_1.Good.length c_8, .slice A_9 l_1.Dead.length c_10]⟩]) (ps := [b_2 = b_2]) (by kernel_rfl) (And.intro rfl trivial) ?_
  refine GoO.regionEnd ?_
  exact GoO.fin (hs := []) (ps := []) (hk := [1]) (bk := [2, 0, 4, 5]) Try.func43 (⟨A_17, c_18, A_22, c_23, A_7, c_8, A_9, c_10⟩ : Option Addr × Nat × Option Addr × Nat × Option Addr × Nat × Option Addr × Nat) (by kernel_rfl) trivial (by kernel_rfl) (by kernel_rfl)

/-! (*tontine/tontineref18.Ledger).Ask -/
noncomputable def c28_0 : Code := bodyOf Try.f28
noncomputable def c28_1 : Code := cdL c28_0
noncomputable def c28_2 : Code := cdR c28_0
noncomputable def c28_3 : Code := cdL c28_2
noncomputable def c28_4 : Code := cdL c28_3
noncomputable def c28_5 : Code := cdR c28_3
noncomputable def c28_6 : Code := cdL c28_5
noncomputable def c28_7 : Code := cdL c28_6
noncomputable def c28_8 : Code := cdR c28_6
noncomputable def c28_9 : Code := cdR c28_5
noncomputable def c28_10 : Code := cdR c28_2
noncomputable def c28_11 : Code := cdL c28_10
noncomputable def c28_12 : Code := cdL c28_11
noncomputable def c28_13 : Code := cdR c28_11
noncomputable def c28_14 : Code := cdL c28_13
noncomputable def c28_15 : Code := cdL c28_14
noncomputable def c28_16 : Code := cdR c28_14
noncomputable def c28_17 : Code := cdR c28_13
noncomputable def c28_18 : Code := cdR c28_10
noncomputable def c28_19 : Code := cdL c28_18
noncomputable def c28_20 : Code := cdR c28_18
noncomputable def c28_21 : Code := cdL c28_20
noncomputable def c28_22 : Code := cdR c28_20
noncomputable def c28_23 : Code := cdL c28_22
noncomputable def c28_24 : Code := cdL c28_23
noncomputable def c28_25 : Code := cdR c28_23
noncomputable def c28_26 : Code := cdL c28_25
noncomputable def c28_27 : Code := cdL c28_26
noncomputable def c28_28 : Code := cdR c28_26
noncomputable def c28_29 : Code := cdR c28_25
noncomputable def c28_30 : Code := cdR c28_22
noncomputable def c28_31 : Code := cdL c28_30
noncomputable def c28_32 : Code := cdR c28_30
noncomputable def c28_33 : Code := cdL c28_32
noncomputable def c28_34 : Code := cdL c28_33
noncomputable def c28_35 : Code := cdL c28_34
noncomputable def c28_36 : Code := cdR c28_34
noncomputable def c28_37 : Code := cdL c28_36
noncomputable def c28_38 : Code := cdL c28_37
noncomputable def c28_39 : Code := cdR c28_37
noncomputable def c28_40 : Code := cdR c28_36
noncomputable def c28_41 : Code := cdL c28_40
noncomputable def c28_42 : Code := cdR c28_40
noncomputable def c28_43 : Code := cdL c28_42
noncomputable def c28_44 : Code := cdL c28_43
noncomputable def c28_45 : Code := cdR c28_43
noncomputable def c28_46 : Code := cdR c28_42
noncomputable def c28_47 : Code := cdL c28_46
noncomputable def c28_48 : Code := cdR c28_46
noncomputable def c28_49 : Code := cdL c28_48
noncomputable def c28_50 : Code := cdL c28_49
noncomputable def c28_51 : Code := cdR c28_49
noncomputable def c28_52 : Code := cdL c28_51
noncomputable def c28_53 : Code := cdR c28_51
noncomputable def c28_54 : Code := cdR c28_48
noncomputable def c28_55 : Code := cdL c28_54
noncomputable def c28_56 : Code := cdR c28_54
noncomputable def c28_57 : Code := cdL c28_56
noncomputable def c28_58 : Code := cdL c28_57
noncomputable def c28_59 : Code := cdR c28_57
noncomputable def c28_60 : Code := cdL c28_59
noncomputable def c28_61 : Code := cdR c28_59
noncomputable def c28_62 : Code := cdL c28_61
noncomputable def c28_63 : Code := cdR c28_61
noncomputable def c28_64 : Code := cdR c28_56
noncomputable def c28_65 : Code := cdR c28_32
noncomputable def c28_66 : Code := cdL c28_65
noncomputable def c28_67 : Code := cdR c28_65
noncomputable def c28_68 : Code := cdL c28_67
noncomputable def c28_69 : Code := cdR c28_67
noncomputable def r28_1 : Array Oper := cdO c28_1
noncomputable def r28_4 : Array Oper := cdO c28_4
noncomputable def r28_7 : Array Oper := cdO c28_7
noncomputable def r28_12 : Array Oper := cdO c28_12
noncomputable def r28_15 : Array Oper := cdO c28_15
noncomputable def r28_19 : Array Oper := cdO c28_19
noncomputable def r28_21 : Array Oper := cdO c28_21
noncomputable def r28_24 : Array Oper := cdO c28_24
noncomputable def r28_27 : Array Oper := cdO c28_27
noncomputable def r28_31 : Array Oper := cdO c28_31
noncomputable def r28_35 : Array Oper := cdO c28_35
noncomputable def r28_38 : Array Oper := cdO c28_38
noncomputable def r28_41 : Array Oper := cdO c28_41
noncomputable def r28_44 : Array Oper := cdO c28_44
noncomputable def r28_47 : Array Oper := cdO c28_47
noncomputable def r28_50 : Array Oper := cdO c28_50
noncomputable def r28_52 : Array Oper := cdO c28_52
noncomputable def r28_55 : Array Oper := cdO c28_55
noncomputable def r28_58 : Array Oper := cdO c28_58
noncomputable def r28_60 : Array Oper := cdO c28_60
noncomputable def r28_62 : Array Oper := cdO c28_62
noncomputable def r28_63 : Array Oper := cdO c28_63
noncomputable def r28_64 : Array Oper := cdO c28_64
noncomputable def r28_66 : Array Oper := cdO c28_66
noncomputable def r28_68 : Array Oper := cdO c28_68
theorem c28_0e : c28_0 = .seq c28_1 c28_2 := by kernel_rfl
theorem c28_1e : c28_1 = .region 0 r28_1 false := by kernel_rfl
theorem c28_2e : c28_2 = .seq c28_3 c28_10 := by kernel_rfl
theorem c28_3e : c28_3 = .seq c28_4 c28_5 := by kernel_rfl
theorem c28_4e : c28_4 = .region 1 r28_4 false := by kernel_rfl
theorem c28_5e : c28_5 = .cond (cdC c28_5) c28_6 c28_9 := by kernel_rfl
theorem c28_6e : c28_6 = .seq c28_7 c28_8 := by kernel_rfl
theorem c28_7e : c28_7 = .region 2 r28_7 false := by kernel_rfl
theorem c28_8e : c28_8 = .ret := by kernel_rfl
theorem c28_9e : c28_9 = .skip := by kernel_rfl
theorem c28_10e : c28_10 = .seq c28_11 c28_18 := by kernel_rfl
theorem c28_11e : c28_11 = .seq c28_12 c28_13 := by kernel_rfl
theorem c28_12e : c28_12 = .region 3 r28_12 true := by kernel_rfl
theorem c28_13e : c28_13 = .cond (cdC c28_13) c28_14 c28_17 := by kernel_rfl
theorem c28_14e : c28_14 = .seq c28_15 c28_16 := by kernel_rfl
theorem c28_15e : c28_15 = .region 4 r28_15 false := by kernel_rfl
theorem c28_16e : c28_16 = .ret := by kernel_rfl
theorem c28_17e : c28_17 = .skip := by kernel_rfl
theorem c28_18e : c28_18 = .seq c28_19 c28_20 := by kernel_rfl
theorem c28_19e : c28_19 = .region 5 r28_19 false := by kernel_rfl
theorem c28_20e : c28_20 = .seq c28_21 c28_22 := by kernel_rfl
theorem c28_21e : c28_21 = .region 6 r28_21 false := by kernel_rfl
theorem c28_22e : c28_22 = .seq c28_23 c28_30 := by kernel_rfl
theorem c28_23e : c28_23 = .seq c28_24 c28_25 := by kernel_rfl
theorem c28_24e : c28_24 = .region 7 r28_24 false := by kernel_rfl
theorem c28_25e : c28_25 = .cond (cdC c28_25) c28_26 c28_29 := by kernel_rfl
theorem c28_26e : c28_26 = .seq c28_27 c28_28 := by kernel_rfl
theorem c28_27e : c28_27 = .region 8 r28_27 false := by kernel_rfl
theorem c28_28e : c28_28 = .ret := by kernel_rfl
theorem c28_29e : c28_29 = .skip := by kernel_rfl
theorem c28_30e : c28_30 = .seq c28_31 c28_32 := by kernel_rfl
theorem c28_31e : c28_31 = .region 9 r28_31 false := by kernel_rfl
theorem c28_32e : c28_32 = .seq c28_33 c28_65 := by kernel_rfl
theorem c28_33e : c28_33 = .block 0 c28_34 := by kernel_rfl
theorem c28_34e : c28_34 = .seq c28_35 c28_36 := by kernel_rfl
theorem c28_35e : c28_35 = .region 11 r28_35 false := by kernel_rfl
theorem c28_36e : c28_36 = .cond (cdC c28_36) c28_37 c28_40 := by kernel_rfl
theorem c28_37e : c28_37 = .seq c28_38 c28_39 := by kernel_rfl
theorem c28_38e : c28_38 = .region 12 r28_38 false := by kernel_rfl
theorem c28_39e : c28_39 = .ret := by kernel_rfl
theorem c28_40e : c28_40 = .seq c28_41 c28_42 := by kernel_rfl
theorem c28_41e : c28_41 = .region 13 r28_41 false := by kernel_rfl
theorem c28_42e : c28_42 = .cond (cdC c28_42) c28_43 c28_46 := by kernel_rfl
theorem c28_43e : c28_43 = .seq c28_44 c28_45 := by kernel_rfl
theorem c28_44e : c28_44 = .region 14 r28_44 false := by kernel_rfl
theorem c28_45e : c28_45 = .ret := by kernel_rfl
theorem c28_46e : c28_46 = .seq c28_47 c28_48 := by kernel_rfl
theorem c28_47e : c28_47 = .region 15 r28_47 false := by kernel_rfl
theorem c28_48e : c28_48 = .cond (cdC c28_48) c28_49 c28_54 := by kernel_rfl
theorem c28_49e : c28_49 = .seq c28_50 c28_51 := by kernel_rfl
theorem c28_50e : c28_50 = .region 16 r28_50 true := by kernel_rfl
theorem c28_51e : c28_51 = .seq c28_52 c28_53 := by kernel_rfl
theorem c28_52e : c28_52 = .region 17 r28_52 false := by kernel_rfl
theorem c28_53e : c28_53 = .ret := by kernel_rfl
theorem c28_54e : c28_54 = .seq c28_55 c28_56 := by kernel_rfl
theorem c28_55e : c28_55 = .region 18 r28_55 false := by kernel_rfl
theorem c28_56e : c28_56 = .cond (cdC c28_56) c28_57 c28_64 := by kernel_rfl
theorem c28_57e : c28_57 = .seq c28_58 c28_59 := by kernel_rfl
theorem c28_58e : c28_58 = .region 19 r28_58 false := by kernel_rfl
theorem c28_59e : c28_59 = .seq c28_60 c28_61 := by kernel_rfl
theorem c28_60e : c28_60 = .region 20 r28_60 false := by kernel_rfl
theorem c28_61e : c28_61 = .cond (cdC c28_61) c28_62 c28_63 := by kernel_rfl
theorem c28_62e : c28_62 = .region 21 r28_62 false := by kernel_rfl
theorem c28_63e : c28_63 = .region 22 r28_63 true := by kernel_rfl
theorem c28_64e : c28_64 = .region 10 r28_64 false := by kernel_rfl
theorem c28_65e : c28_65 = .seq c28_66 c28_67 := by kernel_rfl
theorem c28_66e : c28_66 = .region 23 r28_66 true := by kernel_rfl
theorem c28_67e : c28_67 = .seq c28_68 c28_69 := by kernel_rfl
theorem c28_68e : c28_68 = .region 24 r28_68 false := by kernel_rfl
theorem c28_69e : c28_69 = .ret := by kernel_rfl
noncomputable def tontineref18_Ledger_Ask.R (b_2 : Nat) (A_3 : Option Addr) (c_4 : Nat) (A_5 : Option Addr) (c_6 : Nat) (A_7 : Option Addr) (c_8 : Nat) (A_9 : Option Addr) (c_10 : Nat) : Pst (Bool × Int × T_tontineref18_Ledger) where
  ε := Option Addr × Nat × Option Addr × Nat × Option Addr × Nat × Option Addr × Nat
  v := fun r x => .tuple ⟨[.bool r.1, .int .i64 r.2.1]⟩
  H := fun r x => [⟨1, b_2, [.int .u64 r.2.2.Fence.Term, .int .u64 r.2.2.Fence.Index, .slice x.1 r.2.2.Keys.length x.2.1, .slice x.2.2.1 r.2.2.Names.length x.2.2.2.1, .slice x.2.2.2.2.1 r.2.2.Good.length x.2.2.2.2.2.1, .slice x.2.2.2.2.2.2.1 r.2.2.Dead.length x.2.2.2.2.2.2.2]⟩]
  B := fun r x => [Ow 2 kT_api_Key x.1 x.2.1 r.2.2.Keys, Ow 3 Kd.str x.2.2.1 x.2.2.2.1 r.2.2.Names, Ow 4 kT_tontineref18_Said x.2.2.2.2.1 x.2.2.2.2.2.1 r.2.2.Good, Ow 5 kT_api_Key x.2.2.2.2.2.2.1 x.2.2.2.2.2.2.2 r.2.2.Dead]
noncomputable def tontineref18_Ledger_Ask.cx (b_2 : Nat) (A_3 : Option Addr) (c_4 : Nat) (A_5 : Option Addr) (c_6 : Nat) (A_7 : Option Addr) (c_8 : Nat) (A_9 : Option Addr) (c_10 : Nat) (w0 : World) (S0 : Fam) : Cx (Bool × Int × T_tontineref18_Ledger) := ⟨Try.prog, 28, Try.f28, 125, w0, S0, [1, 2, 3, 4, 5], 5, tontineref18_Ledger_Ask.R b_2 A_3 c_4 A_5 c_6 A_7 c_8 A_9 c_10⟩
theorem tontineref18_Ledger_Ask_j2_ok (n : Nat) (k_12 : T_api_Key) (b_2 : Nat) (b_16 : Nat) (A_3 : Option Addr) (c_4 : Nat) (A_5 : Option Addr) (c_6 : Nat) (A_7 : Option Addr) (c_8 : Nat) (A_9 : Option Addr) (c_10 : Nat) (w0 : World) (S0 : Fam) (f_67 : Int) (f_68 : Int) (f_69 : (List T_api_Key)) (f_72 : (List (List UInt8))) (f_75 : (List T_tontineref18_Said)) (f_78 : (List T_api_Key)) (A_70 : Option Addr) (c_71 : Nat) (A_73 : Option Addr) (c_74 : Nat) (A_76 : Option Addr) (c_77 : Nat) (A_79 : Option Addr) (c_80 : Nat) :
    GoO (tontineref18_Ledger_Ask.cx b_2 A_3 c_4 A_5 c_6 A_7 c_8 A_9 c_10 w0 S0) [(0, .pointer (some ⟨b_2, 0, none⟩)), (7, .pointer (some ⟨b_16, 0, none⟩))] [⟨1, b_2, [.int .u64 f_67, .int .u64 f_68, .slice A_70 f_69.length c_71, .slice A_73 f_72.length c_74, .slice A_76 f_75.length c_77, .slice A_79 f_78.length c_80]⟩, ⟨41, b_16, [.int .u64 k_12.Saga, .int .i64 k_12.Step, .bool k_12.Back]⟩] [Ow 2 kT_api_Key A_70 c_71 f_69, Ow 3 Kd.str A_73 c_74 f_72, Ow 4 kT_tontineref18_Said A_76 c_77 f_75, Ow 5 kT_api_Key A_79 c_80 f_78] [.inBlock 0, .code c28_65] (tontineref18_Ledger_Ask.j2 n k_12 f_67 f_68 f_69 f_72 f_75 f_78) := by
  unfold tontineref18_Ledger_Ask.j2
  refine GoO.inBlock ?_
  refine GoO.seq' c28_65e ?_
  refine GoO.draw c28_66e (by kernel_rfl) [9, 10, 11] [⟨1, b_2, [.int .u64 f_67, .int .u64 f_68, .slice A_70 f_69.length c_71, .slice A_73 f_72.length c_74, .slice A_76 f_75.length c_77, .slice A_79 f_78.length c_80]⟩, ⟨41, b_16, [.int .u64 k_12.Saga, .int .i64 k_12.Step, .bool k_12.Back]⟩] [] (n := 12) (by kernel_rfl) ?_
  simp only [List.replicate]
  refine GoF.take [0, 1, 2, 3, 4, 5, 6] [.p, .p, .p, .p, .b 0, .b 1, .p] (ks := [114, 118, 120]) (fu := 5) (li := [true, true, true, true, true, true, true, false, false, false, false, false]) (env' := [(114, .pointer (some ⟨b_2, 0, none⟩)), (118, .slice A_76 f_75.length c_77), (120, .agg ⟨[.int .u64 k_12.Saga, .int .i64 k_12.Step, .bool k_12.Back, .bool true]⟩)]) (ps := [b_2 = b_2, b_16 = b_16]) (hk := [0, 1]) (bk := []) (by kernel_rfl) (And.intro rfl (And.intro rfl trivial)) rfl rfl ?_
  refine OpTo.goF (i := 7) (by kernel_rfl) (hk := [0, 1]) (bk := []) (GoO.lit (e := 98) (K := kT_tontineref18_Said) rfl (by kernel_rfl) (by kernel_rfl) (cs := [.int .u64 k_12.Saga, .int .i64 k_12.Step, .bool k_12.Back, .bool true]) (by kernel_rfl) [(⟨k_12, true⟩ : T_tontineref18_Said)] (by kernel_rfl) (by kernel_rfl) (fun w S hB => ⟨[.int .u64 k_12.Saga, .int .i64 k_12.Step, .bool k_12.Back, .bool true], _, rfl, rfl, rfl⟩) 45 _ (fun _ _ => rfl) (fun A_81 c_82 => ⟨rfl, rfl, ?_⟩))
  refine GoF.guard (fun h83 => ?_)
  refine OpTo.goF (i := 8) (by kernel_rfl) (hk := [0, 1]) (bk := []) (GoO.appW (e := 98) (K := kT_tontineref18_Said) (A := A_76) (c := c_77) (tg := 4) (bytes := 32) (zs := [.int .u64 0, .int .i64 0, .bool false, .bool false]) (xs := f_75) (ys := [(⟨k_12, true⟩ : T_tontineref18_Said)]) (xv := .slice A_81 [(⟨k_12, true⟩ : T_tontineref18_Said)].length c_82) (j := 3) (bk := [0, 1, 2, 4]) rfl (by kernel_rfl) (by kernel_rfl) (by kernel_rfl) (by kernel_rfl) rfl (by kernel_rfl) rfl (fun w S hB => SrcIs.row (Reads.own w S (hB _ (List.mem_of_getElem? (i := 0) rfl)))) h83 rfl rfl rfl rfl _ (fun _ _ => rfl) (fun A_84 c_85 => ⟨rfl, rfl, ?_⟩))
  refine GoF.fin1 (i := 9) (hint := .p) (ps := []) (hk := []) (bk := []) (by kernel_rfl) rfl trivial (.inl rfl) ?_
  refine GoF.fin1 (i := 10) (hint := .p) (ps := []) (hk := []) (bk := []) (by kernel_rfl) rfl trivial (.inl rfl) ?_
  refine GoF.fin1 (i := 11) (hint := .b 0) (ps := [b_2 = b_2]) (hk := []) (bk := []) (by kernel_rfl) rfl (And.intro rfl trivial) (.inl rfl) ?_
  refine GoF.done (by kernel_rfl) ?_
  refine GoO.seq' c28_67e ?_
  refine GoO.region' (is := [0, 1]) c28_68e (by kernel_rfl) ?_
  refine GoO.exec (is := [0, 1]) (hs := [.p, .p]) (rest := []) (ks := [10, 11]) (env' := [(10, .bool true), (11, .int .i64 0)]) (H' := [⟨1, b_2, [.int .u64 f_67, .int .u64 f_68, .slice A_70 f_69.length c_71, .slice A_73 f_72.length c_74, .slice A_84 (f_75 ++ [(⟨k_12, true⟩ : T_tontineref18_Said)]).length c_85, .slice A_79 f_78.length c_80]⟩, ⟨41, b_16, [.int .u64 k_12.Saga, .int .i64 k_12.Step, .bool k_12.Back]⟩]) (ps := []) (by kernel_rfl) trivial ?_
  refine GoO.regionEnd ?_
  exact GoO.ret' (h := c28_69e) (hs := []) (ps := []) (hk := [0]) (bk := [2, 3, 0, 4]) Try.func28 (⟨A_70, c_71, A_73, c_74, A_84, c_85, A_79, c_80⟩ : Option Addr × Nat × Option Addr × Nat × Option Addr × Nat × Option Addr × Nat) (by kernel_rfl) trivial (by kernel_rfl) (by kernel_rfl)
theorem tontineref18_Ledger_Ask_j4_ok (n : Nat) (l_1 : T_tontineref18_Ledger) (t_11 : T_api_Token) (k_12 : T_api_Key) (name_13 : (List UInt8)) (b_2 : Nat) (A_3 : Option Addr) (c_4 : Nat) (A_5 : Option Addr) (c_6 : Nat) (A_7 : Option Addr) (c_8 : Nat) (A_9 : Option Addr) (c_10 : Nat) (b_16 : Nat) (b_25 : Nat) (w0 : World) (S0 : Fam) (b_34 : Bool) :
    GoO (tontineref18_Ledger_Ask.cx b_2 A_3 c_4 A_5 c_6 A_7 c_8 A_9 c_10 w0 S0) [(0, .pointer (some ⟨b_2, 0, none⟩)), (3, .string (bs name_13)), (7, .pointer (some ⟨b_16, 0, none⟩)), (14, .pointer (some ⟨b_25, 0, none⟩)), (72, .bool b_34)] [⟨1, b_2, [.int .u64 t_11.Term, .int .u64 t_11.Index, .slice A_3 l_1.Keys.length c_4, .slice A_5 l_1.Names.length c_6, .slice A_7 l_1.Good.length c_8, .slice A_9 l_1.Dead.length c_10]⟩, ⟨41, b_16, [.int .u64 k_12.Saga, .int .i64 k_12.Step, .bool k_12.Back]⟩, ⟨42, b_25, [.int .u64 k_12.Saga, .int .i64 k_12.Step, .bool false]⟩] [Ow 2 kT_api_Key A_3 c_4 l_1.Keys, Ow 3 Kd.str A_5 c_6 l_1.Names, Ow 4 kT_tontineref18_Said A_7 c_8 l_1.Good, Ow 5 kT_api_Key A_9 c_10 l_1.Dead] [.code c28_48, .inBlock 0, .code c28_65] (tontineref18_Ledger_Ask.j4 n l_1 t_11 k_12 name_13 b_34) := by
  unfold tontineref18_Ledger_Ask.j4
  refine GoO.ite' c28_48e (by kernel_rfl) (fun h35 => ?_) (fun h35 => ?_)
  · refine GoO.seq' c28_49e ?_
    refine GoO.draw c28_50e (by kernel_rfl) [9, 10, 11] [⟨1, b_2, [.int .u64 t_11.Term, .int .u64 t_11.Index, .slice A_3 l_1.Keys.length c_4, .slice A_5 l_1.Names.length c_6, .slice A_7 l_1.Good.length c_8, .slice A_9 l_1.Dead.length c_10]⟩, ⟨41, b_16, [.int .u64 k_12.Saga, .int .i64 k_12.Step, .bool k_12.Back]⟩] [] (n := 12) (by kernel_rfl) ?_
    simp only [List.replicate]
    refine GoF.take [0, 1, 2, 3, 4, 5, 6] [.p, .p, .p, .p, .b 0, .b 1, .p] (ks := [79, 83, 85]) (fu := 5) (li := [true, true, true, true, true, true, true, false, false, false, false, false]) (env' := [(79, .pointer (some ⟨b_2, 0, none⟩)), (83, .slice A_7 l_1.Good.length c_8), (85, .agg ⟨[.int .u64 k_12.Saga, .int .i64 k_12.Step, .bool k_12.Back, .bool false]⟩)]) (ps := [b_2 = b_2, b_16 = b_16]) (hk := [0, 1]) (bk := []) (by kernel_rfl) (And.intro rfl (And.intro rfl trivial)) rfl rfl ?_
    refine OpTo.goF (i := 7) (by kernel_rfl) (hk := [0, 1]) (bk := []) (GoO.lit (e := 98) (K := kT_tontineref18_Said) rfl (by kernel_rfl) (by kernel_rfl) (cs := [.int .u64 k_12.Saga, .int .i64 k_12.Step, .bool k_12.Back, .bool false]) (by kernel_rfl) [(⟨k_12, false⟩ : T_tontineref18_Said)] (by kernel_rfl) (by kernel_rfl) (fun w S hB => ⟨[.int .u64 k_12.Saga, .int .i64 k_12.Step, .bool k_12.Back, .bool false], _, rfl, rfl, rfl⟩) 43 _ (fun _ _ => rfl) (fun A_36 c_37 => ⟨rfl, rfl, ?_⟩))
    refine GoF.guard (fun h38 => ?_)
    refine OpTo.goF (i := 8) (by kernel_rfl) (hk := [0, 1]) (bk := []) (GoO.appW (e := 98) (K := kT_tontineref18_Said) (A := A_7) (c := c_8) (tg := 4) (bytes := 32) (zs := [.int .u64 0, .int .i64 0, .bool false, .bool false]) (xs := l_1.Good) (ys := [(⟨k_12, false⟩ : T_tontineref18_Said)]) (xv := .slice A_36 [(⟨k_12, false⟩ : T_tontineref18_Said)].length c_37) (j := 3) (bk := [0, 1, 2, 4]) rfl (by kernel_rfl) (by kernel_rfl) (by kernel_rfl) (by kernel_rfl) rfl (by kernel_rfl) rfl (fun w S hB => SrcIs.row (Reads.own w S (hB _ (List.mem_of_getElem? (i := 0) rfl)))) h38 rfl rfl rfl rfl _ (fun _ _ => rfl) (fun A_39 c_40 => ⟨rfl, rfl, ?_⟩))
    refine GoF.fin1 (i := 9) (hint := .p) (ps := []) (hk := []) (bk := []) (by kernel_rfl) rfl trivial (.inl rfl) ?_
    refine GoF.fin1 (i := 10) (hint := .p) (ps := []) (hk := []) (bk := []) (by kernel_rfl) rfl trivial (.inl rfl) ?_
    refine GoF.fin1 (i := 11) (hint := .b 0) (ps := [b_2 = b_2]) (hk := []) (bk := []) (by kernel_rfl) rfl (And.intro rfl trivial) (.inl rfl) ?_
    refine GoF.done (by kernel_rfl) ?_
    refine GoO.seq' c28_51e ?_
    refine GoO.region' (is := [0, 1]) c28_52e (by kernel_rfl) ?_
    refine GoO.exec (is := [0, 1]) (hs := [.p, .p]) (rest := []) (ks := [10, 11]) (env' := [(10, .bool false), (11, .int .i64 0)]) (H' := [⟨1, b_2, [.int .u64 t_11.Term, .int .u64 t_11.Index, .slice A_3 l_1.Keys.length c_4, .slice A_5 l_1.Names.length c_6, .slice A_39 (l_1.Good ++ [(⟨k_12, false⟩ : T_tontineref18_Said)]).length c_40, .slice A_9 l_1.Dead.length c_10]⟩, ⟨41, b_16, [.int .u64 k_12.Saga, .int .i64 k_12.Step, .bool k_12.Back]⟩, ⟨42, b_25, [.int .u64 k_12.Saga, .int .i64 k_12.Step, .bool false]⟩]) (ps := []) (by kernel_rfl) trivial ?_
    refine GoO.regionEnd ?_
    exact GoO.ret' (h := c28_53e) (hs := []) (ps := []) (hk := [0]) (bk := [2, 3, 0, 4]) Try.func28 (⟨A_3, c_4, A_5, c_6, A_39, c_40, A_9, c_10⟩ : Option Addr × Nat × Option Addr × Nat × Option Addr × Nat × Option Addr × Nat) (by kernel_rfl) trivial (by kernel_rfl) (by kernel_rfl)
  · refine GoO.seq' c28_54e ?_
    refine GoO.region' (is := [0, 1, 2]) c28_55e (by kernel_rfl) ?_
    refine GoO.exec (is := [0, 1, 2]) (hs := [.p, .b 1, .p]) (rest := []) (ks := [0, 3, 7, 14, 90]) (env' := [(0, .pointer (some ⟨b_2, 0, none⟩)), (3, .string (bs name_13)), (7, .pointer (some ⟨b_16, 0, none⟩)), (14, .pointer (some ⟨b_25, 0, none⟩)), (90, .bool k_12.Back)]) (H' := [⟨1, b_2, [.int .u64 t_11.Term, .int .u64 t_11.Index, .slice A_3 l_1.Keys.length c_4, .slice A_5 l_1.Names.length c_6, .slice A_7 l_1.Good.length c_8, .slice A_9 l_1.Dead.length c_10]⟩, ⟨41, b_16, [.int .u64 k_12.Saga, .int .i64 k_12.Step, .bool k_12.Back]⟩, ⟨42, b_25, [.int .u64 k_12.Saga, .int .i64 k_12.Step, .bool false]⟩]) (ps := [b_16 = b_16]) (by kernel_rfl) (And.intro rfl trivial) ?_
    refine GoO.regionEnd ?_
    refine GoO.ite' c28_56e (by kernel_rfl) (fun h41 => ?_) (fun h41 => ?_)
    · refine GoO.seq' c28_57e ?_
      refine GoO.region' (is := [0, 1, 2, 3, 4, 5, 6, 7]) c28_58e (by kernel_rfl) ?_
      refine GoO.exec (is := [0, 1]) (hs := [.p, .b 2]) (rest := [2, 3, 4, 5, 6, 7]) (ks := [0, 3, 7, 14, 94, 95]) (env' := [(0, .pointer (some ⟨b_2, 0, none⟩)), (3, .string (bs name_13)), (7, .pointer (some ⟨b_16, 0, none⟩)), (14, .pointer (some ⟨b_25, 0, none⟩)), (94, .pointer (some ⟨b_2, 0, none⟩)), (95, .agg ⟨[.int .u64 k_12.Saga, .int .i64 k_12.Step, .bool false]⟩)]) (H' := [⟨1, b_2, [.int .u64 t_11.Term, .int .u64 t_11.Index, .slice A_3 l_1.Keys.length c_4, .slice A_5 l_1.Names.length c_6, .slice A_7 l_1.Good.length c_8, .slice A_9 l_1.Dead.length c_10]⟩, ⟨41, b_16, [.int .u64 k_12.Saga, .int .i64 k_12.Step, .bool k_12.Back]⟩, ⟨42, b_25, [.int .u64 k_12.Saga, .int .i64 k_12.Step, .bool false]⟩]) (ps := [b_25 = b_25]) (by kernel_rfl) (And.intro rfl trivial) ?_
      refine OpTo.go (GoO.call rfl (by kernel_rfl) (by kernel_rfl) (tontineref18_Ledger_said_ok n (⟨t_11, l_1.Keys, l_1.Names, l_1.Good, l_1.Dead⟩ : T_tontineref18_Ledger) (⟨k_12.Saga, k_12.Step, false⟩ : T_api_Key) b_2 A_3 c_4 A_5 c_6 A_7 c_8 A_9 c_10) [[0], [1], [2], [3], [4], [5]] [] [(1, 0)] [(2, 0), (3, 1), (4, 2), (5, 3)] (hks := [0, 1, 2]) (bks := [0, 1, 2, 3]) (by kernel_rfl) (by kernel_rfl) (by kernel_rfl) (.inl rfl) rfl rfl (by kernel_rfl) (by kernel_rfl) _ (fun _ _ => rfl) _ _ (fun _ _ => rfl) (fun _ _ => rfl) (fun _ _ => by kernel_rfl) (fun _ _ => by kernel_rfl) (fun r_42 x_59 => ?_))
      refine GoO.shape (env' := [(0, .pointer (some ⟨b_2, 0, none⟩)), (3, .string (bs name_13)), (7, .pointer (some ⟨b_16, 0, none⟩)), (14, .pointer (some ⟨b_25, 0, none⟩)), (94, .pointer (some ⟨b_2, 0, none⟩)), (95, .agg ⟨[.int .u64 k_12.Saga, .int .i64 k_12.Step, .bool false]⟩), (96, .tuple ⟨[.bool r_42.1, .bool r_42.2]⟩)]) (H' := [⟨1, b_2, [.int .u64 t_11.Term, .int .u64 t_11.Index, .slice A_3 l_1.Keys.length c_4, .slice A_5 l_1.Names.length c_6, .slice A_7 l_1.Good.length c_8, .slice A_9 l_1.Dead.length c_10]⟩, ⟨41, b_16, [.int .u64 k_12.Saga, .int .i64 k_12.Step, .bool k_12.Back]⟩, ⟨42, b_25, [.int .u64 k_12.Saga, .int .i64 k_12.Step, .bool false]⟩]) (B' := [Ow 2 kT_api_Key A_3 c_4 l_1.Keys, Ow 3 Kd.str A_5 c_6 l_1.Names, Ow 4 kT_tontineref18_Said A_7 c_8 l_1.Good, Ow 5 kT_api_Key A_9 c_10 l_1.Dead]) (ks := [0, 3, 7, 14, 94, 95, 96]) (by kernel_rfl) (by kernel_rfl) (by kernel_rfl) ?_
      refine GoO.exec (is := [3, 4, 5, 6, 7]) (hs := [.p, .p, .p, .p, .p]) (rest := []) (ks := [0, 3, 7, 14, 15]) (env' := [(0, .pointer (some ⟨b_2, 0, none⟩)), (3, .string (bs name_13)), (7, .pointer (some ⟨b_16, 0, none⟩)), (14, .pointer (some ⟨b_25, 0, none⟩)), (15, .bool r_42.1)]) (H' := [⟨1, b_2, [.int .u64 t_11.Term, .int .u64 t_11.Index, .slice A_3 l_1.Keys.length c_4, .slice A_5 l_1.Names.length c_6, .slice A_7 l_1.Good.length c_8, .slice A_9 l_1.Dead.length c_10]⟩, ⟨41, b_16, [.int .u64 k_12.Saga, .int .i64 k_12.Step, .bool k_12.Back]⟩, ⟨42, b_25, [.int .u64 k_12.Saga, .int .i64 k_12.Step, .bool false]⟩]) (ps := []) (by kernel_rfl) trivial ?_
      refine GoO.regionEnd ?_
      refine GoO.seq' c28_59e ?_
      refine GoO.region' (is := [0]) c28_60e (by kernel_rfl) ?_
      refine GoO.exec (is := [0]) (hs := [.p]) (rest := []) (ks := [0, 3, 7, 14, 99]) (env' := [(0, .pointer (some ⟨b_2, 0, none⟩)), (3, .string (bs name_13)), (7, .pointer (some ⟨b_16, 0, none⟩)), (14, .pointer (some ⟨b_25, 0, none⟩)), (99, .bool r_42.1)]) (H' := [⟨1, b_2, [.int .u64 t_11.Term, .int .u64 t_11.Index, .slice A_3 l_1.Keys.length c_4, .slice A_5 l_1.Names.length c_6, .slice A_7 l_1.Good.length c_8, .slice A_9 l_1.Dead.length c_10]⟩, ⟨41, b_16, [.int .u64 k_12.Saga, .int .i64 k_12.Step, .bool k_12.Back]⟩, ⟨42, b_25, [.int .u64 k_12.Saga, .int .i64 k_12.Step, .bool false]⟩]) (ps := []) (by kernel_rfl) trivial ?_
      refine GoO.regionEnd ?_
      refine GoO.ite' c28_61e (by kernel_rfl) (fun h43 => ?_) (fun h43 => ?_)
      · refine GoO.region' (is := [0, 1, 2, 3]) c28_62e (by kernel_rfl) ?_
        refine GoO.exec (is := [0, 1, 2]) (hs := [.p, .b 1, .p]) (rest := [3]) (ks := [0, 7, 100, 101, 102]) (env' := [(0, .pointer (some ⟨b_2, 0, none⟩)), (7, .pointer (some ⟨b_16, 0, none⟩)), (100, .pointer (some ⟨b_2, 0, none⟩)), (101, .agg ⟨[.int .u64 k_12.Saga, .int .i64 k_12.Step, .bool k_12.Back]⟩), (102, .string (bs name_13))]) (H' := [⟨1, b_2, [.int .u64 t_11.Term, .int .u64 t_11.Index, .slice A_3 l_1.Keys.length c_4, .slice A_5 l_1.Names.length c_6, .slice A_7 l_1.Good.length c_8, .slice A_9 l_1.Dead.length c_10]⟩, ⟨41, b_16, [.int .u64 k_12.Saga, .int .i64 k_12.Step, .bool k_12.Back]⟩, ⟨42, b_25, [.int .u64 k_12.Saga, .int .i64 k_12.Step, .bool false]⟩]) (ps := [b_16 = b_16]) (by kernel_rfl) (And.intro rfl trivial) ?_
        refine OpTo.go (GoO.call rfl (by kernel_rfl) (by kernel_rfl) (tontineref18_Ledger_effect_ok n (⟨t_11, l_1.Keys, l_1.Names, l_1.Good, l_1.Dead⟩ : T_tontineref18_Ledger) k_12 name_13 b_2 A_3 c_4 A_5 c_6 A_7 c_8 A_9 c_10) [[0], [1], [2], [3], [4], [5]] [(1, 1), (2, 2), (3, 3), (4, 4), (5, 5)] [(1, 0)] [(2, 0), (3, 1), (4, 2), (5, 3)] (hks := [1, 2]) (bks := []) (by kernel_rfl) (by kernel_rfl) (by kernel_rfl) (.inl rfl) rfl rfl (by kernel_rfl) (by kernel_rfl) _ (fun _ _ => rfl) _ _ (fun _ _ => rfl) (fun _ _ => rfl) (fun _ _ => by kernel_rfl) (fun _ _ => by kernel_rfl) (fun r_44 x_53 => ?_))
        obtain ⟨A_45, c_46, A_47, c_48, A_49, c_50, A_51, c_52⟩ := x_53
        refine GoO.shape (env' := [(0, .pointer (some ⟨b_2, 0, none⟩)), (7, .pointer (some ⟨b_16, 0, none⟩)), (100, .pointer (some ⟨b_2, 0, none⟩)), (101, .agg ⟨[.int .u64 k_12.Saga, .int .i64 k_12.Step, .bool k_12.Back]⟩), (102, .string (bs name_13)), (103, .tuple ⟨[]⟩)]) (H' := [⟨1, b_2, [.int .u64 r_44.Fence.Term, .int .u64 r_44.Fence.Index, .slice A_45 r_44.Keys.length c_46, .slice A_47 r_44.Names.length c_48, .slice A_49 r_44.Good.length c_50, .slice A_51 r_44.Dead.length c_52]⟩, ⟨41, b_16, [.int .u64 k_12.Saga, .int .i64 k_12.Step, .bool k_12.Back]⟩, ⟨42, b_25, [.int .u64 k_12.Saga, .int .i64 k_12.Step, .bool false]⟩]) (B' := [Ow 2 kT_api_Key A_45 c_46 r_44.Keys, Ow 3 Kd.str A_47 c_48 r_44.Names, Ow 4 kT_tontineref18_Said A_49 c_50 r_44.Good, Ow 5 kT_api_Key A_51 c_52 r_44.Dead]) (ks := [0, 7, 100, 101, 102, 103]) (by kernel_rfl) (by kernel_rfl) (by kernel_rfl) ?_
        refine GoO.regionEnd ?_
        exact GoO.sub (ks := [0, 7]) (hk := [0, 1]) (bk := [0, 1, 2, 3]) (by kernel_rfl) (by kernel_rfl) (by kernel_rfl) (tontineref18_Ledger_Ask_j2_ok n k_12 b_2 b_16 A_3 c_4 A_5 c_6 A_7 c_8 A_9 c_10 w0 S0 r_44.Fence.Term r_44.Fence.Index r_44.Keys r_44.Names r_44.Good r_44.Dead A_45 c_46 A_47 c_48 A_49 c_50 A_51 c_52)
      · refine GoO.draw c28_63e (by kernel_rfl) [8, 9, 10] [⟨1, b_2, [.int .u64 t_11.Term, .int .u64 t_11.Index, .slice A_3 l_1.Keys.length c_4, .slice A_5 l_1.Names.length c_6, .slice A_7 l_1.Good.length c_8, .slice A_9 l_1.Dead.length c_10]⟩, ⟨42, b_25, [.int .u64 k_12.Saga, .int .i64 k_12.Step, .bool false]⟩] [] (n := 11) (by kernel_rfl) ?_
        simp only [List.replicate]
        refine GoF.take [0, 1, 2, 3, 4, 5] [.p, .p, .p, .p, .b 0, .b 1] (ks := [0, 7, 104, 108, 109]) (fu := 5) (li := [true, true, true, true, true, true, false, false, false, false, false]) (env' := [(0, .pointer (some ⟨b_2, 0, none⟩)), (7, .pointer (some ⟨b_16, 0, none⟩)), (104, .pointer (some ⟨b_2, 0, none⟩)), (108, .slice A_9 l_1.Dead.length c_10), (109, .agg ⟨[.int .u64 k_12.Saga, .int .i64 k_12.Step, .bool false]⟩)]) (ps := [b_2 = b_2, b_25 = b_25]) (hk := [0, 2]) (bk := []) (by kernel_rfl) (And.intro rfl (And.intro rfl trivial)) rfl rfl ?_
        refine OpTo.goF (i := 6) (by kernel_rfl) (hk := [0, 2]) (bk := []) (GoO.lit (e := 45) (K := kT_api_Key) rfl (by kernel_rfl) (by kernel_rfl) (cs := [.int .u64 k_12.Saga, .int .i64 k_12.Step, .bool false]) (by kernel_rfl) [(⟨k_12.Saga, k_12.Step, false⟩ : T_api_Key)] (by kernel_rfl) (by kernel_rfl) (fun w S hB => ⟨[.int .u64 k_12.Saga, .int .i64 k_12.Step, .bool false], _, rfl, rfl, rfl⟩) 44 _ (fun _ _ => rfl) (fun A_54 c_55 => ⟨rfl, rfl, ?_⟩))
        refine GoF.guard (fun h56 => ?_)
        refine OpTo.goF (i := 7) (by kernel_rfl) (hk := [0, 2]) (bk := []) (GoO.appW (e := 45) (K := kT_api_Key) (A := A_9) (c := c_10) (tg := 5) (bytes := 24) (zs := [.int .u64 0, .int .i64 0, .bool false]) (xs := l_1.Dead) (ys := [(⟨k_12.Saga, k_12.Step, false⟩ : T_api_Key)]) (xv := .slice A_54 [(⟨k_12.Saga, k_12.Step, false⟩ : T_api_Key)].length c_55) (j := 4) (bk := [0, 1, 2, 3]) rfl (by kernel_rfl) (by kernel_rfl) (by kernel_rfl) (by kernel_rfl) rfl (by kernel_rfl) rfl (fun w S hB => SrcIs.row (Reads.own w S (hB _ (List.mem_of_getElem? (i := 0) rfl)))) h56 rfl rfl rfl rfl _ (fun _ _ => rfl) (fun A_57 c_58 => ⟨rfl, rfl, ?_⟩))
        refine GoF.fin1 (i := 8) (hint := .p) (ps := []) (hk := []) (bk := []) (by kernel_rfl) rfl trivial (.inl rfl) ?_
        refine GoF.fin1 (i := 9) (hint := .p) (ps := []) (hk := []) (bk := []) (by kernel_rfl) rfl trivial (.inl rfl) ?_
        refine GoF.fin1 (i := 10) (hint := .b 0) (ps := [b_2 = b_2]) (hk := []) (bk := []) (by kernel_rfl) rfl (And.intro rfl trivial) (.inl rfl) ?_
        refine GoF.done (by kernel_rfl) ?_
        exact GoO.sub (ks := [0, 7]) (hk := [0, 1]) (bk := [2, 3, 4, 0]) (by kernel_rfl) (by kernel_rfl) (by kernel_rfl) (tontineref18_Ledger_Ask_j2_ok n k_12 b_2 b_16 A_3 c_4 A_5 c_6 A_7 c_8 A_9 c_10 w0 S0 t_11.Term t_11.Index l_1.Keys l_1.Names l_1.Good (l_1.Dead ++ [(⟨k_12.Saga, k_12.Step, false⟩ : T_api_Key)]) A_3 c_4 A_5 c_6 A_7 c_8 A_57 c_58)
    · refine GoO.region' (is := [0, 1, 2, 3]) c28_64e (by kernel_rfl) ?_
      refine GoO.exec (is := [0, 1, 2]) (hs := [.p, .b 1, .p]) (rest := [3]) (ks := [0, 7, 53, 54, 55]) (env' := [(0, .pointer (some ⟨b_2, 0, none⟩)), (7, .pointer (some ⟨b_16, 0, none⟩)), (53, .pointer (some ⟨b_2, 0, none⟩)), (54, .agg ⟨[.int .u64 k_12.Saga, .int .i64 k_12.Step, .bool k_12.Back]⟩), (55, .string (bs name_13))]) (H' := [⟨1, b_2, [.int .u64 t_11.Term, .int .u64 t_11.Index, .slice A_3 l_1.Keys.length c_4, .slice A_5 l_1.Names.length c_6, .slice A_7 l_1.Good.length c_8, .slice A_9 l_1.Dead.length c_10]⟩, ⟨41, b_16, [.int .u64 k_12.Saga, .int .i64 k_12.Step, .bool k_12.Back]⟩, ⟨42, b_25, [.int .u64 k_12.Saga, .int .i64 k_12.Step, .bool false]⟩]) (ps := [b_16 = b_16]) (by kernel_rfl) (And.intro rfl trivial) ?_
      refine OpTo.go (GoO.call rfl (by kernel_rfl) (by kernel_rfl) (tontineref18_Ledger_effect_ok n (⟨t_11, l_1.Keys, l_1.Names, l_1.Good, l_1.Dead⟩ : T_tontineref18_Ledger) k_12 name_13 b_2 A_3 c_4 A_5 c_6 A_7 c_8 A_9 c_10) [[0], [1], [2], [3], [4], [5]] [(1, 1), (2, 2), (3, 3), (4, 4), (5, 5)] [(1, 0)] [(2, 0), (3, 1), (4, 2), (5, 3)] (hks := [1, 2]) (bks := []) (by kernel_rfl) (by kernel_rfl) (by kernel_rfl) (.inl rfl) rfl rfl (by kernel_rfl) (by kernel_rfl) _ (fun _ _ => rfl) _ _ (fun _ _ => rfl) (fun _ _ => rfl) (fun _ _ => by kernel_rfl) (fun _ _ => by kernel_rfl) (fun r_60 x_69 => ?_))
      obtain ⟨A_61, c_62, A_63, c_64, A_65, c_66, A_67, c_68⟩ := x_69
      refine GoO.shape (env' := [(0, .pointer (some ⟨b_2, 0, none⟩)), (7, .pointer (some ⟨b_16, 0, none⟩)), (53, .pointer (some ⟨b_2, 0, none⟩)), (54, .agg ⟨[.int .u64 k_12.Saga, .int .i64 k_12.Step, .bool k_12.Back]⟩), (55, .string (bs name_13)), (56, .tuple ⟨[]⟩)]) (H' := [⟨1, b_2, [.int .u64 r_60.Fence.Term, .int .u64 r_60.Fence.Index, .slice A_61 r_60.Keys.length c_62, .slice A_63 r_60.Names.length c_64, .slice A_65 r_60.Good.length c_66, .slice A_67 r_60.Dead.length c_68]⟩, ⟨41, b_16, [.int .u64 k_12.Saga, .int .i64 k_12.Step, .bool k_12.Back]⟩, ⟨42, b_25, [.int .u64 k_12.Saga, .int .i64 k_12.Step, .bool false]⟩]) (B' := [Ow 2 kT_api_Key A_61 c_62 r_60.Keys, Ow 3 Kd.str A_63 c_64 r_60.Names, Ow 4 kT_tontineref18_Said A_65 c_66 r_60.Good, Ow 5 kT_api_Key A_67 c_68 r_60.Dead]) (ks := [0, 7, 53, 54, 55, 56]) (by kernel_rfl) (by kernel_rfl) (by kernel_rfl) ?_
      refine GoO.regionEnd ?_
      exact GoO.sub (ks := [0, 7]) (hk := [0, 1]) (bk := [0, 1, 2, 3]) (by kernel_rfl) (by kernel_rfl) (by kernel_rfl) (tontineref18_Ledger_Ask_j2_ok n k_12 b_2 b_16 A_3 c_4 A_5 c_6 A_7 c_8 A_9 c_10 w0 S0 r_60.Fence.Term r_60.Fence.Index r_60.Keys r_60.Names r_60.Good r_60.Dead A_61 c_62 A_63 c_64 A_65 c_66 A_67 c_68)
theorem tontineref18_Ledger_Ask_j3_ok (n : Nat) (l_1 : T_tontineref18_Ledger) (t_11 : T_api_Token) (k_12 : T_api_Key) (name_13 : (List UInt8)) (fail_14 : Bool) (b_2 : Nat) (A_3 : Option Addr) (c_4 : Nat) (A_5 : Option Addr) (c_6 : Nat) (A_7 : Option Addr) (c_8 : Nat) (A_9 : Option Addr) (c_10 : Nat) (b_16 : Nat) (b_25 : Nat) (w0 : World) (S0 : Fam) (b_31 : Bool) :
    GoO (tontineref18_Ledger_Ask.cx b_2 A_3 c_4 A_5 c_6 A_7 c_8 A_9 c_10 w0 S0) [(0, .pointer (some ⟨b_2, 0, none⟩)), (3, .string (bs name_13)), (4, .bool fail_14), (7, .pointer (some ⟨b_16, 0, none⟩)), (14, .pointer (some ⟨b_25, 0, none⟩)), (66, .bool b_31)] [⟨1, b_2, [.int .u64 t_11.Term, .int .u64 t_11.Index, .slice A_3 l_1.Keys.length c_4, .slice A_5 l_1.Names.length c_6, .slice A_7 l_1.Good.length c_8, .slice A_9 l_1.Dead.length c_10]⟩, ⟨41, b_16, [.int .u64 k_12.Saga, .int .i64 k_12.Step, .bool k_12.Back]⟩, ⟨42, b_25, [.int .u64 k_12.Saga, .int .i64 k_12.Step, .bool false]⟩] [Ow 2 kT_api_Key A_3 c_4 l_1.Keys, Ow 3 Kd.str A_5 c_6 l_1.Names, Ow 4 kT_tontineref18_Said A_7 c_8 l_1.Good, Ow 5 kT_api_Key A_9 c_10 l_1.Dead] [.code c28_42, .inBlock 0, .code c28_65] (tontineref18_Ledger_Ask.j3 n l_1 t_11 k_12 name_13 fail_14 b_31) := by
  unfold tontineref18_Ledger_Ask.j3
  refine GoO.ite' c28_42e (by kernel_rfl) (fun h32 => ?_) (fun h32 => ?_)
  · refine GoO.seq' c28_43e ?_
    refine GoO.region' (is := [0, 1]) c28_44e (by kernel_rfl) ?_
    refine GoO.exec (is := [0, 1]) (hs := [.p, .p]) (rest := []) (ks := [10, 11]) (env' := [(10, .bool false), (11, .int .i64 0)]) (H' := [⟨1, b_2, [.int .u64 t_11.Term, .int .u64 t_11.Index, .slice A_3 l_1.Keys.length c_4, .slice A_5 l_1.Names.length c_6, .slice A_7 l_1.Good.length c_8, .slice A_9 l_1.Dead.length c_10]⟩, ⟨41, b_16, [.int .u64 k_12.Saga, .int .i64 k_12.Step, .bool k_12.Back]⟩, ⟨42, b_25, [.int .u64 k_12.Saga, .int .i64 k_12.Step, .bool false]⟩]) (ps := []) (by kernel_rfl) trivial ?_
    refine GoO.regionEnd ?_
    exact GoO.ret' (h := c28_45e) (hs := []) (ps := []) (hk := [0]) (bk := [0, 1, 2, 3]) Try.func28 (⟨A_3, c_4, A_5, c_6, A_7, c_8, A_9, c_10⟩ : Option Addr × Nat × Option Addr × Nat × Option Addr × Nat × Option Addr × Nat) (by kernel_rfl) trivial (by kernel_rfl) (by kernel_rfl)
  · refine GoO.seq' c28_46e ?_
    refine GoO.region' (is := [0, 1, 2, 3, 4, 5, 6]) c28_47e (by kernel_rfl) ?_
    refine GoO.exec (is := [0, 1, 2, 3]) (hs := [.p, .b 1, .p, .p]) (rest := [4, 5, 6]) (ks := [0, 3, 4, 7, 14, 76]) (env' := [(0, .pointer (some ⟨b_2, 0, none⟩)), (3, .string (bs name_13)), (4, .bool fail_14), (7, .pointer (some ⟨b_16, 0, none⟩)), (14, .pointer (some ⟨b_25, 0, none⟩)), (76, .bool (!k_12.Back))]) (H' := [⟨1, b_2, [.int .u64 t_11.Term, .int .u64 t_11.Index, .slice A_3 l_1.Keys.length c_4, .slice A_5 l_1.Names.length c_6, .slice A_7 l_1.Good.length c_8, .slice A_9 l_1.Dead.length c_10]⟩, ⟨41, b_16, [.int .u64 k_12.Saga, .int .i64 k_12.Step, .bool k_12.Back]⟩, ⟨42, b_25, [.int .u64 k_12.Saga, .int .i64 k_12.Step, .bool false]⟩]) (ps := [b_16 = b_16]) (by kernel_rfl) (And.intro rfl trivial) ?_
    refine GoO.bsplit (t := 76) (by kernel_rfl) (fun h33 => ?_) (fun h33 => ?_)
    · refine GoO.exec (is := [4, 5, 6]) (hs := [.p, .p, .p]) (rest := []) (ks := [0, 3, 7, 14, 72]) (env' := [(0, .pointer (some ⟨b_2, 0, none⟩)), (3, .string (bs name_13)), (7, .pointer (some ⟨b_16, 0, none⟩)), (14, .pointer (some ⟨b_25, 0, none⟩)), (72, .bool fail_14)]) (H' := [⟨1, b_2, [.int .u64 t_11.Term, .int .u64 t_11.Index, .slice A_3 l_1.Keys.length c_4, .slice A_5 l_1.Names.length c_6, .slice A_7 l_1.Good.length c_8, .slice A_9 l_1.Dead.length c_10]⟩, ⟨41, b_16, [.int .u64 k_12.Saga, .int .i64 k_12.Step, .bool k_12.Back]⟩, ⟨42, b_25, [.int .u64 k_12.Saga, .int .i64 k_12.Step, .bool false]⟩]) (ps := []) (by kernel_rfl) trivial ?_
      refine GoO.regionEnd ?_
      exact GoO.sub (ks := [0, 3, 7, 14, 72]) (hk := [0, 1, 2]) (bk := [0, 1, 2, 3]) (by kernel_rfl) (by kernel_rfl) (by kernel_rfl) (tontineref18_Ledger_Ask_j4_ok n l_1 t_11 k_12 name_13 b_2 A_3 c_4 A_5 c_6 A_7 c_8 A_9 c_10 b_16 b_25 w0 S0 fail_14)
    · refine GoO.exec (is := [4, 5, 6]) (hs := [.p, .p, .p]) (rest := []) (ks := [0, 3, 7, 14, 72]) (env' := [(0, .pointer (some ⟨b_2, 0, none⟩)), (3, .string (bs name_13)), (7, .pointer (some ⟨b_16, 0, none⟩)), (14, .pointer (some ⟨b_25, 0, none⟩)), (72, .bool false)]) (H' := [⟨1, b_2, [.int .u64 t_11.Term, .int .u64 t_11.Index, .slice A_3 l_1.Keys.length c_4, .slice A_5 l_1.Names.length c_6, .slice A_7 l_1.Good.length c_8, .slice A_9 l_1.Dead.length c_10]⟩, ⟨41, b_16, [.int .u64 k_12.Saga, .int .i64 k_12.Step, .bool k_12.Back]⟩, ⟨42, b_25, [.int .u64 k_12.Saga, .int .i64 k_12.Step, .bool false]⟩]) (ps := []) (by kernel_rfl) trivial ?_
      refine GoO.regionEnd ?_
      exact GoO.sub (ks := [0, 3, 7, 14, 72]) (hk := [0, 1, 2]) (bk := [0, 1, 2, 3]) (by kernel_rfl) (by kernel_rfl) (by kernel_rfl) (tontineref18_Ledger_Ask_j4_ok n l_1 t_11 k_12 name_13 b_2 A_3 c_4 A_5 c_6 A_7 c_8 A_9 c_10 b_16 b_25 w0 S0 false)
theorem tontineref18_Ledger_Ask_j1_ok (n : Nat) (l_1 : T_tontineref18_Ledger) (t_11 : T_api_Token) (k_12 : T_api_Key) (name_13 : (List UInt8)) (fail_14 : Bool) (b_2 : Nat) (A_3 : Option Addr) (c_4 : Nat) (A_5 : Option Addr) (c_6 : Nat) (A_7 : Option Addr) (c_8 : Nat) (A_9 : Option Addr) (c_10 : Nat) (b_16 : Nat) (b_25 : Nat) (w0 : World) (S0 : Fam) (b_28 : Bool) :
    GoO (tontineref18_Ledger_Ask.cx b_2 A_3 c_4 A_5 c_6 A_7 c_8 A_9 c_10 w0 S0) [(0, .pointer (some ⟨b_2, 0, none⟩)), (3, .string (bs name_13)), (4, .bool fail_14), (7, .pointer (some ⟨b_16, 0, none⟩)), (14, .pointer (some ⟨b_25, 0, none⟩)), (57, .bool b_28)] [⟨1, b_2, [.int .u64 t_11.Term, .int .u64 t_11.Index, .slice A_3 l_1.Keys.length c_4, .slice A_5 l_1.Names.length c_6, .slice A_7 l_1.Good.length c_8, .slice A_9 l_1.Dead.length c_10]⟩, ⟨41, b_16, [.int .u64 k_12.Saga, .int .i64 k_12.Step, .bool k_12.Back]⟩, ⟨42, b_25, [.int .u64 k_12.Saga, .int .i64 k_12.Step, .bool false]⟩] [Ow 2 kT_api_Key A_3 c_4 l_1.Keys, Ow 3 Kd.str A_5 c_6 l_1.Names, Ow 4 kT_tontineref18_Said A_7 c_8 l_1.Good, Ow 5 kT_api_Key A_9 c_10 l_1.Dead] [.code c28_36, .inBlock 0, .code c28_65] (tontineref18_Ledger_Ask.j1 n l_1 t_11 k_12 name_13 fail_14 b_28) := by
  unfold tontineref18_Ledger_Ask.j1
  refine GoO.ite' c28_36e (by kernel_rfl) (fun h29 => ?_) (fun h29 => ?_)
  · refine GoO.seq' c28_37e ?_
    refine GoO.region' (is := [0, 1]) c28_38e (by kernel_rfl) ?_
    refine GoO.exec (is := [0, 1]) (hs := [.p, .p]) (rest := []) (ks := [10, 11]) (env' := [(10, .bool false), (11, .int .i64 51)]) (H' := [⟨1, b_2, [.int .u64 t_11.Term, .int .u64 t_11.Index, .slice A_3 l_1.Keys.length c_4, .slice A_5 l_1.Names.length c_6, .slice A_7 l_1.Good.length c_8, .slice A_9 l_1.Dead.length c_10]⟩, ⟨41, b_16, [.int .u64 k_12.Saga, .int .i64 k_12.Step, .bool k_12.Back]⟩, ⟨42, b_25, [.int .u64 k_12.Saga, .int .i64 k_12.Step, .bool false]⟩]) (ps := []) (by kernel_rfl) trivial ?_
    refine GoO.regionEnd ?_
    exact GoO.ret' (h := c28_39e) (hs := []) (ps := []) (hk := [0]) (bk := [0, 1, 2, 3]) Try.func28 (⟨A_3, c_4, A_5, c_6, A_7, c_8, A_9, c_10⟩ : Option Addr × Nat × Option Addr × Nat × Option Addr × Nat × Option Addr × Nat) (by kernel_rfl) trivial (by kernel_rfl) (by kernel_rfl)
  · refine GoO.seq' c28_40e ?_
    refine GoO.region' (is := [0, 1, 2, 3, 4, 5]) c28_41e (by kernel_rfl) ?_
    refine GoO.exec (is := [0, 1, 2]) (hs := [.p, .b 1, .p]) (rest := [3, 4, 5]) (ks := [0, 3, 4, 7, 14, 69]) (env' := [(0, .pointer (some ⟨b_2, 0, none⟩)), (3, .string (bs name_13)), (4, .bool fail_14), (7, .pointer (some ⟨b_16, 0, none⟩)), (14, .pointer (some ⟨b_25, 0, none⟩)), (69, .bool k_12.Back)]) (H' := [⟨1, b_2, [.int .u64 t_11.Term, .int .u64 t_11.Index, .slice A_3 l_1.Keys.length c_4, .slice A_5 l_1.Names.length c_6, .slice A_7 l_1.Good.length c_8, .slice A_9 l_1.Dead.length c_10]⟩, ⟨41, b_16, [.int .u64 k_12.Saga, .int .i64 k_12.Step, .bool k_12.Back]⟩, ⟨42, b_25, [.int .u64 k_12.Saga, .int .i64 k_12.Step, .bool false]⟩]) (ps := [b_16 = b_16]) (by kernel_rfl) (And.intro rfl trivial) ?_
    refine GoO.bsplit (t := 69) (by kernel_rfl) (fun h30 => ?_) (fun h30 => ?_)
    · refine GoO.exec (is := [3, 4, 5]) (hs := [.p, .p, .p]) (rest := []) (ks := [0, 3, 4, 7, 14, 66]) (env' := [(0, .pointer (some ⟨b_2, 0, none⟩)), (3, .string (bs name_13)), (4, .bool fail_14), (7, .pointer (some ⟨b_16, 0, none⟩)), (14, .pointer (some ⟨b_25, 0, none⟩)), (66, .bool fail_14)]) (H' := [⟨1, b_2, [.int .u64 t_11.Term, .int .u64 t_11.Index, .slice A_3 l_1.Keys.length c_4, .slice A_5 l_1.Names.length c_6, .slice A_7 l_1.Good.length c_8, .slice A_9 l_1.Dead.length c_10]⟩, ⟨41, b_16, [.int .u64 k_12.Saga, .int .i64 k_12.Step, .bool k_12.Back]⟩, ⟨42, b_25, [.int .u64 k_12.Saga, .int .i64 k_12.Step, .bool false]⟩]) (ps := []) (by kernel_rfl) trivial ?_
      refine GoO.regionEnd ?_
      exact GoO.sub (ks := [0, 3, 4, 7, 14, 66]) (hk := [0, 1, 2]) (bk := [0, 1, 2, 3]) (by kernel_rfl) (by kernel_rfl) (by kernel_rfl) (tontineref18_Ledger_Ask_j3_ok n l_1 t_11 k_12 name_13 fail_14 b_2 A_3 c_4 A_5 c_6 A_7 c_8 A_9 c_10 b_16 b_25 w0 S0 fail_14)
    · refine GoO.exec (is := [3, 4, 5]) (hs := [.p, .p, .p]) (rest := []) (ks := [0, 3, 4, 7, 14, 66]) (env' := [(0, .pointer (some ⟨b_2, 0, none⟩)), (3, .string (bs name_13)), (4, .bool fail_14), (7, .pointer (some ⟨b_16, 0, none⟩)), (14, .pointer (some ⟨b_25, 0, none⟩)), (66, .bool false)]) (H' := [⟨1, b_2, [.int .u64 t_11.Term, .int .u64 t_11.Index, .slice A_3 l_1.Keys.length c_4, .slice A_5 l_1.Names.length c_6, .slice A_7 l_1.Good.length c_8, .slice A_9 l_1.Dead.length c_10]⟩, ⟨41, b_16, [.int .u64 k_12.Saga, .int .i64 k_12.Step, .bool k_12.Back]⟩, ⟨42, b_25, [.int .u64 k_12.Saga, .int .i64 k_12.Step, .bool false]⟩]) (ps := []) (by kernel_rfl) trivial ?_
      refine GoO.regionEnd ?_
      exact GoO.sub (ks := [0, 3, 4, 7, 14, 66]) (hk := [0, 1, 2]) (bk := [0, 1, 2, 3]) (by kernel_rfl) (by kernel_rfl) (by kernel_rfl) (tontineref18_Ledger_Ask_j3_ok n l_1 t_11 k_12 name_13 fail_14 b_2 A_3 c_4 A_5 c_6 A_7 c_8 A_9 c_10 b_16 b_25 w0 S0 false)
theorem tontineref18_Ledger_Ask_j0_ok (n : Nat) (l_1 : T_tontineref18_Ledger) (t_11 : T_api_Token) (k_12 : T_api_Key) (name_13 : (List UInt8)) (fail_14 : Bool) (b_2 : Nat) (A_3 : Option Addr) (c_4 : Nat) (A_5 : Option Addr) (c_6 : Nat) (A_7 : Option Addr) (c_8 : Nat) (A_9 : Option Addr) (c_10 : Nat) (b_15 : Nat) (b_16 : Nat) (w0 : World) (S0 : Fam) (b_19 : Bool) :
    GoO (tontineref18_Ledger_Ask.cx b_2 A_3 c_4 A_5 c_6 A_7 c_8 A_9 c_10 w0 S0) [(0, .pointer (some ⟨b_2, 0, none⟩)), (3, .string (bs name_13)), (4, .bool fail_14), (6, .pointer (some ⟨b_15, 0, none⟩)), (7, .pointer (some ⟨b_16, 0, none⟩)), (29, .bool b_19)] [⟨1, b_2, [.int .u64 l_1.Fence.Term, .int .u64 l_1.Fence.Index, .slice A_3 l_1.Keys.length c_4, .slice A_5 l_1.Names.length c_6, .slice A_7 l_1.Good.length c_8, .slice A_9 l_1.Dead.length c_10]⟩, ⟨40, b_15, [.int .u64 t_11.Term, .int .u64 t_11.Index]⟩, ⟨41, b_16, [.int .u64 k_12.Saga, .int .i64 k_12.Step, .bool k_12.Back]⟩] [Ow 2 kT_api_Key A_3 c_4 l_1.Keys, Ow 3 Kd.str A_5 c_6 l_1.Names, Ow 4 kT_tontineref18_Said A_7 c_8 l_1.Good, Ow 5 kT_api_Key A_9 c_10 l_1.Dead] [.code c28_5, .code c28_10] (tontineref18_Ledger_Ask.j0 n l_1 t_11 k_12 name_13 fail_14 b_19) := by
  unfold tontineref18_Ledger_Ask.j0
  refine GoO.ite' c28_5e (by kernel_rfl) (fun h20 => ?_) (fun h20 => ?_)
  · refine GoO.seq' c28_6e ?_
    refine GoO.region' (is := [0, 1]) c28_7e (by kernel_rfl) ?_
    refine GoO.exec (is := [0, 1]) (hs := [.p, .p]) (rest := []) (ks := [10, 11]) (env' := [(10, .bool false), (11, .int .i64 1)]) (H' := [⟨1, b_2, [.int .u64 l_1.Fence.Term, .int .u64 l_1.Fence.Index, .slice A_3 l_1.Keys.length c_4, .slice A_5 l_1.Names.length c_6, .slice A_7 l_1.Good.length c_8, .slice A_9 l_1.Dead.length c_10]⟩, ⟨40, b_15, [.int .u64 t_11.Term, .int .u64 t_11.Index]⟩, ⟨41, b_16, [.int .u64 k_12.Saga, .int .i64 k_12.Step, .bool k_12.Back]⟩]) (ps := []) (by kernel_rfl) trivial ?_
    refine GoO.regionEnd ?_
    exact GoO.ret' (h := c28_8e) (hs := []) (ps := []) (hk := [0]) (bk := [0, 1, 2, 3]) Try.func28 (⟨A_3, c_4, A_5, c_6, A_7, c_8, A_9, c_10⟩ : Option Addr × Nat × Option Addr × Nat × Option Addr × Nat × Option Addr × Nat) (by kernel_rfl) trivial (by kernel_rfl) (by kernel_rfl)
  · refine GoO.skip' c28_9e ?_
    refine GoO.seq' c28_10e ?_
    refine GoO.seq' c28_11e ?_
    refine GoO.draw c28_12e (by kernel_rfl) [] [⟨1, b_2, [.int .u64 l_1.Fence.Term, .int .u64 l_1.Fence.Index, .slice A_3 l_1.Keys.length c_4, .slice A_5 l_1.Names.length c_6, .slice A_7 l_1.Good.length c_8, .slice A_9 l_1.Dead.length c_10]⟩, ⟨40, b_15, [.int .u64 t_11.Term, .int .u64 t_11.Index]⟩] [] (n := 6) (by kernel_rfl) ?_
    simp only [List.replicate]
    refine GoF.take [0, 1, 2, 3, 4] [.b 1, .p, .p, .p, .b 0] (ks := [0, 3, 4, 6, 7, 30, 34]) (fu := 1) (li := [true, true, true, true, true, false]) (env' := [(0, .pointer (some ⟨b_2, 0, none⟩)), (3, .string (bs name_13)), (4, .bool fail_14), (6, .pointer (some ⟨b_15, 0, none⟩)), (7, .pointer (some ⟨b_16, 0, none⟩)), (30, .agg ⟨[.int .u64 t_11.Term, .int .u64 t_11.Index]⟩), (34, .agg ⟨[.int .u64 l_1.Fence.Term, .int .u64 l_1.Fence.Index]⟩)]) (ps := [b_15 = b_15, b_2 = b_2]) (hk := [0, 1]) (bk := []) (by kernel_rfl) (And.intro rfl (And.intro rfl trivial)) rfl rfl ?_
    refine OpTo.goF (i := 5) (by kernel_rfl) (hk := [0, 1]) (bk := []) (GoO.call rfl (by kernel_rfl) (by kernel_rfl) (tontineref18_Less_ok n t_11 (⟨l_1.Fence.Term, l_1.Fence.Index⟩ : T_api_Token)) [[0]] [] [] [] (hks := [0, 1, 2]) (bks := [0, 1, 2, 3]) (by kernel_rfl) (by kernel_rfl) (by kernel_rfl) (.inl rfl) rfl rfl (by kernel_rfl) (by kernel_rfl) _ (fun _ _ => rfl) _ _ (fun _ _ => rfl) (fun _ _ => rfl) (fun _ _ => by kernel_rfl) (fun _ _ => by kernel_rfl) (fun r_21 x_87 => ⟨rfl, rfl, ?_⟩))
    refine GoF.shape (env' := [(0, .pointer (some ⟨b_2, 0, none⟩)), (3, .string (bs name_13)), (4, .bool fail_14), (6, .pointer (some ⟨b_15, 0, none⟩)), (7, .pointer (some ⟨b_16, 0, none⟩)), (30, .agg ⟨[.int .u64 t_11.Term, .int .u64 t_11.Index]⟩), (34, .agg ⟨[.int .u64 l_1.Fence.Term, .int .u64 l_1.Fence.Index]⟩), (35, .bool r_21)]) (H' := [⟨1, b_2, [.int .u64 l_1.Fence.Term, .int .u64 l_1.Fence.Index, .slice A_3 l_1.Keys.length c_4, .slice A_5 l_1.Names.length c_6, .slice A_7 l_1.Good.length c_8, .slice A_9 l_1.Dead.length c_10]⟩, ⟨40, b_15, [.int .u64 t_11.Term, .int .u64 t_11.Index]⟩, ⟨41, b_16, [.int .u64 k_12.Saga, .int .i64 k_12.Step, .bool k_12.Back]⟩]) (B' := [Ow 2 kT_api_Key A_3 c_4 l_1.Keys, Ow 3 Kd.str A_5 c_6 l_1.Names, Ow 4 kT_tontineref18_Said A_7 c_8 l_1.Good, Ow 5 kT_api_Key A_9 c_10 l_1.Dead]) (ks := [0, 3, 4, 6, 7, 30, 34, 35]) (by kernel_rfl) (by kernel_rfl) (by kernel_rfl) ?_
    refine GoF.done (by kernel_rfl) ?_
    refine GoO.ite' c28_13e (by kernel_rfl) (fun h22 => ?_) (fun h22 => ?_)
    · refine GoO.seq' c28_14e ?_
      refine GoO.region' (is := [0, 1]) c28_15e (by kernel_rfl) ?_
      refine GoO.exec (is := [0, 1]) (hs := [.p, .p]) (rest := []) (ks := [10, 11]) (env' := [(10, .bool false), (11, .int .i64 50)]) (H' := [⟨1, b_2, [.int .u64 l_1.Fence.Term, .int .u64 l_1.Fence.Index, .slice A_3 l_1.Keys.length c_4, .slice A_5 l_1.Names.length c_6, .slice A_7 l_1.Good.length c_8, .slice A_9 l_1.Dead.length c_10]⟩, ⟨40, b_15, [.int .u64 t_11.Term, .int .u64 t_11.Index]⟩, ⟨41, b_16, [.int .u64 k_12.Saga, .int .i64 k_12.Step, .bool k_12.Back]⟩]) (ps := []) (by kernel_rfl) trivial ?_
      refine GoO.regionEnd ?_
      exact GoO.ret' (h := c28_16e) (hs := []) (ps := []) (hk := [0]) (bk := [0, 1, 2, 3]) Try.func28 (⟨A_3, c_4, A_5, c_6, A_7, c_8, A_9, c_10⟩ : Option Addr × Nat × Option Addr × Nat × Option Addr × Nat × Option Addr × Nat) (by kernel_rfl) trivial (by kernel_rfl) (by kernel_rfl)
    · refine GoO.skip' c28_17e ?_
      refine GoO.seq' c28_18e ?_
      refine GoO.region' (is := [0, 1, 2, 3, 4]) c28_19e (by kernel_rfl) ?_
      refine GoO.exec (is := [0, 1, 2, 3, 4]) (hs := [.p, .b 1, .p, .p, .b 0]) (rest := []) (ks := [0, 3, 4, 7]) (env' := [(0, .pointer (some ⟨b_2, 0, none⟩)), (3, .string (bs name_13)), (4, .bool fail_14), (7, .pointer (some ⟨b_16, 0, none⟩))]) (H' := [⟨1, b_2, [.int .u64 t_11.Term, .int .u64 t_11.Index, .slice A_3 l_1.Keys.length c_4, .slice A_5 l_1.Names.length c_6, .slice A_7 l_1.Good.length c_8, .slice A_9 l_1.Dead.length c_10]⟩, ⟨40, b_15, [.int .u64 t_11.Term, .int .u64 t_11.Index]⟩, ⟨41, b_16, [.int .u64 k_12.Saga, .int .i64 k_12.Step, .bool k_12.Back]⟩]) (ps := [b_15 = b_15, b_2 = b_2]) (by kernel_rfl) (And.intro rfl (And.intro rfl trivial)) ?_
      refine GoO.regionEnd ?_
      refine GoO.seq' c28_20e ?_
      refine GoO.region' (is := [0, 1, 2, 3, 4, 5, 6, 7]) c28_21e (by kernel_rfl) ?_
      refine GoO.exec (is := [0, 1]) (hs := [.p, .b 2]) (rest := [2, 3, 4, 5, 6, 7]) (ks := [0, 3, 4, 7, 41, 42]) (env' := [(0, .pointer (some ⟨b_2, 0, none⟩)), (3, .string (bs name_13)), (4, .bool fail_14), (7, .pointer (some ⟨b_16, 0, none⟩)), (41, .pointer (some ⟨b_2, 0, none⟩)), (42, .agg ⟨[.int .u64 k_12.Saga, .int .i64 k_12.Step, .bool k_12.Back]⟩)]) (H' := [⟨1, b_2, [.int .u64 t_11.Term, .int .u64 t_11.Index, .slice A_3 l_1.Keys.length c_4, .slice A_5 l_1.Names.length c_6, .slice A_7 l_1.Good.length c_8, .slice A_9 l_1.Dead.length c_10]⟩, ⟨40, b_15, [.int .u64 t_11.Term, .int .u64 t_11.Index]⟩, ⟨41, b_16, [.int .u64 k_12.Saga, .int .i64 k_12.Step, .bool k_12.Back]⟩]) (ps := [b_16 = b_16]) (by kernel_rfl) (And.intro rfl trivial) ?_
      refine OpTo.go (GoO.call rfl (by kernel_rfl) (by kernel_rfl) (tontineref18_Ledger_said_ok n (⟨t_11, l_1.Keys, l_1.Names, l_1.Good, l_1.Dead⟩ : T_tontineref18_Ledger) k_12 b_2 A_3 c_4 A_5 c_6 A_7 c_8 A_9 c_10) [[0], [1], [2], [3], [4], [5]] [] [(1, 0)] [(2, 0), (3, 1), (4, 2), (5, 3)] (hks := [0, 1, 2]) (bks := [0, 1, 2, 3]) (by kernel_rfl) (by kernel_rfl) (by kernel_rfl) (.inl rfl) rfl rfl (by kernel_rfl) (by kernel_rfl) _ (fun _ _ => rfl) _ _ (fun _ _ => rfl) (fun _ _ => rfl) (fun _ _ => by kernel_rfl) (fun _ _ => by kernel_rfl) (fun r_23 x_86 => ?_))
      refine GoO.shape (env' := [(0, .pointer (some ⟨b_2, 0, none⟩)), (3, .string (bs name_13)), (4, .bool fail_14), (7, .pointer (some ⟨b_16, 0, none⟩)), (41, .pointer (some ⟨b_2, 0, none⟩)), (42, .agg ⟨[.int .u64 k_12.Saga, .int .i64 k_12.Step, .bool k_12.Back]⟩), (43, .tuple ⟨[.bool r_23.1, .bool r_23.2]⟩)]) (H' := [⟨1, b_2, [.int .u64 t_11.Term, .int .u64 t_11.Index, .slice A_3 l_1.Keys.length c_4, .slice A_5 l_1.Names.length c_6, .slice A_7 l_1.Good.length c_8, .slice A_9 l_1.Dead.length c_10]⟩, ⟨40, b_15, [.int .u64 t_11.Term, .int .u64 t_11.Index]⟩, ⟨41, b_16, [.int .u64 k_12.Saga, .int .i64 k_12.Step, .bool k_12.Back]⟩]) (B' := [Ow 2 kT_api_Key A_3 c_4 l_1.Keys, Ow 3 Kd.str A_5 c_6 l_1.Names, Ow 4 kT_tontineref18_Said A_7 c_8 l_1.Good, Ow 5 kT_api_Key A_9 c_10 l_1.Dead]) (ks := [0, 3, 4, 7, 41, 42, 43]) (by kernel_rfl) (by kernel_rfl) (by kernel_rfl) ?_
      refine GoO.exec (is := [3, 4, 5, 6, 7]) (hs := [.p, .p, .p, .p, .p]) (rest := []) (ks := [0, 3, 4, 7, 12, 13]) (env' := [(0, .pointer (some ⟨b_2, 0, none⟩)), (3, .string (bs name_13)), (4, .bool fail_14), (7, .pointer (some ⟨b_16, 0, none⟩)), (12, .bool r_23.1), (13, .bool r_23.2)]) (H' := [⟨1, b_2, [.int .u64 t_11.Term, .int .u64 t_11.Index, .slice A_3 l_1.Keys.length c_4, .slice A_5 l_1.Names.length c_6, .slice A_7 l_1.Good.length c_8, .slice A_9 l_1.Dead.length c_10]⟩, ⟨40, b_15, [.int .u64 t_11.Term, .int .u64 t_11.Index]⟩, ⟨41, b_16, [.int .u64 k_12.Saga, .int .i64 k_12.Step, .bool k_12.Back]⟩]) (ps := []) (by kernel_rfl) trivial ?_
      refine GoO.regionEnd ?_
      refine GoO.seq' c28_22e ?_
      refine GoO.seq' c28_23e ?_
      refine GoO.region' (is := [0]) c28_24e (by kernel_rfl) ?_
      refine GoO.exec (is := [0]) (hs := [.p]) (rest := []) (ks := [0, 3, 4, 7, 12, 46]) (env' := [(0, .pointer (some ⟨b_2, 0, none⟩)), (3, .string (bs name_13)), (4, .bool fail_14), (7, .pointer (some ⟨b_16, 0, none⟩)), (12, .bool r_23.1), (46, .bool r_23.2)]) (H' := [⟨1, b_2, [.int .u64 t_11.Term, .int .u64 t_11.Index, .slice A_3 l_1.Keys.length c_4, .slice A_5 l_1.Names.length c_6, .slice A_7 l_1.Good.length c_8, .slice A_9 l_1.Dead.length c_10]⟩, ⟨40, b_15, [.int .u64 t_11.Term, .int .u64 t_11.Index]⟩, ⟨41, b_16, [.int .u64 k_12.Saga, .int .i64 k_12.Step, .bool k_12.Back]⟩]) (ps := []) (by kernel_rfl) trivial ?_
      refine GoO.regionEnd ?_
      refine GoO.ite' c28_25e (by kernel_rfl) (fun h24 => ?_) (fun h24 => ?_)
      · refine GoO.seq' c28_26e ?_
        refine GoO.region' (is := [0, 1, 2]) c28_27e (by kernel_rfl) ?_
        refine GoO.exec (is := [0, 1, 2]) (hs := [.p, .p, .p]) (rest := []) (ks := [10, 11]) (env' := [(10, .bool r_23.1), (11, .int .i64 0)]) (H' := [⟨1, b_2, [.int .u64 t_11.Term, .int .u64 t_11.Index, .slice A_3 l_1.Keys.length c_4, .slice A_5 l_1.Names.length c_6, .slice A_7 l_1.Good.length c_8, .slice A_9 l_1.Dead.length c_10]⟩, ⟨40, b_15, [.int .u64 t_11.Term, .int .u64 t_11.Index]⟩, ⟨41, b_16, [.int .u64 k_12.Saga, .int .i64 k_12.Step, .bool k_12.Back]⟩]) (ps := []) (by kernel_rfl) trivial ?_
        refine GoO.regionEnd ?_
        exact GoO.ret' (h := c28_28e) (hs := []) (ps := []) (hk := [0]) (bk := [0, 1, 2, 3]) Try.func28 (⟨A_3, c_4, A_5, c_6, A_7, c_8, A_9, c_10⟩ : Option Addr × Nat × Option Addr × Nat × Option Addr × Nat × Option Addr × Nat) (by kernel_rfl) trivial (by kernel_rfl) (by kernel_rfl)
      · refine GoO.skip' c28_29e ?_
        refine GoO.seq' c28_30e ?_
        refine GoO.region' (is := [0, 1, 2, 3, 4, 5, 6]) c28_31e (by kernel_rfl) ?_
        refine GoO.exec (is := [0, 1, 2, 3, 4]) (hs := [.p, .b 2, .p, .b 2, .p]) (rest := [5, 6]) (ks := [0, 3, 4, 7, 52]) (env' := [(0, .pointer (some ⟨b_2, 0, none⟩)), (3, .string (bs name_13)), (4, .bool fail_14), (7, .pointer (some ⟨b_16, 0, none⟩)), (52, .agg ⟨[.int .u64 k_12.Saga, .int .i64 k_12.Step, .bool false]⟩)]) (H' := [⟨1, b_2, [.int .u64 t_11.Term, .int .u64 t_11.Index, .slice A_3 l_1.Keys.length c_4, .slice A_5 l_1.Names.length c_6, .slice A_7 l_1.Good.length c_8, .slice A_9 l_1.Dead.length c_10]⟩, ⟨40, b_15, [.int .u64 t_11.Term, .int .u64 t_11.Index]⟩, ⟨41, b_16, [.int .u64 k_12.Saga, .int .i64 k_12.Step, .bool k_12.Back]⟩]) (ps := [b_16 = b_16, b_16 = b_16]) (by kernel_rfl) (And.intro rfl (And.intro rfl trivial)) ?_
        refine OpTo.go (GoO.new rfl 42 (cs := [.int .u64 0, .int .i64 0, .bool false]) (by kernel_rfl) _ (fun _ => rfl) (fun b_25 => ?_))
        refine GoO.exec (is := [6]) (hs := [.b 0]) (rest := []) (ks := [0, 3, 4, 7, 14]) (env' := [(0, .pointer (some ⟨b_2, 0, none⟩)), (3, .string (bs name_13)), (4, .bool fail_14), (7, .pointer (some ⟨b_16, 0, none⟩)), (14, .pointer (some ⟨b_25, 0, none⟩))]) (H' := [⟨42, b_25, [.int .u64 k_12.Saga, .int .i64 k_12.Step, .bool false]⟩, ⟨1, b_2, [.int .u64 t_11.Term, .int .u64 t_11.Index, .slice A_3 l_1.Keys.length c_4, .slice A_5 l_1.Names.length c_6, .slice A_7 l_1.Good.length c_8, .slice A_9 l_1.Dead.length c_10]⟩, ⟨40, b_15, [.int .u64 t_11.Term, .int .u64 t_11.Index]⟩, ⟨41, b_16, [.int .u64 k_12.Saga, .int .i64 k_12.Step, .bool k_12.Back]⟩]) (ps := [b_25 = b_25]) (by kernel_rfl) (And.intro rfl trivial) ?_
        refine GoO.regionEnd ?_
        refine GoO.seq' c28_32e ?_
        refine GoO.block' c28_33e ?_
        refine GoO.seq' c28_34e ?_
        refine GoO.region' (is := [0, 1, 2, 3, 4, 5, 6, 7, 8]) c28_35e (by kernel_rfl) ?_
        refine GoO.exec (is := [0, 1, 2, 3]) (hs := [.p, .b 3, .p, .p]) (rest := [4, 5, 6, 7, 8]) (ks := [0, 3, 4, 7, 14, 61]) (env' := [(0, .pointer (some ⟨b_2, 0, none⟩)), (3, .string (bs name_13)), (4, .bool fail_14), (7, .pointer (some ⟨b_16, 0, none⟩)), (14, .pointer (some ⟨b_25, 0, none⟩)), (61, .bool (!k_12.Back))]) (H' := [⟨42, b_25, [.int .u64 k_12.Saga, .int .i64 k_12.Step, .bool false]⟩, ⟨1, b_2, [.int .u64 t_11.Term, .int .u64 t_11.Index, .slice A_3 l_1.Keys.length c_4, .slice A_5 l_1.Names.length c_6, .slice A_7 l_1.Good.length c_8, .slice A_9 l_1.Dead.length c_10]⟩, ⟨40, b_15, [.int .u64 t_11.Term, .int .u64 t_11.Index]⟩, ⟨41, b_16, [.int .u64 k_12.Saga, .int .i64 k_12.Step, .bool k_12.Back]⟩]) (ps := [b_16 = b_16]) (by kernel_rfl) (And.intro rfl trivial) ?_
        refine GoO.bsplit (t := 61) (by kernel_rfl) (fun h26 => ?_) (fun h26 => ?_)
        · refine GoO.exec (is := [4, 5]) (hs := [.p, .b 3]) (rest := [6, 7, 8]) (ks := [0, 3, 4, 7, 14, 61, 62, 63]) (env' := [(0, .pointer (some ⟨b_2, 0, none⟩)), (3, .string (bs name_13)), (4, .bool fail_14), (7, .pointer (some ⟨b_16, 0, none⟩)), (14, .pointer (some ⟨b_25, 0, none⟩)), (61, .bool true), (62, .pointer (some ⟨b_2, 0, none⟩)), (63, .agg ⟨[.int .u64 k_12.Saga, .int .i64 k_12.Step, .bool k_12.Back]⟩)]) (H' := [⟨42, b_25, [.int .u64 k_12.Saga, .int .i64 k_12.Step, .bool false]⟩, ⟨1, b_2, [.int .u64 t_11.Term, .int .u64 t_11.Index, .slice A_3 l_1.Keys.length c_4, .slice A_5 l_1.Names.length c_6, .slice A_7 l_1.Good.length c_8, .slice A_9 l_1.Dead.length c_10]⟩, ⟨40, b_15, [.int .u64 t_11.Term, .int .u64 t_11.Index]⟩, ⟨41, b_16, [.int .u64 k_12.Saga, .int .i64 k_12.Step, .bool k_12.Back]⟩]) (ps := [b_16 = b_16]) (by kernel_rfl) (And.intro rfl trivial) ?_
          refine OpTo.go (GoO.call rfl (by kernel_rfl) (by kernel_rfl) (tontineref18_Ledger_IsDead_ok n (⟨t_11, l_1.Keys, l_1.Names, l_1.Good, l_1.Dead⟩ : T_tontineref18_Ledger) k_12 b_2 A_3 c_4 A_5 c_6 A_7 c_8 A_9 c_10) [[0], [1], [2], [3], [4], [5]] [] [(1, 1)] [(2, 0), (3, 1), (4, 2), (5, 3)] (hks := [0, 1, 2, 3]) (bks := [0, 1, 2, 3]) (by kernel_rfl) (by kernel_rfl) (by kernel_rfl) (.inl rfl) rfl rfl (by kernel_rfl) (by kernel_rfl) _ (fun _ _ => rfl) _ _ (fun _ _ => rfl) (fun _ _ => rfl) (fun _ _ => by kernel_rfl) (fun _ _ => by kernel_rfl) (fun r_27 x_28 => ?_))
          refine GoO.shape (env' := [(0, .pointer (some ⟨b_2, 0, none⟩)), (3, .string (bs name_13)), (4, .bool fail_14), (7, .pointer (some ⟨b_16, 0, none⟩)), (14, .pointer (some ⟨b_25, 0, none⟩)), (61, .bool true), (62, .pointer (some ⟨b_2, 0, none⟩)), (63, .agg ⟨[.int .u64 k_12.Saga, .int .i64 k_12.Step, .bool k_12.Back]⟩), (64, .bool r_27)]) (H' := [⟨42, b_25, [.int .u64 k_12.Saga, .int .i64 k_12.Step, .bool false]⟩, ⟨1, b_2, [.int .u64 t_11.Term, .int .u64 t_11.Index, .slice A_3 l_1.Keys.length c_4, .slice A_5 l_1.Names.length c_6, .slice A_7 l_1.Good.length c_8, .slice A_9 l_1.Dead.length c_10]⟩, ⟨40, b_15, [.int .u64 t_11.Term, .int .u64 t_11.Index]⟩, ⟨41, b_16, [.int .u64 k_12.Saga, .int .i64 k_12.Step, .bool k_12.Back]⟩]) (B' := [Ow 2 kT_api_Key A_3 c_4 l_1.Keys, Ow 3 Kd.str A_5 c_6 l_1.Names, Ow 4 kT_tontineref18_Said A_7 c_8 l_1.Good, Ow 5 kT_api_Key A_9 c_10 l_1.Dead]) (ks := [0, 3, 4, 7, 14, 61, 62, 63, 64]) (by kernel_rfl) (by kernel_rfl) (by kernel_rfl) ?_
          refine GoO.exec (is := [7, 8]) (hs := [.p, .p]) (rest := []) (ks := [0, 3, 4, 7, 14, 57]) (env' := [(0, .pointer (some ⟨b_2, 0, none⟩)), (3, .string (bs name_13)), (4, .bool fail_14), (7, .pointer (some ⟨b_16, 0, none⟩)), (14, .pointer (some ⟨b_25, 0, none⟩)), (57, .bool r_27)]) (H' := [⟨42, b_25, [.int .u64 k_12.Saga, .int .i64 k_12.Step, .bool false]⟩, ⟨1, b_2, [.int .u64 t_11.Term, .int .u64 t_11.Index, .slice A_3 l_1.Keys.length c_4, .slice A_5 l_1.Names.length c_6, .slice A_7 l_1.Good.length c_8, .slice A_9 l_1.Dead.length c_10]⟩, ⟨40, b_15, [.int .u64 t_11.Term, .int .u64 t_11.Index]⟩, ⟨41, b_16, [.int .u64 k_12.Saga, .int .i64 k_12.Step, .bool k_12.Back]⟩]) (ps := []) (by kernel_rfl) trivial ?_
          refine GoO.regionEnd ?_
          exact GoO.sub (ks := [0, 3, 4, 7, 14, 57]) (hk := [1, 3, 0]) (bk := [0, 1, 2, 3]) (by kernel_rfl) (by kernel_rfl) (by kernel_rfl) (tontineref18_Ledger_Ask_j1_ok n l_1 t_11 k_12 name_13 fail_14 b_2 A_3 c_4 A_5 c_6 A_7 c_8 A_9 c_10 b_16 b_25 w0 S0 r_27)
        · refine GoO.exec (is := [4, 5, 6, 7, 8]) (hs := [.p, .p, .p, .p, .p]) (rest := []) (ks := [0, 3, 4, 7, 14, 57]) (env' := [(0, .pointer (some ⟨b_2, 0, none⟩)), (3, .string (bs name_13)), (4, .bool fail_14), (7, .pointer (some ⟨b_16, 0, none⟩)), (14, .pointer (some ⟨b_25, 0, none⟩)), (57, .bool false)]) (H' := [⟨42, b_25, [.int .u64 k_12.Saga, .int .i64 k_12.Step, .bool false]⟩, ⟨1, b_2, [.int .u64 t_11.Term, .int .u64 t_11.Index, .slice A_3 l_1.Keys.length c_4, .slice A_5 l_1.Names.length c_6, .slice A_7 l_1.Good.length c_8, .slice A_9 l_1.Dead.length c_10]⟩, ⟨40, b_15, [.int .u64 t_11.Term, .int .u64 t_11.Index]⟩, ⟨41, b_16, [.int .u64 k_12.Saga, .int .i64 k_12.Step, .bool k_12.Back]⟩]) (ps := []) (by kernel_rfl) trivial ?_
          refine GoO.regionEnd ?_
          exact GoO.sub (ks := [0, 3, 4, 7, 14, 57]) (hk := [1, 3, 0]) (bk := [0, 1, 2, 3]) (by kernel_rfl) (by kernel_rfl) (by kernel_rfl) (tontineref18_Ledger_Ask_j1_ok n l_1 t_11 k_12 name_13 fail_14 b_2 A_3 c_4 A_5 c_6 A_7 c_8 A_9 c_10 b_16 b_25 w0 S0 false)
theorem tontineref18_Ledger_Ask_ok (n : Nat) (l_1 : T_tontineref18_Ledger) (t_11 : T_api_Token) (k_12 : T_api_Key) (name_13 : (List UInt8)) (fail_14 : Bool) (b_2 : Nat) (A_3 : Option Addr) (c_4 : Nat) (A_5 : Option Addr) (c_6 : Nat) (A_7 : Option Addr) (c_8 : Nat) (A_9 : Option Addr) (c_10 : Nat) :
    Meets Try.prog 28 [.pointer (some ⟨b_2, 0, none⟩), .agg ⟨[.int .u64 t_11.Term, .int .u64 t_11.Index]⟩, .agg ⟨[.int .u64 k_12.Saga, .int .i64 k_12.Step, .bool k_12.Back]⟩, .string (bs name_13), .bool fail_14] 5 [1, 2, 3, 4, 5] [⟨1, b_2, [.int .u64 l_1.Fence.Term, .int .u64 l_1.Fence.Index, .slice A_3 l_1.Keys.length c_4, .slice A_5 l_1.Names.length c_6, .slice A_7 l_1.Good.length c_8, .slice A_9 l_1.Dead.length c_10]⟩] [Ow 2 kT_api_Key A_3 c_4 l_1.Keys, Ow 3 Kd.str A_5 c_6 l_1.Names, Ow 4 kT_tontineref18_Said A_7 c_8 l_1.Good, Ow 5 kT_api_Key A_9 c_10 l_1.Dead] (tontineref18_Ledger_Ask.f n l_1 t_11 k_12 name_13 fail_14) (tontineref18_Ledger_Ask.R b_2 A_3 c_4 A_5 c_6 A_7 c_8 A_9 c_10) := by
  refine Meets.of (c := c28_0) (n := 125) Try.func28 (by kernel_rfl) (by kernel_rfl) (by kernel_rfl) fun w0 S0 => ?_
  unfold tontineref18_Ledger_Ask.f
  show GoO (tontineref18_Ledger_Ask.cx b_2 A_3 c_4 A_5 c_6 A_7 c_8 A_9 c_10 w0 S0) [(0, .pointer (some ⟨b_2, 0, none⟩)), (1, .agg ⟨[.int .u64 t_11.Term, .int .u64 t_11.Index]⟩), (2, .agg ⟨[.int .u64 k_12.Saga, .int .i64 k_12.Step, .bool k_12.Back]⟩), (3, .string (bs name_13)), (4, .bool fail_14)] [⟨1, b_2, [.int .u64 l_1.Fence.Term, .int .u64 l_1.Fence.Index, .slice A_3 l_1.Keys.length c_4, .slice A_5 l_1.Names.length c_6, .slice A_7 l_1.Good.length c_8, .slice A_9 l_1.Dead.length c_10]⟩] [Ow 2 kT_api_Key A_3 c_4 l_1.Keys, Ow 3 Kd.str A_5 c_6 l_1.Names, Ow 4 kT_tontineref18_Said A_7 c_8 l_1.Good, Ow 5 kT_api_Key A_9 c_10 l_1.Dead] [.code c28_0] _
  refine GoO.seq' c28_0e ?_
  refine GoO.region' (is := [0, 1, 2, 3]) c28_1e (by kernel_rfl) ?_
  refine OpTo.go (GoO.new rfl 40 (cs := [.int .u64 t_11.Term, .int .u64 t_11.Index]) (by kernel_rfl) _ (fun _ => rfl) (fun b_15 => ?_))
  refine OpTo.go (GoO.new rfl 41 (cs := [.int .u64 k_12.Saga, .int .i64 k_12.Step, .bool k_12.Back]) (by kernel_rfl) _ (fun _ => rfl) (fun b_16 => ?_))
  refine GoO.exec (is := [2, 3]) (hs := [.p, .p]) (rest := []) (ks := [0, 3, 4, 6, 7]) (env' := [(0, .pointer (some ⟨b_2, 0, none⟩)), (3, .string (bs name_13)), (4, .bool fail_14), (6, .pointer (some ⟨b_15, 0, none⟩)), (7, .pointer (some ⟨b_16, 0, none⟩))]) (H' := [⟨41, b_16, [.int .u64 k_12.Saga, .int .i64 k_12.Step, .bool k_12.Back]⟩, ⟨40, b_15, [.int .u64 t_11.Term, .int .u64 t_11.Index]⟩, ⟨1, b_2, [.int .u64 l_1.Fence.Term, .int .u64 l_1.Fence.Index, .slice A_3 l_1.Keys.length c_4, .slice A_5 l_1.Names.length c_6, .slice A_7 l_1.Good.length c_8, .slice A_9 l_1.Dead.length c_10]⟩]) (ps := []) (by kernel_rfl) trivial ?_
  refine GoO.regionEnd ?_
  refine GoO.seq' c28_2e ?_
  refine GoO.seq' c28_3e ?_
  refine GoO.region' (is := [0, 1, 2, 3, 4, 5, 6, 7, 8, 9, 10, 11, 12]) c28_4e (by kernel_rfl) ?_
  refine GoO.exec (is := [0, 1, 2, 3]) (hs := [.p, .b 0, .p, .p]) (rest := [4, 5, 6, 7, 8, 9, 10, 11, 12]) (ks := [0, 3, 4, 6, 7, 20]) (env' := [(0, .pointer (some ⟨b_2, 0, none⟩)), (3, .string (bs name_13)), (4, .bool fail_14), (6, .pointer (some ⟨b_15, 0, none⟩)), (7, .pointer (some ⟨b_16, 0, none⟩)), (20, .bool (decide (k_12.Step < 0)))]) (H' := [⟨41, b_16, [.int .u64 k_12.Saga, .int .i64 k_12.Step, .bool k_12.Back]⟩, ⟨40, b_15, [.int .u64 t_11.Term, .int .u64 t_11.Index]⟩, ⟨1, b_2, [.int .u64 l_1.Fence.Term, .int .u64 l_1.Fence.Index, .slice A_3 l_1.Keys.length c_4, .slice A_5 l_1.Names.length c_6, .slice A_7 l_1.Good.length c_8, .slice A_9 l_1.Dead.length c_10]⟩]) (ps := [b_16 = b_16]) (by kernel_rfl) (And.intro rfl trivial) ?_
  refine GoO.bsplit (t := 20) (by kernel_rfl) (fun h17 => ?_) (fun h17 => ?_)
  · refine GoO.exec (is := [4, 5, 6, 7, 8, 9, 10, 11, 12]) (hs := [.p, .p, .p, .p, .p, .p, .p, .p, .p]) (rest := []) (ks := [0, 3, 4, 6, 7, 29]) (env' := [(0, .pointer (some ⟨b_2, 0, none⟩)), (3, .string (bs name_13)), (4, .bool fail_14), (6, .pointer (some ⟨b_15, 0, none⟩)), (7, .pointer (some ⟨b_16, 0, none⟩)), (29, .bool true)]) (H' := [⟨41, b_16, [.int .u64 k_12.Saga, .int .i64 k_12.Step, .bool k_12.Back]⟩, ⟨40, b_15, [.int .u64 t_11.Term, .int .u64 t_11.Index]⟩, ⟨1, b_2, [.int .u64 l_1.Fence.Term, .int .u64 l_1.Fence.Index, .slice A_3 l_1.Keys.length c_4, .slice A_5 l_1.Names.length c_6, .slice A_7 l_1.Good.length c_8, .slice A_9 l_1.Dead.length c_10]⟩]) (ps := []) (by kernel_rfl) trivial ?_
    refine GoO.regionEnd ?_
    exact GoO.sub (ks := [0, 3, 4, 6, 7, 29]) (hk := [2, 1, 0]) (bk := [0, 1, 2, 3]) (by kernel_rfl) (by kernel_rfl) (by kernel_rfl) (tontineref18_Ledger_Ask_j0_ok n l_1 t_11 k_12 name_13 fail_14 b_2 A_3 c_4 A_5 c_6 A_7 c_8 A_9 c_10 b_15 b_16 w0 S0 true)
  · refine GoO.exec (is := [4, 5, 6, 7, 8]) (hs := [.p, .b 0, .p, .p, .p]) (rest := [9, 10, 11, 12]) (ks := [0, 3, 4, 6, 7, 25]) (env' := [(0, .pointer (some ⟨b_2, 0, none⟩)), (3, .string (bs name_13)), (4, .bool fail_14), (6, .pointer (some ⟨b_15, 0, none⟩)), (7, .pointer (some ⟨b_16, 0, none⟩)), (25, .bool (decide (k_12.Step > 63)))]) (H' := [⟨41, b_16, [.int .u64 k_12.Saga, .int .i64 k_12.Step, .bool k_12.Back]⟩, ⟨40, b_15, [.int .u64 t_11.Term, .int .u64 t_11.Index]⟩, ⟨1, b_2, [.int .u64 l_1.Fence.Term, .int .u64 l_1.Fence.Index, .slice A_3 l_1.Keys.length c_4, .slice A_5 l_1.Names.length c_6, .slice A_7 l_1.Good.length c_8, .slice A_9 l_1.Dead.length c_10]⟩]) (ps := [b_16 = b_16]) (by kernel_rfl) (And.intro rfl trivial) ?_
    refine GoO.bsplit (t := 25) (by kernel_rfl) (fun h18 => ?_) (fun h18 => ?_)
    · refine GoO.exec (is := [9, 10, 11, 12]) (hs := [.p, .p, .p, .p]) (rest := []) (ks := [0, 3, 4, 6, 7, 29]) (env' := [(0, .pointer (some ⟨b_2, 0, none⟩)), (3, .string (bs name_13)), (4, .bool fail_14), (6, .pointer (some ⟨b_15, 0, none⟩)), (7, .pointer (some ⟨b_16, 0, none⟩)), (29, .bool true)]) (H' := [⟨41, b_16, [.int .u64 k_12.Saga, .int .i64 k_12.Step, .bool k_12.Back]⟩, ⟨40, b_15, [.int .u64 t_11.Term, .int .u64 t_11.Index]⟩, ⟨1, b_2, [.int .u64 l_1.Fence.Term, .int .u64 l_1.Fence.Index, .slice A_3 l_1.Keys.length c_4, .slice A_5 l_1.Names.length c_6, .slice A_7 l_1.Good.length c_8, .slice A_9 l_1.Dead.length c_10]⟩]) (ps := []) (by kernel_rfl) trivial ?_
      refine GoO.regionEnd ?_
      exact GoO.sub (ks := [0, 3, 4, 6, 7, 29]) (hk := [2, 1, 0]) (bk := [0, 1, 2, 3]) (by kernel_rfl) (by kernel_rfl) (by kernel_rfl) (tontineref18_Ledger_Ask_j0_ok n l_1 t_11 k_12 name_13 fail_14 b_2 A_3 c_4 A_5 c_6 A_7 c_8 A_9 c_10 b_15 b_16 w0 S0 true)
    · refine GoO.exec (is := [9, 10, 11, 12]) (hs := [.p, .p, .p, .p]) (rest := []) (ks := [0, 3, 4, 6, 7, 29]) (env' := [(0, .pointer (some ⟨b_2, 0, none⟩)), (3, .string (bs name_13)), (4, .bool fail_14), (6, .pointer (some ⟨b_15, 0, none⟩)), (7, .pointer (some ⟨b_16, 0, none⟩)), (29, .bool (decide ((name_13.length : Int) > 16)))]) (H' := [⟨41, b_16, [.int .u64 k_12.Saga, .int .i64 k_12.Step, .bool k_12.Back]⟩, ⟨40, b_15, [.int .u64 t_11.Term, .int .u64 t_11.Index]⟩, ⟨1, b_2, [.int .u64 l_1.Fence.Term, .int .u64 l_1.Fence.Index, .slice A_3 l_1.Keys.length c_4, .slice A_5 l_1.Names.length c_6, .slice A_7 l_1.Good.length c_8, .slice A_9 l_1.Dead.length c_10]⟩]) (ps := []) (by kernel_rfl) trivial ?_
      refine GoO.regionEnd ?_
      exact GoO.sub (ks := [0, 3, 4, 6, 7, 29]) (hk := [2, 1, 0]) (bk := [0, 1, 2, 3]) (by kernel_rfl) (by kernel_rfl) (by kernel_rfl) (tontineref18_Ledger_Ask_j0_ok n l_1 t_11 k_12 name_13 fail_14 b_2 A_3 c_4 A_5 c_6 A_7 c_8 A_9 c_10 b_15 b_16 w0 S0 (decide ((name_13.length : Int) > 16)))

/-! (*tontine/ledger.Ledger).Fence -/
noncomputable def c29_0 : Code := bodyOf Try.f29
noncomputable def c29_1 : Code := cdL c29_0
noncomputable def c29_2 : Code := cdR c29_0
noncomputable def c29_3 : Code := cdL c29_2
noncomputable def c29_4 : Code := cdL c29_3
noncomputable def c29_5 : Code := cdR c29_3
noncomputable def c29_9 : Code := cdR c29_5
noncomputable def c29_10 : Code := cdR c29_2
noncomputable def c29_11 : Code := cdL c29_10
noncomputable def c29_12 : Code := cdR c29_10
noncomputable def c29_6 : Code := cdL c29_5
noncomputable def r29_1 : Array Oper := cdO c29_1
noncomputable def r29_4 : Array Oper := cdO c29_4
noncomputable def r29_11 : Array Oper := cdO c29_11
theorem c29_0e : c29_0 = .seq c29_1 c29_2 := by kernel_rfl
theorem c29_1e : c29_1 = .region 0 r29_1 false := by kernel_rfl
theorem c29_2e : c29_2 = .seq c29_3 c29_10 := by kernel_rfl
theorem c29_3e : c29_3 = .seq c29_4 c29_5 := by kernel_rfl
theorem c29_4e : c29_4 = .region 1 r29_4 false := by kernel_rfl
theorem c29_5e : c29_5 = .cond (cdC c29_5) c29_6 c29_9 := by kernel_rfl
theorem c29_9e : c29_9 = .skip := by kernel_rfl
theorem c29_10e : c29_10 = .seq c29_11 c29_12 := by kernel_rfl
theorem c29_11e : c29_11 = .region 3 r29_11 false := by kernel_rfl
theorem c29_12e : c29_12 = .ret := by kernel_rfl
noncomputable def ledger_Ledger_Fence.R (b_2 : Nat) (A_3 : Option Addr) (c_4 : Nat) (A_5 : Option Addr) (c_6 : Nat) (A_7 : Option Addr) (c_8 : Nat) : Pst T_api_Token where
  ε := Unit
  v := fun r x => .agg ⟨[.int .u64 r.Term, .int .u64 r.Index]⟩
  H := fun r x => []
  B := fun r x => []
noncomputable def ledger_Ledger_Fence.cx (b_2 : Nat) (A_3 : Option Addr) (c_4 : Nat) (A_5 : Option Addr) (c_6 : Nat) (A_7 : Option Addr) (c_8 : Nat) (w0 : World) (S0 : Fam) : Cx T_api_Token := ⟨Try.prog, 29, Try.f29, 10, w0, S0, [], 4, ledger_Ledger_Fence.R b_2 A_3 c_4 A_5 c_6 A_7 c_8⟩
theorem ledger_Ledger_Fence_ok (n : Nat) (l_1 : T_ledger_Ledger) (b_2 : Nat) (A_3 : Option Addr) (c_4 : Nat) (A_5 : Option Addr) (c_6 : Nat) (A_7 : Option Addr) (c_8 : Nat) :
    Meets Try.prog 29 [.pointer (some ⟨b_2, 0, none⟩)] 4 [] [⟨1, b_2, [.int .u64 l_1.fence.Term, .int .u64 l_1.fence.Index, .slice A_3 l_1.effects.length c_4, .map (mA A_5), .map (mA A_7)]⟩] [Ow 2 kT_ledger_Effect A_3 c_4 l_1.effects, Mp 3 ky41 (fun v => .bool v) A_5 c_6 l_1.said, Mp 4 ky41 (fun v => .bool v) A_7 c_8 l_1.tombs] (ledger_Ledger_Fence.f n l_1) (ledger_Ledger_Fence.R b_2 A_3 c_4 A_5 c_6 A_7 c_8) := by
  refine Meets.of (c := c29_0) (n := 10) Try.func29 (by kernel_rfl) (by kernel_rfl) (by kernel_rfl) fun w0 S0 => ?_
  unfold ledger_Ledger_Fence.f
  show GoO (ledger_Ledger_Fence.cx b_2 A_3 c_4 A_5 c_6 A_7 c_8 w0 S0) [(0, .pointer (some ⟨b_2, 0, none⟩))] [⟨1, b_2, [.int .u64 l_1.fence.Term, .int .u64 l_1.fence.Index, .slice A_3 l_1.effects.length c_4, .map (mA A_5), .map (mA A_7)]⟩] [Ow 2 kT_ledger_Effect A_3 c_4 l_1.effects, Mp 3 ky41 (fun v => .bool v) A_5 c_6 l_1.said, Mp 4 ky41 (fun v => .bool v) A_7 c_8 l_1.tombs] [.code c29_0] _
  refine GoO.seq' c29_0e ?_
  refine GoO.region' (is := [0]) c29_1e (by kernel_rfl) ?_
  refine OpTo.go (GoO.new rfl 40 (cs := [.int .u64 0, .int .u64 0]) (by kernel_rfl) _ (fun _ => rfl) (fun b_9 => ?_))
  refine GoO.regionEnd ?_
  refine GoO.seq' c29_2e ?_
  refine GoO.seq' c29_3e ?_
  refine GoO.region' (is := [0, 1]) c29_4e (by kernel_rfl) ?_
  refine GoO.exec (is := [0, 1]) (hs := [.p, .p]) (rest := []) (ks := [0, 2, 4]) (env' := [(0, .pointer (some ⟨b_2, 0, none⟩)), (2, .pointer (some ⟨b_9, 0, none⟩)), (4, .bool false)]) (H' := [⟨40, b_9, [.int .u64 0, .int .u64 0]⟩, ⟨1, b_2, [.int .u64 l_1.fence.Term, .int .u64 l_1.fence.Index, .slice A_3 l_1.effects.length c_4, .map (mA A_5), .map (mA A_7)]⟩]) (ps := []) (by kernel_rfl) trivial ?_
  refine GoO.regionEnd ?_
  refine GoO.condF c29_5e (by kernel_rfl) ?_
  refine GoO.skip' c29_9e ?_
  refine GoO.seq' c29_10e ?_
  refine GoO.region' (is := [0, 1, 2, 3, 4]) c29_11e (by kernel_rfl) ?_
  refine GoO.exec (is := [0, 1, 2, 3, 4]) (hs := [.p, .p, .p, .b 1, .b 0]) (rest := []) (ks := [2]) (env' := [(2, .pointer (some ⟨b_9, 0, none⟩))]) (H' := [⟨40, b_9, [.int .u64 l_1.fence.Term, .int .u64 l_1.fence.Index]⟩, ⟨1, b_2, [.int .u64 l_1.fence.Term, .int .u64 l_1.fence.Index, .slice A_3 l_1.effects.length c_4, .map (mA A_5), .map (mA A_7)]⟩]) (ps := [b_2 = b_2, b_9 = b_9]) (by kernel_rfl) (And.intro rfl (And.intro rfl trivial)) ?_
  refine GoO.regionEnd ?_
  exact GoO.ret' (h := c29_12e) (hs := [0]) (ps := [b_9 = b_9]) (hk := []) (bk := []) Try.func29 () (by kernel_rfl) (And.intro rfl trivial) (by kernel_rfl) (by kernel_rfl)

/-! tontine/tontinelaw18.LedgerRuns -/
noncomputable def c7_0 : Code := bodyOf Try.f7
noncomputable def c7_1 : Code := cdL c7_0
noncomputable def c7_2 : Code := cdR c7_0
noncomputable def c7_3 : Code := cdL c7_2
noncomputable def c7_4 : Code := cdL c7_3
noncomputable def c7_5 : Code := cdR c7_3
noncomputable def c7_6 : Code := cdL c7_5
noncomputable def c7_7 : Code := cdL c7_6
noncomputable def c7_8 : Code := cdR c7_6
noncomputable def c7_9 : Code := cdR c7_5
noncomputable def c7_10 : Code := cdR c7_2
noncomputable def c7_11 : Code := cdL c7_10
noncomputable def c7_12 : Code := cdR c7_10
noncomputable def c7_13 : Code := cdL c7_12
noncomputable def c7_14 : Code := cdL c7_13
noncomputable def c7_15 : Code := cdR c7_13
noncomputable def c7_16 : Code := cdL c7_15
noncomputable def c7_17 : Code := cdL c7_16
noncomputable def c7_18 : Code := cdL c7_17
noncomputable def c7_19 : Code := cdR c7_17
noncomputable def c7_20 : Code := cdL c7_19
noncomputable def c7_21 : Code := cdL c7_20
noncomputable def c7_22 : Code := cdR c7_20
noncomputable def c7_23 : Code := cdR c7_19
noncomputable def c7_24 : Code := cdL c7_23
noncomputable def c7_25 : Code := cdL c7_24
noncomputable def c7_26 : Code := cdL c7_25
noncomputable def c7_27 : Code := cdR c7_25
noncomputable def c7_28 : Code := cdL c7_27
noncomputable def c7_29 : Code := cdL c7_28
noncomputable def c7_30 : Code := cdR c7_28
noncomputable def c7_31 : Code := cdL c7_30
noncomputable def c7_32 : Code := cdR c7_30
noncomputable def c7_33 : Code := cdR c7_27
noncomputable def c7_34 : Code := cdL c7_33
noncomputable def c7_35 : Code := cdR c7_33
noncomputable def c7_36 : Code := cdL c7_35
noncomputable def c7_37 : Code := cdR c7_35
noncomputable def c7_38 : Code := cdL c7_37
noncomputable def c7_39 : Code := cdR c7_37
noncomputable def c7_40 : Code := cdL c7_39
noncomputable def c7_41 : Code := cdL c7_40
noncomputable def c7_42 : Code := cdR c7_40
noncomputable def c7_43 : Code := cdR c7_39
noncomputable def c7_44 : Code := cdR c7_23
noncomputable def c7_45 : Code := cdR c7_12
noncomputable def c7_46 : Code := cdL c7_45
noncomputable def c7_47 : Code := cdL c7_46
noncomputable def c7_48 : Code := cdR c7_46
noncomputable def c7_49 : Code := cdL c7_48
noncomputable def c7_50 : Code := cdL c7_49
noncomputable def c7_51 : Code := cdL c7_50
noncomputable def c7_52 : Code := cdR c7_50
noncomputable def c7_53 : Code := cdL c7_52
noncomputable def c7_54 : Code := cdL c7_53
noncomputable def c7_55 : Code := cdR c7_53
noncomputable def c7_56 : Code := cdR c7_52
noncomputable def c7_57 : Code := cdL c7_56
noncomputable def c7_58 : Code := cdL c7_57
noncomputable def c7_59 : Code := cdL c7_58
noncomputable def c7_60 : Code := cdR c7_58
noncomputable def c7_61 : Code := cdL c7_60
noncomputable def c7_62 : Code := cdR c7_60
noncomputable def c7_63 : Code := cdL c7_62
noncomputable def c7_64 : Code := cdL c7_63
noncomputable def c7_65 : Code := cdR c7_63
noncomputable def c7_66 : Code := cdR c7_62
noncomputable def c7_67 : Code := cdR c7_56
noncomputable def c7_68 : Code := cdR c7_45
noncomputable def c7_69 : Code := cdL c7_68
noncomputable def c7_70 : Code := cdR c7_68
noncomputable def r7_1 : Array Oper := cdO c7_1
noncomputable def r7_4 : Array Oper := cdO c7_4
noncomputable def r7_7 : Array Oper := cdO c7_7
noncomputable def r7_11 : Array Oper := cdO c7_11
noncomputable def r7_14 : Array Oper := cdO c7_14
noncomputable def r7_18 : Array Oper := cdO c7_18
noncomputable def r7_26 : Array Oper := cdO c7_26
noncomputable def r7_29 : Array Oper := cdO c7_29
noncomputable def r7_34 : Array Oper := cdO c7_34
noncomputable def r7_36 : Array Oper := cdO c7_36
noncomputable def r7_38 : Array Oper := cdO c7_38
noncomputable def r7_41 : Array Oper := cdO c7_41
noncomputable def r7_44 : Array Oper := cdO c7_44
noncomputable def r7_47 : Array Oper := cdO c7_47
noncomputable def r7_51 : Array Oper := cdO c7_51
noncomputable def r7_59 : Array Oper := cdO c7_59
noncomputable def r7_61 : Array Oper := cdO c7_61
noncomputable def r7_64 : Array Oper := cdO c7_64
noncomputable def r7_67 : Array Oper := cdO c7_67
noncomputable def r7_69 : Array Oper := cdO c7_69
theorem c7_0e : c7_0 = .seq c7_1 c7_2 := by kernel_rfl
theorem c7_1e : c7_1 = .region 0 r7_1 false := by kernel_rfl
theorem c7_2e : c7_2 = .seq c7_3 c7_10 := by kernel_rfl
theorem c7_3e : c7_3 = .seq c7_4 c7_5 := by kernel_rfl
theorem c7_4e : c7_4 = .region 1 r7_4 false := by kernel_rfl
theorem c7_5e : c7_5 = .cond (cdC c7_5) c7_6 c7_9 := by kernel_rfl
theorem c7_6e : c7_6 = .seq c7_7 c7_8 := by kernel_rfl
theorem c7_7e : c7_7 = .region 2 r7_7 false := by kernel_rfl
theorem c7_8e : c7_8 = .ret := by kernel_rfl
theorem c7_9e : c7_9 = .skip := by kernel_rfl
theorem c7_10e : c7_10 = .seq c7_11 c7_12 := by kernel_rfl
theorem c7_11e : c7_11 = .region 3 r7_11 false := by kernel_rfl
theorem c7_12e : c7_12 = .seq c7_13 c7_45 := by kernel_rfl
theorem c7_13e : c7_13 = .seq c7_14 c7_15 := by kernel_rfl
theorem c7_14e : c7_14 = .region 4 r7_14 false := by kernel_rfl
theorem c7_15e : c7_15 = .block 0 c7_16 := by kernel_rfl
theorem c7_16e : c7_16 = .loop c7_17 := by kernel_rfl
theorem c7_17e : c7_17 = .seq c7_18 c7_19 := by kernel_rfl
theorem c7_18e : c7_18 = .region 5 r7_18 false := by kernel_rfl
theorem c7_19e : c7_19 = .seq c7_20 c7_23 := by kernel_rfl
theorem c7_20e : c7_20 = .cond (cdC c7_20) c7_21 c7_22 := by kernel_rfl
theorem c7_21e : c7_21 = .skip := by kernel_rfl
theorem c7_22e : c7_22 = .exit 0 := by kernel_rfl
theorem c7_23e : c7_23 = .seq c7_24 c7_44 := by kernel_rfl
theorem c7_24e : c7_24 = .block 1 c7_25 := by kernel_rfl
theorem c7_25e : c7_25 = .seq c7_26 c7_27 := by kernel_rfl
theorem c7_26e : c7_26 = .region 6 r7_26 false := by kernel_rfl
theorem c7_27e : c7_27 = .seq c7_28 c7_33 := by kernel_rfl
theorem c7_28e : c7_28 = .seq c7_29 c7_30 := by kernel_rfl
theorem c7_29e : c7_29 = .region 7 r7_29 false := by kernel_rfl
theorem c7_30e : c7_30 = .cond (cdC c7_30) c7_31 c7_32 := by kernel_rfl
theorem c7_31e : c7_31 = .exit 0 := by kernel_rfl
theorem c7_32e : c7_32 = .skip := by kernel_rfl
theorem c7_33e : c7_33 = .seq c7_34 c7_35 := by kernel_rfl
theorem c7_34e : c7_34 = .region 8 r7_34 false := by kernel_rfl
theorem c7_35e : c7_35 = .seq c7_36 c7_37 := by kernel_rfl
theorem c7_36e : c7_36 = .region 9 r7_36 false := by kernel_rfl
theorem c7_37e : c7_37 = .seq c7_38 c7_39 := by kernel_rfl
theorem c7_38e : c7_38 = .region 10 r7_38 true := by kernel_rfl
theorem c7_39e : c7_39 = .cond (cdC c7_39) c7_40 c7_43 := by kernel_rfl
theorem c7_40e : c7_40 = .seq c7_41 c7_42 := by kernel_rfl
theorem c7_41e : c7_41 = .region 11 r7_41 false := by kernel_rfl
theorem c7_42e : c7_42 = .ret := by kernel_rfl
theorem c7_43e : c7_43 = .skip := by kernel_rfl
theorem c7_44e : c7_44 = .region 12 r7_44 false := by kernel_rfl
theorem c7_45e : c7_45 = .seq c7_46 c7_68 := by kernel_rfl
theorem c7_46e : c7_46 = .seq c7_47 c7_48 := by kernel_rfl
theorem c7_47e : c7_47 = .region 13 r7_47 false := by kernel_rfl
theorem c7_48e : c7_48 = .block 2 c7_49 := by kernel_rfl
theorem c7_49e : c7_49 = .loop c7_50 := by kernel_rfl
theorem c7_50e : c7_50 = .seq c7_51 c7_52 := by kernel_rfl
theorem c7_51e : c7_51 = .region 14 r7_51 false := by kernel_rfl
theorem c7_52e : c7_52 = .seq c7_53 c7_56 := by kernel_rfl
theorem c7_53e : c7_53 = .cond (cdC c7_53) c7_54 c7_55 := by kernel_rfl
theorem c7_54e : c7_54 = .skip := by kernel_rfl
theorem c7_55e : c7_55 = .exit 2 := by kernel_rfl
theorem c7_56e : c7_56 = .seq c7_57 c7_67 := by kernel_rfl
theorem c7_57e : c7_57 = .block 3 c7_58 := by kernel_rfl
theorem c7_58e : c7_58 = .seq c7_59 c7_60 := by kernel_rfl
theorem c7_59e : c7_59 = .region 15 r7_59 false := by kernel_rfl
theorem c7_60e : c7_60 = .seq c7_61 c7_62 := by kernel_rfl
theorem c7_61e : c7_61 = .region 16 r7_61 true := by kernel_rfl
theorem c7_62e : c7_62 = .cond (cdC c7_62) c7_63 c7_66 := by kernel_rfl
theorem c7_63e : c7_63 = .seq c7_64 c7_65 := by kernel_rfl
theorem c7_64e : c7_64 = .region 17 r7_64 false := by kernel_rfl
theorem c7_65e : c7_65 = .ret := by kernel_rfl
theorem c7_66e : c7_66 = .skip := by kernel_rfl
theorem c7_67e : c7_67 = .region 18 r7_67 false := by kernel_rfl
theorem c7_68e : c7_68 = .seq c7_69 c7_70 := by kernel_rfl
theorem c7_69e : c7_69 = .region 19 r7_69 false := by kernel_rfl
theorem c7_70e : c7_70 = .ret := by kernel_rfl
noncomputable def tontinelaw18_LedgerRuns.R (A_2 : Option Addr) (c_3 : Nat) : Pst Bool where
  ε := Unit
  v := fun r x => .bool r
  H := fun r x => []
  B := fun r x => []
noncomputable def tontinelaw18_LedgerRuns.cx (A_2 : Option Addr) (c_3 : Nat) (w0 : World) (S0 : Fam) : Cx Bool := ⟨Try.prog, 7, Try.f7, 133, w0, S0, [], 0, tontinelaw18_LedgerRuns.R A_2 c_3⟩
theorem tontinelaw18_LedgerRuns_l0_ok (n : Nat) (f_26 : Int) (f_27 : Int) (f_28 : (List T_api_Key)) (f_31 : (List (List UInt8))) (f_34 : (List T_tontineref18_Said)) (f_37 : (List T_api_Key)) (r_73 : (List T_ledger_Effect)) (b_14 : Nat) (A_29 : Option Addr) (c_30 : Nat) (A_32 : Option Addr) (c_33 : Nat) (A_35 : Option Addr) (c_36 : Nat) (A_38 : Option Addr) (c_39 : Nat) (A_74 : Option Addr) (c_75 : Nat) (A_2 : Option Addr) (c_3 : Nat) (w0 : World) (S0 : Fam) :
    ∀ (k : Nat) (x_76 : Int), GoO (tontinelaw18_LedgerRuns.cx A_2 c_3 w0 S0) [(4, .pointer (some ⟨b_14, 0, none⟩)), (103, .slice A_74 r_73.length c_75), (104, .int .i64 (r_73.length : Int)), (105, .int .i64 x_76)] [⟨44, b_14, [.int .u64 f_26, .int .u64 f_27, .slice A_29 f_28.length c_30, .slice A_32 f_31.length c_33, .slice A_35 f_34.length c_36, .slice A_38 f_37.length c_39]⟩] [Ow 46 kT_api_Key A_29 c_30 f_28, Ow 47 Kd.str A_32 c_33 f_31, Ow 48 kT_tontineref18_Said A_35 c_36 f_34, Ow 49 kT_api_Key A_38 c_39 f_37, Ow 51 kT_ledger_Effect A_74 c_75 r_73] [.code c7_50, .inLoop c7_50, .inBlock 2, .code c7_68] (tontinelaw18_LedgerRuns.l0 n f_28 f_31 r_73 k x_76) := by
  intro k
  induction k with
  | zero => intros; rw [tontinelaw18_LedgerRuns.l0.eq_1]; exact GoO.stop
  | succ k ih0 =>
    intro x_76
    rw [tontinelaw18_LedgerRuns.l0.eq_2]
    refine GoO.seq' c7_50e ?_
    refine GoO.region' (is := [0]) c7_51e (by kernel_rfl) ?_
    refine GoO.exec (is := [0]) (hs := [.p]) (rest := []) (ks := [4, 103, 104, 105, 106]) (env' := [(4, .pointer (some ⟨b_14, 0, none⟩)), (103, .slice A_74 r_73.length c_75), (104, .int .i64 (r_73.length : Int)), (105, .int .i64 x_76), (106, .bool (decide (x_76 < (r_73.length : Int))))]) (H' := [⟨44, b_14, [.int .u64 f_26, .int .u64 f_27, .slice A_29 f_28.length c_30, .slice A_32 f_31.length c_33, .slice A_35 f_34.length c_36, .slice A_38 f_37.length c_39]⟩]) (ps := []) (by kernel_rfl) trivial ?_
    refine GoO.regionEnd ?_
    refine GoO.seq' c7_52e ?_
    refine GoO.ite' c7_53e (by kernel_rfl) (fun h77 => ?_) (fun h77 => ?_)
    · refine GoO.skip' c7_54e ?_
      refine GoO.seq' c7_56e ?_
      refine GoO.block' c7_57e ?_
      refine GoO.seq' c7_58e ?_
      refine GoO.region' (is := [0, 1, 2, 3, 4, 5]) c7_59e (by kernel_rfl) ?_
      refine GoO.exec (is := [0]) (hs := [.p]) (rest := [1, 2, 3, 4, 5]) (ks := [4, 103, 104, 105, 107]) (env' := [(4, .pointer (some ⟨b_14, 0, none⟩)), (103, .slice A_74 r_73.length c_75), (104, .int .i64 (r_73.length : Int)), (105, .int .i64 x_76), (107, .int .i64 x_76)]) (H' := [⟨44, b_14, [.int .u64 f_26, .int .u64 f_27, .slice A_29 f_28.length c_30, .slice A_32 f_31.length c_33, .slice A_35 f_34.length c_36, .slice A_38 f_37.length c_39]⟩]) (ps := []) (by kernel_rfl) trivial ?_
      refine GoO.guard (fun h78 => ?_)
      refine OpTo.go (GoO.idx (kk := .i64) (e := 56) (K := kT_ledger_Effect) (A := A_74) (c := c_75) (xs := r_73) (iv := x_76) (j := 4) rfl (by kernel_rfl) (by kernel_rfl) (by kernel_rfl) (by kernel_rfl) rfl Reads.own rfl h78.1 h78.2 (by decide) rfl ?_)
      refine OpTo.go (GoO.ldE' (K := kT_ledger_Effect) (A := A_74) (c := c_75) (xs := r_73) (iN := x_76.toNat) (off := 0) (j := 4) rfl (by kernel_rfl) rfl Reads.own (by first | exact idx_lt h78.1 h78.2 | (simp only [List.length_set]; exact idx_lt h78.1 h78.2)) (by decide) (Opn.flat _ _ _ _ _) (v := fun _ => .agg ⟨[.int .u64 ((rdL r_73 x_76).Key.Saga), .int .i64 ((rdL r_73 x_76).Key.Step), .bool ((rdL r_73 x_76).Key.Back), .string (bs ((rdL r_73 x_76).Name))]⟩) (fun _ => by kernel_rfl) _ (fun _ => rfl) (fun _ => ?_))
      refine OpTo.go (GoO.new rfl 52 (cs := [.int .u64 0, .int .i64 0, .bool false, .string (bs [])]) (by kernel_rfl) _ (fun _ => rfl) (fun b_79 => ?_))
      refine GoO.exec (is := [4, 5]) (hs := [.p, .b 0]) (rest := []) (ks := [4, 11, 12, 103, 104, 105]) (env' := [(4, .pointer (some ⟨b_14, 0, none⟩)), (11, .int .i64 x_76), (12, .pointer (some ⟨b_79, 0, none⟩)), (103, .slice A_74 r_73.length c_75), (104, .int .i64 (r_73.length : Int)), (105, .int .i64 x_76)]) (H' := [⟨52, b_79, [.int .u64 ((rdL r_73 x_76).Key.Saga), .int .i64 ((rdL r_73 x_76).Key.Step), .bool ((rdL r_73 x_76).Key.Back), .string (bs ((rdL r_73 x_76).Name))]⟩, ⟨44, b_14, [.int .u64 f_26, .int .u64 f_27, .slice A_29 f_28.length c_30, .slice A_32 f_31.length c_33, .slice A_35 f_34.length c_36, .slice A_38 f_37.length c_39]⟩]) (ps := [b_79 = b_79]) (by kernel_rfl) (And.intro rfl trivial) ?_
      refine GoO.regionEnd ?_
      refine GoO.seq' c7_60e ?_
      refine GoO.draw c7_61e (by kernel_rfl) [] [⟨52, b_79, [.int .u64 ((rdL r_73 x_76).Key.Saga), .int .i64 ((rdL r_73 x_76).Key.Step), .bool ((rdL r_73 x_76).Key.Back), .string (bs ((rdL r_73 x_76).Name))]⟩, ⟨44, b_14, [.int .u64 f_26, .int .u64 f_27, .slice A_29 f_28.length c_30, .slice A_32 f_31.length c_33, .slice A_35 f_34.length c_36, .slice A_38 f_37.length c_39]⟩] [Ow 46 kT_api_Key A_29 c_30 f_28, Ow 47 Kd.str A_32 c_33 f_31] (n := 22) (by kernel_rfl) ?_
      simp only [List.replicate]
      refine GoF.take [0, 1, 2, 3, 4, 5, 6] [.p, .b 0, .p, .p, .p, .b 1, .p] (ks := [4, 11, 12, 103, 104, 105, 111, 115, 116]) (fu := 15) (li := [true, true, true, true, true, true, true, false, false, false, false, false, false, false, false, false, false, false, false, false, false, false]) (env' := [(4, .pointer (some ⟨b_14, 0, none⟩)), (11, .int .i64 x_76), (12, .pointer (some ⟨b_79, 0, none⟩)), (103, .slice A_74 r_73.length c_75), (104, .int .i64 (r_73.length : Int)), (105, .int .i64 x_76), (111, .agg ⟨[.int .u64 ((rdL r_73 x_76).Key.Saga), .int .i64 ((rdL r_73 x_76).Key.Step), .bool ((rdL r_73 x_76).Key.Back)]⟩), (115, .slice A_29 f_28.length c_30), (116, .int .i64 x_76)]) (ps := [b_79 = b_79, b_14 = b_14]) (hk := [0, 1]) (bk := [0, 1]) (by kernel_rfl) (And.intro rfl (And.intro rfl trivial)) rfl rfl ?_
      refine GoF.guard (fun h80 => ?_)
      refine GoF.idx (i := 7) (hk := [0, 1]) (bk := [0, 1]) (kk := .i64) (e := 45) (K := kT_api_Key) (A := A_29) (c := c_30) (xs := f_28) (iv := x_76) (j := 0) (by kernel_rfl) rfl rfl rfl (by kernel_rfl) (by kernel_rfl) (by kernel_rfl) (by kernel_rfl) rfl Reads.own rfl h80.1 h80.2 (by decide) rfl ?_
      refine GoF.ldE (i := 8) (hk := [0, 1]) (bk := [0, 1]) (K := kT_api_Key) (A := A_29) (c := c_30) (xs := f_28) (iN := x_76.toNat) (off := 0) (j := 0) (v := .agg ⟨[.int .u64 ((rdL f_28 x_76).Saga), .int .i64 ((rdL f_28 x_76).Step), .bool ((rdL f_28 x_76).Back)]⟩) (by kernel_rfl) rfl rfl rfl (hK := rfl) (by kernel_rfl) rfl Reads.own (by first | exact idx_lt h80.1 h80.2 | (simp only [List.length_set]; exact idx_lt h80.1 h80.2)) (by decide) (by kernel_rfl) rfl ?_
      refine GoF.take [9, 10] [.p, .p] (ks := [4, 11, 12, 103, 104, 105, 120]) (fu := 11) (li := [true, true, true, true, true, true, true, true, true, true, true, false, false, false, false, false, false, false, false, false, false, false]) (env' := [(4, .pointer (some ⟨b_14, 0, none⟩)), (11, .int .i64 x_76), (12, .pointer (some ⟨b_79, 0, none⟩)), (103, .slice A_74 r_73.length c_75), (104, .int .i64 (r_73.length : Int)), (105, .int .i64 x_76), (120, .bool (!((((rdL r_73 x_76).Key.Saga) == ((rdL f_28 x_76).Saga)) && ((((rdL r_73 x_76).Key.Step) == ((rdL f_28 x_76).Step)) && ((((rdL r_73 x_76).Key.Back) == ((rdL f_28 x_76).Back)) && true)))))]) (ps := []) (hk := [0, 1]) (bk := [0, 1]) (by kernel_rfl) trivial rfl rfl ?_
      refine GoF.bsplit (t := 120) (by kernel_rfl) (fun h81 => ?_) (fun h81 => ?_)
      · refine GoF.take [11, 12, 13, 14, 15, 16, 17, 18, 19, 20, 21] [.p, .p, .p, .p, .p, .p, .p, .p, .p, .p, .p] (ks := [4, 103, 104, 105, 131]) (fu := 0) (li := [true, true, true, true, true, true, true, true, true, true, true, true, true, true, true, true, true, true, true, true, true, true]) (env' := [(4, .pointer (some ⟨b_14, 0, none⟩)), (103, .slice A_74 r_73.length c_75), (104, .int .i64 (r_73.length : Int)), (105, .int .i64 x_76), (131, .bool true)]) (ps := []) (hk := [0, 1]) (bk := [0, 1]) (by kernel_rfl) trivial rfl rfl ?_
        refine GoF.done (by kernel_rfl) ?_
        refine GoO.condT c7_62e (by kernel_rfl) ?_
        refine GoO.seq' c7_63e ?_
        refine GoO.region' (is := [0]) c7_64e (by kernel_rfl) ?_
        refine GoO.exec (is := [0]) (hs := [.p]) (rest := []) (ks := [2]) (env' := [(2, .bool false)]) (H' := [⟨52, b_79, [.int .u64 ((rdL r_73 x_76).Key.Saga), .int .i64 ((rdL r_73 x_76).Key.Step), .bool ((rdL r_73 x_76).Key.Back), .string (bs ((rdL r_73 x_76).Name))]⟩, ⟨44, b_14, [.int .u64 f_26, .int .u64 f_27, .slice A_29 f_28.length c_30, .slice A_32 f_31.length c_33, .slice A_35 f_34.length c_36, .slice A_38 f_37.length c_39]⟩]) (ps := []) (by kernel_rfl) trivial ?_
        refine GoO.regionEnd ?_
        exact GoO.ret' (h := c7_65e) (hs := []) (ps := []) (hk := []) (bk := []) Try.func7 () (by kernel_rfl) trivial (by kernel_rfl) (by kernel_rfl)
      · refine GoF.take [11, 12, 13, 14, 15, 16, 17] [.p, .b 0, .p, .p, .p, .b 1, .p] (ks := [4, 103, 104, 105, 120, 122, 126, 127]) (fu := 4) (li := [true, true, true, true, true, true, true, true, true, true, true, true, true, true, true, true, true, true, false, false, false, false]) (env' := [(4, .pointer (some ⟨b_14, 0, none⟩)), (103, .slice A_74 r_73.length c_75), (104, .int .i64 (r_73.length : Int)), (105, .int .i64 x_76), (120, .bool false), (122, .string (bs ((rdL r_73 x_76).Name))), (126, .slice A_32 f_31.length c_33), (127, .int .i64 x_76)]) (ps := [b_79 = b_79, b_14 = b_14]) (hk := [0, 1]) (bk := [0, 1]) (by kernel_rfl) (And.intro rfl (And.intro rfl trivial)) rfl rfl ?_
        refine GoF.guard (fun h82 => ?_)
        refine GoF.idx (i := 18) (hk := [0, 1]) (bk := [0, 1]) (kk := .i64) (e := 9) (K := Kd.str) (A := A_32) (c := c_33) (xs := f_31) (iv := x_76) (j := 1) (by kernel_rfl) rfl rfl rfl (by kernel_rfl) (by kernel_rfl) (by kernel_rfl) (by kernel_rfl) rfl Reads.own rfl h82.1 h82.2 (by decide) rfl ?_
        refine GoF.ldE (i := 19) (hk := [0, 1]) (bk := [0, 1]) (K := Kd.str) (A := A_32) (c := c_33) (xs := f_31) (iN := x_76.toNat) (off := 0) (j := 1) (v := .string (bs (rdL f_31 x_76))) (by kernel_rfl) rfl rfl rfl (hK := rfl) (by kernel_rfl) rfl Reads.own (by first | exact idx_lt h82.1 h82.2 | (simp only [List.length_set]; exact idx_lt h82.1 h82.2)) (by decide) (by kernel_rfl) rfl ?_
        refine GoF.take [20, 21] [.p, .p] (ks := [4, 103, 104, 105, 131]) (fu := 0) (li := [true, true, true, true, true, true, true, true, true, true, true, true, true, true, true, true, true, true, true, true, true, true]) (env' := [(4, .pointer (some ⟨b_14, 0, none⟩)), (103, .slice A_74 r_73.length c_75), (104, .int .i64 (r_73.length : Int)), (105, .int .i64 x_76), (131, .bool (!(((rdL r_73 x_76).Name) == (rdL f_31 x_76))))]) (ps := []) (hk := [0, 1]) (bk := [0, 1]) (by kernel_rfl) trivial rfl rfl ?_
        refine GoF.done (by kernel_rfl) ?_
        refine GoO.ite' c7_62e (by kernel_rfl) (fun h83 => ?_) (fun h83 => ?_)
        · refine GoO.seq' c7_63e ?_
          refine GoO.region' (is := [0]) c7_64e (by kernel_rfl) ?_
          refine GoO.exec (is := [0]) (hs := [.p]) (rest := []) (ks := [2]) (env' := [(2, .bool false)]) (H' := [⟨52, b_79, [.int .u64 ((rdL r_73 x_76).Key.Saga), .int .i64 ((rdL r_73 x_76).Key.Step), .bool ((rdL r_73 x_76).Key.Back), .string (bs ((rdL r_73 x_76).Name))]⟩, ⟨44, b_14, [.int .u64 f_26, .int .u64 f_27, .slice A_29 f_28.length c_30, .slice A_32 f_31.length c_33, .slice A_35 f_34.length c_36, .slice A_38 f_37.length c_39]⟩]) (ps := []) (by kernel_rfl) trivial ?_
          refine GoO.regionEnd ?_
          exact GoO.ret' (h := c7_65e) (hs := []) (ps := []) (hk := []) (bk := []) Try.func7 () (by kernel_rfl) trivial (by kernel_rfl) (by kernel_rfl)
        · refine GoO.skip' c7_66e ?_
          refine GoO.inBlock ?_
          refine GoO.region' (is := [0, 1]) c7_67e (by kernel_rfl) ?_
          refine GoO.exec (is := [0, 1]) (hs := [.p, .p]) (rest := []) (ks := [4, 103, 104, 105]) (env' := [(4, .pointer (some ⟨b_14, 0, none⟩)), (103, .slice A_74 r_73.length c_75), (104, .int .i64 (r_73.length : Int)), (105, .int .i64 (wi64 (x_76 + 1)))]) (H' := [⟨52, b_79, [.int .u64 ((rdL r_73 x_76).Key.Saga), .int .i64 ((rdL r_73 x_76).Key.Step), .bool ((rdL r_73 x_76).Key.Back), .string (bs ((rdL r_73 x_76).Name))]⟩, ⟨44, b_14, [.int .u64 f_26, .int .u64 f_27, .slice A_29 f_28.length c_30, .slice A_32 f_31.length c_33, .slice A_35 f_34.length c_36, .slice A_38 f_37.length c_39]⟩]) (ps := []) (by kernel_rfl) trivial ?_
          refine GoO.regionEnd ?_
          refine GoO.inLoop ?_
          exact GoO.sub (ks := [4, 103, 104, 105]) (hk := [1]) (bk := [0, 1, 2, 3, 4]) (by kernel_rfl) (by kernel_rfl) (by kernel_rfl) (ih0 (wi64 (x_76 + 1)))
    · refine GoO.exit' c7_55e rfl ?_
      refine GoO.seq' c7_68e ?_
      refine GoO.region' (is := [0]) c7_69e (by kernel_rfl) ?_
      refine GoO.exec (is := [0]) (hs := [.p]) (rest := []) (ks := [2]) (env' := [(2, .bool true)]) (H' := [⟨44, b_14, [.int .u64 f_26, .int .u64 f_27, .slice A_29 f_28.length c_30, .slice A_32 f_31.length c_33, .slice A_35 f_34.length c_36, .slice A_38 f_37.length c_39]⟩]) (ps := []) (by kernel_rfl) trivial ?_
      refine GoO.regionEnd ?_
      exact GoO.ret' (h := c7_70e) (hs := []) (ps := []) (hk := []) (bk := []) Try.func7 () (by kernel_rfl) trivial (by kernel_rfl) (by kernel_rfl)
theorem tontinelaw18_LedgerRuns_j0_ok (n : Nat) (f_15 : Int) (f_16 : Int) (f_17 : (List T_ledger_Effect)) (f_20 : (List (T_api_Key × Bool))) (f_23 : (List (T_api_Key × Bool))) (f_26 : Int) (f_27 : Int) (f_28 : (List T_api_Key)) (f_31 : (List (List UInt8))) (f_34 : (List T_tontineref18_Said)) (f_37 : (List T_api_Key)) (b_7 : Nat) (b_14 : Nat) (A_18 : Option Addr) (c_19 : Nat) (A_21 : Option Addr) (c_22 : Nat) (A_24 : Option Addr) (c_25 : Nat) (A_29 : Option Addr) (c_30 : Nat) (A_32 : Option Addr) (c_33 : Nat) (A_35 : Option Addr) (c_36 : Nat) (A_38 : Option Addr) (c_39 : Nat) (A_2 : Option Addr) (c_3 : Nat) (w0 : World) (S0 : Fam) :
    GoO (tontinelaw18_LedgerRuns.cx A_2 c_3 w0 S0) [(3, .pointer (some ⟨b_7, 0, none⟩)), (4, .pointer (some ⟨b_14, 0, none⟩))] [⟨40, b_7, [.int .u64 f_15, .int .u64 f_16, .slice A_18 f_17.length c_19, .map (mA A_21), .map (mA A_24)]⟩, ⟨44, b_14, [.int .u64 f_26, .int .u64 f_27, .slice A_29 f_28.length c_30, .slice A_32 f_31.length c_33, .slice A_35 f_34.length c_36, .slice A_38 f_37.length c_39]⟩] [Ow 41 kT_ledger_Effect A_18 c_19 f_17, Mp 42 ky41 (fun v => .bool v) A_21 c_22 f_20, Mp 43 ky41 (fun v => .bool v) A_24 c_25 f_23, Ow 46 kT_api_Key A_29 c_30 f_28, Ow 47 Kd.str A_32 c_33 f_31, Ow 48 kT_tontineref18_Said A_35 c_36 f_34, Ow 49 kT_api_Key A_38 c_39 f_37] [.code c7_45] (tontinelaw18_LedgerRuns.j0 n f_15 f_16 f_17 f_20 f_23 f_28 f_31) := by
  unfold tontinelaw18_LedgerRuns.j0
  refine GoO.seq' c7_45e ?_
  refine GoO.seq' c7_46e ?_
  refine GoO.region' (is := [0, 1, 2, 3]) c7_47e (by kernel_rfl) ?_
  refine GoO.exec (is := [0]) (hs := [.p]) (rest := [1, 2, 3]) (ks := [4, 102]) (env' := [(4, .pointer (some ⟨b_14, 0, none⟩)), (102, .pointer (some ⟨b_7, 0, none⟩))]) (H' := [⟨40, b_7, [.int .u64 f_15, .int .u64 f_16, .slice A_18 f_17.length c_19, .map (mA A_21), .map (mA A_24)]⟩, ⟨44, b_14, [.int .u64 f_26, .int .u64 f_27, .slice A_29 f_28.length c_30, .slice A_32 f_31.length c_33, .slice A_35 f_34.length c_36, .slice A_38 f_37.length c_39]⟩]) (ps := []) (by kernel_rfl) trivial ?_
  refine OpTo.go (GoO.call rfl (by kernel_rfl) (by kernel_rfl) (ledger_Ledger_Effects_ok n (⟨(⟨f_15, f_16⟩ : T_api_Token), f_17, f_20, f_23⟩ : T_ledger_Ledger) b_7 A_18 c_19 A_21 c_22 A_24 c_25) [[0], [40], [41], [42], [43]] [(51, 5)] [(1, 0)] [(2, 0), (3, 1), (4, 2)] (hks := [0, 1]) (bks := [0, 1, 2, 3, 4, 5, 6]) (by kernel_rfl) (by kernel_rfl) (by kernel_rfl) (.inl rfl) rfl rfl (by kernel_rfl) (by kernel_rfl) _ (fun _ _ => rfl) _ _ (fun _ _ => rfl) (fun _ _ => rfl) (fun _ _ => by kernel_rfl) (fun _ _ => by kernel_rfl) (fun r_73 x_84 => ?_))
  obtain ⟨A_74, c_75⟩ := x_84
  refine GoO.shape (env' := [(4, .pointer (some ⟨b_14, 0, none⟩)), (102, .pointer (some ⟨b_7, 0, none⟩)), (103, .slice A_74 r_73.length c_75)]) (H' := [⟨40, b_7, [.int .u64 f_15, .int .u64 f_16, .slice A_18 f_17.length c_19, .map (mA A_21), .map (mA A_24)]⟩, ⟨44, b_14, [.int .u64 f_26, .int .u64 f_27, .slice A_29 f_28.length c_30, .slice A_32 f_31.length c_33, .slice A_35 f_34.length c_36, .slice A_38 f_37.length c_39]⟩]) (B' := [Ow 51 kT_ledger_Effect A_74 c_75 r_73, Ow 41 kT_ledger_Effect A_18 c_19 f_17, Mp 42 ky41 (fun v => .bool v) A_21 c_22 f_20, Mp 43 ky41 (fun v => .bool v) A_24 c_25 f_23, Ow 46 kT_api_Key A_29 c_30 f_28, Ow 47 Kd.str A_32 c_33 f_31, Ow 48 kT_tontineref18_Said A_35 c_36 f_34, Ow 49 kT_api_Key A_38 c_39 f_37]) (ks := [4, 102, 103]) (by kernel_rfl) (by kernel_rfl) (by kernel_rfl) ?_
  refine GoO.exec (is := [2, 3]) (hs := [.p, .p]) (rest := []) (ks := [4, 103, 104, 105]) (env' := [(4, .pointer (some ⟨b_14, 0, none⟩)), (103, .slice A_74 r_73.length c_75), (104, .int .i64 (r_73.length : Int)), (105, .int .i64 0)]) (H' := [⟨40, b_7, [.int .u64 f_15, .int .u64 f_16, .slice A_18 f_17.length c_19, .map (mA A_21), .map (mA A_24)]⟩, ⟨44, b_14, [.int .u64 f_26, .int .u64 f_27, .slice A_29 f_28.length c_30, .slice A_32 f_31.length c_33, .slice A_35 f_34.length c_36, .slice A_38 f_37.length c_39]⟩]) (ps := []) (by kernel_rfl) trivial ?_
  refine GoO.regionEnd ?_
  refine GoO.block' c7_48e ?_
  refine GoO.loop' c7_49e ?_
  exact GoO.sub (ks := [4, 103, 104, 105]) (hk := [1]) (bk := [4, 5, 6, 7, 0]) (by kernel_rfl) (by kernel_rfl) (by kernel_rfl) (tontinelaw18_LedgerRuns_l0_ok n f_26 f_27 f_28 f_31 f_34 f_37 r_73 b_14 A_29 c_30 A_32 c_33 A_35 c_36 A_38 c_39 A_74 c_75 A_2 c_3 w0 S0 n 0)
theorem tontinelaw18_LedgerRuns_j1_ok (n : Nat) (L1 : Int → Int → (List T_ledger_Effect) → (List (T_api_Key × Bool)) → (List (T_api_Key × Bool)) → Int → Int → (List T_api_Key) → (List (List UInt8)) → (List T_tontineref18_Said) → (List T_api_Key) → Int → Option Bool) (calls_1 : (List T_tontinelaw18_Call)) (f_15 : Int) (f_16 : Int) (f_17 : (List T_ledger_Effect)) (f_20 : (List (T_api_Key × Bool))) (f_23 : (List (T_api_Key × Bool))) (f_26 : Int) (f_27 : Int) (f_28 : (List T_api_Key)) (f_31 : (List (List UInt8))) (f_34 : (List T_tontineref18_Said)) (f_37 : (List T_api_Key)) (x_40 : Int) (r_45 : Bool × Int × T_ledger_Ledger) (r_52 : Bool × Int × T_tontineref18_Ledger) (A_2 : Option Addr) (c_3 : Nat) (b_7 : Nat) (b_14 : Nat) (A_18 : Option Addr) (c_19 : Nat) (A_21 : Option Addr) (c_22 : Nat) (A_24 : Option Addr) (c_25 : Nat) (A_29 : Option Addr) (c_30 : Nat) (A_32 : Option Addr) (c_33 : Nat) (A_35 : Option Addr) (c_36 : Nat) (A_38 : Option Addr) (c_39 : Nat) (A_46 : Option Addr) (c_47 : Nat) (A_48 : Option Addr) (c_49 : Nat) (A_50 : Option Addr) (c_51 : Nat) (A_53 : Option Addr) (c_54 : Nat) (A_55 : Option Addr) (c_56 : Nat) (A_57 : Option Addr) (c_58 : Nat) (A_59 : Option Addr) (c_60 : Nat) (w0 : World) (S0 : Fam) (ih1 : ∀ (f_15 : Int) (f_16 : Int) (f_17 : (List T_ledger_Effect)) (f_20 : (List (T_api_Key × Bool))) (f_23 : (List (T_api_Key × Bool))) (f_26 : Int) (f_27 : Int) (f_28 : (List T_api_Key)) (f_31 : (List (List UInt8))) (f_34 : (List T_tontineref18_Said)) (f_37 : (List T_api_Key)) (x_40 : Int) (A_18 : Option Addr) (c_19 : Nat) (A_21 : Option Addr) (c_22 : Nat) (A_24 : Option Addr) (c_25 : Nat) (A_29 : Option Addr) (c_30 : Nat) (A_32 : Option Addr) (c_33 : Nat) (A_35 : Option Addr) (c_36 : Nat) (A_38 : Option Addr) (c_39 : Nat), GoO (tontinelaw18_LedgerRuns.cx A_2 c_3 w0 S0) [(3, .pointer (some ⟨b_7, 0, none⟩)), (4, .pointer (some ⟨b_14, 0, none⟩)), (18, .slice A_2 calls_1.length c_3), (19, .int .i64 (calls_1.length : Int)), (20, .int .i64 x_40)] [⟨40, b_7, [.int .u64 f_15, .int .u64 f_16, .slice A_18 f_17.length c_19, .map (mA A_21), .map (mA A_24)]⟩, ⟨44, b_14, [.int .u64 f_26, .int .u64 f_27, .slice A_29 f_28.length c_30, .slice A_32 f_31.length c_33, .slice A_35 f_34.length c_36, .slice A_38 f_37.length c_39]⟩] [Ow 41 kT_ledger_Effect A_18 c_19 f_17, Mp 42 ky41 (fun v => .bool v) A_21 c_22 f_20, Mp 43 ky41 (fun v => .bool v) A_24 c_25 f_23, Ow 46 kT_api_Key A_29 c_30 f_28, Ow 47 Kd.str A_32 c_33 f_31, Ow 48 kT_tontineref18_Said A_35 c_36 f_34, Ow 49 kT_api_Key A_38 c_39 f_37, Rd 0 kT_tontinelaw18_Call A_2 c_3 calls_1] [.code c7_17, .inLoop c7_17, .inBlock 0, .code c7_45] (L1 f_15 f_16 f_17 f_20 f_23 f_26 f_27 f_28 f_31 f_34 f_37 x_40)) (b_71 : Bool) :
    GoO (tontinelaw18_LedgerRuns.cx A_2 c_3 w0 S0) [(3, .pointer (some ⟨b_7, 0, none⟩)), (4, .pointer (some ⟨b_14, 0, none⟩)), (18, .slice A_2 calls_1.length c_3), (19, .int .i64 (calls_1.length : Int)), (20, .int .i64 x_40), (100, .bool b_71)] [⟨40, b_7, [.int .u64 r_45.2.2.fence.Term, .int .u64 r_45.2.2.fence.Index, .slice A_46 r_45.2.2.effects.length c_47, .map (mA A_48), .map (mA A_50)]⟩, ⟨44, b_14, [.int .u64 r_52.2.2.Fence.Term, .int .u64 r_52.2.2.Fence.Index, .slice A_53 r_52.2.2.Keys.length c_54, .slice A_55 r_52.2.2.Names.length c_56, .slice A_57 r_52.2.2.Good.length c_58, .slice A_59 r_52.2.2.Dead.length c_60]⟩] [Ow 41 kT_ledger_Effect A_46 c_47 r_45.2.2.effects, Mp 42 ky41 (fun v => .bool v) A_48 c_49 r_45.2.2.said, Mp 43 ky41 (fun v => .bool v) A_50 c_51 r_45.2.2.tombs, Ow 46 kT_api_Key A_53 c_54 r_52.2.2.Keys, Ow 47 Kd.str A_55 c_56 r_52.2.2.Names, Ow 48 kT_tontineref18_Said A_57 c_58 r_52.2.2.Good, Ow 49 kT_api_Key A_59 c_60 r_52.2.2.Dead, Rd 0 kT_tontinelaw18_Call A_2 c_3 calls_1] [.code c7_39, .inBlock 1, .code c7_44, .inLoop c7_17, .inBlock 0, .code c7_45] (tontinelaw18_LedgerRuns.j1 n L1 x_40 r_45 r_52 b_71) := by
  unfold tontinelaw18_LedgerRuns.j1
  refine GoO.ite' c7_39e (by kernel_rfl) (fun h72 => ?_) (fun h72 => ?_)
  · refine GoO.seq' c7_40e ?_
    refine GoO.region' (is := [0]) c7_41e (by kernel_rfl) ?_
    refine GoO.exec (is := [0]) (hs := [.p]) (rest := []) (ks := [2]) (env' := [(2, .bool false)]) (H' := [⟨40, b_7, [.int .u64 r_45.2.2.fence.Term, .int .u64 r_45.2.2.fence.Index, .slice A_46 r_45.2.2.effects.length c_47, .map (mA A_48), .map (mA A_50)]⟩, ⟨44, b_14, [.int .u64 r_52.2.2.Fence.Term, .int .u64 r_52.2.2.Fence.Index, .slice A_53 r_52.2.2.Keys.length c_54, .slice A_55 r_52.2.2.Names.length c_56, .slice A_57 r_52.2.2.Good.length c_58, .slice A_59 r_52.2.2.Dead.length c_60]⟩]) (ps := []) (by kernel_rfl) trivial ?_
    refine GoO.regionEnd ?_
    exact GoO.ret' (h := c7_42e) (hs := []) (ps := []) (hk := []) (bk := []) Try.func7 () (by kernel_rfl) trivial (by kernel_rfl) (by kernel_rfl)
  · refine GoO.skip' c7_43e ?_
    refine GoO.inBlock ?_
    refine GoO.region' (is := [0, 1]) c7_44e (by kernel_rfl) ?_
    refine GoO.exec (is := [0, 1]) (hs := [.p, .p]) (rest := []) (ks := [3, 4, 18, 19, 20]) (env' := [(3, .pointer (some ⟨b_7, 0, none⟩)), (4, .pointer (some ⟨b_14, 0, none⟩)), (18, .slice A_2 calls_1.length c_3), (19, .int .i64 (calls_1.length : Int)), (20, .int .i64 (wi64 (x_40 + 1)))]) (H' := [⟨40, b_7, [.int .u64 r_45.2.2.fence.Term, .int .u64 r_45.2.2.fence.Index, .slice A_46 r_45.2.2.effects.length c_47, .map (mA A_48), .map (mA A_50)]⟩, ⟨44, b_14, [.int .u64 r_52.2.2.Fence.Term, .int .u64 r_52.2.2.Fence.Index, .slice A_53 r_52.2.2.Keys.length c_54, .slice A_55 r_52.2.2.Names.length c_56, .slice A_57 r_52.2.2.Good.length c_58, .slice A_59 r_52.2.2.Dead.length c_60]⟩]) (ps := []) (by kernel_rfl) trivial ?_
    refine GoO.regionEnd ?_
    refine GoO.inLoop ?_
    exact GoO.sub (ks := [3, 4, 18, 19, 20]) (hk := [0, 1]) (bk := [0, 1, 2, 3, 4, 5, 6, 7]) (by kernel_rfl) (by kernel_rfl) (by kernel_rfl) (ih1 r_45.2.2.fence.Term r_45.2.2.fence.Index r_45.2.2.effects r_45.2.2.said r_45.2.2.tombs r_52.2.2.Fence.Term r_52.2.2.Fence.Index r_52.2.2.Keys r_52.2.2.Names r_52.2.2.Good r_52.2.2.Dead (wi64 (x_40 + 1)) A_46 c_47 A_48 c_49 A_50 c_51 A_53 c_54 A_55 c_56 A_57 c_58 A_59 c_60)
end Go.GL
