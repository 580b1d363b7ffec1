import Derived.Test.YtmpockelhphkdaaKindsT1
import Derived.Test.YtmpockelhphkdaaProg
set_option linter.unusedVariables false
set_option linter.unusedSimpArgs false
set_option maxRecDepth 100000
namespace Go.GL
open Go Go.Proofs

/-! tontine/net.New -/
noncomputable def c15_0 : Code := bodyOf Try.f15
noncomputable def c15_1 : Code := cdL c15_0
noncomputable def c15_2 : Code := cdR c15_0
noncomputable def c15_3 : Code := cdL c15_2
noncomputable def c15_4 : Code := cdR c15_2
noncomputable def r15_1 : Array Oper := cdO c15_1
noncomputable def r15_3 : Array Oper := cdO c15_3
theorem c15_0e : c15_0 = .seq c15_1 c15_2 := by kernel_rfl
theorem c15_1e : c15_1 = .region 0 r15_1 false := by kernel_rfl
theorem c15_2e : c15_2 = .seq c15_3 c15_4 := by kernel_rfl
theorem c15_3e : c15_3 = .region 1 r15_3 false := by kernel_rfl
theorem c15_4e : c15_4 = .ret := by kernel_rfl
noncomputable def net_New.R : Pst T_net_Net where
  ε := Nat × Option Addr × Nat
  v := fun r x => .pointer (some ⟨x.1, 0, none⟩)
  H := fun r x => [⟨1, x.1, [.slice x.2.1 r.l.length x.2.2, .int .i64 r.lost]⟩]
  B := fun r x => [Ow 2 kT_api_Letter x.2.1 x.2.2 r.l]
noncomputable def net_New.cx (w0 : World) (S0 : Fam) : Cx T_net_Net := ⟨Try.prog, 15, Try.f15, 3, w0, S0, [], 0, net_New.R⟩
theorem net_New_ok (n : Nat) :
    Meets Try.prog 15 [] 0 [] [] [] (net_New.f n) (net_New.R) := by
  refine Meets.of (c := c15_0) (n := 3) Try.func15 (by kernel_rfl) (by kernel_rfl) (by kernel_rfl) fun w0 S0 => ?_
  unfold net_New.f
  show GoO (net_New.cx w0 S0) [] [] [] [.code c15_0] _
  refine GoO.seq' c15_0e ?_
  refine GoO.region' (is := [0]) c15_1e (by kernel_rfl) ?_
  refine GoO.exec (is := [0]) (hs := [.p]) (rest := []) (ks := []) (env' := []) (H' := []) (ps := []) (by kernel_rfl) trivial ?_
  refine GoO.regionEnd ?_
  refine GoO.seq' c15_2e ?_
  refine GoO.region' (is := [0, 1, 2]) c15_3e (by kernel_rfl) ?_
  refine GoO.exec (is := [0]) (hs := [.p]) (rest := [1, 2]) (ks := [1]) (env' := [(1, .agg ⟨[.slice none ([] : List T_api_Letter).length 0, .int .i64 0]⟩)]) (H' := []) (ps := []) (by kernel_rfl) trivial ?_
  refine OpTo.go (GoO.new rfl 40 (cs := [.slice none ([] : List T_api_Letter).length 0, .int .i64 0]) (by kernel_rfl) _ (fun _ => rfl) (fun b_1 => ?_))
  refine GoO.exec (is := [2]) (hs := [.p]) (rest := []) (ks := [0]) (env' := [(0, .pointer (some ⟨b_1, 0, none⟩))]) (H' := [⟨40, b_1, [.slice none ([] : List T_api_Letter).length 0, .int .i64 0]⟩]) (ps := []) (by kernel_rfl) trivial ?_
  refine GoO.regionEnd ?_
  refine GoO.nilOwn kT_api_Letter 2 ?_
  refine GoO.retagB (t := 40) (u := 1) (j := 0) (hk := []) (bk := [0]) rfl rfl rfl rfl rfl rfl (by kernel_rfl) (by kernel_rfl) ?_
  exact GoO.ret' (h := c15_4e) (hs := []) (ps := []) (hk := [0]) (bk := [0]) Try.func15 (⟨b_1, none, 0⟩ : Nat × Option Addr × Nat) (by kernel_rfl) trivial (by kernel_rfl) (by kernel_rfl)

/-! tontine/net.copied -/
noncomputable def c38_0 : Code := bodyOf Try.f38
noncomputable def c38_1 : Code := cdL c38_0
noncomputable def c38_2 : Code := cdR c38_0
noncomputable def c38_3 : Code := cdL c38_2
noncomputable def c38_4 : Code := cdR c38_2
noncomputable def c38_5 : Code := cdL c38_4
noncomputable def c38_6 : Code := cdR c38_4
noncomputable def r38_1 : Array Oper := cdO c38_1
noncomputable def r38_3 : Array Oper := cdO c38_3
noncomputable def r38_5 : Array Oper := cdO c38_5
theorem c38_0e : c38_0 = .seq c38_1 c38_2 := by kernel_rfl
theorem c38_1e : c38_1 = .region 0 r38_1 false := by kernel_rfl
theorem c38_2e : c38_2 = .seq c38_3 c38_4 := by kernel_rfl
theorem c38_3e : c38_3 = .region 1 r38_3 false := by kernel_rfl
theorem c38_4e : c38_4 = .seq c38_5 c38_6 := by kernel_rfl
theorem c38_5e : c38_5 = .region 2 r38_5 false := by kernel_rfl
theorem c38_6e : c38_6 = .ret := by kernel_rfl
noncomputable def net_copied.R (A_2 : Option Addr) (c_3 : Nat) : Pst T_api_Letter where
  ε := Option Addr × Nat
  v := fun r x => .agg ⟨[.int .i64 r.Kind, .int .i64 r.From, .int .i64 r.To, .int .u64 r.Term, .int .u64 r.Index, .int .u64 r.Prev, .int .u64 r.Commit, .bool r.Ok, .slice x.1 r.Entries.length x.2, .string (bs r.Data)]⟩
  H := fun r x => []
  B := fun r x => [Rd 0 kT_api_Entry x.1 x.2 r.Entries]
noncomputable def net_copied.cx (A_2 : Option Addr) (c_3 : Nat) (w0 : World) (S0 : Fam) : Cx T_api_Letter := ⟨Try.prog, 38, Try.f38, 8, w0, S0, [], 0, net_copied.R A_2 c_3⟩
theorem net_copied_ok (n : Nat) (x_1 : T_api_Letter) (A_2 : Option Addr) (c_3 : Nat) :
    Meets Try.prog 38 [.agg ⟨[.int .i64 x_1.Kind, .int .i64 x_1.From, .int .i64 x_1.To, .int .u64 x_1.Term, .int .u64 x_1.Index, .int .u64 x_1.Prev, .int .u64 x_1.Commit, .bool x_1.Ok, .slice A_2 x_1.Entries.length c_3, .string (bs x_1.Data)]⟩] 0 [] [] [Rd 0 kT_api_Entry A_2 c_3 x_1.Entries] (net_copied.f n x_1) (net_copied.R A_2 c_3) := by
  refine Meets.of (c := c38_0) (n := 8) Try.func38 (by kernel_rfl) (by kernel_rfl) (by kernel_rfl) fun w0 S0 => ?_
  unfold net_copied.f
  show GoO (net_copied.cx A_2 c_3 w0 S0) [(0, .agg ⟨[.int .i64 x_1.Kind, .int .i64 x_1.From, .int .i64 x_1.To, .int .u64 x_1.Term, .int .u64 x_1.Index, .int .u64 x_1.Prev, .int .u64 x_1.Commit, .bool x_1.Ok, .slice A_2 x_1.Entries.length c_3, .string (bs x_1.Data)]⟩)] [] [Rd 0 kT_api_Entry A_2 c_3 x_1.Entries] [.code c38_0] _
  refine GoO.seq' c38_0e ?_
  refine GoO.region' (is := [0, 1]) c38_1e (by kernel_rfl) ?_
  refine OpTo.go (GoO.new rfl 40 (cs := [.int .i64 x_1.Kind, .int .i64 x_1.From, .int .i64 x_1.To, .int .u64 x_1.Term, .int .u64 x_1.Index, .int .u64 x_1.Prev, .int .u64 x_1.Commit, .bool x_1.Ok, .slice A_2 x_1.Entries.length c_3, .string (bs x_1.Data)]) (by kernel_rfl) _ (fun _ => rfl) (fun b_4 => ?_))
  refine OpTo.go (GoO.new rfl 41 (cs := [.int .i64 0, .int .i64 0, .int .i64 0, .int .u64 0, .int .u64 0, .int .u64 0, .int .u64 0, .bool false, .slice none ([] : List T_api_Entry).length 0, .string (bs [])]) (by kernel_rfl) _ (fun _ => rfl) (fun b_5 => ?_))
  refine GoO.regionEnd ?_
  refine GoO.seq' c38_2e ?_
  refine GoO.region' (is := [0, 1, 2, 3, 4]) c38_3e (by kernel_rfl) ?_
  refine GoO.exec (is := [0, 1]) (hs := [.p, .b 1]) (rest := [2, 3, 4]) (ks := [1, 2, 4]) (env' := [(1, .pointer (some ⟨b_4, 0, none⟩)), (2, .pointer (some ⟨b_5, 0, none⟩)), (4, .slice A_2 x_1.Entries.length c_3)]) (H' := [⟨41, b_5, [.int .i64 0, .int .i64 0, .int .i64 0, .int .u64 0, .int .u64 0, .int .u64 0, .int .u64 0, .bool false, .slice none ([] : List T_api_Entry).length 0, .string (bs [])]⟩, ⟨40, b_4, [.int .i64 x_1.Kind, .int .i64 x_1.From, .int .i64 x_1.To, .int .u64 x_1.Term, .int .u64 x_1.Index, .int .u64 x_1.Prev, .int .u64 x_1.Commit, .bool x_1.Ok, .slice A_2 x_1.Entries.length c_3, .string (bs x_1.Data)]⟩]) (ps := [b_4 = b_4]) (by kernel_rfl) (And.intro rfl trivial) ?_
  refine GoO.nilOwn kT_api_Entry 42 ?_
  refine GoO.guard (fun h6 => ?_)
  refine OpTo.go (GoO.appW (e := 88) (K := kT_api_Entry) (A := none) (c := 0) (tg := 42) (bytes := 40) (zs := [.int .u64 0, .int .u64 0, .int .i64 0, .string (bs [])]) (xs := ([] : List T_api_Entry)) (ys := x_1.Entries) (xv := .slice A_2 x_1.Entries.length c_3) (j := 0) (bk := [1]) rfl (by kernel_rfl) (by kernel_rfl) (by kernel_rfl) (by kernel_rfl) rfl (by kernel_rfl) rfl (fun w S hB => SrcIs.row (Reads.rd w S (hB _ (List.mem_of_getElem? (i := 1) rfl)))) h6 rfl rfl rfl rfl _ (fun _ _ => rfl) (fun A_7 c_8 => ?_))
  refine GoO.exec (is := [3, 4]) (hs := [.p, .b 1]) (rest := []) (ks := [1, 2]) (env' := [(1, .pointer (some ⟨b_4, 0, none⟩)), (2, .pointer (some ⟨b_5, 0, none⟩))]) (H' := [⟨41, b_5, [.int .i64 0, .int .i64 0, .int .i64 0, .int .u64 0, .int .u64 0, .int .u64 0, .int .u64 0, .bool false, .slice none ([] : List T_api_Entry).length 0, .string (bs [])]⟩, ⟨40, b_4, [.int .i64 x_1.Kind, .int .i64 x_1.From, .int .i64 x_1.To, .int .u64 x_1.Term, .int .u64 x_1.Index, .int .u64 x_1.Prev, .int .u64 x_1.Commit, .bool x_1.Ok, .slice A_7 (([] : List T_api_Entry) ++ x_1.Entries).length c_8, .string (bs x_1.Data)]⟩]) (ps := [b_4 = b_4]) (by kernel_rfl) (And.intro rfl trivial) ?_
  refine GoO.regionEnd ?_
  refine GoO.seq' c38_4e ?_
  refine GoO.region' (is := [0, 1]) c38_5e (by kernel_rfl) ?_
  refine GoO.exec (is := [0, 1]) (hs := [.b 1, .b 0]) (rest := []) (ks := [2]) (env' := [(2, .pointer (some ⟨b_5, 0, none⟩))]) (H' := [⟨41, b_5, [.int .i64 x_1.Kind, .int .i64 x_1.From, .int .i64 x_1.To, .int .u64 x_1.Term, .int .u64 x_1.Index, .int .u64 x_1.Prev, .int .u64 x_1.Commit, .bool x_1.Ok, .slice A_7 (([] : List T_api_Entry) ++ x_1.Entries).length c_8, .string (bs x_1.Data)]⟩, ⟨40, b_4, [.int .i64 x_1.Kind, .int .i64 x_1.From, .int .i64 x_1.To, .int .u64 x_1.Term, .int .u64 x_1.Index, .int .u64 x_1.Prev, .int .u64 x_1.Commit, .bool x_1.Ok, .slice A_7 (([] : List T_api_Entry) ++ x_1.Entries).length c_8, .string (bs x_1.Data)]⟩]) (ps := [b_4 = b_4, b_5 = b_5]) (by kernel_rfl) (And.intro rfl (And.intro rfl trivial)) ?_
  refine GoO.regionEnd ?_
  refine GoO.retag (t := 42) (u := 0) (j := 0) (hk := [0, 1]) (bk := [1]) rfl rfl rfl rfl rfl rfl (by kernel_rfl) (by kernel_rfl) ?_
  refine GoO.own2rd (j := 0) rfl ?_
  exact GoO.ret' (h := c38_6e) (hs := [0]) (ps := [b_5 = b_5]) (hk := []) (bk := [0]) Try.func38 (⟨A_7, c_8⟩ : Option Addr × Nat) (by kernel_rfl) (And.intro rfl trivial) (by kernel_rfl) (by kernel_rfl)

/-! (*tontine/net.Net).Send -/
noncomputable def c16_0 : Code := bodyOf Try.f16
noncomputable def c16_1 : Code := cdL c16_0
noncomputable def c16_2 : Code := cdR c16_0
noncomputable def c16_3 : Code := cdL c16_2
noncomputable def c16_4 : Code := cdL c16_3
noncomputable def c16_5 : Code := cdR c16_3
noncomputable def c16_9 : Code := cdR c16_5
noncomputable def c16_10 : Code := cdR c16_2
noncomputable def c16_11 : Code := cdL c16_10
noncomputable def c16_12 : Code := cdL c16_11
noncomputable def c16_13 : Code := cdR c16_11
noncomputable def c16_14 : Code := cdL c16_13
noncomputable def c16_15 : Code := cdL c16_14
noncomputable def c16_16 : Code := cdR c16_14
noncomputable def c16_17 : Code := cdL c16_16
noncomputable def c16_18 : Code := cdR c16_16
noncomputable def c16_19 : Code := cdR c16_13
noncomputable def c16_20 : Code := cdR c16_10
noncomputable def c16_21 : Code := cdL c16_20
noncomputable def c16_22 : Code := cdR c16_20
noncomputable def c16_23 : Code := cdL c16_22
noncomputable def c16_24 : Code := cdR c16_22
noncomputable def c16_6 : Code := cdL c16_5
noncomputable def r16_1 : Array Oper := cdO c16_1
noncomputable def r16_4 : Array Oper := cdO c16_4
noncomputable def r16_12 : Array Oper := cdO c16_12
noncomputable def r16_15 : Array Oper := cdO c16_15
noncomputable def r16_17 : Array Oper := cdO c16_17
noncomputable def r16_21 : Array Oper := cdO c16_21
noncomputable def r16_23 : Array Oper := cdO c16_23
theorem c16_0e : c16_0 = .seq c16_1 c16_2 := by kernel_rfl
theorem c16_1e : c16_1 = .region 0 r16_1 false := by kernel_rfl
theorem c16_2e : c16_2 = .seq c16_3 c16_10 := by kernel_rfl
theorem c16_3e : c16_3 = .seq c16_4 c16_5 := by kernel_rfl
theorem c16_4e : c16_4 = .region 1 r16_4 false := by kernel_rfl
theorem c16_5e : c16_5 = .cond (cdC c16_5) c16_6 c16_9 := by kernel_rfl
theorem c16_9e : c16_9 = .skip := by kernel_rfl
theorem c16_10e : c16_10 = .seq c16_11 c16_20 := by kernel_rfl
theorem c16_11e : c16_11 = .seq c16_12 c16_13 := by kernel_rfl
theorem c16_12e : c16_12 = .region 3 r16_12 false := by kernel_rfl
theorem c16_13e : c16_13 = .cond (cdC c16_13) c16_14 c16_19 := by kernel_rfl
theorem c16_14e : c16_14 = .seq c16_15 c16_16 := by kernel_rfl
theorem c16_15e : c16_15 = .region 4 r16_15 false := by kernel_rfl
theorem c16_16e : c16_16 = .seq c16_17 c16_18 := by kernel_rfl
theorem c16_17e : c16_17 = .region 5 r16_17 false := by kernel_rfl
theorem c16_18e : c16_18 = .ret := by kernel_rfl
theorem c16_19e : c16_19 = .skip := by kernel_rfl
theorem c16_20e : c16_20 = .seq c16_21 c16_22 := by kernel_rfl
theorem c16_21e : c16_21 = .region 6 r16_21 true := by kernel_rfl
theorem c16_22e : c16_22 = .seq c16_23 c16_24 := by kernel_rfl
theorem c16_23e : c16_23 = .region 7 r16_23 false := by kernel_rfl
theorem c16_24e : c16_24 = .ret := by kernel_rfl
noncomputable def net_Net_Send.R (b_2 : Nat) (A_3 : Option Addr) (c_4 : Nat) (A_6 : Option Addr) (c_7 : Nat) : Pst (Bool × T_net_Net) where
  ε := Option Addr × Nat
  v := fun r x => .bool r.1
  H := fun r x => [⟨1, b_2, [.slice x.1 r.2.l.length x.2, .int .i64 r.2.lost]⟩]
  B := fun r x => [Ow 2 kT_api_Letter x.1 x.2 r.2.l]
noncomputable def net_Net_Send.cx (b_2 : Nat) (A_3 : Option Addr) (c_4 : Nat) (A_6 : Option Addr) (c_7 : Nat) (w0 : World) (S0 : Fam) : Cx (Bool × T_net_Net) := ⟨Try.prog, 16, Try.f16, 31, w0, S0, [1, 2], 2, net_Net_Send.R b_2 A_3 c_4 A_6 c_7⟩
theorem net_Net_Send_ok (n : Nat) (n_1 : T_net_Net) (x_5 : T_api_Letter) (b_2 : Nat) (A_3 : Option Addr) (c_4 : Nat) (A_6 : Option Addr) (c_7 : Nat) :
    Meets Try.prog 16 [.pointer (some ⟨b_2, 0, none⟩), .agg ⟨[.int .i64 x_5.Kind, .int .i64 x_5.From, .int .i64 x_5.To, .int .u64 x_5.Term, .int .u64 x_5.Index, .int .u64 x_5.Prev, .int .u64 x_5.Commit, .bool x_5.Ok, .slice A_6 x_5.Entries.length c_7, .string (bs x_5.Data)]⟩] 2 [1, 2] [⟨1, b_2, [.slice A_3 n_1.l.length c_4, .int .i64 n_1.lost]⟩] [Ow 2 kT_api_Letter A_3 c_4 n_1.l, Rd 0 kT_api_Entry A_6 c_7 x_5.Entries] (net_Net_Send.f n n_1 x_5) (net_Net_Send.R b_2 A_3 c_4 A_6 c_7) := by
  refine Meets.of (c := c16_0) (n := 31) Try.func16 (by kernel_rfl) (by kernel_rfl) (by kernel_rfl) fun w0 S0 => ?_
  unfold net_Net_Send.f
  show GoO (net_Net_Send.cx b_2 A_3 c_4 A_6 c_7 w0 S0) [(0, .pointer (some ⟨b_2, 0, none⟩)), (1, .agg ⟨[.int .i64 x_5.Kind, .int .i64 x_5.From, .int .i64 x_5.To, .int .u64 x_5.Term, .int .u64 x_5.Index, .int .u64 x_5.Prev, .int .u64 x_5.Commit, .bool x_5.Ok, .slice A_6 x_5.Entries.length c_7, .string (bs x_5.Data)]⟩)] [⟨1, b_2, [.slice A_3 n_1.l.length c_4, .int .i64 n_1.lost]⟩] [Ow 2 kT_api_Letter A_3 c_4 n_1.l, Rd 0 kT_api_Entry A_6 c_7 x_5.Entries] [.code c16_0] _
  refine GoO.seq' c16_0e ?_
  refine GoO.region' (is := [0, 1]) c16_1e (by kernel_rfl) ?_
  refine OpTo.go (GoO.new rfl 40 (cs := [.int .i64 x_5.Kind, .int .i64 x_5.From, .int .i64 x_5.To, .int .u64 x_5.Term, .int .u64 x_5.Index, .int .u64 x_5.Prev, .int .u64 x_5.Commit, .bool x_5.Ok, .slice A_6 x_5.Entries.length c_7, .string (bs x_5.Data)]) (by kernel_rfl) _ (fun _ => rfl) (fun b_8 => ?_))
  refine GoO.exec (is := [1]) (hs := [.p]) (rest := []) (ks := [0, 3]) (env' := [(0, .pointer (some ⟨b_2, 0, none⟩)), (3, .pointer (some ⟨b_8, 0, none⟩))]) (H' := [⟨40, b_8, [.int .i64 x_5.Kind, .int .i64 x_5.From, .int .i64 x_5.To, .int .u64 x_5.Term, .int .u64 x_5.Index, .int .u64 x_5.Prev, .int .u64 x_5.Commit, .bool x_5.Ok, .slice A_6 x_5.Entries.length c_7, .string (bs x_5.Data)]⟩, ⟨1, b_2, [.slice A_3 n_1.l.length c_4, .int .i64 n_1.lost]⟩]) (ps := []) (by kernel_rfl) trivial ?_
  refine GoO.regionEnd ?_
  refine GoO.seq' c16_2e ?_
  refine GoO.seq' c16_3e ?_
  refine GoO.region' (is := [0, 1]) c16_4e (by kernel_rfl) ?_
  refine GoO.exec (is := [0, 1]) (hs := [.p, .p]) (rest := []) (ks := [0, 3, 6]) (env' := [(0, .pointer (some ⟨b_2, 0, none⟩)), (3, .pointer (some ⟨b_8, 0, none⟩)), (6, .bool false)]) (H' := [⟨40, b_8, [.int .i64 x_5.Kind, .int .i64 x_5.From, .int .i64 x_5.To, .int .u64 x_5.Term, .int .u64 x_5.Index, .int .u64 x_5.Prev, .int .u64 x_5.Commit, .bool x_5.Ok, .slice A_6 x_5.Entries.length c_7, .string (bs x_5.Data)]⟩, ⟨1, b_2, [.slice A_3 n_1.l.length c_4, .int .i64 n_1.lost]⟩]) (ps := []) (by kernel_rfl) trivial ?_
  refine GoO.regionEnd ?_
  refine GoO.condF c16_5e (by kernel_rfl) ?_
  refine GoO.skip' c16_9e ?_
  refine GoO.seq' c16_10e ?_
  refine GoO.seq' c16_11e ?_
  refine GoO.region' (is := [0, 1, 2, 3, 4, 5]) c16_12e (by kernel_rfl) ?_
  refine GoO.exec (is := [0, 1, 2, 3, 4, 5]) (hs := [.p, .p, .p, .b 1, .p, .p]) (rest := []) (ks := [0, 3, 12]) (env' := [(0, .pointer (some ⟨b_2, 0, none⟩)), (3, .pointer (some ⟨b_8, 0, none⟩)), (12, .bool ((n_1.l.length : Int) == 256))]) (H' := [⟨40, b_8, [.int .i64 x_5.Kind, .int .i64 x_5.From, .int .i64 x_5.To, .int .u64 x_5.Term, .int .u64 x_5.Index, .int .u64 x_5.Prev, .int .u64 x_5.Commit, .bool x_5.Ok, .slice A_6 x_5.Entries.length c_7, .string (bs x_5.Data)]⟩, ⟨1, b_2, [.slice A_3 n_1.l.length c_4, .int .i64 n_1.lost]⟩]) (ps := [b_2 = b_2]) (by kernel_rfl) (And.intro rfl trivial) ?_
  refine GoO.regionEnd ?_
  refine GoO.ite' c16_13e (by kernel_rfl) (fun h9 => ?_) (fun h9 => ?_)
  · refine GoO.seq' c16_14e ?_
    refine GoO.region' (is := [0, 1, 2, 3, 4, 5, 6, 7]) c16_15e (by kernel_rfl) ?_
    refine GoO.exec (is := [0, 1, 2, 3, 4, 5, 6, 7]) (hs := [.p, .p, .p, .b 1, .p, .p, .p, .b 1]) (rest := []) (ks := []) (env' := []) (H' := [⟨40, b_8, [.int .i64 x_5.Kind, .int .i64 x_5.From, .int .i64 x_5.To, .int .u64 x_5.Term, .int .u64 x_5.Index, .int .u64 x_5.Prev, .int .u64 x_5.Commit, .bool x_5.Ok, .slice A_6 x_5.Entries.length c_7, .string (bs x_5.Data)]⟩, ⟨1, b_2, [.slice A_3 n_1.l.length c_4, .int .i64 (wi64 (n_1.lost + 1))]⟩]) (ps := [b_2 = b_2, b_2 = b_2]) (by kernel_rfl) (And.intro rfl (And.intro rfl trivial)) ?_
    refine GoO.regionEnd ?_
    refine GoO.seq' c16_16e ?_
    refine GoO.region' (is := [0]) c16_17e (by kernel_rfl) ?_
    refine GoO.exec (is := [0]) (hs := [.p]) (rest := []) (ks := [4]) (env' := [(4, .bool false)]) (H' := [⟨40, b_8, [.int .i64 x_5.Kind, .int .i64 x_5.From, .int .i64 x_5.To, .int .u64 x_5.Term, .int .u64 x_5.Index, .int .u64 x_5.Prev, .int .u64 x_5.Commit, .bool x_5.Ok, .slice A_6 x_5.Entries.length c_7, .string (bs x_5.Data)]⟩, ⟨1, b_2, [.slice A_3 n_1.l.length c_4, .int .i64 (wi64 (n_1.lost + 1))]⟩]) (ps := []) (by kernel_rfl) trivial ?_
    refine GoO.regionEnd ?_
    exact GoO.ret' (h := c16_18e) (hs := []) (ps := []) (hk := [1]) (bk := [0]) Try.func16 (⟨A_3, c_4⟩ : Option Addr × Nat) (by kernel_rfl) trivial (by kernel_rfl) (by kernel_rfl)
  · refine GoO.skip' c16_19e ?_
    refine GoO.seq' c16_20e ?_
    refine GoO.draw c16_21e (by kernel_rfl) [9, 10, 11] [⟨40, b_8, [.int .i64 x_5.Kind, .int .i64 x_5.From, .int .i64 x_5.To, .int .u64 x_5.Term, .int .u64 x_5.Index, .int .u64 x_5.Prev, .int .u64 x_5.Commit, .bool x_5.Ok, .slice A_6 x_5.Entries.length c_7, .string (bs x_5.Data)]⟩, ⟨1, b_2, [.slice A_3 n_1.l.length c_4, .int .i64 n_1.lost]⟩] [] (n := 12) (by kernel_rfl) ?_
    simp only [List.replicate]
    refine GoF.take [0, 1, 2, 3, 4, 5] [.p, .p, .p, .p, .b 1, .b 0] (ks := [20, 24, 25]) (fu := 6) (li := [true, true, true, true, true, true, false, false, false, false, false, false]) (env' := [(20, .pointer (some ⟨b_2, 0, none⟩)), (24, .slice A_3 n_1.l.length c_4), (25, .agg ⟨[.int .i64 x_5.Kind, .int .i64 x_5.From, .int .i64 x_5.To, .int .u64 x_5.Term, .int .u64 x_5.Index, .int .u64 x_5.Prev, .int .u64 x_5.Commit, .bool x_5.Ok, .slice A_6 x_5.Entries.length c_7, .string (bs x_5.Data)]⟩)]) (ps := [b_2 = b_2, b_8 = b_8]) (hk := [0, 1]) (bk := []) (by kernel_rfl) (And.intro rfl (And.intro rfl trivial)) rfl rfl ?_
    refine OpTo.goF (i := 6) (by kernel_rfl) (hk := [0, 1]) (bk := []) (GoO.call rfl (by kernel_rfl) (by kernel_rfl) (net_copied_ok n x_5 A_6 c_7) [[0]] [] [] [(0, 1)] (hks := [0, 1]) (bks := [0, 1]) (by kernel_rfl) (by kernel_rfl) (by kernel_rfl) (.inl rfl) rfl rfl (by kernel_rfl) (by kernel_rfl) _ (fun _ _ => rfl) _ _ (fun _ _ => rfl) (fun _ _ => rfl) (fun _ _ => by kernel_rfl) (fun _ _ => by kernel_rfl) (fun r_10 x_18 => ⟨rfl, rfl, ?_⟩))
    obtain ⟨A_11, c_12⟩ := x_18
    refine GoF.shape (env' := [(20, .pointer (some ⟨b_2, 0, none⟩)), (24, .slice A_3 n_1.l.length c_4), (25, .agg ⟨[.int .i64 x_5.Kind, .int .i64 x_5.From, .int .i64 x_5.To, .int .u64 x_5.Term, .int .u64 x_5.Index, .int .u64 x_5.Prev, .int .u64 x_5.Commit, .bool x_5.Ok, .slice A_6 x_5.Entries.length c_7, .string (bs x_5.Data)]⟩), (26, .agg ⟨[.int .i64 r_10.Kind, .int .i64 r_10.From, .int .i64 r_10.To, .int .u64 r_10.Term, .int .u64 r_10.Index, .int .u64 r_10.Prev, .int .u64 r_10.Commit, .bool r_10.Ok, .slice A_11 r_10.Entries.length c_12, .string (bs r_10.Data)]⟩)]) (H' := [⟨40, b_8, [.int .i64 x_5.Kind, .int .i64 x_5.From, .int .i64 x_5.To, .int .u64 x_5.Term, .int .u64 x_5.Index, .int .u64 x_5.Prev, .int .u64 x_5.Commit, .bool x_5.Ok, .slice A_6 x_5.Entries.length c_7, .string (bs x_5.Data)]⟩, ⟨1, b_2, [.slice A_3 n_1.l.length c_4, .int .i64 n_1.lost]⟩]) (B' := [Rd 0 kT_api_Entry A_11 c_12 r_10.Entries, Ow 2 kT_api_Letter A_3 c_4 n_1.l, Rd 0 kT_api_Entry A_6 c_7 x_5.Entries]) (ks := [20, 24, 25, 26]) (by kernel_rfl) (by kernel_rfl) (by kernel_rfl) ?_
    refine OpTo.goF (i := 7) (by kernel_rfl) (hk := [0, 1]) (bk := []) (GoO.lit (e := 29) (K := kT_api_Letter) rfl (by kernel_rfl) (by kernel_rfl) (cs := [.int .i64 r_10.Kind, .int .i64 r_10.From, .int .i64 r_10.To, .int .u64 r_10.Term, .int .u64 r_10.Index, .int .u64 r_10.Prev, .int .u64 r_10.Commit, .bool r_10.Ok, .slice A_11 r_10.Entries.length c_12, .string (bs r_10.Data)]) (by kernel_rfl) [r_10] (by kernel_rfl) (by kernel_rfl) (fun w S hB => ⟨[.int .i64 r_10.Kind, .int .i64 r_10.From, .int .i64 r_10.To, .int .u64 r_10.Term, .int .u64 r_10.Index, .int .u64 r_10.Prev, .int .u64 r_10.Commit, .bool r_10.Ok, .slice A_11 r_10.Entries.length c_12, .string (bs r_10.Data)], _, rfl, ⟨A_11, c_12, rfl, hB _ (List.mem_of_getElem? (i := 0) rfl)⟩, rfl⟩) 41 _ (fun _ _ => rfl) (fun A_13 c_14 => ⟨rfl, rfl, ?_⟩))
    refine GoF.guard (fun h15 => ?_)
    refine OpTo.goF (i := 8) (by kernel_rfl) (hk := [0, 1]) (bk := []) (GoO.appW (e := 29) (K := kT_api_Letter) (A := A_3) (c := c_4) (tg := 2) (bytes := 104) (zs := [.int .i64 0, .int .i64 0, .int .i64 0, .int .u64 0, .int .u64 0, .int .u64 0, .int .u64 0, .bool false, .slice none 0 0, .string (bs [])]) (xs := n_1.l) (ys := [r_10]) (xv := .slice A_13 [r_10].length c_14) (j := 2) (bk := [0, 1, 3]) rfl (by kernel_rfl) (by kernel_rfl) (by kernel_rfl) (by kernel_rfl) rfl (by kernel_rfl) rfl (fun w S hB => SrcIs.row (Reads.own w S (hB _ (List.mem_of_getElem? (i := 0) rfl)))) h15 rfl rfl rfl rfl _ (fun _ _ => rfl) (fun A_16 c_17 => ⟨rfl, rfl, ?_⟩))
    refine GoF.fin1 (i := 9) (hint := .p) (ps := []) (hk := []) (bk := []) (by kernel_rfl) rfl trivial (.inl rfl) ?_
    refine GoF.fin1 (i := 10) (hint := .p) (ps := []) (hk := []) (bk := []) (by kernel_rfl) rfl trivial (.inl rfl) ?_
    refine GoF.fin1 (i := 11) (hint := .b 1) (ps := [b_2 = b_2]) (hk := []) (bk := []) (by kernel_rfl) rfl (And.intro rfl trivial) (.inl rfl) ?_
    refine GoF.done (by kernel_rfl) ?_
    refine GoO.seq' c16_22e ?_
    refine GoO.region' (is := [0]) c16_23e (by kernel_rfl) ?_
    refine GoO.exec (is := [0]) (hs := [.p]) (rest := []) (ks := [4]) (env' := [(4, .bool true)]) (H' := [⟨40, b_8, [.int .i64 x_5.Kind, .int .i64 x_5.From, .int .i64 x_5.To, .int .u64 x_5.Term, .int .u64 x_5.Index, .int .u64 x_5.Prev, .int .u64 x_5.Commit, .bool x_5.Ok, .slice A_6 x_5.Entries.length c_7, .string (bs x_5.Data)]⟩, ⟨1, b_2, [.slice A_16 (n_1.l ++ [r_10]).length c_17, .int .i64 n_1.lost]⟩]) (ps := []) (by kernel_rfl) trivial ?_
    refine GoO.regionEnd ?_
    exact GoO.ret' (h := c16_24e) (hs := []) (ps := []) (hk := [1]) (bk := [0]) Try.func16 (⟨A_16, c_17⟩ : Option Addr × Nat) (by kernel_rfl) trivial (by kernel_rfl) (by kernel_rfl)

/-! (*tontine/net.Net).place -/
noncomputable def c39_0 : Code := bodyOf Try.f39
noncomputable def c39_1 : Code := cdL c39_0
noncomputable def c39_2 : Code := cdR c39_0
noncomputable def c39_3 : Code := cdL c39_2
noncomputable def c39_4 : Code := cdL c39_3
noncomputable def c39_5 : Code := cdR c39_3
noncomputable def c39_6 : Code := cdL c39_5
noncomputable def c39_7 : Code := cdL c39_6
noncomputable def c39_8 : Code := cdR c39_6
noncomputable def c39_9 : Code := cdR c39_5
noncomputable def c39_10 : Code := cdR c39_2
noncomputable def c39_11 : Code := cdL c39_10
noncomputable def c39_12 : Code := cdR c39_10
noncomputable def c39_13 : Code := cdL c39_12
noncomputable def c39_14 : Code := cdL c39_13
noncomputable def c39_15 : Code := cdR c39_13
noncomputable def c39_16 : Code := cdL c39_15
noncomputable def c39_17 : Code := cdR c39_15
noncomputable def c39_18 : Code := cdR c39_12
noncomputable def c39_19 : Code := cdL c39_18
noncomputable def c39_20 : Code := cdR c39_18
noncomputable def r39_1 : Array Oper := cdO c39_1
noncomputable def r39_4 : Array Oper := cdO c39_4
noncomputable def r39_7 : Array Oper := cdO c39_7
noncomputable def r39_11 : Array Oper := cdO c39_11
noncomputable def r39_14 : Array Oper := cdO c39_14
noncomputable def r39_16 : Array Oper := cdO c39_16
noncomputable def r39_19 : Array Oper := cdO c39_19
theorem c39_0e : c39_0 = .seq c39_1 c39_2 := by kernel_rfl
theorem c39_1e : c39_1 = .region 0 r39_1 false := by kernel_rfl
theorem c39_2e : c39_2 = .seq c39_3 c39_10 := by kernel_rfl
theorem c39_3e : c39_3 = .seq c39_4 c39_5 := by kernel_rfl
theorem c39_4e : c39_4 = .region 1 r39_4 false := by kernel_rfl
theorem c39_5e : c39_5 = .cond (cdC c39_5) c39_6 c39_9 := by kernel_rfl
theorem c39_6e : c39_6 = .seq c39_7 c39_8 := by kernel_rfl
theorem c39_7e : c39_7 = .region 2 r39_7 false := by kernel_rfl
theorem c39_8e : c39_8 = .ret := by kernel_rfl
theorem c39_9e : c39_9 = .skip := by kernel_rfl
theorem c39_10e : c39_10 = .seq c39_11 c39_12 := by kernel_rfl
theorem c39_11e : c39_11 = .region 3 r39_11 false := by kernel_rfl
theorem c39_12e : c39_12 = .seq c39_13 c39_18 := by kernel_rfl
theorem c39_13e : c39_13 = .seq c39_14 c39_15 := by kernel_rfl
theorem c39_14e : c39_14 = .region 4 r39_14 false := by kernel_rfl
theorem c39_15e : c39_15 = .cond (cdC c39_15) c39_16 c39_17 := by kernel_rfl
theorem c39_16e : c39_16 = .region 5 r39_16 false := by kernel_rfl
theorem c39_17e : c39_17 = .skip := by kernel_rfl
theorem c39_18e : c39_18 = .seq c39_19 c39_20 := by kernel_rfl
theorem c39_19e : c39_19 = .region 6 r39_19 false := by kernel_rfl
theorem c39_20e : c39_20 = .ret := by kernel_rfl
noncomputable def net_Net_place.R (b_2 : Nat) (A_3 : Option Addr) (c_4 : Nat) : Pst Int where
  ε := Unit
  v := fun r x => .int .i64 r
  H := fun r x => []
  B := fun r x => []
noncomputable def net_Net_place.cx (b_2 : Nat) (A_3 : Option Addr) (c_4 : Nat) (w0 : World) (S0 : Fam) : Cx Int := ⟨Try.prog, 39, Try.f39, 33, w0, S0, [], 2, net_Net_place.R b_2 A_3 c_4⟩
theorem net_Net_place_ok (n : Nat) (n_1 : T_net_Net) (i_5 : Int) (b_2 : Nat) (A_3 : Option Addr) (c_4 : Nat) :
    Meets Try.prog 39 [.pointer (some ⟨b_2, 0, none⟩), .int .i64 i_5] 2 [] [⟨1, b_2, [.slice A_3 n_1.l.length c_4, .int .i64 n_1.lost]⟩] [Ow 2 kT_api_Letter A_3 c_4 n_1.l] (net_Net_place.f n n_1 i_5) (net_Net_place.R b_2 A_3 c_4) := by
  refine Meets.of (c := c39_0) (n := 33) Try.func39 (by kernel_rfl) (by kernel_rfl) (by kernel_rfl) fun w0 S0 => ?_
  unfold net_Net_place.f
  show GoO (net_Net_place.cx b_2 A_3 c_4 w0 S0) [(0, .pointer (some ⟨b_2, 0, none⟩)), (1, .int .i64 i_5)] [⟨1, b_2, [.slice A_3 n_1.l.length c_4, .int .i64 n_1.lost]⟩] [Ow 2 kT_api_Letter A_3 c_4 n_1.l] [.code c39_0] _
  refine GoO.seq' c39_0e ?_
  refine GoO.region' (is := [0]) c39_1e (by kernel_rfl) ?_
  refine GoO.exec (is := [0]) (hs := [.p]) (rest := []) (ks := [0, 1]) (env' := [(0, .pointer (some ⟨b_2, 0, none⟩)), (1, .int .i64 i_5)]) (H' := [⟨1, b_2, [.slice A_3 n_1.l.length c_4, .int .i64 n_1.lost]⟩]) (ps := []) (by kernel_rfl) trivial ?_
  refine GoO.regionEnd ?_
  refine GoO.seq' c39_2e ?_
  refine GoO.seq' c39_3e ?_
  refine GoO.region' (is := [0, 1, 2, 3, 4, 5, 6, 7, 8, 9]) c39_4e (by kernel_rfl) ?_
  refine GoO.exec (is := [0, 1, 2, 3, 4, 5, 6, 7, 8, 9]) (hs := [.p, .p, .p, .p, .p, .p, .b 0, .p, .p, .p]) (rest := []) (ks := [0, 1, 15]) (env' := [(0, .pointer (some ⟨b_2, 0, none⟩)), (1, .int .i64 i_5), (15, .bool ((n_1.l.length : Int) == 0))]) (H' := [⟨1, b_2, [.slice A_3 n_1.l.length c_4, .int .i64 n_1.lost]⟩]) (ps := [b_2 = b_2]) (by kernel_rfl) (And.intro rfl trivial) ?_
  refine GoO.regionEnd ?_
  refine GoO.ite' c39_5e (by kernel_rfl) (fun h6 => ?_) (fun h6 => ?_)
  · refine GoO.seq' c39_6e ?_
    refine GoO.region' (is := [0]) c39_7e (by kernel_rfl) ?_
    refine GoO.exec (is := [0]) (hs := [.p]) (rest := []) (ks := [4]) (env' := [(4, .int .i64 (-1))]) (H' := [⟨1, b_2, [.slice A_3 n_1.l.length c_4, .int .i64 n_1.lost]⟩]) (ps := []) (by kernel_rfl) trivial ?_
    refine GoO.regionEnd ?_
    exact GoO.ret' (h := c39_8e) (hs := []) (ps := []) (hk := []) (bk := []) Try.func39 () (by kernel_rfl) trivial (by kernel_rfl) (by kernel_rfl)
  · refine GoO.skip' c39_9e ?_
    refine GoO.seq' c39_10e ?_
    refine GoO.region' (is := [0, 1, 2, 3, 4, 5, 6, 7]) c39_11e (by kernel_rfl) ?_
    refine GoO.guard (fun h7 => ?_)
    refine GoO.exec (is := [0, 1, 2, 3, 4, 5, 6, 7]) (hs := [.p, .p, .p, .p, .b 0, .p, .p, .p]) (rest := []) (ks := [0, 5]) (env' := [(0, .pointer (some ⟨b_2, 0, none⟩)), (5, .int .i64 (i_5.tmod (n_1.l.length : Int)))]) (H' := [⟨1, b_2, [.slice A_3 n_1.l.length c_4, .int .i64 n_1.lost]⟩]) (ps := [b_2 = b_2, (n_1.l.length : Int) ≠ 0]) (by kernel_rfl) (And.intro rfl (And.intro h7 trivial)) ?_
    refine GoO.regionEnd ?_
    refine GoO.seq' c39_12e ?_
    refine GoO.seq' c39_13e ?_
    refine GoO.region' (is := [0, 1]) c39_14e (by kernel_rfl) ?_
    refine GoO.exec (is := [0, 1]) (hs := [.p, .p]) (rest := []) (ks := [0, 5, 24]) (env' := [(0, .pointer (some ⟨b_2, 0, none⟩)), (5, .int .i64 (i_5.tmod (n_1.l.length : Int))), (24, .bool (decide ((i_5.tmod (n_1.l.length : Int)) < 0)))]) (H' := [⟨1, b_2, [.slice A_3 n_1.l.length c_4, .int .i64 n_1.lost]⟩]) (ps := []) (by kernel_rfl) trivial ?_
    refine GoO.regionEnd ?_
    refine GoO.ite' c39_15e (by kernel_rfl) (fun h8 => ?_) (fun h8 => ?_)
    · refine GoO.region' (is := [0, 1, 2, 3, 4, 5, 6, 7]) c39_16e (by kernel_rfl) ?_
      refine GoO.exec (is := [0, 1, 2, 3, 4, 5, 6, 7]) (hs := [.p, .p, .p, .p, .b 0, .p, .p, .p]) (rest := []) (ks := [5]) (env' := [(5, .int .i64 (wi64 ((i_5.tmod (n_1.l.length : Int)) + (n_1.l.length : Int))))]) (H' := [⟨1, b_2, [.slice A_3 n_1.l.length c_4, .int .i64 n_1.lost]⟩]) (ps := [b_2 = b_2]) (by kernel_rfl) (And.intro rfl trivial) ?_
      refine GoO.regionEnd ?_
      refine GoO.seq' c39_18e ?_
      refine GoO.region' (is := [0, 1]) c39_19e (by kernel_rfl) ?_
      refine GoO.exec (is := [0, 1]) (hs := [.p, .p]) (rest := []) (ks := [4]) (env' := [(4, .int .i64 (wi64 ((i_5.tmod (n_1.l.length : Int)) + (n_1.l.length : Int))))]) (H' := [⟨1, b_2, [.slice A_3 n_1.l.length c_4, .int .i64 n_1.lost]⟩]) (ps := []) (by kernel_rfl) trivial ?_
      refine GoO.regionEnd ?_
      exact GoO.ret' (h := c39_20e) (hs := []) (ps := []) (hk := []) (bk := []) Try.func39 () (by kernel_rfl) trivial (by kernel_rfl) (by kernel_rfl)
    · refine GoO.skip' c39_17e ?_
      refine GoO.seq' c39_18e ?_
      refine GoO.region' (is := [0, 1]) c39_19e (by kernel_rfl) ?_
      refine GoO.exec (is := [0, 1]) (hs := [.p, .p]) (rest := []) (ks := [4]) (env' := [(4, .int .i64 (i_5.tmod (n_1.l.length : Int)))]) (H' := [⟨1, b_2, [.slice A_3 n_1.l.length c_4, .int .i64 n_1.lost]⟩]) (ps := []) (by kernel_rfl) trivial ?_
      refine GoO.regionEnd ?_
      exact GoO.ret' (h := c39_20e) (hs := []) (ps := []) (hk := []) (bk := []) Try.func39 () (by kernel_rfl) trivial (by kernel_rfl) (by kernel_rfl)

/-! (*tontine/net.Net).Take -/
noncomputable def c17_0 : Code := bodyOf Try.f17
noncomputable def c17_1 : Code := cdL c17_0
noncomputable def c17_2 : Code := cdR c17_0
noncomputable def c17_3 : Code := cdL c17_2
noncomputable def c17_4 : Code := cdR c17_2
noncomputable def c17_5 : Code := cdL c17_4
noncomputable def c17_6 : Code := cdL c17_5
noncomputable def c17_7 : Code := cdR c17_5
noncomputable def c17_8 : Code := cdL c17_7
noncomputable def c17_9 : Code := cdL c17_8
noncomputable def c17_10 : Code := cdR c17_8
noncomputable def c17_11 : Code := cdR c17_7
noncomputable def c17_12 : Code := cdR c17_4
noncomputable def c17_13 : Code := cdL c17_12
noncomputable def c17_14 : Code := cdR c17_12
noncomputable def c17_15 : Code := cdL c17_14
noncomputable def c17_16 : Code := cdR c17_14
noncomputable def c17_17 : Code := cdL c17_16
noncomputable def c17_18 : Code := cdR c17_16
noncomputable def r17_1 : Array Oper := cdO c17_1
noncomputable def r17_3 : Array Oper := cdO c17_3
noncomputable def r17_6 : Array Oper := cdO c17_6
noncomputable def r17_9 : Array Oper := cdO c17_9
noncomputable def r17_13 : Array Oper := cdO c17_13
noncomputable def r17_15 : Array Oper := cdO c17_15
noncomputable def r17_17 : Array Oper := cdO c17_17
theorem c17_0e : c17_0 = .seq c17_1 c17_2 := by kernel_rfl
theorem c17_1e : c17_1 = .region 0 r17_1 false := by kernel_rfl
theorem c17_2e : c17_2 = .seq c17_3 c17_4 := by kernel_rfl
theorem c17_3e : c17_3 = .region 1 r17_3 false := by kernel_rfl
theorem c17_4e : c17_4 = .seq c17_5 c17_12 := by kernel_rfl
theorem c17_5e : c17_5 = .seq c17_6 c17_7 := by kernel_rfl
theorem c17_6e : c17_6 = .region 2 r17_6 false := by kernel_rfl
theorem c17_7e : c17_7 = .cond (cdC c17_7) c17_8 c17_11 := by kernel_rfl
theorem c17_8e : c17_8 = .seq c17_9 c17_10 := by kernel_rfl
theorem c17_9e : c17_9 = .region 3 r17_9 false := by kernel_rfl
theorem c17_10e : c17_10 = .ret := by kernel_rfl
theorem c17_11e : c17_11 = .skip := by kernel_rfl
theorem c17_12e : c17_12 = .seq c17_13 c17_14 := by kernel_rfl
theorem c17_13e : c17_13 = .region 4 r17_13 false := by kernel_rfl
theorem c17_14e : c17_14 = .seq c17_15 c17_16 := by kernel_rfl
theorem c17_15e : c17_15 = .region 5 r17_15 true := by kernel_rfl
theorem c17_16e : c17_16 = .seq c17_17 c17_18 := by kernel_rfl
theorem c17_17e : c17_17 = .region 6 r17_17 false := by kernel_rfl
theorem c17_18e : c17_18 = .ret := by kernel_rfl
noncomputable def net_Net_Take.R (b_2 : Nat) (A_3 : Option Addr) (c_4 : Nat) : Pst (T_api_Letter × Bool × T_net_Net) where
  ε := Option Addr × Nat × Option Addr × Nat
  v := fun r x => .tuple ⟨[.agg ⟨[.int .i64 r.1.Kind, .int .i64 r.1.From, .int .i64 r.1.To, .int .u64 r.1.Term, .int .u64 r.1.Index, .int .u64 r.1.Prev, .int .u64 r.1.Commit, .bool r.1.Ok, .slice x.1 r.1.Entries.length x.2.1, .string (bs r.1.Data)]⟩, .bool r.2.1]⟩
  H := fun r x => [⟨1, b_2, [.slice x.2.2.1 r.2.2.l.length x.2.2.2, .int .i64 r.2.2.lost]⟩]
  B := fun r x => [Rd 0 kT_api_Entry x.1 x.2.1 r.1.Entries, Ow 2 kT_api_Letter x.2.2.1 x.2.2.2 r.2.2.l]
noncomputable def net_Net_Take.cx (b_2 : Nat) (A_3 : Option Addr) (c_4 : Nat) (w0 : World) (S0 : Fam) : Cx (T_api_Letter × Bool × T_net_Net) := ⟨Try.prog, 17, Try.f17, 40, w0, S0, [1, 2], 2, net_Net_Take.R b_2 A_3 c_4⟩
theorem net_Net_Take_ok (n : Nat) (n_1 : T_net_Net) (i_5 : Int) (b_2 : Nat) (A_3 : Option Addr) (c_4 : Nat) :
    Meets Try.prog 17 [.pointer (some ⟨b_2, 0, none⟩), .int .i64 i_5] 2 [1, 2] [⟨1, b_2, [.slice A_3 n_1.l.length c_4, .int .i64 n_1.lost]⟩] [Ow 2 kT_api_Letter A_3 c_4 n_1.l] (net_Net_Take.f n n_1 i_5) (net_Net_Take.R b_2 A_3 c_4) := by
  refine Meets.of (c := c17_0) (n := 40) Try.func17 (by kernel_rfl) (by kernel_rfl) (by kernel_rfl) fun w0 S0 => ?_
  unfold net_Net_Take.f
  show GoO (net_Net_Take.cx b_2 A_3 c_4 w0 S0) [(0, .pointer (some ⟨b_2, 0, none⟩)), (1, .int .i64 i_5)] [⟨1, b_2, [.slice A_3 n_1.l.length c_4, .int .i64 n_1.lost]⟩] [Ow 2 kT_api_Letter A_3 c_4 n_1.l] [.code c17_0] _
  refine GoO.seq' c17_0e ?_
  refine GoO.region' (is := [0, 1]) c17_1e (by kernel_rfl) ?_
  refine OpTo.go (GoO.new rfl 40 (cs := [.int .i64 0, .int .i64 0, .int .i64 0, .int .u64 0, .int .u64 0, .int .u64 0, .int .u64 0, .bool false, .slice none ([] : List T_api_Entry).length 0, .string (bs [])]) (by kernel_rfl) _ (fun _ => rfl) (fun b_6 => ?_))
  refine GoO.exec (is := [1]) (hs := [.p]) (rest := []) (ks := [0, 1, 4]) (env' := [(0, .pointer (some ⟨b_2, 0, none⟩)), (1, .int .i64 i_5), (4, .pointer (some ⟨b_6, 0, none⟩))]) (H' := [⟨40, b_6, [.int .i64 0, .int .i64 0, .int .i64 0, .int .u64 0, .int .u64 0, .int .u64 0, .int .u64 0, .bool false, .slice none ([] : List T_api_Entry).length 0, .string (bs [])]⟩, ⟨1, b_2, [.slice A_3 n_1.l.length c_4, .int .i64 n_1.lost]⟩]) (ps := []) (by kernel_rfl) trivial ?_
  refine GoO.regionEnd ?_
  refine GoO.seq' c17_2e ?_
  refine GoO.region' (is := [0, 1, 2, 3]) c17_3e (by kernel_rfl) ?_
  refine GoO.exec (is := [0, 1]) (hs := [.p, .p]) (rest := [2, 3]) (ks := [0, 4, 8, 9]) (env' := [(0, .pointer (some ⟨b_2, 0, none⟩)), (4, .pointer (some ⟨b_6, 0, none⟩)), (8, .pointer (some ⟨b_2, 0, none⟩)), (9, .int .i64 i_5)]) (H' := [⟨40, b_6, [.int .i64 0, .int .i64 0, .int .i64 0, .int .u64 0, .int .u64 0, .int .u64 0, .int .u64 0, .bool false, .slice none ([] : List T_api_Entry).length 0, .string (bs [])]⟩, ⟨1, b_2, [.slice A_3 n_1.l.length c_4, .int .i64 n_1.lost]⟩]) (ps := []) (by kernel_rfl) trivial ?_
  refine OpTo.go (GoO.call rfl (by kernel_rfl) (by kernel_rfl) (net_Net_place_ok n n_1 i_5 b_2 A_3 c_4) [[0], [1], [2]] [] [(1, 1)] [(2, 0)] (hks := [0, 1]) (bks := [0]) (by kernel_rfl) (by kernel_rfl) (by kernel_rfl) (.inl rfl) rfl rfl (by kernel_rfl) (by kernel_rfl) _ (fun _ _ => rfl) _ _ (fun _ _ => rfl) (fun _ _ => rfl) (fun _ _ => by kernel_rfl) (fun _ _ => by kernel_rfl) (fun r_7 x_20 => ?_))
  refine GoO.shape (env' := [(0, .pointer (some ⟨b_2, 0, none⟩)), (4, .pointer (some ⟨b_6, 0, none⟩)), (8, .pointer (some ⟨b_2, 0, none⟩)), (9, .int .i64 i_5), (10, .int .i64 r_7)]) (H' := [⟨40, b_6, [.int .i64 0, .int .i64 0, .int .i64 0, .int .u64 0, .int .u64 0, .int .u64 0, .int .u64 0, .bool false, .slice none ([] : List T_api_Entry).length 0, .string (bs [])]⟩, ⟨1, b_2, [.slice A_3 n_1.l.length c_4, .int .i64 n_1.lost]⟩]) (B' := [Ow 2 kT_api_Letter A_3 c_4 n_1.l]) (ks := [0, 4, 8, 9, 10]) (by kernel_rfl) (by kernel_rfl) (by kernel_rfl) ?_
  refine GoO.exec (is := [3]) (hs := [.p]) (rest := []) (ks := [0, 4, 6]) (env' := [(0, .pointer (some ⟨b_2, 0, none⟩)), (4, .pointer (some ⟨b_6, 0, none⟩)), (6, .int .i64 r_7)]) (H' := [⟨40, b_6, [.int .i64 0, .int .i64 0, .int .i64 0, .int .u64 0, .int .u64 0, .int .u64 0, .int .u64 0, .bool false, .slice none ([] : List T_api_Entry).length 0, .string (bs [])]⟩, ⟨1, b_2, [.slice A_3 n_1.l.length c_4, .int .i64 n_1.lost]⟩]) (ps := []) (by kernel_rfl) trivial ?_
  refine GoO.regionEnd ?_
  refine GoO.seq' c17_4e ?_
  refine GoO.seq' c17_5e ?_
  refine GoO.region' (is := [0, 1]) c17_6e (by kernel_rfl) ?_
  refine GoO.exec (is := [0, 1]) (hs := [.p, .p]) (rest := []) (ks := [0, 4, 6, 12]) (env' := [(0, .pointer (some ⟨b_2, 0, none⟩)), (4, .pointer (some ⟨b_6, 0, none⟩)), (6, .int .i64 r_7), (12, .bool (decide (r_7 < 0)))]) (H' := [⟨40, b_6, [.int .i64 0, .int .i64 0, .int .i64 0, .int .u64 0, .int .u64 0, .int .u64 0, .int .u64 0, .bool false, .slice none ([] : List T_api_Entry).length 0, .string (bs [])]⟩, ⟨1, b_2, [.slice A_3 n_1.l.length c_4, .int .i64 n_1.lost]⟩]) (ps := []) (by kernel_rfl) trivial ?_
  refine GoO.regionEnd ?_
  refine GoO.ite' c17_7e (by kernel_rfl) (fun h8 => ?_) (fun h8 => ?_)
  · refine GoO.seq' c17_8e ?_
    refine GoO.region' (is := [0, 1, 2]) c17_9e (by kernel_rfl) ?_
    refine GoO.exec (is := [0, 1, 2]) (hs := [.p, .b 0, .p]) (rest := []) (ks := [4, 5]) (env' := [(4, .pointer (some ⟨b_6, 0, none⟩)), (5, .bool false)]) (H' := [⟨40, b_6, [.int .i64 0, .int .i64 0, .int .i64 0, .int .u64 0, .int .u64 0, .int .u64 0, .int .u64 0, .bool false, .slice none ([] : List T_api_Entry).length 0, .string (bs [])]⟩, ⟨1, b_2, [.slice A_3 n_1.l.length c_4, .int .i64 n_1.lost]⟩]) (ps := [b_6 = b_6]) (by kernel_rfl) (And.intro rfl trivial) ?_
    refine GoO.regionEnd ?_
    refine GoO.nilRd kT_api_Entry ?_
    exact GoO.ret' (h := c17_10e) (hs := [0]) (ps := [b_6 = b_6]) (hk := [1]) (bk := [0, 1]) Try.func17 (⟨none, 0, A_3, c_4⟩ : Option Addr × Nat × Option Addr × Nat) (by kernel_rfl) (And.intro rfl trivial) (by kernel_rfl) (by kernel_rfl)
  · refine GoO.skip' c17_11e ?_
    refine GoO.seq' c17_12e ?_
    refine GoO.region' (is := [0, 1, 2, 3, 4, 5, 6, 7, 8]) c17_13e (by kernel_rfl) ?_
    refine GoO.exec (is := [0, 1, 2, 3, 4]) (hs := [.p, .p, .p, .b 1, .p]) (rest := [5, 6, 7, 8]) (ks := [0, 4, 6, 17, 18]) (env' := [(0, .pointer (some ⟨b_2, 0, none⟩)), (4, .pointer (some ⟨b_6, 0, none⟩)), (6, .int .i64 r_7), (17, .slice A_3 n_1.l.length c_4), (18, .int .i64 r_7)]) (H' := [⟨40, b_6, [.int .i64 0, .int .i64 0, .int .i64 0, .int .u64 0, .int .u64 0, .int .u64 0, .int .u64 0, .bool false, .slice none ([] : List T_api_Entry).length 0, .string (bs [])]⟩, ⟨1, b_2, [.slice A_3 n_1.l.length c_4, .int .i64 n_1.lost]⟩]) (ps := [b_2 = b_2]) (by kernel_rfl) (And.intro rfl trivial) ?_
    refine GoO.guard (fun h9 => ?_)
    refine OpTo.go (GoO.idx (kk := .i64) (e := 29) (K := kT_api_Letter) (A := A_3) (c := c_4) (xs := n_1.l) (iv := r_7) (j := 0) rfl (by kernel_rfl) (by kernel_rfl) (by kernel_rfl) (by kernel_rfl) rfl Reads.own rfl h9.1 h9.2 (by decide) rfl ?_)
    refine OpTo.go (GoO.ldE' (K := kT_api_Letter) (A := A_3) (c := c_4) (xs := n_1.l) (iN := r_7.toNat) (off := 0) (j := 0) rfl (by kernel_rfl) rfl Reads.own (idx_lt h9.1 h9.2) (by decide) (oT_api_Letter _) (v := fun e => .agg ⟨[.int .i64 ((rdL n_1.l r_7).Kind), .int .i64 ((rdL n_1.l r_7).From), .int .i64 ((rdL n_1.l r_7).To), .int .u64 ((rdL n_1.l r_7).Term), .int .u64 ((rdL n_1.l r_7).Index), .int .u64 ((rdL n_1.l r_7).Prev), .int .u64 ((rdL n_1.l r_7).Commit), .bool ((rdL n_1.l r_7).Ok), .slice e.1 ((rdL n_1.l r_7).Entries).length e.2, .string (bs ((rdL n_1.l r_7).Data))]⟩) (fun _ => by kernel_rfl) _ (fun _ => rfl) ?_)
    rintro ⟨A_10, c_11⟩
    refine OpTo.go (GoO.new rfl 41 (cs := [.int .i64 0, .int .i64 0, .int .i64 0, .int .u64 0, .int .u64 0, .int .u64 0, .int .u64 0, .bool false, .slice none ([] : List T_api_Entry).length 0, .string (bs [])]) (by kernel_rfl) _ (fun _ => rfl) (fun b_12 => ?_))
    refine GoO.exec (is := [8]) (hs := [.b 0]) (rest := []) (ks := [0, 4, 6, 7]) (env' := [(0, .pointer (some ⟨b_2, 0, none⟩)), (4, .pointer (some ⟨b_6, 0, none⟩)), (6, .int .i64 r_7), (7, .pointer (some ⟨b_12, 0, none⟩))]) (H' := [⟨41, b_12, [.int .i64 ((rdL n_1.l r_7).Kind), .int .i64 ((rdL n_1.l r_7).From), .int .i64 ((rdL n_1.l r_7).To), .int .u64 ((rdL n_1.l r_7).Term), .int .u64 ((rdL n_1.l r_7).Index), .int .u64 ((rdL n_1.l r_7).Prev), .int .u64 ((rdL n_1.l r_7).Commit), .bool ((rdL n_1.l r_7).Ok), .slice A_10 ((rdL n_1.l r_7).Entries).length c_11, .string (bs ((rdL n_1.l r_7).Data))]⟩, ⟨40, b_6, [.int .i64 0, .int .i64 0, .int .i64 0, .int .u64 0, .int .u64 0, .int .u64 0, .int .u64 0, .bool false, .slice none ([] : List T_api_Entry).length 0, .string (bs [])]⟩, ⟨1, b_2, [.slice A_3 n_1.l.length c_4, .int .i64 n_1.lost]⟩]) (ps := [b_12 = b_12]) (by kernel_rfl) (And.intro rfl trivial) ?_
    refine GoO.regionEnd ?_
    refine GoO.seq' c17_14e ?_
    refine GoO.draw c17_15e (by kernel_rfl) [16, 17, 18] [⟨1, b_2, [.slice A_3 n_1.l.length c_4, .int .i64 n_1.lost]⟩] [] (n := 19) (by kernel_rfl) ?_
    simp only [List.replicate]
    refine GoF.take [0, 1, 2, 3, 4, 5, 6, 8, 9, 10, 11, 12, 13] [.p, .p, .p, .p, .b 0, .p, .p, .p, .p, .p, .b 0, .p, .p] (ks := [4, 7, 21, 25, 26, 27, 32, 34]) (fu := 6) (li := [true, true, true, true, true, true, true, false, true, true, true, true, true, true, false, false, false, false, false]) (env' := [(4, .pointer (some ⟨b_6, 0, none⟩)), (7, .pointer (some ⟨b_12, 0, none⟩)), (21, .pointer (some ⟨b_2, 0, none⟩)), (25, .slice A_3 n_1.l.length c_4), (26, .int .i64 r_7), (27, .int .i64 r_7), (32, .slice A_3 n_1.l.length c_4), (34, .int .i64 (wi64 (r_7 + 1)))]) (ps := [b_2 = b_2, b_2 = b_2]) (hk := [2]) (bk := []) (by kernel_rfl) (And.intro rfl (And.intro rfl trivial)) rfl rfl ?_
    refine GoF.guard (fun h13 => ?_)
    refine GoF.cut1 (i := 7) (hk := [2]) (bk := []) (e := 29) (K := kT_api_Letter) (A := A_3) (c := c_4) (xs := n_1.l) (h := r_7) (tg := 2) (j := 1) (by kernel_rfl) rfl rfl rfl (by kernel_rfl) (by kernel_rfl) (by kernel_rfl) rfl rfl (by kernel_rfl) (by kernel_rfl) h13.1 h13.2 rfl ?_
    refine GoF.guard (fun h16 => ?_)
    refine GoF.slc1 (i := 14) (hk := [2]) (bk := []) (e := 29) (K := kT_api_Letter) (A := A_3) (c := c_4) (xs := n_1.l) (j := 1) (l := (wi64 (r_7 + 1))) (h := (n_1.l.length : Int)) (by kernel_rfl) rfl rfl rfl (by kernel_rfl) (by kernel_rfl) (by kernel_rfl) rfl Reads.own rfl (by kernel_rfl) (by kernel_rfl) h16.1 h16.2.1 h16.2.2 _ (fun _ _ => rfl) (fun A_14 c_15 => ?_)
    refine GoF.guard (fun h17 => ?_)
    refine OpTo.goF (i := 15) (by kernel_rfl) (hk := [2]) (bk := []) (GoO.appC (e := 29) (K := kT_api_Letter) (A := A_3) (c0 := c_4) (m := r_7.toNat) (tg := 2) (bytes := 104) (zs := [.int .i64 0, .int .i64 0, .int .i64 0, .int .u64 0, .int .u64 0, .int .u64 0, .int .u64 0, .bool false, .slice none 0 0, .string (bs [])]) (xs := n_1.l) (ys := (n_1.l.take (n_1.l.length : Int).toNat).drop (wi64 (r_7 + 1)).toNat) (xv := .slice A_14 ((n_1.l.take (n_1.l.length : Int).toNat).drop (wi64 (r_7 + 1)).toNat).length c_15) (j := 2) (bk := [1]) rfl (by kernel_rfl) (by kernel_rfl) (by kernel_rfl) (by kernel_rfl) rfl (by kernel_rfl) rfl (by omega) (fun w S hB => SrcIs.row (Reads.rd w S (hB _ (List.mem_of_getElem? (i := 0) rfl)))) h17 rfl rfl rfl rfl _ (fun _ _ => rfl) (fun A_18 c_19 => ⟨rfl, rfl, ?_⟩))
    refine GoF.fin1 (i := 16) (hint := .p) (ps := []) (hk := []) (bk := []) (by kernel_rfl) rfl trivial (.inl rfl) ?_
    refine GoF.fin1 (i := 17) (hint := .p) (ps := []) (hk := []) (bk := []) (by kernel_rfl) rfl trivial (.inl rfl) ?_
    refine GoF.fin1 (i := 18) (hint := .b 2) (ps := [b_2 = b_2]) (hk := []) (bk := []) (by kernel_rfl) rfl (And.intro rfl trivial) (.inl rfl) ?_
    refine GoF.done (by kernel_rfl) ?_
    refine GoO.seq' c17_16e ?_
    refine GoO.region' (is := [0, 1, 2]) c17_17e (by kernel_rfl) ?_
    refine GoO.exec (is := [0, 1, 2]) (hs := [.b 0, .b 1, .p]) (rest := []) (ks := [4, 5]) (env' := [(4, .pointer (some ⟨b_6, 0, none⟩)), (5, .bool true)]) (H' := [⟨41, b_12, [.int .i64 ((rdL n_1.l r_7).Kind), .int .i64 ((rdL n_1.l r_7).From), .int .i64 ((rdL n_1.l r_7).To), .int .u64 ((rdL n_1.l r_7).Term), .int .u64 ((rdL n_1.l r_7).Index), .int .u64 ((rdL n_1.l r_7).Prev), .int .u64 ((rdL n_1.l r_7).Commit), .bool ((rdL n_1.l r_7).Ok), .slice A_10 ((rdL n_1.l r_7).Entries).length c_11, .string (bs ((rdL n_1.l r_7).Data))]⟩, ⟨40, b_6, [.int .i64 ((rdL n_1.l r_7).Kind), .int .i64 ((rdL n_1.l r_7).From), .int .i64 ((rdL n_1.l r_7).To), .int .u64 ((rdL n_1.l r_7).Term), .int .u64 ((rdL n_1.l r_7).Index), .int .u64 ((rdL n_1.l r_7).Prev), .int .u64 ((rdL n_1.l r_7).Commit), .bool ((rdL n_1.l r_7).Ok), .slice A_10 ((rdL n_1.l r_7).Entries).length c_11, .string (bs ((rdL n_1.l r_7).Data))]⟩, ⟨1, b_2, [.slice A_18 (n_1.l.take r_7.toNat ++ ((n_1.l.take (n_1.l.length : Int).toNat).drop (wi64 (r_7 + 1)).toNat)).length c_19, .int .i64 n_1.lost]⟩]) (ps := [b_12 = b_12, b_6 = b_6]) (by kernel_rfl) (And.intro rfl (And.intro rfl trivial)) ?_
    refine GoO.regionEnd ?_
    exact GoO.ret' (h := c17_18e) (hs := [1]) (ps := [b_6 = b_6]) (hk := [2]) (bk := [1, 0]) Try.func17 (⟨A_10, c_11, A_18, c_19⟩ : Option Addr × Nat × Option Addr × Nat) (by kernel_rfl) (And.intro rfl trivial) (by kernel_rfl) (by kernel_rfl)

/-! (*tontine/net.Net).Count -/
noncomputable def c19_0 : Code := bodyOf Try.f19
noncomputable def c19_1 : Code := cdL c19_0
noncomputable def c19_2 : Code := cdR c19_0
noncomputable def c19_3 : Code := cdL c19_2
noncomputable def c19_4 : Code := cdL c19_3
noncomputable def c19_5 : Code := cdR c19_3
noncomputable def c19_9 : Code := cdR c19_5
noncomputable def c19_10 : Code := cdR c19_2
noncomputable def c19_11 : Code := cdL c19_10
noncomputable def c19_12 : Code := cdR c19_10
noncomputable def c19_6 : Code := cdL c19_5
noncomputable def r19_1 : Array Oper := cdO c19_1
noncomputable def r19_4 : Array Oper := cdO c19_4
noncomputable def r19_11 : Array Oper := cdO c19_11
theorem c19_0e : c19_0 = .seq c19_1 c19_2 := by kernel_rfl
theorem c19_1e : c19_1 = .region 0 r19_1 false := by kernel_rfl
theorem c19_2e : c19_2 = .seq c19_3 c19_10 := by kernel_rfl
theorem c19_3e : c19_3 = .seq c19_4 c19_5 := by kernel_rfl
theorem c19_4e : c19_4 = .region 1 r19_4 false := by kernel_rfl
theorem c19_5e : c19_5 = .cond (cdC c19_5) c19_6 c19_9 := by kernel_rfl
theorem c19_9e : c19_9 = .skip := by kernel_rfl
theorem c19_10e : c19_10 = .seq c19_11 c19_12 := by kernel_rfl
theorem c19_11e : c19_11 = .region 3 r19_11 true := by kernel_rfl
theorem c19_12e : c19_12 = .ret := by kernel_rfl
noncomputable def net_Net_Count.R (b_2 : Nat) (A_3 : Option Addr) (c_4 : Nat) : Pst (Int × Int) where
  ε := Unit
  v := fun r x => .tuple ⟨[.int .i64 r.1, .int .i64 r.2]⟩
  H := fun r x => []
  B := fun r x => []
noncomputable def net_Net_Count.cx (b_2 : Nat) (A_3 : Option Addr) (c_4 : Nat) (w0 : World) (S0 : Fam) : Cx (Int × Int) := ⟨Try.prog, 19, Try.f19, 15, w0, S0, [], 2, net_Net_Count.R b_2 A_3 c_4⟩
theorem net_Net_Count_ok (n : Nat) (n_1 : T_net_Net) (b_2 : Nat) (A_3 : Option Addr) (c_4 : Nat) :
    Meets Try.prog 19 [.pointer (some ⟨b_2, 0, none⟩)] 2 [] [⟨1, b_2, [.slice A_3 n_1.l.length c_4, .int .i64 n_1.lost]⟩] [Ow 2 kT_api_Letter A_3 c_4 n_1.l] (net_Net_Count.f n n_1) (net_Net_Count.R b_2 A_3 c_4) := by
  refine Meets.of (c := c19_0) (n := 15) Try.func19 (by kernel_rfl) (by kernel_rfl) (by kernel_rfl) fun w0 S0 => ?_
  unfold net_Net_Count.f
  show GoO (net_Net_Count.cx b_2 A_3 c_4 w0 S0) [(0, .pointer (some ⟨b_2, 0, none⟩))] [⟨1, b_2, [.slice A_3 n_1.l.length c_4, .int .i64 n_1.lost]⟩] [Ow 2 kT_api_Letter A_3 c_4 n_1.l] [.code c19_0] _
  refine GoO.seq' c19_0e ?_
  refine GoO.region' (is := [0, 1]) c19_1e (by kernel_rfl) ?_
  refine GoO.exec (is := [0, 1]) (hs := [.p, .p]) (rest := []) (ks := [0]) (env' := [(0, .pointer (some ⟨b_2, 0, none⟩))]) (H' := [⟨1, b_2, [.slice A_3 n_1.l.length c_4, .int .i64 n_1.lost]⟩]) (ps := []) (by kernel_rfl) trivial ?_
  refine GoO.regionEnd ?_
  refine GoO.seq' c19_2e ?_
  refine GoO.seq' c19_3e ?_
  refine GoO.region' (is := [0, 1]) c19_4e (by kernel_rfl) ?_
  refine GoO.exec (is := [0, 1]) (hs := [.p, .p]) (rest := []) (ks := [0, 5]) (env' := [(0, .pointer (some ⟨b_2, 0, none⟩)), (5, .bool false)]) (H' := [⟨1, b_2, [.slice A_3 n_1.l.length c_4, .int .i64 n_1.lost]⟩]) (ps := []) (by kernel_rfl) trivial ?_
  refine GoO.regionEnd ?_
  refine GoO.condF c19_5e (by kernel_rfl) ?_
  refine GoO.skip' c19_9e ?_
  refine GoO.seq' c19_10e ?_
  refine GoO.draw c19_11e (by kernel_rfl) [10] [⟨1, b_2, [.slice A_3 n_1.l.length c_4, .int .i64 n_1.lost]⟩] [] (n := 11) (by kernel_rfl) ?_
  simp only [List.replicate]
  refine GoF.take [0, 1, 2, 3, 4, 5, 6, 7, 8, 9] [.p, .p, .p, .b 0, .p, .p, .p, .p, .b 0, .p] (ks := [2, 14]) (fu := 1) (li := [true, true, true, true, true, true, true, true, true, true, false]) (env' := [(2, .int .i64 (n_1.l.length : Int)), (14, .int .i64 n_1.lost)]) (ps := [b_2 = b_2, b_2 = b_2]) (hk := [0]) (bk := []) (by kernel_rfl) (And.intro rfl (And.intro rfl trivial)) rfl rfl ?_
  refine GoF.fin1 (i := 10) (hint := .p) (ps := []) (hk := []) (bk := []) (by kernel_rfl) rfl trivial (.inl rfl) ?_
  refine GoF.done (by kernel_rfl) ?_
  exact GoO.ret' (h := c19_12e) (hs := []) (ps := []) (hk := []) (bk := []) Try.func19 () (by kernel_rfl) trivial (by kernel_rfl) (by kernel_rfl)

/-! tontine/tontinelaw10.begun -/
noncomputable def c14_0 : Code := bodyOf Try.f14
noncomputable def c14_1 : Code := cdL c14_0
noncomputable def c14_2 : Code := cdR c14_0
noncomputable def c14_3 : Code := cdL c14_2
noncomputable def c14_4 : Code := cdR c14_2
noncomputable def c14_5 : Code := cdL c14_4
noncomputable def c14_6 : Code := cdR c14_4
noncomputable def c14_7 : Code := cdL c14_6
noncomputable def c14_8 : Code := cdR c14_6
noncomputable def c14_9 : Code := cdL c14_8
noncomputable def c14_10 : Code := cdR c14_8
noncomputable def c14_11 : Code := cdL c14_10
noncomputable def c14_12 : Code := cdR c14_10
noncomputable def r14_1 : Array Oper := cdO c14_1
noncomputable def r14_3 : Array Oper := cdO c14_3
noncomputable def r14_5 : Array Oper := cdO c14_5
noncomputable def r14_7 : Array Oper := cdO c14_7
noncomputable def r14_9 : Array Oper := cdO c14_9
noncomputable def r14_11 : Array Oper := cdO c14_11
theorem c14_0e : c14_0 = .seq c14_1 c14_2 := by kernel_rfl
theorem c14_1e : c14_1 = .region 0 r14_1 false := by kernel_rfl
theorem c14_2e : c14_2 = .seq c14_3 c14_4 := by kernel_rfl
theorem c14_3e : c14_3 = .region 1 r14_3 false := by kernel_rfl
theorem c14_4e : c14_4 = .seq c14_5 c14_6 := by kernel_rfl
theorem c14_5e : c14_5 = .region 2 r14_5 false := by kernel_rfl
theorem c14_6e : c14_6 = .seq c14_7 c14_8 := by kernel_rfl
theorem c14_7e : c14_7 = .region 3 r14_7 false := by kernel_rfl
theorem c14_8e : c14_8 = .seq c14_9 c14_10 := by kernel_rfl
theorem c14_9e : c14_9 = .region 4 r14_9 false := by kernel_rfl
theorem c14_10e : c14_10 = .seq c14_11 c14_12 := by kernel_rfl
theorem c14_11e : c14_11 = .region 5 r14_11 false := by kernel_rfl
theorem c14_12e : c14_12 = .ret := by kernel_rfl
noncomputable def tontinelaw10_begun.R : Pst Bool where
  ε := Unit
  v := fun r x => .bool r
  H := fun r x => []
  B := fun r x => []
noncomputable def tontinelaw10_begun.cx (w0 : World) (S0 : Fam) : Cx Bool := ⟨Try.prog, 14, Try.f14, 45, w0, S0, [], 0, tontinelaw10_begun.R⟩
theorem tontinelaw10_begun_ok (n : Nat) :
    Meets Try.prog 14 [] 0 [] [] [] (tontinelaw10_begun.f n) (tontinelaw10_begun.R) := by
  refine Meets.of (c := c14_0) (n := 45) Try.func14 (by kernel_rfl) (by kernel_rfl) (by kernel_rfl) fun w0 S0 => ?_
  unfold tontinelaw10_begun.f
  show GoO (tontinelaw10_begun.cx w0 S0) [] [] [] [.code c14_0] _
  refine GoO.seq' c14_0e ?_
  refine GoO.region' (is := [0]) c14_1e (by kernel_rfl) ?_
  refine GoO.exec (is := [0]) (hs := [.p]) (rest := []) (ks := []) (env' := []) (H' := []) (ps := []) (by kernel_rfl) trivial ?_
  refine GoO.regionEnd ?_
  refine GoO.seq' c14_2e ?_
  refine GoO.region' (is := [0, 1]) c14_3e (by kernel_rfl) ?_
  refine OpTo.go (GoO.call rfl (by kernel_rfl) (by kernel_rfl) (net_New_ok n) [[0]] [(40, 1), (41, 2)] [] [] (hks := []) (bks := []) (by kernel_rfl) (by kernel_rfl) (by kernel_rfl) (.inl rfl) rfl rfl (by kernel_rfl) (by kernel_rfl) _ (fun _ _ => rfl) _ _ (fun _ _ => rfl) (fun _ _ => rfl) (fun _ _ => by kernel_rfl) (fun _ _ => by kernel_rfl) (fun r_1 x_27 => ?_))
  obtain ⟨b_2, A_3, c_4⟩ := x_27
  refine GoO.shape (env' := [(8, .pointer (some ⟨b_2, 0, none⟩))]) (H' := [⟨40, b_2, [.slice A_3 r_1.l.length c_4, .int .i64 r_1.lost]⟩]) (B' := [Ow 41 kT_api_Letter A_3 c_4 r_1.l]) (ks := [8]) (by kernel_rfl) (by kernel_rfl) (by kernel_rfl) ?_
  refine GoO.exec (is := [1]) (hs := [.p]) (rest := []) (ks := [1]) (env' := [(1, .pointer (some ⟨b_2, 0, none⟩))]) (H' := [⟨40, b_2, [.slice A_3 r_1.l.length c_4, .int .i64 r_1.lost]⟩]) (ps := []) (by kernel_rfl) trivial ?_
  refine GoO.regionEnd ?_
  refine GoO.seq' c14_4e ?_
  refine GoO.region' (is := [0, 1, 2, 3, 4, 5, 6, 7]) c14_5e (by kernel_rfl) ?_
  refine GoO.exec (is := [0, 1]) (hs := [.p, .p]) (rest := [2, 3, 4, 5, 6, 7]) (ks := [1, 9, 10]) (env' := [(1, .pointer (some ⟨b_2, 0, none⟩)), (9, .pointer (some ⟨b_2, 0, none⟩)), (10, .agg ⟨[.int .i64 1, .int .i64 0, .int .i64 0, .int .u64 0, .int .u64 0, .int .u64 0, .int .u64 0, .bool false, .slice none ([] : List T_api_Entry).length 0, .string (bs [])]⟩)]) (H' := [⟨40, b_2, [.slice A_3 r_1.l.length c_4, .int .i64 r_1.lost]⟩]) (ps := []) (by kernel_rfl) trivial ?_
  refine GoO.nilRd kT_api_Entry ?_
  refine OpTo.go (GoO.call rfl (by kernel_rfl) (by kernel_rfl) (net_Net_Send_ok n r_1 (⟨1, 0, 0, 0, 0, 0, 0, false, [], []⟩ : T_api_Letter) b_2 A_3 c_4 none 0) [[0], [40], [41]] [(40, 1), (41, 2)] [(1, 0)] [(2, 1), (0, 0)] (hks := []) (bks := [0]) (by kernel_rfl) (by kernel_rfl) (by kernel_rfl) (.inl rfl) rfl rfl (by kernel_rfl) (by kernel_rfl) _ (fun _ _ => rfl) _ _ (fun _ _ => rfl) (fun _ _ => rfl) (fun _ _ => by kernel_rfl) (fun _ _ => by kernel_rfl) (fun r_5 x_26 => ?_))
  obtain ⟨A_6, c_7⟩ := x_26
  refine GoO.shape (env' := [(1, .pointer (some ⟨b_2, 0, none⟩)), (9, .pointer (some ⟨b_2, 0, none⟩)), (10, .agg ⟨[.int .i64 1, .int .i64 0, .int .i64 0, .int .u64 0, .int .u64 0, .int .u64 0, .int .u64 0, .bool false, .slice none ([] : List T_api_Entry).length 0, .string (bs [])]⟩), (11, .bool r_5.1)]) (H' := [⟨40, b_2, [.slice A_6 r_5.2.l.length c_7, .int .i64 r_5.2.lost]⟩]) (B' := [Ow 41 kT_api_Letter A_6 c_7 r_5.2.l, Rd 0 kT_api_Entry none 0 ([] : List T_api_Entry)]) (ks := [1, 9, 10, 11]) (by kernel_rfl) (by kernel_rfl) (by kernel_rfl) ?_
  refine GoO.exec (is := [3, 4]) (hs := [.p, .p]) (rest := [5, 6, 7]) (ks := [1, 11, 12, 13]) (env' := [(1, .pointer (some ⟨b_2, 0, none⟩)), (11, .bool r_5.1), (12, .pointer (some ⟨b_2, 0, none⟩)), (13, .agg ⟨[.int .i64 2, .int .i64 0, .int .i64 0, .int .u64 0, .int .u64 0, .int .u64 0, .int .u64 0, .bool false, .slice none ([] : List T_api_Entry).length 0, .string (bs [])]⟩)]) (H' := [⟨40, b_2, [.slice A_6 r_5.2.l.length c_7, .int .i64 r_5.2.lost]⟩]) (ps := []) (by kernel_rfl) trivial ?_
  refine GoO.nilRd kT_api_Entry ?_
  refine OpTo.go (GoO.call rfl (by kernel_rfl) (by kernel_rfl) (net_Net_Send_ok n r_5.2 (⟨2, 0, 0, 0, 0, 0, 0, false, [], []⟩ : T_api_Letter) b_2 A_6 c_7 none 0) [[0], [40], [41]] [(40, 1), (41, 2)] [(1, 0)] [(2, 1), (0, 0)] (hks := []) (bks := [0, 2]) (by kernel_rfl) (by kernel_rfl) (by kernel_rfl) (.inl rfl) rfl rfl (by kernel_rfl) (by kernel_rfl) _ (fun _ _ => rfl) _ _ (fun _ _ => rfl) (fun _ _ => rfl) (fun _ _ => by kernel_rfl) (fun _ _ => by kernel_rfl) (fun r_8 x_25 => ?_))
  obtain ⟨A_9, c_10⟩ := x_25
  refine GoO.shape (env' := [(1, .pointer (some ⟨b_2, 0, none⟩)), (11, .bool r_5.1), (12, .pointer (some ⟨b_2, 0, none⟩)), (13, .agg ⟨[.int .i64 2, .int .i64 0, .int .i64 0, .int .u64 0, .int .u64 0, .int .u64 0, .int .u64 0, .bool false, .slice none ([] : List T_api_Entry).length 0, .string (bs [])]⟩), (14, .bool r_8.1)]) (H' := [⟨40, b_2, [.slice A_9 r_8.2.l.length c_10, .int .i64 r_8.2.lost]⟩]) (B' := [Ow 41 kT_api_Letter A_9 c_10 r_8.2.l, Rd 0 kT_api_Entry none 0 ([] : List T_api_Entry), Rd 0 kT_api_Entry none 0 ([] : List T_api_Entry)]) (ks := [1, 11, 12, 13, 14]) (by kernel_rfl) (by kernel_rfl) (by kernel_rfl) ?_
  refine GoO.exec (is := [6, 7]) (hs := [.p, .p]) (rest := []) (ks := [1, 2, 3]) (env' := [(1, .pointer (some ⟨b_2, 0, none⟩)), (2, .bool r_5.1), (3, .bool r_8.1)]) (H' := [⟨40, b_2, [.slice A_9 r_8.2.l.length c_10, .int .i64 r_8.2.lost]⟩]) (ps := []) (by kernel_rfl) trivial ?_
  refine GoO.regionEnd ?_
  refine GoO.seq' c14_6e ?_
  refine GoO.region' (is := [0, 1, 2, 3, 4, 5, 6, 7]) c14_7e (by kernel_rfl) ?_
  refine GoO.exec (is := [0]) (hs := [.p]) (rest := [1, 2, 3, 4, 5, 6, 7]) (ks := [1, 2, 3, 16]) (env' := [(1, .pointer (some ⟨b_2, 0, none⟩)), (2, .bool r_5.1), (3, .bool r_8.1), (16, .pointer (some ⟨b_2, 0, none⟩))]) (H' := [⟨40, b_2, [.slice A_9 r_8.2.l.length c_10, .int .i64 r_8.2.lost]⟩]) (ps := []) (by kernel_rfl) trivial ?_
  refine OpTo.go (GoO.call rfl (by kernel_rfl) (by kernel_rfl) (net_Net_Take_ok n r_8.2 3 b_2 A_9 c_10) [[0], [40], [41]] [(40, 1), (41, 2)] [(1, 0)] [(2, 0)] (hks := []) (bks := [1, 2]) (by kernel_rfl) (by kernel_rfl) (by kernel_rfl) (.inl rfl) rfl rfl (by kernel_rfl) (by kernel_rfl) _ (fun _ _ => rfl) _ _ (fun _ _ => rfl) (fun _ _ => rfl) (fun _ _ => by kernel_rfl) (fun _ _ => by kernel_rfl) (fun r_11 x_24 => ?_))
  obtain ⟨A_12, c_13, A_14, c_15⟩ := x_24
  refine GoO.shape (env' := [(1, .pointer (some ⟨b_2, 0, none⟩)), (2, .bool r_5.1), (3, .bool r_8.1), (16, .pointer (some ⟨b_2, 0, none⟩)), (17, .tuple ⟨[.agg ⟨[.int .i64 r_11.1.Kind, .int .i64 r_11.1.From, .int .i64 r_11.1.To, .int .u64 r_11.1.Term, .int .u64 r_11.1.Index, .int .u64 r_11.1.Prev, .int .u64 r_11.1.Commit, .bool r_11.1.Ok, .slice A_12 r_11.1.Entries.length c_13, .string (bs r_11.1.Data)]⟩, .bool r_11.2.1]⟩)]) (H' := [⟨40, b_2, [.slice A_14 r_11.2.2.l.length c_15, .int .i64 r_11.2.2.lost]⟩]) (B' := [Rd 0 kT_api_Entry A_12 c_13 r_11.1.Entries, Ow 41 kT_api_Letter A_14 c_15 r_11.2.2.l, Rd 0 kT_api_Entry none 0 ([] : List T_api_Entry), Rd 0 kT_api_Entry none 0 ([] : List T_api_Entry)]) (ks := [1, 2, 3, 16, 17]) (by kernel_rfl) (by kernel_rfl) (by kernel_rfl) ?_
  refine GoO.exec (is := [2, 3, 4]) (hs := [.p, .p, .p]) (rest := [5, 6, 7]) (ks := [1, 2, 3, 18, 19]) (env' := [(1, .pointer (some ⟨b_2, 0, none⟩)), (2, .bool r_5.1), (3, .bool r_8.1), (18, .agg ⟨[.int .i64 r_11.1.Kind, .int .i64 r_11.1.From, .int .i64 r_11.1.To, .int .u64 r_11.1.Term, .int .u64 r_11.1.Index, .int .u64 r_11.1.Prev, .int .u64 r_11.1.Commit, .bool r_11.1.Ok, .slice A_12 r_11.1.Entries.length c_13, .string (bs r_11.1.Data)]⟩), (19, .bool r_11.2.1)]) (H' := [⟨40, b_2, [.slice A_14 r_11.2.2.l.length c_15, .int .i64 r_11.2.2.lost]⟩]) (ps := []) (by kernel_rfl) trivial ?_
  refine OpTo.go (GoO.new rfl 42 (cs := [.int .i64 0, .int .i64 0, .int .i64 0, .int .u64 0, .int .u64 0, .int .u64 0, .int .u64 0, .bool false, .slice none ([] : List T_api_Entry).length 0, .string (bs [])]) (by kernel_rfl) _ (fun _ => rfl) (fun b_16 => ?_))
  refine GoO.exec (is := [6, 7]) (hs := [.b 0, .p]) (rest := []) (ks := [1, 2, 3, 4, 5]) (env' := [(1, .pointer (some ⟨b_2, 0, none⟩)), (2, .bool r_5.1), (3, .bool r_8.1), (4, .pointer (some ⟨b_16, 0, none⟩)), (5, .bool r_11.2.1)]) (H' := [⟨42, b_16, [.int .i64 r_11.1.Kind, .int .i64 r_11.1.From, .int .i64 r_11.1.To, .int .u64 r_11.1.Term, .int .u64 r_11.1.Index, .int .u64 r_11.1.Prev, .int .u64 r_11.1.Commit, .bool r_11.1.Ok, .slice A_12 r_11.1.Entries.length c_13, .string (bs r_11.1.Data)]⟩, ⟨40, b_2, [.slice A_14 r_11.2.2.l.length c_15, .int .i64 r_11.2.2.lost]⟩]) (ps := [b_16 = b_16]) (by kernel_rfl) (And.intro rfl trivial) ?_
  refine GoO.regionEnd ?_
  refine GoO.seq' c14_8e ?_
  refine GoO.region' (is := [0, 1, 2, 3, 4, 5, 6]) c14_9e (by kernel_rfl) ?_
  refine GoO.exec (is := [0]) (hs := [.p]) (rest := [1, 2, 3, 4, 5, 6]) (ks := [2, 3, 4, 5, 21]) (env' := [(2, .bool r_5.1), (3, .bool r_8.1), (4, .pointer (some ⟨b_16, 0, none⟩)), (5, .bool r_11.2.1), (21, .pointer (some ⟨b_2, 0, none⟩))]) (H' := [⟨42, b_16, [.int .i64 r_11.1.Kind, .int .i64 r_11.1.From, .int .i64 r_11.1.To, .int .u64 r_11.1.Term, .int .u64 r_11.1.Index, .int .u64 r_11.1.Prev, .int .u64 r_11.1.Commit, .bool r_11.1.Ok, .slice A_12 r_11.1.Entries.length c_13, .string (bs r_11.1.Data)]⟩, ⟨40, b_2, [.slice A_14 r_11.2.2.l.length c_15, .int .i64 r_11.2.2.lost]⟩]) (ps := []) (by kernel_rfl) trivial ?_
  refine OpTo.go (GoO.call rfl (by kernel_rfl) (by kernel_rfl) (net_Net_Count_ok n r_11.2.2 b_2 A_14 c_15) [[0], [40], [41]] [] [(1, 1)] [(2, 1)] (hks := [0, 1]) (bks := [0, 1, 2, 3]) (by kernel_rfl) (by kernel_rfl) (by kernel_rfl) (.inl rfl) rfl rfl (by kernel_rfl) (by kernel_rfl) _ (fun _ _ => rfl) _ _ (fun _ _ => rfl) (fun _ _ => rfl) (fun _ _ => by kernel_rfl) (fun _ _ => by kernel_rfl) (fun r_17 x_23 => ?_))
  refine GoO.shape (env' := [(2, .bool r_5.1), (3, .bool r_8.1), (4, .pointer (some ⟨b_16, 0, none⟩)), (5, .bool r_11.2.1), (21, .pointer (some ⟨b_2, 0, none⟩)), (22, .tuple ⟨[.int .i64 r_17.1, .int .i64 r_17.2]⟩)]) (H' := [⟨42, b_16, [.int .i64 r_11.1.Kind, .int .i64 r_11.1.From, .int .i64 r_11.1.To, .int .u64 r_11.1.Term, .int .u64 r_11.1.Index, .int .u64 r_11.1.Prev, .int .u64 r_11.1.Commit, .bool r_11.1.Ok, .slice A_12 r_11.1.Entries.length c_13, .string (bs r_11.1.Data)]⟩, ⟨40, b_2, [.slice A_14 r_11.2.2.l.length c_15, .int .i64 r_11.2.2.lost]⟩]) (B' := [Rd 0 kT_api_Entry A_12 c_13 r_11.1.Entries, Ow 41 kT_api_Letter A_14 c_15 r_11.2.2.l, Rd 0 kT_api_Entry none 0 ([] : List T_api_Entry), Rd 0 kT_api_Entry none 0 ([] : List T_api_Entry)]) (ks := [2, 3, 4, 5, 21, 22]) (by kernel_rfl) (by kernel_rfl) (by kernel_rfl) ?_
  refine GoO.exec (is := [2, 3, 4, 5, 6]) (hs := [.p, .p, .p, .p, .p]) (rest := []) (ks := [2, 3, 4, 5, 6, 7]) (env' := [(2, .bool r_5.1), (3, .bool r_8.1), (4, .pointer (some ⟨b_16, 0, none⟩)), (5, .bool r_11.2.1), (6, .int .i64 r_17.1), (7, .int .i64 r_17.2)]) (H' := [⟨42, b_16, [.int .i64 r_11.1.Kind, .int .i64 r_11.1.From, .int .i64 r_11.1.To, .int .u64 r_11.1.Term, .int .u64 r_11.1.Index, .int .u64 r_11.1.Prev, .int .u64 r_11.1.Commit, .bool r_11.1.Ok, .slice A_12 r_11.1.Entries.length c_13, .string (bs r_11.1.Data)]⟩, ⟨40, b_2, [.slice A_14 r_11.2.2.l.length c_15, .int .i64 r_11.2.2.lost]⟩]) (ps := []) (by kernel_rfl) trivial ?_
  refine GoO.regionEnd ?_
  refine GoO.seq' c14_10e ?_
  refine GoO.region' (is := [0, 1, 2, 3, 4, 5, 6, 7, 8, 9, 10, 11, 12, 13, 14, 15, 16, 17, 18, 19, 20]) c14_11e (by kernel_rfl) ?_
  refine GoO.exec (is := [0, 1]) (hs := [.p, .p]) (rest := [2, 3, 4, 5, 6, 7, 8, 9, 10, 11, 12, 13, 14, 15, 16, 17, 18, 19, 20]) (ks := [3, 4, 5, 6, 7, 26]) (env' := [(3, .bool r_8.1), (4, .pointer (some ⟨b_16, 0, none⟩)), (5, .bool r_11.2.1), (6, .int .i64 r_17.1), (7, .int .i64 r_17.2), (26, .bool r_5.1)]) (H' := [⟨42, b_16, [.int .i64 r_11.1.Kind, .int .i64 r_11.1.From, .int .i64 r_11.1.To, .int .u64 r_11.1.Term, .int .u64 r_11.1.Index, .int .u64 r_11.1.Prev, .int .u64 r_11.1.Commit, .bool r_11.1.Ok, .slice A_12 r_11.1.Entries.length c_13, .string (bs r_11.1.Data)]⟩, ⟨40, b_2, [.slice A_14 r_11.2.2.l.length c_15, .int .i64 r_11.2.2.lost]⟩]) (ps := []) (by kernel_rfl) trivial ?_
  refine GoO.bsplit (t := 26) (by kernel_rfl) (fun h18 => ?_) (fun h18 => ?_)
  · refine GoO.exec (is := [2, 3, 4]) (hs := [.p, .p, .p]) (rest := [5, 6, 7, 8, 9, 10, 11, 12, 13, 14, 15, 16, 17, 18, 19, 20]) (ks := [4, 5, 6, 7, 29]) (env' := [(4, .pointer (some ⟨b_16, 0, none⟩)), (5, .bool r_11.2.1), (6, .int .i64 r_17.1), (7, .int .i64 r_17.2), (29, .bool r_8.1)]) (H' := [⟨42, b_16, [.int .i64 r_11.1.Kind, .int .i64 r_11.1.From, .int .i64 r_11.1.To, .int .u64 r_11.1.Term, .int .u64 r_11.1.Index, .int .u64 r_11.1.Prev, .int .u64 r_11.1.Commit, .bool r_11.1.Ok, .slice A_12 r_11.1.Entries.length c_13, .string (bs r_11.1.Data)]⟩, ⟨40, b_2, [.slice A_14 r_11.2.2.l.length c_15, .int .i64 r_11.2.2.lost]⟩]) (ps := []) (by kernel_rfl) trivial ?_
    refine GoO.bsplit (t := 29) (by kernel_rfl) (fun h19 => ?_) (fun h19 => ?_)
    · refine GoO.exec (is := [5, 6, 7]) (hs := [.p, .p, .p]) (rest := [8, 9, 10, 11, 12, 13, 14, 15, 16, 17, 18, 19, 20]) (ks := [4, 6, 7, 32]) (env' := [(4, .pointer (some ⟨b_16, 0, none⟩)), (6, .int .i64 r_17.1), (7, .int .i64 r_17.2), (32, .bool r_11.2.1)]) (H' := [⟨42, b_16, [.int .i64 r_11.1.Kind, .int .i64 r_11.1.From, .int .i64 r_11.1.To, .int .u64 r_11.1.Term, .int .u64 r_11.1.Index, .int .u64 r_11.1.Prev, .int .u64 r_11.1.Commit, .bool r_11.1.Ok, .slice A_12 r_11.1.Entries.length c_13, .string (bs r_11.1.Data)]⟩, ⟨40, b_2, [.slice A_14 r_11.2.2.l.length c_15, .int .i64 r_11.2.2.lost]⟩]) (ps := []) (by kernel_rfl) trivial ?_
      refine GoO.bsplit (t := 32) (by kernel_rfl) (fun h20 => ?_) (fun h20 => ?_)
      · refine GoO.exec (is := [8, 9, 10, 11, 12]) (hs := [.p, .b 0, .p, .p, .p]) (rest := [13, 14, 15, 16, 17, 18, 19, 20]) (ks := [6, 7, 37]) (env' := [(6, .int .i64 r_17.1), (7, .int .i64 r_17.2), (37, .bool (r_11.1.Kind == 2))]) (H' := [⟨42, b_16, [.int .i64 r_11.1.Kind, .int .i64 r_11.1.From, .int .i64 r_11.1.To, .int .u64 r_11.1.Term, .int .u64 r_11.1.Index, .int .u64 r_11.1.Prev, .int .u64 r_11.1.Commit, .bool r_11.1.Ok, .slice A_12 r_11.1.Entries.length c_13, .string (bs r_11.1.Data)]⟩, ⟨40, b_2, [.slice A_14 r_11.2.2.l.length c_15, .int .i64 r_11.2.2.lost]⟩]) (ps := [b_16 = b_16]) (by kernel_rfl) (And.intro rfl trivial) ?_
        refine GoO.bsplit (t := 37) (by kernel_rfl) (fun h21 => ?_) (fun h21 => ?_)
        · refine GoO.exec (is := [13, 14, 15, 16]) (hs := [.p, .p, .p, .p]) (rest := [17, 18, 19, 20]) (ks := [7, 41]) (env' := [(7, .int .i64 r_17.2), (41, .bool (r_17.1 == 1))]) (H' := [⟨42, b_16, [.int .i64 r_11.1.Kind, .int .i64 r_11.1.From, .int .i64 r_11.1.To, .int .u64 r_11.1.Term, .int .u64 r_11.1.Index, .int .u64 r_11.1.Prev, .int .u64 r_11.1.Commit, .bool r_11.1.Ok, .slice A_12 r_11.1.Entries.length c_13, .string (bs r_11.1.Data)]⟩, ⟨40, b_2, [.slice A_14 r_11.2.2.l.length c_15, .int .i64 r_11.2.2.lost]⟩]) (ps := []) (by kernel_rfl) trivial ?_
          refine GoO.bsplit (t := 41) (by kernel_rfl) (fun h22 => ?_) (fun h22 => ?_)
          · refine GoO.exec (is := [17, 18, 19, 20]) (hs := [.p, .p, .p, .p]) (rest := []) (ks := [0]) (env' := [(0, .bool (r_17.2 == 0))]) (H' := [⟨42, b_16, [.int .i64 r_11.1.Kind, .int .i64 r_11.1.From, .int .i64 r_11.1.To, .int .u64 r_11.1.Term, .int .u64 r_11.1.Index, .int .u64 r_11.1.Prev, .int .u64 r_11.1.Commit, .bool r_11.1.Ok, .slice A_12 r_11.1.Entries.length c_13, .string (bs r_11.1.Data)]⟩, ⟨40, b_2, [.slice A_14 r_11.2.2.l.length c_15, .int .i64 r_11.2.2.lost]⟩]) (ps := []) (by kernel_rfl) trivial ?_
            refine GoO.regionEnd ?_
            exact GoO.ret' (h := c14_12e) (hs := []) (ps := []) (hk := []) (bk := []) Try.func14 () (by kernel_rfl) trivial (by kernel_rfl) (by kernel_rfl)
          · refine GoO.exec (is := [17, 18, 19, 20]) (hs := [.p, .p, .p, .p]) (rest := []) (ks := [0]) (env' := [(0, .bool false)]) (H' := [⟨42, b_16, [.int .i64 r_11.1.Kind, .int .i64 r_11.1.From, .int .i64 r_11.1.To, .int .u64 r_11.1.Term, .int .u64 r_11.1.Index, .int .u64 r_11.1.Prev, .int .u64 r_11.1.Commit, .bool r_11.1.Ok, .slice A_12 r_11.1.Entries.length c_13, .string (bs r_11.1.Data)]⟩, ⟨40, b_2, [.slice A_14 r_11.2.2.l.length c_15, .int .i64 r_11.2.2.lost]⟩]) (ps := []) (by kernel_rfl) trivial ?_
            refine GoO.regionEnd ?_
            exact GoO.ret' (h := c14_12e) (hs := []) (ps := []) (hk := []) (bk := []) Try.func14 () (by kernel_rfl) trivial (by kernel_rfl) (by kernel_rfl)
        · refine GoO.exec (is := [13, 14, 15, 16, 17, 18, 19, 20]) (hs := [.p, .p, .p, .p, .p, .p, .p, .p]) (rest := []) (ks := [0]) (env' := [(0, .bool false)]) (H' := [⟨42, b_16, [.int .i64 r_11.1.Kind, .int .i64 r_11.1.From, .int .i64 r_11.1.To, .int .u64 r_11.1.Term, .int .u64 r_11.1.Index, .int .u64 r_11.1.Prev, .int .u64 r_11.1.Commit, .bool r_11.1.Ok, .slice A_12 r_11.1.Entries.length c_13, .string (bs r_11.1.Data)]⟩, ⟨40, b_2, [.slice A_14 r_11.2.2.l.length c_15, .int .i64 r_11.2.2.lost]⟩]) (ps := []) (by kernel_rfl) trivial ?_
          refine GoO.regionEnd ?_
          exact GoO.ret' (h := c14_12e) (hs := []) (ps := []) (hk := []) (bk := []) Try.func14 () (by kernel_rfl) trivial (by kernel_rfl) (by kernel_rfl)
      · refine GoO.exec (is := [8, 9, 10, 11, 12, 13, 14, 15, 16, 17, 18, 19, 20]) (hs := [.p, .p, .p, .p, .p, .p, .p, .p, .p, .p, .p, .p, .p]) (rest := []) (ks := [0]) (env' := [(0, .bool false)]) (H' := [⟨42, b_16, [.int .i64 r_11.1.Kind, .int .i64 r_11.1.From, .int .i64 r_11.1.To, .int .u64 r_11.1.Term, .int .u64 r_11.1.Index, .int .u64 r_11.1.Prev, .int .u64 r_11.1.Commit, .bool r_11.1.Ok, .slice A_12 r_11.1.Entries.length c_13, .string (bs r_11.1.Data)]⟩, ⟨40, b_2, [.slice A_14 r_11.2.2.l.length c_15, .int .i64 r_11.2.2.lost]⟩]) (ps := []) (by kernel_rfl) trivial ?_
        refine GoO.regionEnd ?_
        exact GoO.ret' (h := c14_12e) (hs := []) (ps := []) (hk := []) (bk := []) Try.func14 () (by kernel_rfl) trivial (by kernel_rfl) (by kernel_rfl)
    · refine GoO.exec (is := [5, 6, 7, 8, 9, 10, 11, 12, 13, 14, 15, 16, 17, 18, 19, 20]) (hs := [.p, .p, .p, .p, .p, .p, .p, .p, .p, .p, .p, .p, .p, .p, .p, .p]) (rest := []) (ks := [0]) (env' := [(0, .bool false)]) (H' := [⟨42, b_16, [.int .i64 r_11.1.Kind, .int .i64 r_11.1.From, .int .i64 r_11.1.To, .int .u64 r_11.1.Term, .int .u64 r_11.1.Index, .int .u64 r_11.1.Prev, .int .u64 r_11.1.Commit, .bool r_11.1.Ok, .slice A_12 r_11.1.Entries.length c_13, .string (bs r_11.1.Data)]⟩, ⟨40, b_2, [.slice A_14 r_11.2.2.l.length c_15, .int .i64 r_11.2.2.lost]⟩]) (ps := []) (by kernel_rfl) trivial ?_
      refine GoO.regionEnd ?_
      exact GoO.ret' (h := c14_12e) (hs := []) (ps := []) (hk := []) (bk := []) Try.func14 () (by kernel_rfl) trivial (by kernel_rfl) (by kernel_rfl)
  · refine GoO.exec (is := [2, 3, 4, 5, 6, 7, 8, 9, 10, 11, 12, 13, 14, 15, 16, 17, 18, 19, 20]) (hs := [.p, .p, .p, .p, .p, .p, .p, .p, .p, .p, .p, .p, .p, .p, .p, .p, .p, .p, .p]) (rest := []) (ks := [0]) (env' := [(0, .bool false)]) (H' := [⟨42, b_16, [.int .i64 r_11.1.Kind, .int .i64 r_11.1.From, .int .i64 r_11.1.To, .int .u64 r_11.1.Term, .int .u64 r_11.1.Index, .int .u64 r_11.1.Prev, .int .u64 r_11.1.Commit, .bool r_11.1.Ok, .slice A_12 r_11.1.Entries.length c_13, .string (bs r_11.1.Data)]⟩, ⟨40, b_2, [.slice A_14 r_11.2.2.l.length c_15, .int .i64 r_11.2.2.lost]⟩]) (ps := []) (by kernel_rfl) trivial ?_
    refine GoO.regionEnd ?_
    exact GoO.ret' (h := c14_12e) (hs := []) (ps := []) (hk := []) (bk := []) Try.func14 () (by kernel_rfl) trivial (by kernel_rfl) (by kernel_rfl)

/-! (*tontine/net.Net).Lose -/
noncomputable def c34_0 : Code := bodyOf Try.f34
noncomputable def c34_1 : Code := cdL c34_0
noncomputable def c34_2 : Code := cdR c34_0
noncomputable def c34_3 : Code := cdL c34_2
noncomputable def c34_4 : Code := cdR c34_2
noncomputable def c34_5 : Code := cdL c34_4
noncomputable def c34_6 : Code := cdL c34_5
noncomputable def c34_7 : Code := cdR c34_5
noncomputable def c34_8 : Code := cdL c34_7
noncomputable def c34_9 : Code := cdR c34_7
noncomputable def c34_10 : Code := cdR c34_4
noncomputable def c34_11 : Code := cdL c34_10
noncomputable def c34_12 : Code := cdR c34_10
noncomputable def r34_1 : Array Oper := cdO c34_1
noncomputable def r34_3 : Array Oper := cdO c34_3
noncomputable def r34_6 : Array Oper := cdO c34_6
noncomputable def r34_8 : Array Oper := cdO c34_8
noncomputable def r34_11 : Array Oper := cdO c34_11
theorem c34_0e : c34_0 = .seq c34_1 c34_2 := by kernel_rfl
theorem c34_1e : c34_1 = .region 0 r34_1 false := by kernel_rfl
theorem c34_2e : c34_2 = .seq c34_3 c34_4 := by kernel_rfl
theorem c34_3e : c34_3 = .region 1 r34_3 false := by kernel_rfl
theorem c34_4e : c34_4 = .seq c34_5 c34_10 := by kernel_rfl
theorem c34_5e : c34_5 = .seq c34_6 c34_7 := by kernel_rfl
theorem c34_6e : c34_6 = .region 2 r34_6 false := by kernel_rfl
theorem c34_7e : c34_7 = .cond (cdC c34_7) c34_8 c34_9 := by kernel_rfl
theorem c34_8e : c34_8 = .region 3 r34_8 false := by kernel_rfl
theorem c34_9e : c34_9 = .skip := by kernel_rfl
theorem c34_10e : c34_10 = .seq c34_11 c34_12 := by kernel_rfl
theorem c34_11e : c34_11 = .region 4 r34_11 false := by kernel_rfl
theorem c34_12e : c34_12 = .ret := by kernel_rfl
noncomputable def net_Net_Lose.R (b_2 : Nat) (A_3 : Option Addr) (c_4 : Nat) : Pst (Bool × T_net_Net) where
  ε := Option Addr × Nat
  v := fun r x => .bool r.1
  H := fun r x => [⟨1, b_2, [.slice x.1 r.2.l.length x.2, .int .i64 r.2.lost]⟩]
  B := fun r x => [Ow 2 kT_api_Letter x.1 x.2 r.2.l]
noncomputable def net_Net_Lose.cx (b_2 : Nat) (A_3 : Option Addr) (c_4 : Nat) (w0 : World) (S0 : Fam) : Cx (Bool × T_net_Net) := ⟨Try.prog, 34, Try.f34, 22, w0, S0, [1, 2], 2, net_Net_Lose.R b_2 A_3 c_4⟩
theorem net_Net_Lose_ok (n : Nat) (n_1 : T_net_Net) (i_5 : Int) (b_2 : Nat) (A_3 : Option Addr) (c_4 : Nat) :
    Meets Try.prog 34 [.pointer (some ⟨b_2, 0, none⟩), .int .i64 i_5] 2 [1, 2] [⟨1, b_2, [.slice A_3 n_1.l.length c_4, .int .i64 n_1.lost]⟩] [Ow 2 kT_api_Letter A_3 c_4 n_1.l] (net_Net_Lose.f n n_1 i_5) (net_Net_Lose.R b_2 A_3 c_4) := by
  refine Meets.of (c := c34_0) (n := 22) Try.func34 (by kernel_rfl) (by kernel_rfl) (by kernel_rfl) fun w0 S0 => ?_
  unfold net_Net_Lose.f
  show GoO (net_Net_Lose.cx b_2 A_3 c_4 w0 S0) [(0, .pointer (some ⟨b_2, 0, none⟩)), (1, .int .i64 i_5)] [⟨1, b_2, [.slice A_3 n_1.l.length c_4, .int .i64 n_1.lost]⟩] [Ow 2 kT_api_Letter A_3 c_4 n_1.l] [.code c34_0] _
  refine GoO.seq' c34_0e ?_
  refine GoO.region' (is := [0]) c34_1e (by kernel_rfl) ?_
  refine GoO.exec (is := [0]) (hs := [.p]) (rest := []) (ks := [0, 1]) (env' := [(0, .pointer (some ⟨b_2, 0, none⟩)), (1, .int .i64 i_5)]) (H' := [⟨1, b_2, [.slice A_3 n_1.l.length c_4, .int .i64 n_1.lost]⟩]) (ps := []) (by kernel_rfl) trivial ?_
  refine GoO.regionEnd ?_
  refine GoO.seq' c34_2e ?_
  refine GoO.region' (is := [0, 1, 2, 3, 4, 5, 6, 7, 8]) c34_3e (by kernel_rfl) ?_
  refine GoO.exec (is := [0, 1]) (hs := [.p, .p]) (rest := [2, 3, 4, 5, 6, 7, 8]) (ks := [0, 8, 9]) (env' := [(0, .pointer (some ⟨b_2, 0, none⟩)), (8, .pointer (some ⟨b_2, 0, none⟩)), (9, .int .i64 i_5)]) (H' := [⟨1, b_2, [.slice A_3 n_1.l.length c_4, .int .i64 n_1.lost]⟩]) (ps := []) (by kernel_rfl) trivial ?_
  refine OpTo.go (GoO.call rfl (by kernel_rfl) (by kernel_rfl) (net_Net_Take_ok n n_1 i_5 b_2 A_3 c_4) [[0], [1], [2]] [(1, 1), (2, 2)] [(1, 0)] [(2, 0)] (hks := []) (bks := []) (by kernel_rfl) (by kernel_rfl) (by kernel_rfl) (.inl rfl) rfl rfl (by kernel_rfl) (by kernel_rfl) _ (fun _ _ => rfl) _ _ (fun _ _ => rfl) (fun _ _ => rfl) (fun _ _ => by kernel_rfl) (fun _ _ => by kernel_rfl) (fun r_6 x_13 => ?_))
  obtain ⟨A_7, c_8, A_9, c_10⟩ := x_13
  refine GoO.shape (env' := [(0, .pointer (some ⟨b_2, 0, none⟩)), (8, .pointer (some ⟨b_2, 0, none⟩)), (9, .int .i64 i_5), (10, .tuple ⟨[.agg ⟨[.int .i64 r_6.1.Kind, .int .i64 r_6.1.From, .int .i64 r_6.1.To, .int .u64 r_6.1.Term, .int .u64 r_6.1.Index, .int .u64 r_6.1.Prev, .int .u64 r_6.1.Commit, .bool r_6.1.Ok, .slice A_7 r_6.1.Entries.length c_8, .string (bs r_6.1.Data)]⟩, .bool r_6.2.1]⟩)]) (H' := [⟨1, b_2, [.slice A_9 r_6.2.2.l.length c_10, .int .i64 r_6.2.2.lost]⟩]) (B' := [Rd 0 kT_api_Entry A_7 c_8 r_6.1.Entries, Ow 2 kT_api_Letter A_9 c_10 r_6.2.2.l]) (ks := [0, 8, 9, 10]) (by kernel_rfl) (by kernel_rfl) (by kernel_rfl) ?_
  refine GoO.exec (is := [3, 4, 5]) (hs := [.p, .p, .p]) (rest := [6, 7, 8]) (ks := [0, 11, 12]) (env' := [(0, .pointer (some ⟨b_2, 0, none⟩)), (11, .agg ⟨[.int .i64 r_6.1.Kind, .int .i64 r_6.1.From, .int .i64 r_6.1.To, .int .u64 r_6.1.Term, .int .u64 r_6.1.Index, .int .u64 r_6.1.Prev, .int .u64 r_6.1.Commit, .bool r_6.1.Ok, .slice A_7 r_6.1.Entries.length c_8, .string (bs r_6.1.Data)]⟩), (12, .bool r_6.2.1)]) (H' := [⟨1, b_2, [.slice A_9 r_6.2.2.l.length c_10, .int .i64 r_6.2.2.lost]⟩]) (ps := []) (by kernel_rfl) trivial ?_
  refine OpTo.go (GoO.new rfl 40 (cs := [.int .i64 0, .int .i64 0, .int .i64 0, .int .u64 0, .int .u64 0, .int .u64 0, .int .u64 0, .bool false, .slice none ([] : List T_api_Entry).length 0, .string (bs [])]) (by kernel_rfl) _ (fun _ => rfl) (fun b_11 => ?_))
  refine GoO.exec (is := [7, 8]) (hs := [.b 0, .p]) (rest := []) (ks := [0, 6]) (env' := [(0, .pointer (some ⟨b_2, 0, none⟩)), (6, .bool r_6.2.1)]) (H' := [⟨40, b_11, [.int .i64 r_6.1.Kind, .int .i64 r_6.1.From, .int .i64 r_6.1.To, .int .u64 r_6.1.Term, .int .u64 r_6.1.Index, .int .u64 r_6.1.Prev, .int .u64 r_6.1.Commit, .bool r_6.1.Ok, .slice A_7 r_6.1.Entries.length c_8, .string (bs r_6.1.Data)]⟩, ⟨1, b_2, [.slice A_9 r_6.2.2.l.length c_10, .int .i64 r_6.2.2.lost]⟩]) (ps := [b_11 = b_11]) (by kernel_rfl) (And.intro rfl trivial) ?_
  refine GoO.regionEnd ?_
  refine GoO.seq' c34_4e ?_
  refine GoO.seq' c34_5e ?_
  refine GoO.region' (is := [0]) c34_6e (by kernel_rfl) ?_
  refine GoO.exec (is := [0]) (hs := [.p]) (rest := []) (ks := [0, 6, 13]) (env' := [(0, .pointer (some ⟨b_2, 0, none⟩)), (6, .bool r_6.2.1), (13, .bool r_6.2.1)]) (H' := [⟨40, b_11, [.int .i64 r_6.1.Kind, .int .i64 r_6.1.From, .int .i64 r_6.1.To, .int .u64 r_6.1.Term, .int .u64 r_6.1.Index, .int .u64 r_6.1.Prev, .int .u64 r_6.1.Commit, .bool r_6.1.Ok, .slice A_7 r_6.1.Entries.length c_8, .string (bs r_6.1.Data)]⟩, ⟨1, b_2, [.slice A_9 r_6.2.2.l.length c_10, .int .i64 r_6.2.2.lost]⟩]) (ps := []) (by kernel_rfl) trivial ?_
  refine GoO.regionEnd ?_
  refine GoO.ite' c34_7e (by kernel_rfl) (fun h12 => ?_) (fun h12 => ?_)
  · refine GoO.region' (is := [0, 1, 2, 3, 4, 5, 6, 7]) c34_8e (by kernel_rfl) ?_
    refine GoO.exec (is := [0, 1, 2, 3, 4, 5, 6, 7]) (hs := [.p, .p, .p, .b 1, .p, .p, .p, .b 1]) (rest := []) (ks := [6]) (env' := [(6, .bool r_6.2.1)]) (H' := [⟨40, b_11, [.int .i64 r_6.1.Kind, .int .i64 r_6.1.From, .int .i64 r_6.1.To, .int .u64 r_6.1.Term, .int .u64 r_6.1.Index, .int .u64 r_6.1.Prev, .int .u64 r_6.1.Commit, .bool r_6.1.Ok, .slice A_7 r_6.1.Entries.length c_8, .string (bs r_6.1.Data)]⟩, ⟨1, b_2, [.slice A_9 r_6.2.2.l.length c_10, .int .i64 (wi64 (r_6.2.2.lost + 1))]⟩]) (ps := [b_2 = b_2, b_2 = b_2]) (by kernel_rfl) (And.intro rfl (And.intro rfl trivial)) ?_
    refine GoO.regionEnd ?_
    refine GoO.seq' c34_10e ?_
    refine GoO.region' (is := [0, 1]) c34_11e (by kernel_rfl) ?_
    refine GoO.exec (is := [0, 1]) (hs := [.p, .p]) (rest := []) (ks := [4]) (env' := [(4, .bool r_6.2.1)]) (H' := [⟨40, b_11, [.int .i64 r_6.1.Kind, .int .i64 r_6.1.From, .int .i64 r_6.1.To, .int .u64 r_6.1.Term, .int .u64 r_6.1.Index, .int .u64 r_6.1.Prev, .int .u64 r_6.1.Commit, .bool r_6.1.Ok, .slice A_7 r_6.1.Entries.length c_8, .string (bs r_6.1.Data)]⟩, ⟨1, b_2, [.slice A_9 r_6.2.2.l.length c_10, .int .i64 (wi64 (r_6.2.2.lost + 1))]⟩]) (ps := []) (by kernel_rfl) trivial ?_
    refine GoO.regionEnd ?_
    exact GoO.ret' (h := c34_12e) (hs := []) (ps := []) (hk := [1]) (bk := [1]) Try.func34 (⟨A_9, c_10⟩ : Option Addr × Nat) (by kernel_rfl) trivial (by kernel_rfl) (by kernel_rfl)
  · refine GoO.skip' c34_9e ?_
    refine GoO.seq' c34_10e ?_
    refine GoO.region' (is := [0, 1]) c34_11e (by kernel_rfl) ?_
    refine GoO.exec (is := [0, 1]) (hs := [.p, .p]) (rest := []) (ks := [4]) (env' := [(4, .bool r_6.2.1)]) (H' := [⟨40, b_11, [.int .i64 r_6.1.Kind, .int .i64 r_6.1.From, .int .i64 r_6.1.To, .int .u64 r_6.1.Term, .int .u64 r_6.1.Index, .int .u64 r_6.1.Prev, .int .u64 r_6.1.Commit, .bool r_6.1.Ok, .slice A_7 r_6.1.Entries.length c_8, .string (bs r_6.1.Data)]⟩, ⟨1, b_2, [.slice A_9 r_6.2.2.l.length c_10, .int .i64 r_6.2.2.lost]⟩]) (ps := []) (by kernel_rfl) trivial ?_
    refine GoO.regionEnd ?_
    exact GoO.ret' (h := c34_12e) (hs := []) (ps := []) (hk := [1]) (bk := [1]) Try.func34 (⟨A_9, c_10⟩ : Option Addr × Nat) (by kernel_rfl) trivial (by kernel_rfl) (by kernel_rfl)

/-! (*tontine/net.Net).Double -/
noncomputable def c18_0 : Code := bodyOf Try.f18
noncomputable def c18_1 : Code := cdL c18_0
noncomputable def c18_2 : Code := cdR c18_0
noncomputable def c18_3 : Code := cdL c18_2
noncomputable def c18_4 : Code := cdR c18_2
noncomputable def c18_5 : Code := cdL c18_4
noncomputable def c18_6 : Code := cdL c18_5
noncomputable def c18_7 : Code := cdR c18_5
noncomputable def c18_8 : Code := cdL c18_7
noncomputable def c18_9 : Code := cdL c18_8
noncomputable def c18_10 : Code := cdR c18_8
noncomputable def c18_11 : Code := cdR c18_7
noncomputable def c18_12 : Code := cdR c18_4
noncomputable def c18_13 : Code := cdL c18_12
noncomputable def c18_14 : Code := cdR c18_12
noncomputable def r18_1 : Array Oper := cdO c18_1
noncomputable def r18_3 : Array Oper := cdO c18_3
noncomputable def r18_6 : Array Oper := cdO c18_6
noncomputable def r18_9 : Array Oper := cdO c18_9
noncomputable def r18_13 : Array Oper := cdO c18_13
theorem c18_0e : c18_0 = .seq c18_1 c18_2 := by kernel_rfl
theorem c18_1e : c18_1 = .region 0 r18_1 false := by kernel_rfl
theorem c18_2e : c18_2 = .seq c18_3 c18_4 := by kernel_rfl
theorem c18_3e : c18_3 = .region 1 r18_3 false := by kernel_rfl
theorem c18_4e : c18_4 = .seq c18_5 c18_12 := by kernel_rfl
theorem c18_5e : c18_5 = .seq c18_6 c18_7 := by kernel_rfl
theorem c18_6e : c18_6 = .region 2 r18_6 false := by kernel_rfl
theorem c18_7e : c18_7 = .cond (cdC c18_7) c18_8 c18_11 := by kernel_rfl
theorem c18_8e : c18_8 = .seq c18_9 c18_10 := by kernel_rfl
theorem c18_9e : c18_9 = .region 3 r18_9 false := by kernel_rfl
theorem c18_10e : c18_10 = .ret := by kernel_rfl
theorem c18_11e : c18_11 = .skip := by kernel_rfl
theorem c18_12e : c18_12 = .seq c18_13 c18_14 := by kernel_rfl
theorem c18_13e : c18_13 = .region 4 r18_13 false := by kernel_rfl
theorem c18_14e : c18_14 = .ret := by kernel_rfl
noncomputable def net_Net_Double.R (b_2 : Nat) (A_3 : Option Addr) (c_4 : Nat) : Pst (Bool × T_net_Net) where
  ε := Option Addr × Nat
  v := fun r x => .bool r.1
  H := fun r x => [⟨1, b_2, [.slice x.1 r.2.l.length x.2, .int .i64 r.2.lost]⟩]
  B := fun r x => [Ow 2 kT_api_Letter x.1 x.2 r.2.l]
noncomputable def net_Net_Double.cx (b_2 : Nat) (A_3 : Option Addr) (c_4 : Nat) (w0 : World) (S0 : Fam) : Cx (Bool × T_net_Net) := ⟨Try.prog, 18, Try.f18, 20, w0, S0, [1, 2], 2, net_Net_Double.R b_2 A_3 c_4⟩
theorem net_Net_Double_ok (n : Nat) (n_1 : T_net_Net) (i_5 : Int) (b_2 : Nat) (A_3 : Option Addr) (c_4 : Nat) :
    Meets Try.prog 18 [.pointer (some ⟨b_2, 0, none⟩), .int .i64 i_5] 2 [1, 2] [⟨1, b_2, [.slice A_3 n_1.l.length c_4, .int .i64 n_1.lost]⟩] [Ow 2 kT_api_Letter A_3 c_4 n_1.l] (net_Net_Double.f n n_1 i_5) (net_Net_Double.R b_2 A_3 c_4) := by
  refine Meets.of (c := c18_0) (n := 20) Try.func18 (by kernel_rfl) (by kernel_rfl) (by kernel_rfl) fun w0 S0 => ?_
  unfold net_Net_Double.f
  show GoO (net_Net_Double.cx b_2 A_3 c_4 w0 S0) [(0, .pointer (some ⟨b_2, 0, none⟩)), (1, .int .i64 i_5)] [⟨1, b_2, [.slice A_3 n_1.l.length c_4, .int .i64 n_1.lost]⟩] [Ow 2 kT_api_Letter A_3 c_4 n_1.l] [.code c18_0] _
  refine GoO.seq' c18_0e ?_
  refine GoO.region' (is := [0]) c18_1e (by kernel_rfl) ?_
  refine GoO.exec (is := [0]) (hs := [.p]) (rest := []) (ks := [0, 1]) (env' := [(0, .pointer (some ⟨b_2, 0, none⟩)), (1, .int .i64 i_5)]) (H' := [⟨1, b_2, [.slice A_3 n_1.l.length c_4, .int .i64 n_1.lost]⟩]) (ps := []) (by kernel_rfl) trivial ?_
  refine GoO.regionEnd ?_
  refine GoO.seq' c18_2e ?_
  refine GoO.region' (is := [0, 1, 2, 3]) c18_3e (by kernel_rfl) ?_
  refine GoO.exec (is := [0, 1]) (hs := [.p, .p]) (rest := [2, 3]) (ks := [0, 6, 7]) (env' := [(0, .pointer (some ⟨b_2, 0, none⟩)), (6, .pointer (some ⟨b_2, 0, none⟩)), (7, .int .i64 i_5)]) (H' := [⟨1, b_2, [.slice A_3 n_1.l.length c_4, .int .i64 n_1.lost]⟩]) (ps := []) (by kernel_rfl) trivial ?_
  refine OpTo.go (GoO.call rfl (by kernel_rfl) (by kernel_rfl) (net_Net_place_ok n n_1 i_5 b_2 A_3 c_4) [[0], [1], [2]] [] [(1, 0)] [(2, 0)] (hks := [0]) (bks := [0]) (by kernel_rfl) (by kernel_rfl) (by kernel_rfl) (.inl rfl) rfl rfl (by kernel_rfl) (by kernel_rfl) _ (fun _ _ => rfl) _ _ (fun _ _ => rfl) (fun _ _ => rfl) (fun _ _ => by kernel_rfl) (fun _ _ => by kernel_rfl) (fun r_6 x_15 => ?_))
  refine GoO.shape (env' := [(0, .pointer (some ⟨b_2, 0, none⟩)), (6, .pointer (some ⟨b_2, 0, none⟩)), (7, .int .i64 i_5), (8, .int .i64 r_6)]) (H' := [⟨1, b_2, [.slice A_3 n_1.l.length c_4, .int .i64 n_1.lost]⟩]) (B' := [Ow 2 kT_api_Letter A_3 c_4 n_1.l]) (ks := [0, 6, 7, 8]) (by kernel_rfl) (by kernel_rfl) (by kernel_rfl) ?_
  refine GoO.exec (is := [3]) (hs := [.p]) (rest := []) (ks := [0, 5]) (env' := [(0, .pointer (some ⟨b_2, 0, none⟩)), (5, .int .i64 r_6)]) (H' := [⟨1, b_2, [.slice A_3 n_1.l.length c_4, .int .i64 n_1.lost]⟩]) (ps := []) (by kernel_rfl) trivial ?_
  refine GoO.regionEnd ?_
  refine GoO.seq' c18_4e ?_
  refine GoO.seq' c18_5e ?_
  refine GoO.region' (is := [0, 1]) c18_6e (by kernel_rfl) ?_
  refine GoO.exec (is := [0, 1]) (hs := [.p, .p]) (rest := []) (ks := [0, 5, 10]) (env' := [(0, .pointer (some ⟨b_2, 0, none⟩)), (5, .int .i64 r_6), (10, .bool (decide (r_6 < 0)))]) (H' := [⟨1, b_2, [.slice A_3 n_1.l.length c_4, .int .i64 n_1.lost]⟩]) (ps := []) (by kernel_rfl) trivial ?_
  refine GoO.regionEnd ?_
  refine GoO.ite' c18_7e (by kernel_rfl) (fun h7 => ?_) (fun h7 => ?_)
  · refine GoO.seq' c18_8e ?_
    refine GoO.region' (is := [0]) c18_9e (by kernel_rfl) ?_
    refine GoO.exec (is := [0]) (hs := [.p]) (rest := []) (ks := [4]) (env' := [(4, .bool false)]) (H' := [⟨1, b_2, [.slice A_3 n_1.l.length c_4, .int .i64 n_1.lost]⟩]) (ps := []) (by kernel_rfl) trivial ?_
    refine GoO.regionEnd ?_
    exact GoO.ret' (h := c18_10e) (hs := []) (ps := []) (hk := [0]) (bk := [0]) Try.func18 (⟨A_3, c_4⟩ : Option Addr × Nat) (by kernel_rfl) trivial (by kernel_rfl) (by kernel_rfl)
  · refine GoO.skip' c18_11e ?_
    refine GoO.seq' c18_12e ?_
    refine GoO.region' (is := [0, 1, 2, 3, 4, 5, 6, 7, 8, 9]) c18_13e (by kernel_rfl) ?_
    refine GoO.exec (is := [0, 1, 2, 3, 4, 5]) (hs := [.p, .p, .p, .p, .b 0, .p]) (rest := [6, 7, 8, 9]) (ks := [11, 15, 16]) (env' := [(11, .pointer (some ⟨b_2, 0, none⟩)), (15, .slice A_3 n_1.l.length c_4), (16, .int .i64 r_6)]) (H' := [⟨1, b_2, [.slice A_3 n_1.l.length c_4, .int .i64 n_1.lost]⟩]) (ps := [b_2 = b_2]) (by kernel_rfl) (And.intro rfl trivial) ?_
    refine GoO.guard (fun h8 => ?_)
    refine OpTo.go (GoO.idx (kk := .i64) (e := 29) (K := kT_api_Letter) (A := A_3) (c := c_4) (xs := n_1.l) (iv := r_6) (j := 0) rfl (by kernel_rfl) (by kernel_rfl) (by kernel_rfl) (by kernel_rfl) rfl Reads.own rfl h8.1 h8.2 (by decide) rfl ?_)
    refine OpTo.go (GoO.ldE' (K := kT_api_Letter) (A := A_3) (c := c_4) (xs := n_1.l) (iN := r_6.toNat) (off := 0) (j := 0) rfl (by kernel_rfl) rfl Reads.own (idx_lt h8.1 h8.2) (by decide) (oT_api_Letter _) (v := fun e => .agg ⟨[.int .i64 ((rdL n_1.l r_6).Kind), .int .i64 ((rdL n_1.l r_6).From), .int .i64 ((rdL n_1.l r_6).To), .int .u64 ((rdL n_1.l r_6).Term), .int .u64 ((rdL n_1.l r_6).Index), .int .u64 ((rdL n_1.l r_6).Prev), .int .u64 ((rdL n_1.l r_6).Commit), .bool ((rdL n_1.l r_6).Ok), .slice e.1 ((rdL n_1.l r_6).Entries).length e.2, .string (bs ((rdL n_1.l r_6).Data))]⟩) (fun _ => by kernel_rfl) _ (fun _ => rfl) ?_)
    rintro ⟨A_9, c_10⟩
    refine OpTo.go (GoO.call rfl (by kernel_rfl) (by kernel_rfl) (net_Net_Send_ok n n_1 (rdL n_1.l r_6) b_2 A_3 c_4 A_9 c_10) [[0], [1], [2]] [(1, 1), (2, 2)] [(1, 0)] [(2, 1), (0, 0)] (hks := []) (bks := [0]) (by kernel_rfl) (by kernel_rfl) (by kernel_rfl) (.inl rfl) rfl rfl (by kernel_rfl) (by kernel_rfl) _ (fun _ _ => rfl) _ _ (fun _ _ => rfl) (fun _ _ => rfl) (fun _ _ => by kernel_rfl) (fun _ _ => by kernel_rfl) (fun r_11 x_14 => ?_))
    obtain ⟨A_12, c_13⟩ := x_14
    refine GoO.shape (env' := [(11, .pointer (some ⟨b_2, 0, none⟩)), (16, .int .i64 r_6), (18, .agg ⟨[.int .i64 ((rdL n_1.l r_6).Kind), .int .i64 ((rdL n_1.l r_6).From), .int .i64 ((rdL n_1.l r_6).To), .int .u64 ((rdL n_1.l r_6).Term), .int .u64 ((rdL n_1.l r_6).Index), .int .u64 ((rdL n_1.l r_6).Prev), .int .u64 ((rdL n_1.l r_6).Commit), .bool ((rdL n_1.l r_6).Ok), .slice A_9 ((rdL n_1.l r_6).Entries).length c_10, .string (bs ((rdL n_1.l r_6).Data))]⟩), (19, .bool r_11.1)]) (H' := [⟨1, b_2, [.slice A_12 r_11.2.l.length c_13, .int .i64 r_11.2.lost]⟩]) (B' := [Ow 2 kT_api_Letter A_12 c_13 r_11.2.l, Rd 0 kT_api_Entry A_9 c_10 ((rdL n_1.l r_6).Entries)]) (ks := [11, 16, 18, 19]) (by kernel_rfl) (by kernel_rfl) (by kernel_rfl) ?_
    refine GoO.exec (is := [9]) (hs := [.p]) (rest := []) (ks := [4]) (env' := [(4, .bool r_11.1)]) (H' := [⟨1, b_2, [.slice A_12 r_11.2.l.length c_13, .int .i64 r_11.2.lost]⟩]) (ps := []) (by kernel_rfl) trivial ?_
    refine GoO.regionEnd ?_
    exact GoO.ret' (h := c18_14e) (hs := []) (ps := []) (hk := [0]) (bk := [0]) Try.func18 (⟨A_12, c_13⟩ : Option Addr × Nat) (by kernel_rfl) trivial (by kernel_rfl) (by kernel_rfl)

/-! (*tontine/net.Net).All -/
noncomputable def c37_0 : Code := bodyOf Try.f37
noncomputable def c37_1 : Code := cdL c37_0
noncomputable def c37_2 : Code := cdR c37_0
noncomputable def c37_3 : Code := cdL c37_2
noncomputable def c37_4 : Code := cdL c37_3
noncomputable def c37_5 : Code := cdR c37_3
noncomputable def c37_9 : Code := cdR c37_5
noncomputable def c37_10 : Code := cdR c37_2
noncomputable def c37_11 : Code := cdL c37_10
noncomputable def c37_12 : Code := cdR c37_10
noncomputable def c37_13 : Code := cdL c37_12
noncomputable def c37_14 : Code := cdL c37_13
noncomputable def c37_15 : Code := cdR c37_13
noncomputable def c37_16 : Code := cdL c37_15
noncomputable def c37_17 : Code := cdL c37_16
noncomputable def c37_18 : Code := cdL c37_17
noncomputable def c37_19 : Code := cdR c37_17
noncomputable def c37_20 : Code := cdL c37_19
noncomputable def c37_21 : Code := cdL c37_20
noncomputable def c37_22 : Code := cdR c37_20
noncomputable def c37_23 : Code := cdR c37_19
noncomputable def c37_24 : Code := cdL c37_23
noncomputable def c37_25 : Code := cdL c37_24
noncomputable def c37_26 : Code := cdL c37_25
noncomputable def c37_27 : Code := cdR c37_25
noncomputable def c37_28 : Code := cdR c37_23
noncomputable def c37_29 : Code := cdR c37_12
noncomputable def c37_30 : Code := cdL c37_29
noncomputable def c37_31 : Code := cdR c37_29
noncomputable def c37_6 : Code := cdL c37_5
noncomputable def r37_1 : Array Oper := cdO c37_1
noncomputable def r37_4 : Array Oper := cdO c37_4
noncomputable def r37_11 : Array Oper := cdO c37_11
noncomputable def r37_14 : Array Oper := cdO c37_14
noncomputable def r37_18 : Array Oper := cdO c37_18
noncomputable def r37_26 : Array Oper := cdO c37_26
noncomputable def r37_27 : Array Oper := cdO c37_27
noncomputable def r37_28 : Array Oper := cdO c37_28
noncomputable def r37_30 : Array Oper := cdO c37_30
theorem c37_0e : c37_0 = .seq c37_1 c37_2 := by kernel_rfl
theorem c37_1e : c37_1 = .region 0 r37_1 false := by kernel_rfl
theorem c37_2e : c37_2 = .seq c37_3 c37_10 := by kernel_rfl
theorem c37_3e : c37_3 = .seq c37_4 c37_5 := by kernel_rfl
theorem c37_4e : c37_4 = .region 1 r37_4 false := by kernel_rfl
theorem c37_5e : c37_5 = .cond (cdC c37_5) c37_6 c37_9 := by kernel_rfl
theorem c37_9e : c37_9 = .skip := by kernel_rfl
theorem c37_10e : c37_10 = .seq c37_11 c37_12 := by kernel_rfl
theorem c37_11e : c37_11 = .region 3 r37_11 false := by kernel_rfl
theorem c37_12e : c37_12 = .seq c37_13 c37_29 := by kernel_rfl
theorem c37_13e : c37_13 = .seq c37_14 c37_15 := by kernel_rfl
theorem c37_14e : c37_14 = .region 4 r37_14 false := by kernel_rfl
theorem c37_15e : c37_15 = .block 0 c37_16 := by kernel_rfl
theorem c37_16e : c37_16 = .loop c37_17 := by kernel_rfl
theorem c37_17e : c37_17 = .seq c37_18 c37_19 := by kernel_rfl
theorem c37_18e : c37_18 = .region 5 r37_18 false := by kernel_rfl
theorem c37_19e : c37_19 = .seq c37_20 c37_23 := by kernel_rfl
theorem c37_20e : c37_20 = .cond (cdC c37_20) c37_21 c37_22 := by kernel_rfl
theorem c37_21e : c37_21 = .skip := by kernel_rfl
theorem c37_22e : c37_22 = .exit 0 := by kernel_rfl
theorem c37_23e : c37_23 = .seq c37_24 c37_28 := by kernel_rfl
theorem c37_24e : c37_24 = .block 1 c37_25 := by kernel_rfl
theorem c37_25e : c37_25 = .seq c37_26 c37_27 := by kernel_rfl
theorem c37_26e : c37_26 = .region 6 r37_26 false := by kernel_rfl
theorem c37_27e : c37_27 = .region 7 r37_27 false := by kernel_rfl
theorem c37_28e : c37_28 = .region 8 r37_28 false := by kernel_rfl
theorem c37_29e : c37_29 = .seq c37_30 c37_31 := by kernel_rfl
theorem c37_30e : c37_30 = .region 9 r37_30 false := by kernel_rfl
theorem c37_31e : c37_31 = .ret := by kernel_rfl
noncomputable def net_Net_All.R (b_2 : Nat) (A_3 : Option Addr) (c_4 : Nat) : Pst (List T_api_Letter) where
  ε := Option Addr × Nat
  v := fun r x => .slice x.1 r.length x.2
  H := fun r x => []
  B := fun r x => [Ow 3 kT_api_Letter x.1 x.2 r]
noncomputable def net_Net_All.cx (b_2 : Nat) (A_3 : Option Addr) (c_4 : Nat) (w0 : World) (S0 : Fam) : Cx (List T_api_Letter) := ⟨Try.prog, 37, Try.f37, 24, w0, S0, [], 2, net_Net_All.R b_2 A_3 c_4⟩
theorem net_Net_All_l0_ok (n : Nat) (n_1 : T_net_Net) (b_2 : Nat) (A_3 : Option Addr) (c_4 : Nat) (w0 : World) (S0 : Fam) :
    ∀ (k : Nat) (l_5 : (List T_api_Letter)) (x_8 : Int) (A_6 : Option Addr) (c_7 : Nat), GoO (net_Net_All.cx b_2 A_3 c_4 w0 S0) [(3, .slice A_6 l_5.length c_7), (11, .slice A_3 n_1.l.length c_4), (12, .int .i64 (n_1.l.length : Int)), (13, .int .i64 x_8)] [⟨1, b_2, [.slice A_3 n_1.l.length c_4, .int .i64 n_1.lost]⟩] [Ow 42 kT_api_Letter A_6 c_7 l_5, Ow 2 kT_api_Letter A_3 c_4 n_1.l] [.code c37_17, .inLoop c37_17, .inBlock 0, .code c37_29] (net_Net_All.l0 n n_1 k l_5 x_8) := by
  intro k
  induction k with
  | zero => intros; rw [net_Net_All.l0.eq_1]; exact GoO.stop
  | succ k ih0 =>
    intro l_5 x_8 A_6 c_7
    rw [net_Net_All.l0.eq_2]
    refine GoO.seq' c37_17e ?_
    refine GoO.region' (is := [0]) c37_18e (by kernel_rfl) ?_
    refine GoO.exec (is := [0]) (hs := [.p]) (rest := []) (ks := [3, 11, 12, 13, 14]) (env' := [(3, .slice A_6 l_5.length c_7), (11, .slice A_3 n_1.l.length c_4), (12, .int .i64 (n_1.l.length : Int)), (13, .int .i64 x_8), (14, .bool (decide (x_8 < (n_1.l.length : Int))))]) (H' := [⟨1, b_2, [.slice A_3 n_1.l.length c_4, .int .i64 n_1.lost]⟩]) (ps := []) (by kernel_rfl) trivial ?_
    refine GoO.regionEnd ?_
    refine GoO.seq' c37_19e ?_
    refine GoO.ite' c37_20e (by kernel_rfl) (fun h9 => ?_) (fun h9 => ?_)
    · refine GoO.skip' c37_21e ?_
      refine GoO.seq' c37_23e ?_
      refine GoO.block' c37_24e ?_
      refine GoO.seq' c37_25e ?_
      refine GoO.region' (is := [0, 1, 2, 3]) c37_26e (by kernel_rfl) ?_
      refine GoO.guard (fun h10 => ?_)
      refine OpTo.go (GoO.idx (kk := .i64) (e := 29) (K := kT_api_Letter) (A := A_3) (c := c_4) (xs := n_1.l) (iv := x_8) (j := 1) rfl (by kernel_rfl) (by kernel_rfl) (by kernel_rfl) (by kernel_rfl) rfl Reads.own rfl h10.1 h10.2 (by decide) rfl ?_)
      refine OpTo.go (GoO.ldE' (K := kT_api_Letter) (A := A_3) (c := c_4) (xs := n_1.l) (iN := x_8.toNat) (off := 0) (j := 1) rfl (by kernel_rfl) rfl Reads.own (idx_lt h10.1 h10.2) (by decide) (oT_api_Letter _) (v := fun e => .agg ⟨[.int .i64 ((rdL n_1.l x_8).Kind), .int .i64 ((rdL n_1.l x_8).From), .int .i64 ((rdL n_1.l x_8).To), .int .u64 ((rdL n_1.l x_8).Term), .int .u64 ((rdL n_1.l x_8).Index), .int .u64 ((rdL n_1.l x_8).Prev), .int .u64 ((rdL n_1.l x_8).Commit), .bool ((rdL n_1.l x_8).Ok), .slice e.1 ((rdL n_1.l x_8).Entries).length e.2, .string (bs ((rdL n_1.l x_8).Data))]⟩) (fun _ => by kernel_rfl) _ (fun _ => rfl) ?_)
      rintro ⟨A_11, c_12⟩
      refine OpTo.go (GoO.new rfl 40 (cs := [.int .i64 0, .int .i64 0, .int .i64 0, .int .u64 0, .int .u64 0, .int .u64 0, .int .u64 0, .bool false, .slice none ([] : List T_api_Entry).length 0, .string (bs [])]) (by kernel_rfl) _ (fun _ => rfl) (fun b_13 => ?_))
      refine GoO.exec (is := [3]) (hs := [.b 0]) (rest := []) (ks := [3, 5, 11, 12, 13]) (env' := [(3, .slice A_6 l_5.length c_7), (5, .pointer (some ⟨b_13, 0, none⟩)), (11, .slice A_3 n_1.l.length c_4), (12, .int .i64 (n_1.l.length : Int)), (13, .int .i64 x_8)]) (H' := [⟨40, b_13, [.int .i64 ((rdL n_1.l x_8).Kind), .int .i64 ((rdL n_1.l x_8).From), .int .i64 ((rdL n_1.l x_8).To), .int .u64 ((rdL n_1.l x_8).Term), .int .u64 ((rdL n_1.l x_8).Index), .int .u64 ((rdL n_1.l x_8).Prev), .int .u64 ((rdL n_1.l x_8).Commit), .bool ((rdL n_1.l x_8).Ok), .slice A_11 ((rdL n_1.l x_8).Entries).length c_12, .string (bs ((rdL n_1.l x_8).Data))]⟩, ⟨1, b_2, [.slice A_3 n_1.l.length c_4, .int .i64 n_1.lost]⟩]) (ps := [b_13 = b_13]) (by kernel_rfl) (And.intro rfl trivial) ?_
      refine GoO.regionEnd ?_
      refine GoO.region' (is := [0, 1, 2, 3, 4, 5]) c37_27e (by kernel_rfl) ?_
      refine GoO.exec (is := [0, 1]) (hs := [.p, .b 0]) (rest := [2, 3, 4, 5]) (ks := [11, 12, 13, 17, 18]) (env' := [(11, .slice A_3 n_1.l.length c_4), (12, .int .i64 (n_1.l.length : Int)), (13, .int .i64 x_8), (17, .slice A_6 l_5.length c_7), (18, .agg ⟨[.int .i64 ((rdL n_1.l x_8).Kind), .int .i64 ((rdL n_1.l x_8).From), .int .i64 ((rdL n_1.l x_8).To), .int .u64 ((rdL n_1.l x_8).Term), .int .u64 ((rdL n_1.l x_8).Index), .int .u64 ((rdL n_1.l x_8).Prev), .int .u64 ((rdL n_1.l x_8).Commit), .bool ((rdL n_1.l x_8).Ok), .slice A_11 ((rdL n_1.l x_8).Entries).length c_12, .string (bs ((rdL n_1.l x_8).Data))]⟩)]) (H' := [⟨40, b_13, [.int .i64 ((rdL n_1.l x_8).Kind), .int .i64 ((rdL n_1.l x_8).From), .int .i64 ((rdL n_1.l x_8).To), .int .u64 ((rdL n_1.l x_8).Term), .int .u64 ((rdL n_1.l x_8).Index), .int .u64 ((rdL n_1.l x_8).Prev), .int .u64 ((rdL n_1.l x_8).Commit), .bool ((rdL n_1.l x_8).Ok), .slice A_11 ((rdL n_1.l x_8).Entries).length c_12, .string (bs ((rdL n_1.l x_8).Data))]⟩, ⟨1, b_2, [.slice A_3 n_1.l.length c_4, .int .i64 n_1.lost]⟩]) (ps := [b_13 = b_13]) (by kernel_rfl) (And.intro rfl trivial) ?_
      refine OpTo.go (GoO.call rfl (by kernel_rfl) (by kernel_rfl) (net_copied_ok n (rdL n_1.l x_8) A_11 c_12) [[0]] [] [] [(0, 0)] (hks := [0, 1]) (bks := [0, 1, 2]) (by kernel_rfl) (by kernel_rfl) (by kernel_rfl) (.inl rfl) rfl rfl (by kernel_rfl) (by kernel_rfl) _ (fun _ _ => rfl) _ _ (fun _ _ => rfl) (fun _ _ => rfl) (fun _ _ => by kernel_rfl) (fun _ _ => by kernel_rfl) (fun r_14 x_22 => ?_))
      obtain ⟨A_15, c_16⟩ := x_22
      refine GoO.shape (env' := [(11, .slice A_3 n_1.l.length c_4), (12, .int .i64 (n_1.l.length : Int)), (13, .int .i64 x_8), (17, .slice A_6 l_5.length c_7), (18, .agg ⟨[.int .i64 ((rdL n_1.l x_8).Kind), .int .i64 ((rdL n_1.l x_8).From), .int .i64 ((rdL n_1.l x_8).To), .int .u64 ((rdL n_1.l x_8).Term), .int .u64 ((rdL n_1.l x_8).Index), .int .u64 ((rdL n_1.l x_8).Prev), .int .u64 ((rdL n_1.l x_8).Commit), .bool ((rdL n_1.l x_8).Ok), .slice A_11 ((rdL n_1.l x_8).Entries).length c_12, .string (bs ((rdL n_1.l x_8).Data))]⟩), (19, .agg ⟨[.int .i64 r_14.Kind, .int .i64 r_14.From, .int .i64 r_14.To, .int .u64 r_14.Term, .int .u64 r_14.Index, .int .u64 r_14.Prev, .int .u64 r_14.Commit, .bool r_14.Ok, .slice A_15 r_14.Entries.length c_16, .string (bs r_14.Data)]⟩)]) (H' := [⟨40, b_13, [.int .i64 ((rdL n_1.l x_8).Kind), .int .i64 ((rdL n_1.l x_8).From), .int .i64 ((rdL n_1.l x_8).To), .int .u64 ((rdL n_1.l x_8).Term), .int .u64 ((rdL n_1.l x_8).Index), .int .u64 ((rdL n_1.l x_8).Prev), .int .u64 ((rdL n_1.l x_8).Commit), .bool ((rdL n_1.l x_8).Ok), .slice A_11 ((rdL n_1.l x_8).Entries).length c_12, .string (bs ((rdL n_1.l x_8).Data))]⟩, ⟨1, b_2, [.slice A_3 n_1.l.length c_4, .int .i64 n_1.lost]⟩]) (B' := [Rd 0 kT_api_Entry A_15 c_16 r_14.Entries, Rd 0 kT_api_Entry A_11 c_12 ((rdL n_1.l x_8).Entries), Ow 42 kT_api_Letter A_6 c_7 l_5, Ow 2 kT_api_Letter A_3 c_4 n_1.l]) (ks := [11, 12, 13, 17, 18, 19]) (by kernel_rfl) (by kernel_rfl) (by kernel_rfl) ?_
      refine OpTo.go (GoO.lit (e := 29) (K := kT_api_Letter) rfl (by kernel_rfl) (by kernel_rfl) (cs := [.int .i64 r_14.Kind, .int .i64 r_14.From, .int .i64 r_14.To, .int .u64 r_14.Term, .int .u64 r_14.Index, .int .u64 r_14.Prev, .int .u64 r_14.Commit, .bool r_14.Ok, .slice A_15 r_14.Entries.length c_16, .string (bs r_14.Data)]) (by kernel_rfl) [r_14] (by kernel_rfl) (by kernel_rfl) (fun w S hB => ⟨[.int .i64 r_14.Kind, .int .i64 r_14.From, .int .i64 r_14.To, .int .u64 r_14.Term, .int .u64 r_14.Index, .int .u64 r_14.Prev, .int .u64 r_14.Commit, .bool r_14.Ok, .slice A_15 r_14.Entries.length c_16, .string (bs r_14.Data)], _, rfl, ⟨A_15, c_16, rfl, hB _ (List.mem_of_getElem? (i := 0) rfl)⟩, rfl⟩) 41 _ (fun _ _ => rfl) (fun A_17 c_18 => ?_))
      refine GoO.guard (fun h19 => ?_)
      refine OpTo.go (GoO.appW (e := 29) (K := kT_api_Letter) (A := A_6) (c := c_7) (tg := 42) (bytes := 104) (zs := [.int .i64 0, .int .i64 0, .int .i64 0, .int .u64 0, .int .u64 0, .int .u64 0, .int .u64 0, .bool false, .slice none 0 0, .string (bs [])]) (xs := l_5) (ys := [r_14]) (xv := .slice A_17 [r_14].length c_18) (j := 3) (bk := [0, 1, 2, 4]) rfl (by kernel_rfl) (by kernel_rfl) (by kernel_rfl) (by kernel_rfl) rfl (by kernel_rfl) rfl (fun w S hB => SrcIs.row (Reads.own w S (hB _ (List.mem_of_getElem? (i := 0) rfl)))) h19 rfl rfl rfl rfl _ (fun _ _ => rfl) (fun A_20 c_21 => ?_))
      refine GoO.exec (is := [5]) (hs := [.p]) (rest := []) (ks := [3, 11, 12, 13]) (env' := [(3, .slice A_20 (l_5 ++ [r_14]).length c_21), (11, .slice A_3 n_1.l.length c_4), (12, .int .i64 (n_1.l.length : Int)), (13, .int .i64 x_8)]) (H' := [⟨40, b_13, [.int .i64 ((rdL n_1.l x_8).Kind), .int .i64 ((rdL n_1.l x_8).From), .int .i64 ((rdL n_1.l x_8).To), .int .u64 ((rdL n_1.l x_8).Term), .int .u64 ((rdL n_1.l x_8).Index), .int .u64 ((rdL n_1.l x_8).Prev), .int .u64 ((rdL n_1.l x_8).Commit), .bool ((rdL n_1.l x_8).Ok), .slice A_11 ((rdL n_1.l x_8).Entries).length c_12, .string (bs ((rdL n_1.l x_8).Data))]⟩, ⟨1, b_2, [.slice A_3 n_1.l.length c_4, .int .i64 n_1.lost]⟩]) (ps := []) (by kernel_rfl) trivial ?_
      refine GoO.regionEnd ?_
      refine GoO.inBlock ?_
      refine GoO.region' (is := [0, 1]) c37_28e (by kernel_rfl) ?_
      refine GoO.exec (is := [0, 1]) (hs := [.p, .p]) (rest := []) (ks := [3, 11, 12, 13]) (env' := [(3, .slice A_20 (l_5 ++ [r_14]).length c_21), (11, .slice A_3 n_1.l.length c_4), (12, .int .i64 (n_1.l.length : Int)), (13, .int .i64 (wi64 (x_8 + 1)))]) (H' := [⟨40, b_13, [.int .i64 ((rdL n_1.l x_8).Kind), .int .i64 ((rdL n_1.l x_8).From), .int .i64 ((rdL n_1.l x_8).To), .int .u64 ((rdL n_1.l x_8).Term), .int .u64 ((rdL n_1.l x_8).Index), .int .u64 ((rdL n_1.l x_8).Prev), .int .u64 ((rdL n_1.l x_8).Commit), .bool ((rdL n_1.l x_8).Ok), .slice A_11 ((rdL n_1.l x_8).Entries).length c_12, .string (bs ((rdL n_1.l x_8).Data))]⟩, ⟨1, b_2, [.slice A_3 n_1.l.length c_4, .int .i64 n_1.lost]⟩]) (ps := []) (by kernel_rfl) trivial ?_
      refine GoO.regionEnd ?_
      refine GoO.inLoop ?_
      exact GoO.sub (ks := [3, 11, 12, 13]) (hk := [1]) (bk := [0, 4]) (by kernel_rfl) (by kernel_rfl) (by kernel_rfl) (ih0 (l_5 ++ [r_14]) (wi64 (x_8 + 1)) A_20 c_21)
    · refine GoO.exit' c37_22e rfl ?_
      refine GoO.seq' c37_29e ?_
      refine GoO.region' (is := [0, 1]) c37_30e (by kernel_rfl) ?_
      refine GoO.exec (is := [0, 1]) (hs := [.p, .p]) (rest := []) (ks := [2]) (env' := [(2, .slice A_6 l_5.length c_7)]) (H' := [⟨1, b_2, [.slice A_3 n_1.l.length c_4, .int .i64 n_1.lost]⟩]) (ps := []) (by kernel_rfl) trivial ?_
      refine GoO.regionEnd ?_
      refine GoO.retag (t := 42) (u := 3) (j := 0) (hk := [0]) (bk := [1]) rfl rfl rfl rfl rfl rfl (by kernel_rfl) (by kernel_rfl) ?_
      exact GoO.ret' (h := c37_31e) (hs := []) (ps := []) (hk := []) (bk := [0]) Try.func37 (⟨A_6, c_7⟩ : Option Addr × Nat) (by kernel_rfl) trivial (by kernel_rfl) (by kernel_rfl)
theorem net_Net_All_ok (n : Nat) (n_1 : T_net_Net) (b_2 : Nat) (A_3 : Option Addr) (c_4 : Nat) :
    Meets Try.prog 37 [.pointer (some ⟨b_2, 0, none⟩)] 2 [] [⟨1, b_2, [.slice A_3 n_1.l.length c_4, .int .i64 n_1.lost]⟩] [Ow 2 kT_api_Letter A_3 c_4 n_1.l] (net_Net_All.f n n_1) (net_Net_All.R b_2 A_3 c_4) := by
  refine Meets.of (c := c37_0) (n := 24) Try.func37 (by kernel_rfl) (by kernel_rfl) (by kernel_rfl) fun w0 S0 => ?_
  unfold net_Net_All.f
  show GoO (net_Net_All.cx b_2 A_3 c_4 w0 S0) [(0, .pointer (some ⟨b_2, 0, none⟩))] [⟨1, b_2, [.slice A_3 n_1.l.length c_4, .int .i64 n_1.lost]⟩] [Ow 2 kT_api_Letter A_3 c_4 n_1.l] [.code c37_0] _
  refine GoO.seq' c37_0e ?_
  refine GoO.region' (is := [0]) c37_1e (by kernel_rfl) ?_
  refine GoO.exec (is := [0]) (hs := [.p]) (rest := []) (ks := [0]) (env' := [(0, .pointer (some ⟨b_2, 0, none⟩))]) (H' := [⟨1, b_2, [.slice A_3 n_1.l.length c_4, .int .i64 n_1.lost]⟩]) (ps := []) (by kernel_rfl) trivial ?_
  refine GoO.regionEnd ?_
  refine GoO.seq' c37_2e ?_
  refine GoO.seq' c37_3e ?_
  refine GoO.region' (is := [0, 1]) c37_4e (by kernel_rfl) ?_
  refine GoO.exec (is := [0, 1]) (hs := [.p, .p]) (rest := []) (ks := [0, 7]) (env' := [(0, .pointer (some ⟨b_2, 0, none⟩)), (7, .bool false)]) (H' := [⟨1, b_2, [.slice A_3 n_1.l.length c_4, .int .i64 n_1.lost]⟩]) (ps := []) (by kernel_rfl) trivial ?_
  refine GoO.regionEnd ?_
  refine GoO.condF c37_5e (by kernel_rfl) ?_
  refine GoO.skip' c37_9e ?_
  refine GoO.seq' c37_10e ?_
  refine GoO.region' (is := [0]) c37_11e (by kernel_rfl) ?_
  refine GoO.exec (is := [0]) (hs := [.p]) (rest := []) (ks := [0, 3]) (env' := [(0, .pointer (some ⟨b_2, 0, none⟩)), (3, .slice none ([] : List T_api_Letter).length 0)]) (H' := [⟨1, b_2, [.slice A_3 n_1.l.length c_4, .int .i64 n_1.lost]⟩]) (ps := []) (by kernel_rfl) trivial ?_
  refine GoO.regionEnd ?_
  refine GoO.seq' c37_12e ?_
  refine GoO.seq' c37_13e ?_
  refine GoO.region' (is := [0, 1, 2, 3, 4, 5]) c37_14e (by kernel_rfl) ?_
  refine GoO.exec (is := [0, 1, 2, 3, 4, 5]) (hs := [.p, .p, .p, .b 0, .p, .p]) (rest := []) (ks := [3, 11, 12, 13]) (env' := [(3, .slice none ([] : List T_api_Letter).length 0), (11, .slice A_3 n_1.l.length c_4), (12, .int .i64 (n_1.l.length : Int)), (13, .int .i64 0)]) (H' := [⟨1, b_2, [.slice A_3 n_1.l.length c_4, .int .i64 n_1.lost]⟩]) (ps := [b_2 = b_2]) (by kernel_rfl) (And.intro rfl trivial) ?_
  refine GoO.regionEnd ?_
  refine GoO.block' c37_15e ?_
  refine GoO.loop' c37_16e ?_
  refine GoO.nilOwn kT_api_Letter 42 ?_
  exact GoO.sub (ks := [3, 11, 12, 13]) (hk := [0]) (bk := [0, 1]) (by kernel_rfl) (by kernel_rfl) (by kernel_rfl) (net_Net_All_l0_ok n n_1 b_2 A_3 c_4 w0 S0 n ([] : List T_api_Letter) 0 none 0)

/-! tontine/tontinelaw10.NetCounts -/
noncomputable def c12_0 : Code := bodyOf Try.f12
noncomputable def c12_1 : Code := cdL c12_0
noncomputable def c12_2 : Code := cdR c12_0
noncomputable def c12_3 : Code := cdL c12_2
noncomputable def c12_4 : Code := cdL c12_3
noncomputable def c12_5 : Code := cdR c12_3
noncomputable def c12_6 : Code := cdL c12_5
noncomputable def c12_7 : Code := cdL c12_6
noncomputable def c12_8 : Code := cdR c12_6
noncomputable def c12_9 : Code := cdR c12_5
noncomputable def c12_10 : Code := cdR c12_2
noncomputable def c12_11 : Code := cdL c12_10
noncomputable def c12_12 : Code := cdR c12_10
noncomputable def c12_13 : Code := cdL c12_12
noncomputable def c12_14 : Code := cdR c12_12
noncomputable def c12_15 : Code := cdL c12_14
noncomputable def c12_16 : Code := cdL c12_15
noncomputable def c12_17 : Code := cdR c12_15
noncomputable def c12_18 : Code := cdL c12_17
noncomputable def c12_19 : Code := cdL c12_18
noncomputable def c12_20 : Code := cdL c12_19
noncomputable def c12_21 : Code := cdR c12_19
noncomputable def c12_22 : Code := cdL c12_21
noncomputable def c12_23 : Code := cdL c12_22
noncomputable def c12_24 : Code := cdR c12_22
noncomputable def c12_25 : Code := cdR c12_21
noncomputable def c12_26 : Code := cdL c12_25
noncomputable def c12_27 : Code := cdL c12_26
noncomputable def c12_28 : Code := cdL c12_27
noncomputable def c12_29 : Code := cdR c12_27
noncomputable def c12_30 : Code := cdL c12_29
noncomputable def c12_31 : Code := cdL c12_30
noncomputable def c12_32 : Code := cdR c12_30
noncomputable def c12_33 : Code := cdL c12_32
noncomputable def c12_34 : Code := cdR c12_32
noncomputable def c12_35 : Code := cdR c12_29
noncomputable def c12_36 : Code := cdL c12_35
noncomputable def c12_37 : Code := cdR c12_35
noncomputable def c12_38 : Code := cdL c12_37
noncomputable def c12_39 : Code := cdR c12_37
noncomputable def c12_40 : Code := cdL c12_39
noncomputable def c12_41 : Code := cdL c12_40
noncomputable def c12_42 : Code := cdR c12_40
noncomputable def c12_43 : Code := cdL c12_42
noncomputable def c12_44 : Code := cdL c12_43
noncomputable def c12_45 : Code := cdR c12_43
noncomputable def c12_46 : Code := cdR c12_42
noncomputable def c12_47 : Code := cdL c12_46
noncomputable def c12_48 : Code := cdR c12_46
noncomputable def c12_49 : Code := cdL c12_48
noncomputable def c12_50 : Code := cdL c12_49
noncomputable def c12_51 : Code := cdR c12_49
noncomputable def c12_52 : Code := cdL c12_51
noncomputable def c12_53 : Code := cdR c12_51
noncomputable def c12_54 : Code := cdL c12_53
noncomputable def c12_55 : Code := cdR c12_53
noncomputable def c12_56 : Code := cdR c12_48
noncomputable def c12_57 : Code := cdL c12_56
noncomputable def c12_58 : Code := cdR c12_56
noncomputable def c12_59 : Code := cdL c12_58
noncomputable def c12_60 : Code := cdR c12_58
noncomputable def c12_61 : Code := cdL c12_60
noncomputable def c12_62 : Code := cdL c12_61
noncomputable def c12_63 : Code := cdR c12_61
noncomputable def c12_64 : Code := cdL c12_63
noncomputable def c12_65 : Code := cdR c12_63
noncomputable def c12_66 : Code := cdR c12_60
noncomputable def c12_67 : Code := cdR c12_25
noncomputable def c12_68 : Code := cdR c12_14
noncomputable def c12_69 : Code := cdL c12_68
noncomputable def c12_70 : Code := cdR c12_68
noncomputable def c12_71 : Code := cdL c12_70
noncomputable def c12_72 : Code := cdR c12_70
noncomputable def r12_1 : Array Oper := cdO c12_1
noncomputable def r12_4 : Array Oper := cdO c12_4
noncomputable def r12_7 : Array Oper := cdO c12_7
noncomputable def r12_11 : Array Oper := cdO c12_11
noncomputable def r12_13 : Array Oper := cdO c12_13
noncomputable def r12_16 : Array Oper := cdO c12_16
noncomputable def r12_20 : Array Oper := cdO c12_20
noncomputable def r12_28 : Array Oper := cdO c12_28
noncomputable def r12_31 : Array Oper := cdO c12_31
noncomputable def r12_36 : Array Oper := cdO c12_36
noncomputable def r12_38 : Array Oper := cdO c12_38
noncomputable def r12_41 : Array Oper := cdO c12_41
noncomputable def r12_44 : Array Oper := cdO c12_44
noncomputable def r12_45 : Array Oper := cdO c12_45
noncomputable def r12_47 : Array Oper := cdO c12_47
noncomputable def r12_50 : Array Oper := cdO c12_50
noncomputable def r12_52 : Array Oper := cdO c12_52
noncomputable def r12_54 : Array Oper := cdO c12_54
noncomputable def r12_57 : Array Oper := cdO c12_57
noncomputable def r12_59 : Array Oper := cdO c12_59
noncomputable def r12_62 : Array Oper := cdO c12_62
noncomputable def r12_64 : Array Oper := cdO c12_64
noncomputable def r12_66 : Array Oper := cdO c12_66
noncomputable def r12_67 : Array Oper := cdO c12_67
noncomputable def r12_69 : Array Oper := cdO c12_69
noncomputable def r12_71 : Array Oper := cdO c12_71
theorem c12_0e : c12_0 = .seq c12_1 c12_2 := by kernel_rfl
theorem c12_1e : c12_1 = .region 0 r12_1 false := by kernel_rfl
theorem c12_2e : c12_2 = .seq c12_3 c12_10 := by kernel_rfl
theorem c12_3e : c12_3 = .seq c12_4 c12_5 := by kernel_rfl
theorem c12_4e : c12_4 = .region 1 r12_4 false := by kernel_rfl
theorem c12_5e : c12_5 = .cond (cdC c12_5) c12_6 c12_9 := by kernel_rfl
theorem c12_6e : c12_6 = .seq c12_7 c12_8 := by kernel_rfl
theorem c12_7e : c12_7 = .region 2 r12_7 false := by kernel_rfl
theorem c12_8e : c12_8 = .ret := by kernel_rfl
theorem c12_9e : c12_9 = .skip := by kernel_rfl
theorem c12_10e : c12_10 = .seq c12_11 c12_12 := by kernel_rfl
theorem c12_11e : c12_11 = .region 3 r12_11 false := by kernel_rfl
theorem c12_12e : c12_12 = .seq c12_13 c12_14 := by kernel_rfl
theorem c12_13e : c12_13 = .region 4 r12_13 false := by kernel_rfl
theorem c12_14e : c12_14 = .seq c12_15 c12_68 := by kernel_rfl
theorem c12_15e : c12_15 = .seq c12_16 c12_17 := by kernel_rfl
theorem c12_16e : c12_16 = .region 5 r12_16 false := by kernel_rfl
theorem c12_17e : c12_17 = .block 0 c12_18 := by kernel_rfl
theorem c12_18e : c12_18 = .loop c12_19 := by kernel_rfl
theorem c12_19e : c12_19 = .seq c12_20 c12_21 := by kernel_rfl
theorem c12_20e : c12_20 = .region 6 r12_20 false := by kernel_rfl
theorem c12_21e : c12_21 = .seq c12_22 c12_25 := by kernel_rfl
theorem c12_22e : c12_22 = .cond (cdC c12_22) c12_23 c12_24 := by kernel_rfl
theorem c12_23e : c12_23 = .skip := by kernel_rfl
theorem c12_24e : c12_24 = .exit 0 := by kernel_rfl
theorem c12_25e : c12_25 = .seq c12_26 c12_67 := by kernel_rfl
theorem c12_26e : c12_26 = .block 1 c12_27 := by kernel_rfl
theorem c12_27e : c12_27 = .seq c12_28 c12_29 := by kernel_rfl
theorem c12_28e : c12_28 = .region 7 r12_28 false := by kernel_rfl
theorem c12_29e : c12_29 = .seq c12_30 c12_35 := by kernel_rfl
theorem c12_30e : c12_30 = .seq c12_31 c12_32 := by kernel_rfl
theorem c12_31e : c12_31 = .region 8 r12_31 false := by kernel_rfl
theorem c12_32e : c12_32 = .cond (cdC c12_32) c12_33 c12_34 := by kernel_rfl
theorem c12_33e : c12_33 = .exit 0 := by kernel_rfl
theorem c12_34e : c12_34 = .skip := by kernel_rfl
theorem c12_35e : c12_35 = .seq c12_36 c12_37 := by kernel_rfl
theorem c12_36e : c12_36 = .region 9 r12_36 false := by kernel_rfl
theorem c12_37e : c12_37 = .seq c12_38 c12_39 := by kernel_rfl
theorem c12_38e : c12_38 = .region 10 r12_38 false := by kernel_rfl
theorem c12_39e : c12_39 = .block 2 c12_40 := by kernel_rfl
theorem c12_40e : c12_40 = .seq c12_41 c12_42 := by kernel_rfl
theorem c12_41e : c12_41 = .region 14 r12_41 false := by kernel_rfl
theorem c12_42e : c12_42 = .cond (cdC c12_42) c12_43 c12_46 := by kernel_rfl
theorem c12_43e : c12_43 = .seq c12_44 c12_45 := by kernel_rfl
theorem c12_44e : c12_44 = .region 15 r12_44 false := by kernel_rfl
theorem c12_45e : c12_45 = .region 16 r12_45 false := by kernel_rfl
theorem c12_46e : c12_46 = .seq c12_47 c12_48 := by kernel_rfl
theorem c12_47e : c12_47 = .region 17 r12_47 false := by kernel_rfl
theorem c12_48e : c12_48 = .cond (cdC c12_48) c12_49 c12_56 := by kernel_rfl
theorem c12_49e : c12_49 = .seq c12_50 c12_51 := by kernel_rfl
theorem c12_50e : c12_50 = .region 18 r12_50 false := by kernel_rfl
theorem c12_51e : c12_51 = .seq c12_52 c12_53 := by kernel_rfl
theorem c12_52e : c12_52 = .region 19 r12_52 false := by kernel_rfl
theorem c12_53e : c12_53 = .cond (cdC c12_53) c12_54 c12_55 := by kernel_rfl
theorem c12_54e : c12_54 = .region 20 r12_54 false := by kernel_rfl
theorem c12_55e : c12_55 = .skip := by kernel_rfl
theorem c12_56e : c12_56 = .seq c12_57 c12_58 := by kernel_rfl
theorem c12_57e : c12_57 = .region 21 r12_57 false := by kernel_rfl
theorem c12_58e : c12_58 = .cond (cdC c12_58) c12_59 c12_60 := by kernel_rfl
theorem c12_59e : c12_59 = .region 22 r12_59 false := by kernel_rfl
theorem c12_60e : c12_60 = .seq c12_61 c12_66 := by kernel_rfl
theorem c12_61e : c12_61 = .seq c12_62 c12_63 := by kernel_rfl
theorem c12_62e : c12_62 = .region 11 r12_62 false := by kernel_rfl
theorem c12_63e : c12_63 = .cond (cdC c12_63) c12_64 c12_65 := by kernel_rfl
theorem c12_64e : c12_64 = .region 12 r12_64 false := by kernel_rfl
theorem c12_65e : c12_65 = .skip := by kernel_rfl
theorem c12_66e : c12_66 = .region 13 r12_66 false := by kernel_rfl
theorem c12_67e : c12_67 = .region 23 r12_67 false := by kernel_rfl
theorem c12_68e : c12_68 = .seq c12_69 c12_70 := by kernel_rfl
theorem c12_69e : c12_69 = .region 24 r12_69 false := by kernel_rfl
theorem c12_70e : c12_70 = .seq c12_71 c12_72 := by kernel_rfl
theorem c12_71e : c12_71 = .region 25 r12_71 false := by kernel_rfl
theorem c12_72e : c12_72 = .ret := by kernel_rfl
noncomputable def tontinelaw10_NetCounts.R (A_2 : Option Addr) (c_3 : Nat) : Pst Bool where
  ε := Unit
  v := fun r x => .bool r
  H := fun r x => []
  B := fun r x => []
noncomputable def tontinelaw10_NetCounts.cx (A_2 : Option Addr) (c_3 : Nat) (w0 : World) (S0 : Fam) : Cx Bool := ⟨Try.prog, 12, Try.f12, 100, w0, S0, [], 0, tontinelaw10_NetCounts.R A_2 c_3⟩
theorem tontinelaw10_NetCounts_j0_ok (n : Nat) (f_11 : (List T_api_Letter)) (f_14 : Int) (sent_15 : Int) (taken_16 : Int) (b_8 : Nat) (A_12 : Option Addr) (c_13 : Nat) (A_2 : Option Addr) (c_3 : Nat) (w0 : World) (S0 : Fam) :
    GoO (tontinelaw10_NetCounts.cx A_2 c_3 w0 S0) [(5, .pointer (some ⟨b_8, 0, none⟩)), (6, .int .i64 sent_15), (7, .int .i64 taken_16)] [⟨40, b_8, [.slice A_12 f_11.length c_13, .int .i64 f_14]⟩] [Ow 41 kT_api_Letter A_12 c_13 f_11] [.code c12_68] (tontinelaw10_NetCounts.j0 n f_11 f_14 sent_15 taken_16) := by
  unfold tontinelaw10_NetCounts.j0
  refine GoO.seq' c12_68e ?_
  refine GoO.region' (is := [0, 1, 2, 3, 4, 5, 6]) c12_69e (by kernel_rfl) ?_
  refine GoO.exec (is := [0]) (hs := [.p]) (rest := [1, 2, 3, 4, 5, 6]) (ks := [5, 6, 7, 78]) (env' := [(5, .pointer (some ⟨b_8, 0, none⟩)), (6, .int .i64 sent_15), (7, .int .i64 taken_16), (78, .pointer (some ⟨b_8, 0, none⟩))]) (H' := [⟨40, b_8, [.slice A_12 f_11.length c_13, .int .i64 f_14]⟩]) (ps := []) (by kernel_rfl) trivial ?_
  refine OpTo.go (GoO.call rfl (by kernel_rfl) (by kernel_rfl) (net_Net_Count_ok n (⟨f_11, f_14⟩ : T_net_Net) b_8 A_12 c_13) [[0], [40], [41]] [] [(1, 0)] [(2, 0)] (hks := [0]) (bks := [0]) (by kernel_rfl) (by kernel_rfl) (by kernel_rfl) (.inl rfl) rfl rfl (by kernel_rfl) (by kernel_rfl) _ (fun _ _ => rfl) _ _ (fun _ _ => rfl) (fun _ _ => rfl) (fun _ _ => by kernel_rfl) (fun _ _ => by kernel_rfl) (fun r_49 x_56 => ?_))
  refine GoO.shape (env' := [(5, .pointer (some ⟨b_8, 0, none⟩)), (6, .int .i64 sent_15), (7, .int .i64 taken_16), (78, .pointer (some ⟨b_8, 0, none⟩)), (79, .tuple ⟨[.int .i64 r_49.1, .int .i64 r_49.2]⟩)]) (H' := [⟨40, b_8, [.slice A_12 f_11.length c_13, .int .i64 f_14]⟩]) (B' := [Ow 41 kT_api_Letter A_12 c_13 f_11]) (ks := [5, 6, 7, 78, 79]) (by kernel_rfl) (by kernel_rfl) (by kernel_rfl) ?_
  refine GoO.exec (is := [2, 3, 4, 5, 6]) (hs := [.p, .p, .p, .p, .p]) (rest := []) (ks := [5, 6, 7, 14, 15]) (env' := [(5, .pointer (some ⟨b_8, 0, none⟩)), (6, .int .i64 sent_15), (7, .int .i64 taken_16), (14, .int .i64 r_49.1), (15, .int .i64 r_49.2)]) (H' := [⟨40, b_8, [.slice A_12 f_11.length c_13, .int .i64 f_14]⟩]) (ps := []) (by kernel_rfl) trivial ?_
  refine GoO.regionEnd ?_
  refine GoO.seq' c12_70e ?_
  refine GoO.region' (is := [0, 1, 2, 3, 4, 5, 6, 7, 8, 9, 10, 11, 12, 13, 14, 15, 16, 17, 18]) c12_71e (by kernel_rfl) ?_
  refine GoO.exec (is := [0, 1, 2, 3, 4, 5, 6, 7]) (hs := [.p, .p, .p, .p, .p, .p, .p, .p]) (rest := [8, 9, 10, 11, 12, 13, 14, 15, 16, 17, 18]) (ks := [5, 14, 89]) (env' := [(5, .pointer (some ⟨b_8, 0, none⟩)), (14, .int .i64 r_49.1), (89, .bool (sent_15 == (wi64 ((wi64 (r_49.1 + taken_16)) + r_49.2))))]) (H' := [⟨40, b_8, [.slice A_12 f_11.length c_13, .int .i64 f_14]⟩]) (ps := []) (by kernel_rfl) trivial ?_
  refine GoO.bsplit (t := 89) (by kernel_rfl) (fun h50 => ?_) (fun h50 => ?_)
  · refine GoO.exec (is := [8]) (hs := [.p]) (rest := [9, 10, 11, 12, 13, 14, 15, 16, 17, 18]) (ks := [14, 89, 90]) (env' := [(14, .int .i64 r_49.1), (89, .bool true), (90, .pointer (some ⟨b_8, 0, none⟩))]) (H' := [⟨40, b_8, [.slice A_12 f_11.length c_13, .int .i64 f_14]⟩]) (ps := []) (by kernel_rfl) trivial ?_
    refine OpTo.go (GoO.call rfl (by kernel_rfl) (by kernel_rfl) (net_Net_All_ok n (⟨f_11, f_14⟩ : T_net_Net) b_8 A_12 c_13) [[0], [40], [41]] [(43, 3)] [(1, 0)] [(2, 0)] (hks := [0]) (bks := [0]) (by kernel_rfl) (by kernel_rfl) (by kernel_rfl) (.inl rfl) rfl rfl (by kernel_rfl) (by kernel_rfl) _ (fun _ _ => rfl) _ _ (fun _ _ => rfl) (fun _ _ => rfl) (fun _ _ => by kernel_rfl) (fun _ _ => by kernel_rfl) (fun r_51 x_55 => ?_))
    obtain ⟨A_52, c_53⟩ := x_55
    refine GoO.shape (env' := [(14, .int .i64 r_49.1), (89, .bool true), (90, .pointer (some ⟨b_8, 0, none⟩)), (91, .slice A_52 r_51.length c_53)]) (H' := [⟨40, b_8, [.slice A_12 f_11.length c_13, .int .i64 f_14]⟩]) (B' := [Ow 43 kT_api_Letter A_52 c_53 r_51, Ow 41 kT_api_Letter A_12 c_13 f_11]) (ks := [14, 89, 90, 91]) (by kernel_rfl) (by kernel_rfl) (by kernel_rfl) ?_
    refine GoO.exec (is := [10, 11, 12, 13, 14]) (hs := [.p, .p, .p, .p, .p]) (rest := [15, 16, 17, 18]) (ks := [14, 96]) (env' := [(14, .int .i64 r_49.1), (96, .bool ((r_51.length : Int) == r_49.1))]) (H' := [⟨40, b_8, [.slice A_12 f_11.length c_13, .int .i64 f_14]⟩]) (ps := []) (by kernel_rfl) trivial ?_
    refine GoO.bsplit (t := 96) (by kernel_rfl) (fun h54 => ?_) (fun h54 => ?_)
    · refine GoO.exec (is := [15, 16, 17, 18]) (hs := [.p, .p, .p, .p]) (rest := []) (ks := [4]) (env' := [(4, .bool (decide (r_49.1 ≤ 256)))]) (H' := [⟨40, b_8, [.slice A_12 f_11.length c_13, .int .i64 f_14]⟩]) (ps := []) (by kernel_rfl) trivial ?_
      refine GoO.regionEnd ?_
      exact GoO.ret' (h := c12_72e) (hs := []) (ps := []) (hk := []) (bk := []) Try.func12 () (by kernel_rfl) trivial (by kernel_rfl) (by kernel_rfl)
    · refine GoO.exec (is := [15, 16, 17, 18]) (hs := [.p, .p, .p, .p]) (rest := []) (ks := [4]) (env' := [(4, .bool false)]) (H' := [⟨40, b_8, [.slice A_12 f_11.length c_13, .int .i64 f_14]⟩]) (ps := []) (by kernel_rfl) trivial ?_
      refine GoO.regionEnd ?_
      exact GoO.ret' (h := c12_72e) (hs := []) (ps := []) (hk := []) (bk := []) Try.func12 () (by kernel_rfl) trivial (by kernel_rfl) (by kernel_rfl)
  · refine GoO.exec (is := [8, 9, 10, 11, 12, 13, 14, 15, 16, 17, 18]) (hs := [.p, .p, .p, .p, .p, .p, .p, .p, .p, .p, .p]) (rest := []) (ks := [4]) (env' := [(4, .bool false)]) (H' := [⟨40, b_8, [.slice A_12 f_11.length c_13, .int .i64 f_14]⟩]) (ps := []) (by kernel_rfl) trivial ?_
    refine GoO.regionEnd ?_
    exact GoO.ret' (h := c12_72e) (hs := []) (ps := []) (hk := []) (bk := []) Try.func12 () (by kernel_rfl) trivial (by kernel_rfl) (by kernel_rfl)
theorem tontinelaw10_NetCounts_j1_ok (n : Nat) (L0 : (List T_api_Letter) → Int → Int → Int → Int → Option Bool) (kinds_1 : (List Int)) (i_4 : Int) (f_11 : (List T_api_Letter)) (f_14 : Int) (sent_15 : Int) (taken_16 : Int) (x_17 : Int) (A_2 : Option Addr) (c_3 : Nat) (b_8 : Nat) (A_12 : Option Addr) (c_13 : Nat) (w0 : World) (S0 : Fam) (ih0 : ∀ (f_11 : (List T_api_Letter)) (f_14 : Int) (sent_15 : Int) (taken_16 : Int) (x_17 : Int) (A_12 : Option Addr) (c_13 : Nat), GoO (tontinelaw10_NetCounts.cx A_2 c_3 w0 S0) [(1, .int .i64 i_4), (5, .pointer (some ⟨b_8, 0, none⟩)), (6, .int .i64 sent_15), (7, .int .i64 taken_16), (19, .slice A_2 kinds_1.length c_3), (20, .int .i64 (kinds_1.length : Int)), (21, .int .i64 x_17)] [⟨40, b_8, [.slice A_12 f_11.length c_13, .int .i64 f_14]⟩] [Ow 41 kT_api_Letter A_12 c_13 f_11, Rd 0 (Kd.int .i64) A_2 c_3 kinds_1] [.code c12_19, .inLoop c12_19, .inBlock 0, .code c12_68] (L0 f_11 f_14 sent_15 taken_16 x_17)) (f_43 : (List T_api_Letter)) (f_46 : Int) (sent_47 : Int) (taken_48 : Int) (A_44 : Option Addr) (c_45 : Nat) :
    GoO (tontinelaw10_NetCounts.cx A_2 c_3 w0 S0) [(1, .int .i64 i_4), (5, .pointer (some ⟨b_8, 0, none⟩)), (6, .int .i64 sent_47), (7, .int .i64 taken_48), (19, .slice A_2 kinds_1.length c_3), (20, .int .i64 (kinds_1.length : Int)), (21, .int .i64 x_17)] [⟨40, b_8, [.slice A_44 f_43.length c_45, .int .i64 f_46]⟩] [Ow 41 kT_api_Letter A_44 c_45 f_43, Rd 0 (Kd.int .i64) A_2 c_3 kinds_1] [.inBlock 2, .inBlock 1, .code c12_67, .inLoop c12_19, .inBlock 0, .code c12_68] (tontinelaw10_NetCounts.j1 n L0 x_17 f_43 f_46 sent_47 taken_48) := by
  unfold tontinelaw10_NetCounts.j1
  refine GoO.inBlock ?_
  refine GoO.inBlock ?_
  refine GoO.region' (is := [0, 1]) c12_67e (by kernel_rfl) ?_
  refine GoO.exec (is := [0, 1]) (hs := [.p, .p]) (rest := []) (ks := [1, 5, 6, 7, 19, 20, 21]) (env' := [(1, .int .i64 i_4), (5, .pointer (some ⟨b_8, 0, none⟩)), (6, .int .i64 sent_47), (7, .int .i64 taken_48), (19, .slice A_2 kinds_1.length c_3), (20, .int .i64 (kinds_1.length : Int)), (21, .int .i64 (wi64 (x_17 + 1)))]) (H' := [⟨40, b_8, [.slice A_44 f_43.length c_45, .int .i64 f_46]⟩]) (ps := []) (by kernel_rfl) trivial ?_
  refine GoO.regionEnd ?_
  refine GoO.inLoop ?_
  exact GoO.sub (ks := [1, 5, 6, 7, 19, 20, 21]) (hk := [0]) (bk := [0, 1]) (by kernel_rfl) (by kernel_rfl) (by kernel_rfl) (ih0 f_43 f_46 sent_47 taken_48 (wi64 (x_17 + 1)) A_44 c_45)
theorem tontinelaw10_NetCounts_l0_ok (n : Nat) (kinds_1 : (List Int)) (i_4 : Int) (A_2 : Option Addr) (c_3 : Nat) (b_8 : Nat) (w0 : World) (S0 : Fam) :
    ∀ (k : Nat) (f_11 : (List T_api_Letter)) (f_14 : Int) (sent_15 : Int) (taken_16 : Int) (x_17 : Int) (A_12 : Option Addr) (c_13 : Nat), GoO (tontinelaw10_NetCounts.cx A_2 c_3 w0 S0) [(1, .int .i64 i_4), (5, .pointer (some ⟨b_8, 0, none⟩)), (6, .int .i64 sent_15), (7, .int .i64 taken_16), (19, .slice A_2 kinds_1.length c_3), (20, .int .i64 (kinds_1.length : Int)), (21, .int .i64 x_17)] [⟨40, b_8, [.slice A_12 f_11.length c_13, .int .i64 f_14]⟩] [Ow 41 kT_api_Letter A_12 c_13 f_11, Rd 0 (Kd.int .i64) A_2 c_3 kinds_1] [.code c12_19, .inLoop c12_19, .inBlock 0, .code c12_68] (tontinelaw10_NetCounts.l0 n kinds_1 i_4 k f_11 f_14 sent_15 taken_16 x_17) := by
  intro k
  induction k with
  | zero => intros; rw [tontinelaw10_NetCounts.l0.eq_1]; exact GoO.stop
  | succ k ih0 =>
    intro f_11 f_14 sent_15 taken_16 x_17 A_12 c_13
    rw [tontinelaw10_NetCounts.l0.eq_2]
    refine GoO.seq' c12_19e ?_
    refine GoO.region' (is := [0]) c12_20e (by kernel_rfl) ?_
    refine GoO.exec (is := [0]) (hs := [.p]) (rest := []) (ks := [1, 5, 6, 7, 19, 20, 21, 22]) (env' := [(1, .int .i64 i_4), (5, .pointer (some ⟨b_8, 0, none⟩)), (6, .int .i64 sent_15), (7, .int .i64 taken_16), (19, .slice A_2 kinds_1.length c_3), (20, .int .i64 (kinds_1.length : Int)), (21, .int .i64 x_17), (22, .bool (decide (x_17 < (kinds_1.length : Int))))]) (H' := [⟨40, b_8, [.slice A_12 f_11.length c_13, .int .i64 f_14]⟩]) (ps := []) (by kernel_rfl) trivial ?_
    refine GoO.regionEnd ?_
    refine GoO.seq' c12_21e ?_
    refine GoO.ite' c12_22e (by kernel_rfl) (fun h18 => ?_) (fun h18 => ?_)
    · refine GoO.skip' c12_23e ?_
      refine GoO.seq' c12_25e ?_
      refine GoO.block' c12_26e ?_
      refine GoO.seq' c12_27e ?_
      refine GoO.region' (is := [0, 1, 2, 3, 4]) c12_28e (by kernel_rfl) ?_
      refine GoO.exec (is := [0]) (hs := [.p]) (rest := [1, 2, 3, 4]) (ks := [1, 5, 6, 7, 19, 20, 21, 23]) (env' := [(1, .int .i64 i_4), (5, .pointer (some ⟨b_8, 0, none⟩)), (6, .int .i64 sent_15), (7, .int .i64 taken_16), (19, .slice A_2 kinds_1.length c_3), (20, .int .i64 (kinds_1.length : Int)), (21, .int .i64 x_17), (23, .int .i64 x_17)]) (H' := [⟨40, b_8, [.slice A_12 f_11.length c_13, .int .i64 f_14]⟩]) (ps := []) (by kernel_rfl) trivial ?_
      refine GoO.guard (fun h19 => ?_)
      refine OpTo.go (GoO.idx (kk := .i64) (e := 3) (K := (Kd.int .i64)) (A := A_2) (c := c_3) (xs := kinds_1) (iv := x_17) (j := 1) rfl (by kernel_rfl) (by kernel_rfl) (by kernel_rfl) (by kernel_rfl) rfl Reads.rd rfl h19.1 h19.2 (by decide) rfl ?_)
      refine OpTo.go (GoO.ldE' (K := (Kd.int .i64)) (A := A_2) (c := c_3) (xs := kinds_1) (iN := x_17.toNat) (off := 0) (j := 1) rfl (by kernel_rfl) rfl Reads.rd (idx_lt h19.1 h19.2) (by decide) (Opn.flat _ _ _ _ _) (v := fun _ => .int .i64 (rdL kinds_1 x_17)) (fun _ => by kernel_rfl) _ (fun _ => rfl) (fun _ => ?_))
      refine GoO.exec (is := [3, 4]) (hs := [.p, .p]) (rest := []) (ks := [1, 5, 6, 7, 8, 9, 19, 20, 21]) (env' := [(1, .int .i64 i_4), (5, .pointer (some ⟨b_8, 0, none⟩)), (6, .int .i64 sent_15), (7, .int .i64 taken_16), (8, .int .i64 x_17), (9, .int .i64 (rdL kinds_1 x_17)), (19, .slice A_2 kinds_1.length c_3), (20, .int .i64 (kinds_1.length : Int)), (21, .int .i64 x_17)]) (H' := [⟨40, b_8, [.slice A_12 f_11.length c_13, .int .i64 f_14]⟩]) (ps := []) (by kernel_rfl) trivial ?_
      refine GoO.regionEnd ?_
      refine GoO.seq' c12_29e ?_
      refine GoO.seq' c12_30e ?_
      refine GoO.region' (is := [0, 1]) c12_31e (by kernel_rfl) ?_
      refine GoO.exec (is := [0, 1]) (hs := [.p, .p]) (rest := []) (ks := [1, 5, 6, 7, 8, 9, 19, 20, 21, 27]) (env' := [(1, .int .i64 i_4), (5, .pointer (some ⟨b_8, 0, none⟩)), (6, .int .i64 sent_15), (7, .int .i64 taken_16), (8, .int .i64 x_17), (9, .int .i64 (rdL kinds_1 x_17)), (19, .slice A_2 kinds_1.length c_3), (20, .int .i64 (kinds_1.length : Int)), (21, .int .i64 x_17), (27, .bool (x_17 == 900))]) (H' := [⟨40, b_8, [.slice A_12 f_11.length c_13, .int .i64 f_14]⟩]) (ps := []) (by kernel_rfl) trivial ?_
      refine GoO.regionEnd ?_
      refine GoO.ite' c12_32e (by kernel_rfl) (fun h20 => ?_) (fun h20 => ?_)
      · refine GoO.exit' c12_33e rfl ?_
        exact GoO.sub (ks := [5, 6, 7]) (hk := [0]) (bk := [0]) (by kernel_rfl) (by kernel_rfl) (by kernel_rfl) (tontinelaw10_NetCounts_j0_ok n f_11 f_14 sent_15 taken_16 b_8 A_12 c_13 A_2 c_3 w0 S0)
      · refine GoO.skip' c12_34e ?_
        refine GoO.seq' c12_35e ?_
        refine GoO.region' (is := [0, 1, 2, 3, 4, 5, 6]) c12_36e (by kernel_rfl) ?_
        refine GoO.exec (is := [0]) (hs := [.p]) (rest := [1, 2, 3, 4, 5, 6]) (ks := [1, 5, 6, 7, 8, 9, 19, 20, 21, 29]) (env' := [(1, .int .i64 i_4), (5, .pointer (some ⟨b_8, 0, none⟩)), (6, .int .i64 sent_15), (7, .int .i64 taken_16), (8, .int .i64 x_17), (9, .int .i64 (rdL kinds_1 x_17)), (19, .slice A_2 kinds_1.length c_3), (20, .int .i64 (kinds_1.length : Int)), (21, .int .i64 x_17), (29, .pointer (some ⟨b_8, 0, none⟩))]) (H' := [⟨40, b_8, [.slice A_12 f_11.length c_13, .int .i64 f_14]⟩]) (ps := []) (by kernel_rfl) trivial ?_
        refine OpTo.go (GoO.call rfl (by kernel_rfl) (by kernel_rfl) (net_Net_Count_ok n (⟨f_11, f_14⟩ : T_net_Net) b_8 A_12 c_13) [[0], [40], [41]] [] [(1, 0)] [(2, 0)] (hks := [0]) (bks := [0, 1]) (by kernel_rfl) (by kernel_rfl) (by kernel_rfl) (.inl rfl) rfl rfl (by kernel_rfl) (by kernel_rfl) _ (fun _ _ => rfl) _ _ (fun _ _ => rfl) (fun _ _ => rfl) (fun _ _ => by kernel_rfl) (fun _ _ => by kernel_rfl) (fun r_21 x_50 => ?_))
        refine GoO.shape (env' := [(1, .int .i64 i_4), (5, .pointer (some ⟨b_8, 0, none⟩)), (6, .int .i64 sent_15), (7, .int .i64 taken_16), (8, .int .i64 x_17), (9, .int .i64 (rdL kinds_1 x_17)), (19, .slice A_2 kinds_1.length c_3), (20, .int .i64 (kinds_1.length : Int)), (21, .int .i64 x_17), (29, .pointer (some ⟨b_8, 0, none⟩)), (30, .tuple ⟨[.int .i64 r_21.1, .int .i64 r_21.2]⟩)]) (H' := [⟨40, b_8, [.slice A_12 f_11.length c_13, .int .i64 f_14]⟩]) (B' := [Ow 41 kT_api_Letter A_12 c_13 f_11, Rd 0 (Kd.int .i64) A_2 c_3 kinds_1]) (ks := [1, 5, 6, 7, 8, 9, 19, 20, 21, 29, 30]) (by kernel_rfl) (by kernel_rfl) (by kernel_rfl) ?_
        refine GoO.exec (is := [2, 3, 4, 5, 6]) (hs := [.p, .p, .p, .p, .p]) (rest := []) (ks := [1, 5, 6, 7, 8, 9, 10, 19, 20, 21]) (env' := [(1, .int .i64 i_4), (5, .pointer (some ⟨b_8, 0, none⟩)), (6, .int .i64 sent_15), (7, .int .i64 taken_16), (8, .int .i64 x_17), (9, .int .i64 (rdL kinds_1 x_17)), (10, .int .i64 r_21.1), (19, .slice A_2 kinds_1.length c_3), (20, .int .i64 (kinds_1.length : Int)), (21, .int .i64 x_17)]) (H' := [⟨40, b_8, [.slice A_12 f_11.length c_13, .int .i64 f_14]⟩]) (ps := []) (by kernel_rfl) trivial ?_
        refine GoO.regionEnd ?_
        refine GoO.seq' c12_37e ?_
        refine GoO.region' (is := [0, 1, 2, 3]) c12_38e (by kernel_rfl) ?_
        refine GoO.exec (is := [0, 1, 2, 3]) (hs := [.p, .p, .p, .p]) (rest := []) (ks := [1, 5, 6, 7, 8, 10, 19, 20, 21, 36]) (env' := [(1, .int .i64 i_4), (5, .pointer (some ⟨b_8, 0, none⟩)), (6, .int .i64 sent_15), (7, .int .i64 taken_16), (8, .int .i64 x_17), (10, .int .i64 r_21.1), (19, .slice A_2 kinds_1.length c_3), (20, .int .i64 (kinds_1.length : Int)), (21, .int .i64 x_17), (36, .int .i64 ((wi64 (((rdL kinds_1 x_17).tmod 4) + 4)).tmod 4))]) (H' := [⟨40, b_8, [.slice A_12 f_11.length c_13, .int .i64 f_14]⟩]) (ps := [(4 : Int) ≠ 0, (4 : Int) ≠ 0]) (by kernel_rfl) (And.intro (by decide) (And.intro (by decide) trivial)) ?_
        refine GoO.regionEnd ?_
        refine GoO.block' c12_39e ?_
        refine GoO.seq' c12_40e ?_
        refine GoO.region' (is := [0, 1]) c12_41e (by kernel_rfl) ?_
        refine GoO.exec (is := [0, 1]) (hs := [.p, .p]) (rest := []) (ks := [1, 5, 6, 7, 8, 10, 19, 20, 21, 36, 44]) (env' := [(1, .int .i64 i_4), (5, .pointer (some ⟨b_8, 0, none⟩)), (6, .int .i64 sent_15), (7, .int .i64 taken_16), (8, .int .i64 x_17), (10, .int .i64 r_21.1), (19, .slice A_2 kinds_1.length c_3), (20, .int .i64 (kinds_1.length : Int)), (21, .int .i64 x_17), (36, .int .i64 ((wi64 (((rdL kinds_1 x_17).tmod 4) + 4)).tmod 4)), (44, .bool (((wi64 (((rdL kinds_1 x_17).tmod 4) + 4)).tmod 4) == 0))]) (H' := [⟨40, b_8, [.slice A_12 f_11.length c_13, .int .i64 f_14]⟩]) (ps := []) (by kernel_rfl) trivial ?_
        refine GoO.regionEnd ?_
        refine GoO.ite' c12_42e (by kernel_rfl) (fun h22 => ?_) (fun h22 => ?_)
        · refine GoO.seq' c12_43e ?_
          refine GoO.region' (is := [0, 1, 2, 3, 4, 5, 6, 7]) c12_44e (by kernel_rfl) ?_
          refine GoO.exec (is := [0, 1, 2, 3, 4, 5, 6]) (hs := [.p, .p, .p, .p, .p, .p, .p]) (rest := [7]) (ks := [1, 5, 6, 7, 19, 20, 21, 46, 52]) (env' := [(1, .int .i64 i_4), (5, .pointer (some ⟨b_8, 0, none⟩)), (6, .int .i64 sent_15), (7, .int .i64 taken_16), (19, .slice A_2 kinds_1.length c_3), (20, .int .i64 (kinds_1.length : Int)), (21, .int .i64 x_17), (46, .pointer (some ⟨b_8, 0, none⟩)), (52, .agg ⟨[.int .i64 (wi64 (1 + (x_17.tmod 9))), .int .i64 0, .int .i64 0, .int .u64 0, .int .u64 (wu64 x_17), .int .u64 0, .int .u64 0, .bool false, .slice none ([] : List T_api_Entry).length 0, .string (bs [])]⟩)]) (H' := [⟨40, b_8, [.slice A_12 f_11.length c_13, .int .i64 f_14]⟩]) (ps := [(9 : Int) ≠ 0]) (by kernel_rfl) (And.intro (by decide) trivial) ?_
          refine GoO.nilRd kT_api_Entry ?_
          refine OpTo.go (GoO.call rfl (by kernel_rfl) (by kernel_rfl) (net_Net_Send_ok n (⟨f_11, f_14⟩ : T_net_Net) (⟨wi64 (1 + (x_17.tmod 9)), 0, 0, 0, wu64 x_17, 0, 0, false, [], []⟩ : T_api_Letter) b_8 A_12 c_13 none 0) [[0], [40], [41]] [(40, 1), (41, 2)] [(1, 0)] [(2, 1), (0, 0)] (hks := []) (bks := [0, 2]) (by kernel_rfl) (by kernel_rfl) (by kernel_rfl) (.inl rfl) rfl rfl (by kernel_rfl) (by kernel_rfl) _ (fun _ _ => rfl) _ _ (fun _ _ => rfl) (fun _ _ => rfl) (fun _ _ => by kernel_rfl) (fun _ _ => by kernel_rfl) (fun r_23 x_26 => ?_))
          obtain ⟨A_24, c_25⟩ := x_26
          refine GoO.shape (env' := [(1, .int .i64 i_4), (5, .pointer (some ⟨b_8, 0, none⟩)), (6, .int .i64 sent_15), (7, .int .i64 taken_16), (19, .slice A_2 kinds_1.length c_3), (20, .int .i64 (kinds_1.length : Int)), (21, .int .i64 x_17), (46, .pointer (some ⟨b_8, 0, none⟩)), (52, .agg ⟨[.int .i64 (wi64 (1 + (x_17.tmod 9))), .int .i64 0, .int .i64 0, .int .u64 0, .int .u64 (wu64 x_17), .int .u64 0, .int .u64 0, .bool false, .slice none ([] : List T_api_Entry).length 0, .string (bs [])]⟩), (53, .bool r_23.1)]) (H' := [⟨40, b_8, [.slice A_24 r_23.2.l.length c_25, .int .i64 r_23.2.lost]⟩]) (B' := [Ow 41 kT_api_Letter A_24 c_25 r_23.2.l, Rd 0 kT_api_Entry none 0 ([] : List T_api_Entry), Rd 0 (Kd.int .i64) A_2 c_3 kinds_1]) (ks := [1, 5, 6, 7, 19, 20, 21, 46, 52, 53]) (by kernel_rfl) (by kernel_rfl) (by kernel_rfl) ?_
          refine GoO.regionEnd ?_
          refine GoO.region' (is := [0, 1, 2]) c12_45e (by kernel_rfl) ?_
          refine GoO.exec (is := [0, 1, 2]) (hs := [.p, .p, .p]) (rest := []) (ks := [1, 5, 6, 7, 19, 20, 21]) (env' := [(1, .int .i64 i_4), (5, .pointer (some ⟨b_8, 0, none⟩)), (6, .int .i64 (wi64 (sent_15 + 1))), (7, .int .i64 taken_16), (19, .slice A_2 kinds_1.length c_3), (20, .int .i64 (kinds_1.length : Int)), (21, .int .i64 x_17)]) (H' := [⟨40, b_8, [.slice A_24 r_23.2.l.length c_25, .int .i64 r_23.2.lost]⟩]) (ps := []) (by kernel_rfl) trivial ?_
          refine GoO.regionEnd ?_
          exact GoO.sub (ks := [1, 5, 6, 7, 19, 20, 21]) (hk := [0]) (bk := [0, 2]) (by kernel_rfl) (by kernel_rfl) (by kernel_rfl) (tontinelaw10_NetCounts_j1_ok n (tontinelaw10_NetCounts.l0 n kinds_1 i_4 k) kinds_1 i_4 f_11 f_14 sent_15 taken_16 x_17 A_2 c_3 b_8 A_12 c_13 w0 S0 ih0 r_23.2.l r_23.2.lost (wi64 (sent_15 + 1)) taken_16 A_24 c_25)
        · refine GoO.seq' c12_46e ?_
          refine GoO.region' (is := [0, 1]) c12_47e (by kernel_rfl) ?_
          refine GoO.exec (is := [0, 1]) (hs := [.p, .p]) (rest := []) (ks := [1, 5, 6, 7, 8, 10, 19, 20, 21, 36, 56]) (env' := [(1, .int .i64 i_4), (5, .pointer (some ⟨b_8, 0, none⟩)), (6, .int .i64 sent_15), (7, .int .i64 taken_16), (8, .int .i64 x_17), (10, .int .i64 r_21.1), (19, .slice A_2 kinds_1.length c_3), (20, .int .i64 (kinds_1.length : Int)), (21, .int .i64 x_17), (36, .int .i64 ((wi64 (((rdL kinds_1 x_17).tmod 4) + 4)).tmod 4)), (56, .bool (((wi64 (((rdL kinds_1 x_17).tmod 4) + 4)).tmod 4) == 1))]) (H' := [⟨40, b_8, [.slice A_12 f_11.length c_13, .int .i64 f_14]⟩]) (ps := []) (by kernel_rfl) trivial ?_
          refine GoO.regionEnd ?_
          refine GoO.ite' c12_48e (by kernel_rfl) (fun h27 => ?_) (fun h27 => ?_)
          · refine GoO.seq' c12_49e ?_
            refine GoO.region' (is := [0, 1, 2, 3, 4, 5, 6, 7, 8, 9, 10]) c12_50e (by kernel_rfl) ?_
            refine GoO.exec (is := [0, 1, 2, 3]) (hs := [.p, .p, .p, .p]) (rest := [4, 5, 6, 7, 8, 9, 10]) (ks := [1, 5, 6, 7, 19, 20, 21, 59, 62]) (env' := [(1, .int .i64 i_4), (5, .pointer (some ⟨b_8, 0, none⟩)), (6, .int .i64 sent_15), (7, .int .i64 taken_16), (19, .slice A_2 kinds_1.length c_3), (20, .int .i64 (kinds_1.length : Int)), (21, .int .i64 x_17), (59, .pointer (some ⟨b_8, 0, none⟩)), (62, .int .i64 (wi64 (i_4 + x_17)))]) (H' := [⟨40, b_8, [.slice A_12 f_11.length c_13, .int .i64 f_14]⟩]) (ps := []) (by kernel_rfl) trivial ?_
            refine OpTo.go (GoO.call rfl (by kernel_rfl) (by kernel_rfl) (net_Net_Take_ok n (⟨f_11, f_14⟩ : T_net_Net) (wi64 (i_4 + x_17)) b_8 A_12 c_13) [[0], [40], [41]] [(40, 1), (41, 2)] [(1, 0)] [(2, 0)] (hks := []) (bks := [1]) (by kernel_rfl) (by kernel_rfl) (by kernel_rfl) (.inl rfl) rfl rfl (by kernel_rfl) (by kernel_rfl) _ (fun _ _ => rfl) _ _ (fun _ _ => rfl) (fun _ _ => rfl) (fun _ _ => by kernel_rfl) (fun _ _ => by kernel_rfl) (fun r_28 x_35 => ?_))
            obtain ⟨A_29, c_30, A_31, c_32⟩ := x_35
            refine GoO.shape (env' := [(1, .int .i64 i_4), (5, .pointer (some ⟨b_8, 0, none⟩)), (6, .int .i64 sent_15), (7, .int .i64 taken_16), (19, .slice A_2 kinds_1.length c_3), (20, .int .i64 (kinds_1.length : Int)), (21, .int .i64 x_17), (59, .pointer (some ⟨b_8, 0, none⟩)), (62, .int .i64 (wi64 (i_4 + x_17))), (63, .tuple ⟨[.agg ⟨[.int .i64 r_28.1.Kind, .int .i64 r_28.1.From, .int .i64 r_28.1.To, .int .u64 r_28.1.Term, .int .u64 r_28.1.Index, .int .u64 r_28.1.Prev, .int .u64 r_28.1.Commit, .bool r_28.1.Ok, .slice A_29 r_28.1.Entries.length c_30, .string (bs r_28.1.Data)]⟩, .bool r_28.2.1]⟩)]) (H' := [⟨40, b_8, [.slice A_31 r_28.2.2.l.length c_32, .int .i64 r_28.2.2.lost]⟩]) (B' := [Rd 0 kT_api_Entry A_29 c_30 r_28.1.Entries, Ow 41 kT_api_Letter A_31 c_32 r_28.2.2.l, Rd 0 (Kd.int .i64) A_2 c_3 kinds_1]) (ks := [1, 5, 6, 7, 19, 20, 21, 59, 62, 63]) (by kernel_rfl) (by kernel_rfl) (by kernel_rfl) ?_
            refine GoO.exec (is := [5, 6, 7]) (hs := [.p, .p, .p]) (rest := [8, 9, 10]) (ks := [1, 5, 6, 7, 19, 20, 21, 64, 65]) (env' := [(1, .int .i64 i_4), (5, .pointer (some ⟨b_8, 0, none⟩)), (6, .int .i64 sent_15), (7, .int .i64 taken_16), (19, .slice A_2 kinds_1.length c_3), (20, .int .i64 (kinds_1.length : Int)), (21, .int .i64 x_17), (64, .agg ⟨[.int .i64 r_28.1.Kind, .int .i64 r_28.1.From, .int .i64 r_28.1.To, .int .u64 r_28.1.Term, .int .u64 r_28.1.Index, .int .u64 r_28.1.Prev, .int .u64 r_28.1.Commit, .bool r_28.1.Ok, .slice A_29 r_28.1.Entries.length c_30, .string (bs r_28.1.Data)]⟩), (65, .bool r_28.2.1)]) (H' := [⟨40, b_8, [.slice A_31 r_28.2.2.l.length c_32, .int .i64 r_28.2.2.lost]⟩]) (ps := []) (by kernel_rfl) trivial ?_
            refine OpTo.go (GoO.new rfl 42 (cs := [.int .i64 0, .int .i64 0, .int .i64 0, .int .u64 0, .int .u64 0, .int .u64 0, .int .u64 0, .bool false, .slice none ([] : List T_api_Entry).length 0, .string (bs [])]) (by kernel_rfl) _ (fun _ => rfl) (fun b_33 => ?_))
            refine GoO.exec (is := [9, 10]) (hs := [.b 0, .p]) (rest := []) (ks := [1, 5, 6, 7, 13, 19, 20, 21]) (env' := [(1, .int .i64 i_4), (5, .pointer (some ⟨b_8, 0, none⟩)), (6, .int .i64 sent_15), (7, .int .i64 taken_16), (13, .bool r_28.2.1), (19, .slice A_2 kinds_1.length c_3), (20, .int .i64 (kinds_1.length : Int)), (21, .int .i64 x_17)]) (H' := [⟨42, b_33, [.int .i64 r_28.1.Kind, .int .i64 r_28.1.From, .int .i64 r_28.1.To, .int .u64 r_28.1.Term, .int .u64 r_28.1.Index, .int .u64 r_28.1.Prev, .int .u64 r_28.1.Commit, .bool r_28.1.Ok, .slice A_29 r_28.1.Entries.length c_30, .string (bs r_28.1.Data)]⟩, ⟨40, b_8, [.slice A_31 r_28.2.2.l.length c_32, .int .i64 r_28.2.2.lost]⟩]) (ps := [b_33 = b_33]) (by kernel_rfl) (And.intro rfl trivial) ?_
            refine GoO.regionEnd ?_
            refine GoO.seq' c12_51e ?_
            refine GoO.region' (is := [0]) c12_52e (by kernel_rfl) ?_
            refine GoO.exec (is := [0]) (hs := [.p]) (rest := []) (ks := [1, 5, 6, 7, 19, 20, 21, 66]) (env' := [(1, .int .i64 i_4), (5, .pointer (some ⟨b_8, 0, none⟩)), (6, .int .i64 sent_15), (7, .int .i64 taken_16), (19, .slice A_2 kinds_1.length c_3), (20, .int .i64 (kinds_1.length : Int)), (21, .int .i64 x_17), (66, .bool r_28.2.1)]) (H' := [⟨42, b_33, [.int .i64 r_28.1.Kind, .int .i64 r_28.1.From, .int .i64 r_28.1.To, .int .u64 r_28.1.Term, .int .u64 r_28.1.Index, .int .u64 r_28.1.Prev, .int .u64 r_28.1.Commit, .bool r_28.1.Ok, .slice A_29 r_28.1.Entries.length c_30, .string (bs r_28.1.Data)]⟩, ⟨40, b_8, [.slice A_31 r_28.2.2.l.length c_32, .int .i64 r_28.2.2.lost]⟩]) (ps := []) (by kernel_rfl) trivial ?_
            refine GoO.regionEnd ?_
            refine GoO.ite' c12_53e (by kernel_rfl) (fun h34 => ?_) (fun h34 => ?_)
            · refine GoO.region' (is := [0, 1, 2]) c12_54e (by kernel_rfl) ?_
              refine GoO.exec (is := [0, 1, 2]) (hs := [.p, .p, .p]) (rest := []) (ks := [1, 5, 6, 7, 19, 20, 21]) (env' := [(1, .int .i64 i_4), (5, .pointer (some ⟨b_8, 0, none⟩)), (6, .int .i64 sent_15), (7, .int .i64 (wi64 (taken_16 + 1))), (19, .slice A_2 kinds_1.length c_3), (20, .int .i64 (kinds_1.length : Int)), (21, .int .i64 x_17)]) (H' := [⟨42, b_33, [.int .i64 r_28.1.Kind, .int .i64 r_28.1.From, .int .i64 r_28.1.To, .int .u64 r_28.1.Term, .int .u64 r_28.1.Index, .int .u64 r_28.1.Prev, .int .u64 r_28.1.Commit, .bool r_28.1.Ok, .slice A_29 r_28.1.Entries.length c_30, .string (bs r_28.1.Data)]⟩, ⟨40, b_8, [.slice A_31 r_28.2.2.l.length c_32, .int .i64 r_28.2.2.lost]⟩]) (ps := []) (by kernel_rfl) trivial ?_
              refine GoO.regionEnd ?_
              exact GoO.sub (ks := [1, 5, 6, 7, 19, 20, 21]) (hk := [1]) (bk := [1, 2]) (by kernel_rfl) (by kernel_rfl) (by kernel_rfl) (tontinelaw10_NetCounts_j1_ok n (tontinelaw10_NetCounts.l0 n kinds_1 i_4 k) kinds_1 i_4 f_11 f_14 sent_15 taken_16 x_17 A_2 c_3 b_8 A_12 c_13 w0 S0 ih0 r_28.2.2.l r_28.2.2.lost sent_15 (wi64 (taken_16 + 1)) A_31 c_32)
            · refine GoO.skip' c12_55e ?_
              exact GoO.sub (ks := [1, 5, 6, 7, 19, 20, 21]) (hk := [1]) (bk := [1, 2]) (by kernel_rfl) (by kernel_rfl) (by kernel_rfl) (tontinelaw10_NetCounts_j1_ok n (tontinelaw10_NetCounts.l0 n kinds_1 i_4 k) kinds_1 i_4 f_11 f_14 sent_15 taken_16 x_17 A_2 c_3 b_8 A_12 c_13 w0 S0 ih0 r_28.2.2.l r_28.2.2.lost sent_15 taken_16 A_31 c_32)
          · refine GoO.seq' c12_56e ?_
            refine GoO.region' (is := [0, 1]) c12_57e (by kernel_rfl) ?_
            refine GoO.exec (is := [0, 1]) (hs := [.p, .p]) (rest := []) (ks := [1, 5, 6, 7, 8, 10, 19, 20, 21, 69]) (env' := [(1, .int .i64 i_4), (5, .pointer (some ⟨b_8, 0, none⟩)), (6, .int .i64 sent_15), (7, .int .i64 taken_16), (8, .int .i64 x_17), (10, .int .i64 r_21.1), (19, .slice A_2 kinds_1.length c_3), (20, .int .i64 (kinds_1.length : Int)), (21, .int .i64 x_17), (69, .bool (((wi64 (((rdL kinds_1 x_17).tmod 4) + 4)).tmod 4) == 2))]) (H' := [⟨40, b_8, [.slice A_12 f_11.length c_13, .int .i64 f_14]⟩]) (ps := []) (by kernel_rfl) trivial ?_
            refine GoO.regionEnd ?_
            refine GoO.ite' c12_58e (by kernel_rfl) (fun h36 => ?_) (fun h36 => ?_)
            · refine GoO.region' (is := [0, 1, 2, 3, 4]) c12_59e (by kernel_rfl) ?_
              refine GoO.exec (is := [0, 1, 2, 3]) (hs := [.p, .p, .p, .p]) (rest := [4]) (ks := [1, 5, 6, 7, 19, 20, 21, 71, 74]) (env' := [(1, .int .i64 i_4), (5, .pointer (some ⟨b_8, 0, none⟩)), (6, .int .i64 sent_15), (7, .int .i64 taken_16), (19, .slice A_2 kinds_1.length c_3), (20, .int .i64 (kinds_1.length : Int)), (21, .int .i64 x_17), (71, .pointer (some ⟨b_8, 0, none⟩)), (74, .int .i64 (wi64 (i_4 - x_17)))]) (H' := [⟨40, b_8, [.slice A_12 f_11.length c_13, .int .i64 f_14]⟩]) (ps := []) (by kernel_rfl) trivial ?_
              refine OpTo.go (GoO.call rfl (by kernel_rfl) (by kernel_rfl) (net_Net_Lose_ok n (⟨f_11, f_14⟩ : T_net_Net) (wi64 (i_4 - x_17)) b_8 A_12 c_13) [[0], [40], [41]] [(40, 1), (41, 2)] [(1, 0)] [(2, 0)] (hks := []) (bks := [1]) (by kernel_rfl) (by kernel_rfl) (by kernel_rfl) (.inl rfl) rfl rfl (by kernel_rfl) (by kernel_rfl) _ (fun _ _ => rfl) _ _ (fun _ _ => rfl) (fun _ _ => rfl) (fun _ _ => by kernel_rfl) (fun _ _ => by kernel_rfl) (fun r_37 x_40 => ?_))
              obtain ⟨A_38, c_39⟩ := x_40
              refine GoO.shape (env' := [(1, .int .i64 i_4), (5, .pointer (some ⟨b_8, 0, none⟩)), (6, .int .i64 sent_15), (7, .int .i64 taken_16), (19, .slice A_2 kinds_1.length c_3), (20, .int .i64 (kinds_1.length : Int)), (21, .int .i64 x_17), (71, .pointer (some ⟨b_8, 0, none⟩)), (74, .int .i64 (wi64 (i_4 - x_17))), (75, .bool r_37.1)]) (H' := [⟨40, b_8, [.slice A_38 r_37.2.l.length c_39, .int .i64 r_37.2.lost]⟩]) (B' := [Ow 41 kT_api_Letter A_38 c_39 r_37.2.l, Rd 0 (Kd.int .i64) A_2 c_3 kinds_1]) (ks := [1, 5, 6, 7, 19, 20, 21, 71, 74, 75]) (by kernel_rfl) (by kernel_rfl) (by kernel_rfl) ?_
              refine GoO.regionEnd ?_
              exact GoO.sub (ks := [1, 5, 6, 7, 19, 20, 21]) (hk := [0]) (bk := [0, 1]) (by kernel_rfl) (by kernel_rfl) (by kernel_rfl) (tontinelaw10_NetCounts_j1_ok n (tontinelaw10_NetCounts.l0 n kinds_1 i_4 k) kinds_1 i_4 f_11 f_14 sent_15 taken_16 x_17 A_2 c_3 b_8 A_12 c_13 w0 S0 ih0 r_37.2.l r_37.2.lost sent_15 taken_16 A_38 c_39)
            · refine GoO.seq' c12_60e ?_
              refine GoO.seq' c12_61e ?_
              refine GoO.region' (is := [0, 1]) c12_62e (by kernel_rfl) ?_
              refine GoO.exec (is := [0, 1]) (hs := [.p, .p]) (rest := []) (ks := [1, 5, 6, 7, 8, 19, 20, 21, 38]) (env' := [(1, .int .i64 i_4), (5, .pointer (some ⟨b_8, 0, none⟩)), (6, .int .i64 sent_15), (7, .int .i64 taken_16), (8, .int .i64 x_17), (19, .slice A_2 kinds_1.length c_3), (20, .int .i64 (kinds_1.length : Int)), (21, .int .i64 x_17), (38, .bool (decide (r_21.1 > 0)))]) (H' := [⟨40, b_8, [.slice A_12 f_11.length c_13, .int .i64 f_14]⟩]) (ps := []) (by kernel_rfl) trivial ?_
              refine GoO.regionEnd ?_
              refine GoO.ite' c12_63e (by kernel_rfl) (fun h41 => ?_) (fun h41 => ?_)
              · refine GoO.region' (is := [0, 1, 2]) c12_64e (by kernel_rfl) ?_
                refine GoO.exec (is := [0, 1, 2]) (hs := [.p, .p, .p]) (rest := []) (ks := [1, 5, 6, 7, 8, 19, 20, 21]) (env' := [(1, .int .i64 i_4), (5, .pointer (some ⟨b_8, 0, none⟩)), (6, .int .i64 (wi64 (sent_15 + 1))), (7, .int .i64 taken_16), (8, .int .i64 x_17), (19, .slice A_2 kinds_1.length c_3), (20, .int .i64 (kinds_1.length : Int)), (21, .int .i64 x_17)]) (H' := [⟨40, b_8, [.slice A_12 f_11.length c_13, .int .i64 f_14]⟩]) (ps := []) (by kernel_rfl) trivial ?_
                refine GoO.regionEnd ?_
                refine GoO.region' (is := [0, 1, 2]) c12_66e (by kernel_rfl) ?_
                refine GoO.exec (is := [0, 1]) (hs := [.p, .p]) (rest := [2]) (ks := [1, 5, 6, 7, 19, 20, 21, 41, 42]) (env' := [(1, .int .i64 i_4), (5, .pointer (some ⟨b_8, 0, none⟩)), (6, .int .i64 (wi64 (sent_15 + 1))), (7, .int .i64 taken_16), (19, .slice A_2 kinds_1.length c_3), (20, .int .i64 (kinds_1.length : Int)), (21, .int .i64 x_17), (41, .pointer (some ⟨b_8, 0, none⟩)), (42, .int .i64 x_17)]) (H' := [⟨40, b_8, [.slice A_12 f_11.length c_13, .int .i64 f_14]⟩]) (ps := []) (by kernel_rfl) trivial ?_
                refine OpTo.go (GoO.call rfl (by kernel_rfl) (by kernel_rfl) (net_Net_Double_ok n (⟨f_11, f_14⟩ : T_net_Net) x_17 b_8 A_12 c_13) [[0], [40], [41]] [(40, 1), (41, 2)] [(1, 0)] [(2, 0)] (hks := []) (bks := [1]) (by kernel_rfl) (by kernel_rfl) (by kernel_rfl) (.inl rfl) rfl rfl (by kernel_rfl) (by kernel_rfl) _ (fun _ _ => rfl) _ _ (fun _ _ => rfl) (fun _ _ => rfl) (fun _ _ => by kernel_rfl) (fun _ _ => by kernel_rfl) (fun r_42 x_45 => ?_))
                obtain ⟨A_43, c_44⟩ := x_45
                refine GoO.shape (env' := [(1, .int .i64 i_4), (5, .pointer (some ⟨b_8, 0, none⟩)), (6, .int .i64 (wi64 (sent_15 + 1))), (7, .int .i64 taken_16), (19, .slice A_2 kinds_1.length c_3), (20, .int .i64 (kinds_1.length : Int)), (21, .int .i64 x_17), (41, .pointer (some ⟨b_8, 0, none⟩)), (42, .int .i64 x_17), (43, .bool r_42.1)]) (H' := [⟨40, b_8, [.slice A_43 r_42.2.l.length c_44, .int .i64 r_42.2.lost]⟩]) (B' := [Ow 41 kT_api_Letter A_43 c_44 r_42.2.l, Rd 0 (Kd.int .i64) A_2 c_3 kinds_1]) (ks := [1, 5, 6, 7, 19, 20, 21, 41, 42, 43]) (by kernel_rfl) (by kernel_rfl) (by kernel_rfl) ?_
                refine GoO.regionEnd ?_
                exact GoO.sub (ks := [1, 5, 6, 7, 19, 20, 21]) (hk := [0]) (bk := [0, 1]) (by kernel_rfl) (by kernel_rfl) (by kernel_rfl) (tontinelaw10_NetCounts_j1_ok n (tontinelaw10_NetCounts.l0 n kinds_1 i_4 k) kinds_1 i_4 f_11 f_14 sent_15 taken_16 x_17 A_2 c_3 b_8 A_12 c_13 w0 S0 ih0 r_42.2.l r_42.2.lost (wi64 (sent_15 + 1)) taken_16 A_43 c_44)
              · refine GoO.skip' c12_65e ?_
                refine GoO.region' (is := [0, 1, 2]) c12_66e (by kernel_rfl) ?_
                refine GoO.exec (is := [0, 1]) (hs := [.p, .p]) (rest := [2]) (ks := [1, 5, 6, 7, 19, 20, 21, 41, 42]) (env' := [(1, .int .i64 i_4), (5, .pointer (some ⟨b_8, 0, none⟩)), (6, .int .i64 sent_15), (7, .int .i64 taken_16), (19, .slice A_2 kinds_1.length c_3), (20, .int .i64 (kinds_1.length : Int)), (21, .int .i64 x_17), (41, .pointer (some ⟨b_8, 0, none⟩)), (42, .int .i64 x_17)]) (H' := [⟨40, b_8, [.slice A_12 f_11.length c_13, .int .i64 f_14]⟩]) (ps := []) (by kernel_rfl) trivial ?_
                refine OpTo.go (GoO.call rfl (by kernel_rfl) (by kernel_rfl) (net_Net_Double_ok n (⟨f_11, f_14⟩ : T_net_Net) x_17 b_8 A_12 c_13) [[0], [40], [41]] [(40, 1), (41, 2)] [(1, 0)] [(2, 0)] (hks := []) (bks := [1]) (by kernel_rfl) (by kernel_rfl) (by kernel_rfl) (.inl rfl) rfl rfl (by kernel_rfl) (by kernel_rfl) _ (fun _ _ => rfl) _ _ (fun _ _ => rfl) (fun _ _ => rfl) (fun _ _ => by kernel_rfl) (fun _ _ => by kernel_rfl) (fun r_46 x_49 => ?_))
                obtain ⟨A_47, c_48⟩ := x_49
                refine GoO.shape (env' := [(1, .int .i64 i_4), (5, .pointer (some ⟨b_8, 0, none⟩)), (6, .int .i64 sent_15), (7, .int .i64 taken_16), (19, .slice A_2 kinds_1.length c_3), (20, .int .i64 (kinds_1.length : Int)), (21, .int .i64 x_17), (41, .pointer (some ⟨b_8, 0, none⟩)), (42, .int .i64 x_17), (43, .bool r_46.1)]) (H' := [⟨40, b_8, [.slice A_47 r_46.2.l.length c_48, .int .i64 r_46.2.lost]⟩]) (B' := [Ow 41 kT_api_Letter A_47 c_48 r_46.2.l, Rd 0 (Kd.int .i64) A_2 c_3 kinds_1]) (ks := [1, 5, 6, 7, 19, 20, 21, 41, 42, 43]) (by kernel_rfl) (by kernel_rfl) (by kernel_rfl) ?_
                refine GoO.regionEnd ?_
                exact GoO.sub (ks := [1, 5, 6, 7, 19, 20, 21]) (hk := [0]) (bk := [0, 1]) (by kernel_rfl) (by kernel_rfl) (by kernel_rfl) (tontinelaw10_NetCounts_j1_ok n (tontinelaw10_NetCounts.l0 n kinds_1 i_4 k) kinds_1 i_4 f_11 f_14 sent_15 taken_16 x_17 A_2 c_3 b_8 A_12 c_13 w0 S0 ih0 r_46.2.l r_46.2.lost sent_15 taken_16 A_47 c_48)
    · refine GoO.exit' c12_24e rfl ?_
      exact GoO.sub (ks := [5, 6, 7]) (hk := [0]) (bk := [0]) (by kernel_rfl) (by kernel_rfl) (by kernel_rfl) (tontinelaw10_NetCounts_j0_ok n f_11 f_14 sent_15 taken_16 b_8 A_12 c_13 A_2 c_3 w0 S0)
theorem tontinelaw10_NetCounts_ok (n : Nat) (kinds_1 : (List Int)) (i_4 : Int) (A_2 : Option Addr) (c_3 : Nat) :
    Meets Try.prog 12 [.slice A_2 kinds_1.length c_3, .int .i64 i_4] 0 [] [] [Rd 0 (Kd.int .i64) A_2 c_3 kinds_1] (tontinelaw10_NetCounts.f n kinds_1 i_4) (tontinelaw10_NetCounts.R A_2 c_3) := by
  refine Meets.of (c := c12_0) (n := 100) Try.func12 (by kernel_rfl) (by kernel_rfl) (by kernel_rfl) fun w0 S0 => ?_
  unfold tontinelaw10_NetCounts.f
  show GoO (tontinelaw10_NetCounts.cx A_2 c_3 w0 S0) [(0, .slice A_2 kinds_1.length c_3), (1, .int .i64 i_4)] [] [Rd 0 (Kd.int .i64) A_2 c_3 kinds_1] [.code c12_0] _
  refine GoO.seq' c12_0e ?_
  refine GoO.region' (is := [0]) c12_1e (by kernel_rfl) ?_
  refine GoO.exec (is := [0]) (hs := [.p]) (rest := []) (ks := [0, 1]) (env' := [(0, .slice A_2 kinds_1.length c_3), (1, .int .i64 i_4)]) (H' := []) (ps := []) (by kernel_rfl) trivial ?_
  refine GoO.regionEnd ?_
  refine GoO.seq' c12_2e ?_
  refine GoO.seq' c12_3e ?_
  refine GoO.region' (is := [0, 1]) c12_4e (by kernel_rfl) ?_
  refine OpTo.go (GoO.call rfl (by kernel_rfl) (by kernel_rfl) (tontinelaw10_begun_ok n) [[0]] [] [] [] (hks := []) (bks := [0]) (by kernel_rfl) (by kernel_rfl) (by kernel_rfl) (.inl rfl) rfl rfl (by kernel_rfl) (by kernel_rfl) _ (fun _ _ => rfl) _ _ (fun _ _ => rfl) (fun _ _ => rfl) (fun _ _ => by kernel_rfl) (fun _ _ => by kernel_rfl) (fun r_5 x_58 => ?_))
  refine GoO.shape (env' := [(0, .slice A_2 kinds_1.length c_3), (1, .int .i64 i_4), (16, .bool r_5)]) (H' := []) (B' := [Rd 0 (Kd.int .i64) A_2 c_3 kinds_1]) (ks := [0, 1, 16]) (by kernel_rfl) (by kernel_rfl) (by kernel_rfl) ?_
  refine GoO.exec (is := [1]) (hs := [.p]) (rest := []) (ks := [0, 1, 17]) (env' := [(0, .slice A_2 kinds_1.length c_3), (1, .int .i64 i_4), (17, .bool (!r_5))]) (H' := []) (ps := []) (by kernel_rfl) trivial ?_
  refine GoO.regionEnd ?_
  refine GoO.ite' c12_5e (by kernel_rfl) (fun h6 => ?_) (fun h6 => ?_)
  · refine GoO.seq' c12_6e ?_
    refine GoO.region' (is := [0]) c12_7e (by kernel_rfl) ?_
    refine GoO.exec (is := [0]) (hs := [.p]) (rest := []) (ks := [4]) (env' := [(4, .bool false)]) (H' := []) (ps := []) (by kernel_rfl) trivial ?_
    refine GoO.regionEnd ?_
    exact GoO.ret' (h := c12_8e) (hs := []) (ps := []) (hk := []) (bk := []) Try.func12 () (by kernel_rfl) trivial (by kernel_rfl) (by kernel_rfl)
  · refine GoO.skip' c12_9e ?_
    refine GoO.seq' c12_10e ?_
    refine GoO.region' (is := [0, 1]) c12_11e (by kernel_rfl) ?_
    refine OpTo.go (GoO.call rfl (by kernel_rfl) (by kernel_rfl) (net_New_ok n) [[0]] [(40, 1), (41, 2)] [] [] (hks := []) (bks := [0]) (by kernel_rfl) (by kernel_rfl) (by kernel_rfl) (.inl rfl) rfl rfl (by kernel_rfl) (by kernel_rfl) _ (fun _ _ => rfl) _ _ (fun _ _ => rfl) (fun _ _ => rfl) (fun _ _ => by kernel_rfl) (fun _ _ => by kernel_rfl) (fun r_7 x_57 => ?_))
    obtain ⟨b_8, A_9, c_10⟩ := x_57
    refine GoO.shape (env' := [(0, .slice A_2 kinds_1.length c_3), (1, .int .i64 i_4), (17, .bool (!r_5)), (18, .pointer (some ⟨b_8, 0, none⟩))]) (H' := [⟨40, b_8, [.slice A_9 r_7.l.length c_10, .int .i64 r_7.lost]⟩]) (B' := [Ow 41 kT_api_Letter A_9 c_10 r_7.l, Rd 0 (Kd.int .i64) A_2 c_3 kinds_1]) (ks := [0, 1, 17, 18]) (by kernel_rfl) (by kernel_rfl) (by kernel_rfl) ?_
    refine GoO.exec (is := [1]) (hs := [.p]) (rest := []) (ks := [0, 1, 5]) (env' := [(0, .slice A_2 kinds_1.length c_3), (1, .int .i64 i_4), (5, .pointer (some ⟨b_8, 0, none⟩))]) (H' := [⟨40, b_8, [.slice A_9 r_7.l.length c_10, .int .i64 r_7.lost]⟩]) (ps := []) (by kernel_rfl) trivial ?_
    refine GoO.regionEnd ?_
    refine GoO.seq' c12_12e ?_
    refine GoO.region' (is := [0, 1]) c12_13e (by kernel_rfl) ?_
    refine GoO.exec (is := [0, 1]) (hs := [.p, .p]) (rest := []) (ks := [0, 1, 5, 6, 7]) (env' := [(0, .slice A_2 kinds_1.length c_3), (1, .int .i64 i_4), (5, .pointer (some ⟨b_8, 0, none⟩)), (6, .int .i64 0), (7, .int .i64 0)]) (H' := [⟨40, b_8, [.slice A_9 r_7.l.length c_10, .int .i64 r_7.lost]⟩]) (ps := []) (by kernel_rfl) trivial ?_
    refine GoO.regionEnd ?_
    refine GoO.seq' c12_14e ?_
    refine GoO.seq' c12_15e ?_
    refine GoO.region' (is := [0, 1, 2]) c12_16e (by kernel_rfl) ?_
    refine GoO.exec (is := [0, 1, 2]) (hs := [.p, .p, .p]) (rest := []) (ks := [1, 5, 6, 7, 19, 20, 21]) (env' := [(1, .int .i64 i_4), (5, .pointer (some ⟨b_8, 0, none⟩)), (6, .int .i64 0), (7, .int .i64 0), (19, .slice A_2 kinds_1.length c_3), (20, .int .i64 (kinds_1.length : Int)), (21, .int .i64 0)]) (H' := [⟨40, b_8, [.slice A_9 r_7.l.length c_10, .int .i64 r_7.lost]⟩]) (ps := []) (by kernel_rfl) trivial ?_
    refine GoO.regionEnd ?_
    refine GoO.block' c12_17e ?_
    refine GoO.loop' c12_18e ?_
    exact GoO.sub (ks := [1, 5, 6, 7, 19, 20, 21]) (hk := [0]) (bk := [0, 1]) (by kernel_rfl) (by kernel_rfl) (by kernel_rfl) (tontinelaw10_NetCounts_l0_ok n kinds_1 i_4 A_2 c_3 b_8 w0 S0 n r_7.l r_7.lost 0 0 0 A_9 c_10)
end Go.GL
