import Derived.Test.YtmpockelhphkdaaKindsT1
import Derived.Test.YtmpockelhphkdaaProg
set_option linter.unusedVariables false
set_option linter.unusedSimpArgs false
set_option maxRecDepth 100000
namespace Go.GL
open Go Go.Proofs

/-! tontine/net.New -/
noncomputable def c15_0 : Code := bodyOf Try.f15
noncomputable def c15_1 : Code := cdL c15_0
noncomputable def c15_2 : Code := cdR c15_0
noncomputable def c15_3 : Code := cdL c15_2
noncomputable def c15_4 : Code := cdR c15_2
noncomputable def r15_1 : Array Oper := cdO c15_1
noncomputable def r15_3 : Array Oper := cdO c15_3
theorem c15_0e : c15_0 = .seq c15_1 c15_2 := by kernel_rfl
theorem c15_1e : c15_1 = .region 0 r15_1 false := by kernel_rfl
theorem c15_2e : c15_2 = .seq c15_3 c15_4 := by kernel_rfl
theorem c15_3e : c15_3 = .region 1 r15_3 false := by kernel_rfl
theorem c15_4e : c15_4 = .ret := by kernel_rfl
noncomputable def net_New.R : Pst T_net_Net where
  ε := Nat × Option Addr × Nat
  v := fun r x => .pointer (some ⟨x.1, 0, none⟩)
  H := fun r x => [⟨1, x.1, [.slice x.2.1 r.l.length x.2.2, .int .i64 r.lost]⟩]
  B := fun r x => [Ow 2 kT_api_Letter x.2.1 x.2.2 r.l]
noncomputable def net_New.cx (w0 : World) (S0 : Fam) : Cx T_net_Net := ⟨Try.prog, 15, Try.f15, 3, w0, S0, [], 0, net_New.R⟩
theorem net_New_ok (n : Nat) :
    Meets Try.prog 15 [] 0 [] [] [] (net_New.f n) (net_New.R) := by
  refine Meets.of (c := c15_0) (n := 3) Try.func15 (by kernel_rfl) (by kernel_rfl) (by kernel_rfl) fun w0 S0 => ?_
  unfold net_New.f
  show GoO (net_New.cx w0 S0) [] [] [] [.code c15_0] _
  refine GoO.seq' c15_0e ?_
  refine GoO.region' (is := [0]) c15_1e (by kernel_rfl) ?_
  refine GoO.exec (is := [0]) (hs := [.p]) (rest := []) (ks := []) (env' := []) (H' := []) (ps := []) (by kernel_rfl) trivial ?_
  refine GoO.regionEnd ?_
  refine GoO.seq' c15_2e ?_
  refine GoO.region' (is := [0, 1, 2]) c15_3e (by kernel_rfl) ?_
  refine GoO.exec (is := [0]) (hs := [.p]) (rest := [1, 2]) (ks := [1]) (env' := [(1, .agg ⟨[.slice none ([] : List T_api_Letter).length 0, .int .i64 0]⟩)]) (H' := []) (ps := []) (by kernel_rfl) trivial ?_
  refine OpTo.go (GoO.new rfl 40 (cs := [.slice none ([] : List T_api_Letter).length 0, .int .i64 0]) (by kernel_rfl) _ (fun _ => rfl) (fun b_1 => ?_))
  refine GoO.exec (is := [2]) (hs := [.p]) (rest := []) (ks := [0]) (env' := [(0, .pointer (some ⟨b_1, 0, none⟩))]) (H' := [⟨40, b_1, [.slice none ([] : List T_api_Letter).length 0, .int .i64 0]⟩]) (ps := []) (by kernel_rfl) trivial ?_
  refine GoO.regionEnd ?_
  refine GoO.nilOwn kT_api_Letter 2 ?_
  refine GoO.retagB (t := 40) (u := 1) (j := 0) (hk := []) (bk := [0]) rfl rfl rfl rfl rfl rfl (by kernel_rfl) (by kernel_rfl) ?_
  exact GoO.ret' (h := c15_4e) (hs := []) (ps := []) (hk := [0]) (bk := [0]) Try.func15 (⟨b_1, none, 0⟩ : Nat × Option Addr × Nat) (by kernel_rfl) trivial (by kernel_rfl) (by kernel_rfl)

/-! tontine/net.copied -/
noncomputable def c38_0 : Code := bodyOf Try.f38
noncomputable def c38_1 : Code := cdL c38_0
noncomputable def c38_2 : Code := cdR c38_0
noncomputable def c38_3 : Code := cdL c38_2
noncomputable def c38_4 : Code := cdR c38_2
noncomputable def c38_5 : Code := cdL c38_4
noncomputable def c38_6 : Code := cdR c38_4
noncomputable def r38_1 : Array Oper := cdO c38_1
noncomputable def r38_3 : Array Oper := cdO c38_3
noncomputable def r38_5 : Array Oper := cdO c38_5
theorem c38_0e : c38_0 = .seq c38_1 c38_2 := by kernel_rfl
theorem c38_1e : c38_1 = .region 0 r38_1 false := by kernel_rfl
theorem c38_2e : c38_2 = .seq c38_3 c38_4 := by kernel_rfl
theorem c38_3e : c38_3 = .region 1 r38_3 false := by kernel_rfl
theorem c38_4e : c38_4 = .seq c38_5 c38_6 := by kernel_rfl
theorem c38_5e : c38_5 = .region 2 r38_5 false := by kernel_rfl
theorem c38_6e : c38_6 = .ret := by kernel_rfl
noncomputable def net_copied.R (A_2 : Option Addr) (c_3 : Nat) : Pst T_api_Letter where
  ε := Option Addr × Nat
  v := fun r x => .agg ⟨[.int .i64 r.Kind, .int .i64 r.From, .int .i64 r.To, .int .u64 r.Term, .int .u64 r.Index, .int .u64 r.Prev, .int .u64 r.Commit, .bool r.Ok, .slice x.1 r.Entries.length x.2, .string (bs r.Data)]⟩
  H := fun r x => []
  B := fun r x => [Rd 0 kT_api_Entry x.1 x.2 r.Entries]
noncomputable def net_copied.cx (A_2 : Option Addr) (c_3 : Nat) (w0 : World) (S0 : Fam) : Cx T_api_Letter := ⟨Try.prog, 38, Try.f38, 8, w0, S0, [], 0, net_copied.R A_2 c_3⟩
theorem net_copied_ok (n : Nat) (x_1 : T_api_Letter) (A_2 : Option Addr) (c_3 : Nat) :
    Meets Try.prog 38 [.agg ⟨[.int .i64 x_1.Kind, .int .i64 x_1.From, .int .i64 x_1.To, .int .u64 x_1.Term, .int .u64 x_1.Index, .int .u64 x_1.Prev, .int .u64 x_1.Commit, .bool x_1.Ok, .slice A_2 x_1.Entries.length c_3, .string (bs x_1.Data)]⟩] 0 [] [] [Rd 0 kT_api_Entry A_2 c_3 x_1.Entries] (net_copied.f n x_1) (net_copied.R A_2 c_3) := by
  refine Meets.of (c := c38_0) (n := 8) Try.func38 (by kernel_rfl) (by kernel_rfl) (by kernel_rfl) fun w0 S0 => ?_
  unfold net_copied.f
  show GoO (net_copied.cx A_2 c_3 w0 S0) [(0, .agg ⟨[.int .i64 x_1.Kind, .int .i64 x_1.From, .int .i64 x_1.To, .int .u64 x_1.Term, .int .u64 x_1.Index, .int .u64 x_1.Prev, .int .u64 x_1.Commit, .bool x_1.Ok, .slice A_2 x_1.Entries.length c_3, .string (bs x_1.Data)]⟩)] [] [Rd 0 kT_api_Entry A_2 c_3 x_1.Entries] [.code c38_0] _
  refine GoO.seq' c38_0e ?_
  refine GoO.region' (is := [0, 1]) c38_1e (by kernel_rfl) ?_
  refine OpTo.go (GoO.new rfl 40 (cs := [.int .i64 x_1.Kind, .int .i64 x_1.From, .int .i64 x_1.To, .int .u64 x_1.Term, .int .u64 x_1.Index, .int .u64 x_1.Prev, .int .u64 x_1.Commit, .bool x_1.Ok, .slice A_2 x_1.Entries.length c_3, .string (bs x_1.Data)]) (by kernel_rfl) _ (fun _ => rfl) (fun b_4 => ?_))
  refine OpTo.go (GoO.new rfl 41 (cs := [.int .i64 0, .int .i64 0, .int .i64 0, .int .u64 0, .int .u64 0, .int .u64 0, .int .u64 0, .bool false, .slice none ([] : List T_api_Entry).length 0, .string (bs [])]) (by kernel_rfl) _ (fun _ => rfl) (fun b_5 => ?_))
  refine GoO.regionEnd ?_
  refine GoO.seq' c38_2e ?_
  refine GoO.region' (is := [0, 1, 2, 3, 4]) c38_3e (by kernel_rfl) ?_
  refine GoO.exec (is := [0, 1]) (hs := [.p, .b 1]) (rest := [2, 3, 4]) (ks := [1, 2, 4]) (env' := [(1, .pointer (some ⟨b_4, 0, none⟩)), (2, .pointer (some ⟨b_5, 0, none⟩)), (4, .slice A_2 x_1.Entries.length c_3)]) (H' := [⟨41, b_5, [.int .i64 0, .int .i64 0, .int .i64 0, .int .u64 0, .int .u64 0, .int .u64 0, .int .u64 0, .bool false, .slice none ([] : List T_api_Entry).length 0, .string (bs [])]⟩, ⟨40, b_4, [.int .i64 x_1.Kind, .int .i64 x_1.From, .int .i64 x_1.To, .int .u64 x_1.Term, .int .u64 x_1.Index, .int .u64 x_1.Prev, .int .u64 x_1.Commit, .bool x_1.Ok, .slice A_2 x_1.Entries.length c_3, .string (bs x_1.Data)]⟩]) (ps := [b_4 = b_4]) (by kernel_rfl) (And.intro rfl trivial) ?_
  refine GoO.nilOwn kT_api_Entry 42 ?_
  refine GoO.guard (fun h6 => ?_)
  refine OpTo.go (GoO.appW (e := 88) (K := kT_api_Entry) (A := none) (c := 0) (tg := 42) (bytes := 40) (zs := [.int .u64 0, .int .u64 0, .int .i64 0, .string (bs [])]) (xs := ([] : List T_api_Entry)) (ys := x_1.Entries) (xv := .slice A_2 x_1.Entries.length c_3) (j := 0) (bk := [1]) rfl (by kernel_rfl) (by kernel_rfl) (by kernel_rfl) (by kernel_rfl) rfl (by kernel_rfl) rfl (fun w S hB => SrcIs.row (Reads.rd w S (hB _ (List.mem_of_getElem? (i := 1) rfl)))) h6 rfl rfl rfl rfl _ (fun _ _ => rfl) (fun A_7 c_8 => ?_))
  refine GoO.exec (is := [3, 4]) (hs := [.p, .b 1]) (rest := []) (ks := [1, 2]) (env' := [(1, .pointer (some ⟨b_4, 0, none⟩)), (2, .pointer (some ⟨b_5, 0, none⟩))]) (H' := [⟨41, b_5, [.int .i64 0, .int .i64 0, .int .i64 0, .int .u64 0, .int .u64 0, .int .u64 0, .int .u64 0, .bool false, .slice none ([] : List T_api_Entry).length 0, .string (bs [])]⟩, ⟨40, b_4, [.int .i64 x_1.Kind, .int .i64 x_1.From, .int .i64 x_1.To, .int .u64 x_1.Term, .int .u64 x_1.Index, .int .u64 x_1.Prev, .int .u64 x_1.Commit, .bool x_1.Ok, .slice A_7 (([] : List T_api_Entry) ++ x_1.Entries).length c_8, .string (bs x_1.Data)]⟩]) (ps := [b_4 = b_4]) (by kernel_rfl) (And.intro rfl trivial) ?_
  refine GoO.regionEnd ?_
  refine GoO.seq' c38_4e ?_
  refine GoO.region' (is := [0, 1]) c38_5e (by kernel_rfl) ?_
  refine GoO.exec (is := [0, 1]) (hs := [.b 1, .b 0]) (rest := []) (ks := [2]) (env' := [(2, .pointer (some ⟨b_5, 0, none⟩))]) (H' := [⟨41, b_5, [.int .i64 x_1.Kind, .int .i64 x_1.From, .int .i64 x_1.To, .int .u64 x_1.Term, .int .u64 x_1.Index, .int .u64 x_1.Prev, .int .u64 x_1.Commit, .bool x_1.Ok, .slice A_7 (([] : List T_api_Entry) ++ x_1.Entries).length c_8, .string (bs x_1.Data)]⟩, ⟨40, b_4, [.int .i64 x_1.Kind, .int .i64 x_1.From, .int .i64 x_1.To, .int .u64 x_1.Term, .int .u64 x_1.Index, .int .u64 x_1.Prev, .int .u64 x_1.Commit, .bool x_1.Ok, .slice A_7 (([] : List T_api_Entry) ++ x_1.Entries).length c_8, .string (bs x_1.Data)]⟩]) (ps := [b_4 = b_4, b_5 = b_5]) (by kernel_rfl) (And.intro rfl (And.intro rfl trivial)) ?_
  refine GoO.regionEnd ?_
  refine GoO.retag (t := 42) (u := 0) (j := 0) (hk := [0, 1]) (bk := [1]) rfl rfl rfl rfl rfl rfl (by kernel_rfl) (by kernel_rfl) ?_
  refine GoO.own2rd (j := 0) rfl ?_
  exact GoO.ret' (h := c38_6e) (hs := [0]) (ps := [b_5 = b_5]) (hk := []) (bk := [0]) Try.func38 (⟨A_7, c_8⟩ : Option Addr × Nat) (by kernel_rfl) (And.intro rfl trivial) (by kernel_rfl) (by kernel_rfl)

/-! (*tontine/net.Net).Send -/
noncomputable def c16_0 : Code := bodyOf Try.f16
noncomputable def c16_1 : Code := cdL c16_0
noncomputable def c16_2 : Code := cdR c16_0
noncomputable def c16_3 : Code := cdL c16_2
noncomputable def c16_4 : Code := cdL c16_3
noncomputable def c16_5 : Code := cdR c16_3
noncomputable def c16_9 : Code := cdR c16_5
noncomputable def c16_10 : Code := cdR c16_2
noncomputable def c16_11 : Code := cdL c16_10
noncomputable def c16_12 : Code := cdL c16_11
noncomputable def c16_13 : Code := cdR c16_11
noncomputable def c16_14 : Code := cdL c16_13
noncomputable def c16_15 : Code := cdL c16_14
noncomputable def c16_16 : Code := cdR c16_14
noncomputable def c16_17 : Code := cdL c16_16
noncomputable def c16_18 : Code := cdR c16_16
noncomputable def c16_19 : Code := cdR c16_13
noncomputable def c16_20 : Code := cdR c16_10
noncomputable def c16_21 : Code := cdL c16_20
noncomputable def c16_22 : Code := cdR c16_20
noncomputable def c16_23 : Code := cdL c16_22
noncomputable def c16_24 : Code := cdR c16_22
noncomputable def c16_6 : Code := cdL c16_5
noncomputable def r16_1 : Array Oper := cdO c16_1
noncomputable def r16_4 : Array Oper := cdO c16_4
noncomputable def r16_12 : Array Oper := cdO c16_12
noncomputable def r16_15 : Array Oper := cdO c16_15
noncomputable def r16_17 : Array Oper := cdO c16_17
noncomputable def r16_21 : Array Oper := cdO c16_21
noncomputable def r16_23 : Array Oper := cdO c16_23
theorem c16_0e : c16_0 = .seq c16_1 c16_2 := by kernel_rfl
theorem c16_1e : c16_1 = .region 0 r16_1 false := by kernel_rfl
theorem c16_2e : c16_2 = .seq c16_3 c16_10 := by kernel_rfl
theorem c16_3e : c16_3 = .seq c16_4 c16_5 := by kernel_rfl
theorem c16_4e : c16_4 = .region 1 r16_4 false := by kernel_rfl
theorem c16_5e : c16_5 = .cond (cdC c16_5) c16_6 c16_9 := by kernel_rfl
theorem c16_9e : c16_9 = .skip := by kernel_rfl
theorem c16_10e : c16_10 = .seq c16_11 c16_20 := by kernel_rfl
theorem c16_11e : c16_11 = .seq c16_12 c16_13 := by kernel_rfl
theorem c16_12e : c16_12 = .region 3 r16_12 false := by kernel_rfl
theorem c16_13e : c16_13 = .cond (cdC c16_13) c16_14 c16_19 := by kernel_rfl
theorem c16_14e : c16_14 = .seq c16_15 c16_16 := by kernel_rfl
theorem c16_15e : c16_15 = .region 4 r16_15 false := by kernel_rfl
theorem c16_16e : c16_16 = .seq c16_17 c16_18 := by kernel_rfl
theorem c16_17e : c16_17 = .region 5 r16_17 false := by kernel_rfl
theorem c16_18e : c16_18 = .ret := by kernel_rfl
theorem c16_19e : c16_19 = .skip := by kernel_rfl
theorem c16_20e : c16_20 = .seq c16_21 c16_22 := by kernel_rfl
theorem c16_21e : c16_21 = .region 6 r16_21 true := by kernel_rfl
theorem c16_22e : c16_22 = .seq c16_23 c16_24 := by kernel_rfl
theorem c16_23e : c16_23 = .region 7 r16_23 false := by kernel_rfl
theorem c16_24e : c16_24 = .ret := by kernel_rfl
noncomputable def net_Net_Send.R (b_2 : Nat) (A_3 : Option Addr) (c_4 : Nat) (A_6 : Option Addr) (c_7 : Nat) : Pst (Bool × T_net_Net) where
  ε := Option Addr × Nat
  v := fun r x => .bool r.1
  H := fun r x => [⟨1, b_2, [.slice x.1 r.2.l.length x.2, .int .i64 r.2.lost]⟩]
  B := fun r x => [Ow 2 kT_api_Letter x.1 x.2 r.2.l]
noncomputable def net_Net_Send.cx (b_2 : Nat) (A_3 : Option Addr) (c_4 : Nat) (A_6 : Option Addr) (c_7 : Nat) (w0 : World) (S0 : Fam) : Cx (Bool × T_net_Net) := ⟨Try.prog, 16, Try.f16, 31, w0, S0, [1, 2], 2, net_Net_Send.R b_2 A_3 c_4 A_6 c_7⟩
theorem net_Net_Send_ok (n : Nat) (n_1 : T_net_Net) (x_5 : T_api_Letter) (b_2 : Nat) (A_3 : Option Addr) (c_4 : Nat) (A_6 : Option Addr) (c_7 : Nat) :
    Meets Try.prog 16 [.pointer (some ⟨b_2, 0, none⟩), .agg ⟨[.int .i64 x_5.Kind, .int .i64 x_5.From, .int .i64 x_5.To, .int .u64 x_5.Term, .int .u64 x_5.Index, .int .u64 x_5.Prev, .int .u64 x_5.Commit, .bool x_5.Ok, .slice A_6 x_5.Entries.length c_7, .string (bs x_5.Data)]⟩] 2 [1, 2] [⟨1, b_2, [.slice A_3 n_1.l.length c_4, .int .i64 n_1.lost]⟩] [Ow 2 kT_api_Letter A_3 c_4 n_1.l, Rd 0 kT_api_Entry A_6 c_7 x_5.Entries] (net_Net_Send.f n n_1 x_5) (net_Net_Send.R b_2 A_3 c_4 A_6 c_7) := by
  refine Meets.of (c := c16_0) (n := 31) Try.func16 (by kernel_rfl) (by kernel_rfl) (by kernel_rfl) fun w0 S0 => ?_
  unfold net_Net_Send.f
  show GoO (net_Net_Send.cx b_2 A_3 c_4 A_6 c_7 w0 S0) [(0, .pointer (some ⟨b_2, 0, none⟩)), (1, .agg ⟨[.int .i64 x_5.Kind, .int .i64 x_5.From, .int .i64 x_5.To, .int .u64 x_5.Term, .int .u64 x_5.Index, .int .u64 x_5.Prev, .int .u64 x_5.Commit, .bool x_5.Ok, .slice A_6 x_5.Entries.length c_7, .string (bs x_5.Data)]⟩)] [⟨1, b_2, [.slice A_3 n_1.l.length c_4, .int .i64 n_1.lost]⟩] [Ow 2 kT_api_Letter A_3 c_4 n_1.l, Rd 0 kT_api_Entry A_6 c_7 x_5.Entries] [.code c16_0] _
  refine GoO.seq' c16_0e ?_
  refine GoO.region' (is := [0, 1]) c16_1e (by kernel_rfl) ?_
  refine OpTo.go (GoO.new rfl 40 (cs := [.int .i64 x_5.Kind, .int .i64 x_5.From, .int .i64 x_5.To, .int .u64 x_5.Term, .int .u64 x_5.Index, .int .u64 x_5.Prev, .int .u64 x_5.Commit, .bool x_5.Ok, .slice A_6 x_5.Entries.length c_7, .string (bs x_5.Data)]) (by kernel_rfl) _ (fun _ => rfl) (fun b_8 => ?_))
  refine GoO.exec (is := [1]) (hs := [.p]) (rest := []) (ks := [0, 3]) (env' := [(0, .pointer (some ⟨b_2, 0, none⟩)), (3, .pointer (some ⟨b_8, 0, none⟩))]) (H' := [⟨40, b_8, [.int .i64 x_5.Kind, .int .i64 x_5.From, .int .i64 x_5.To, .int .u64 x_5.Term, .int .u64 x_5.Index, .int .u64 x_5.Prev, .int .u64 x_5.Commit, .bool x_5.Ok, .slice A_6 x_5.Entries.length c_7, .string (bs x_5.Data)]⟩, ⟨1, b_2, [.slice A_3 n_1.l.length c_4, .int .i64 n_1.lost]⟩]) (ps := []) (by kernel_rfl) trivial ?_
  refine GoO.regionEnd ?_
  refine GoO.seq' c16_2e ?_
  refine GoO.seq' c16_3e ?_
  refine GoO.region' (is := [0, 1]) c16_4e (by kernel_rfl) ?_
  refine GoO.exec (is := [0, 1]) (hs := [.p, .p]) (rest := []) (ks := [0, 3, 6]) (env' := [(0, .pointer (some ⟨b_2, 0, none⟩)), (3, .pointer (some ⟨b_8, 0, none⟩)), (6, .bool false)]) (H' := [⟨40, b_8, [.int .i64 x_5.Kind, .int .i64 x_5.From, .int .i64 x_5.To, .int .u64 x_5.Term, .int .u64 x_5.Index, .int .u64 x_5.Prev, .int .u64 x_5.Commit, .bool x_5.Ok, .slice A_6 x_5.Entries.length c_7, .string (bs x_5.Data)]⟩, ⟨1, b_2, [.slice A_3 n_1.l.length c_4, .int .i64 n_1.lost]⟩]) (ps := []) (by kernel_rfl) trivial ?_
  refine GoO.regionEnd ?_
  refine GoO.condF c16_5e (by kernel_rfl) ?_
  refine GoO.skip' c16_9e ?_
  refine GoO.seq' c16_10e ?_
  refine GoO.seq' c16_11e ?_
  refine GoO.region' (is := [0, 1, 2, 3, 4, 5]) c16_12e (by kernel_rfl) ?_
  refine GoO.exec (is := [0, 1, 2, 3, 4, 5]) (hs := [.p, .p, .p, .b 1, .p, .p]) (rest := []) (ks := [0, 3, 12]) (env' := [(0, .pointer (some ⟨b_2, 0, none⟩)), (3, .pointer (some ⟨b_8, 0, none⟩)), (12, .bool ((n_1.l.length : Int) == 256))]) (H' := [⟨40, b_8, [.int .i64 x_5.Kind, .int .i64 x_5.From, .int .i64 x_5.To, .int .u64 x_5.Term, .int .u64 x_5.Index, .int .u64 x_5.Prev, .int .u64 x_5.Commit, .bool x_5.Ok, .slice A_6 x_5.Entries.length c_7, .string (bs x_5.Data)]⟩, ⟨1, b_2, [.slice A_3 n_1.l.length c_4, .int .i64 n_1.lost]⟩]) (ps := [b_2 = b_2]) (by kernel_rfl) (And.intro rfl trivial) ?_
  refine GoO.regionEnd ?_
  refine GoO.ite' c16_13e (by kernel_rfl) (fun h9 => ?_) (fun h9 => ?_)
  · refine GoO.seq' c16_14e ?_
    refine GoO.region' (is := [0, 1, 2, 3, 4, 5, 6, 7]) c16_15e (by kernel_rfl) ?_
    refine GoO.exec (is := [0, 1, 2, 3, 4, 5, 6, 7]) (hs := [.p, .p, .p, .b 1, .p, .p, .p, .b 1]) (rest := []) (ks := []) (env' := []) (H' := [⟨40, b_8, [.int .i64 x_5.Kind, .int .i64 x_5.From, .int .i64 x_5.To, .int .u64 x_5.Term, .int .u64 x_5.Index, .int .u64 x_5.Prev, .int .u64 x_5.Commit, .bool x_5.Ok, .slice A_6 x_5.Entries.length c_7, .string (bs x_5.Data)]⟩, ⟨1, b_2, [.slice A_3 n_1.l.length c_4, .int .i64 (wi64 (n_1.lost + 1))]⟩]) (ps := [b_2 = b_2, b_2 = b_2]) (by kernel_rfl) (And.intro rfl (And.intro rfl trivial)) ?_
    refine GoO.regionEnd ?_
    refine GoO.seq' c16_16e ?_
    refine GoO.region' (is := [0]) c16_17e (by kernel_rfl) ?_
    refine GoO.exec (is := [0]) (hs := [.p]) (rest := []) (ks := [4]) (env' := [(4, .bool false)]) (H' := [⟨40, b_8, [.int .i64 x_5.Kind, .int .i64 x_5.From, .int .i64 x_5.To, .int .u64 x_5.Term, .int .u64 x_5.Index, .int .u64 x_5.Prev, .int .u64 x_5.Commit, .bool x_5.Ok, .slice A_6 x_5.Entries.length c_7, .string (bs x_5.Data)]⟩, ⟨1, b_2, [.slice A_3 n_1.l.length c_4, .int .i64 (wi64 (n_1.lost + 1))]⟩]) (ps := []) (by kernel_rfl) trivial ?_
    refine GoO.regionEnd ?_
    exact GoO.ret' (h := c16_18e) (hs := []) (ps := []) (hk := [1]) (bk := [0]) Try.func16 (⟨A_3, c_4⟩ : Option Addr × Nat) (by kernel_rfl) trivial (by kernel_rfl) (by kernel_rfl)
  · refine GoO.skip' c16_19e ?_
    refine GoO.seq' c16_20e ?_
    refine GoO.draw c16_21e (by kernel_rfl) [9, 10, 11] [⟨40, b_8, [.int .i64 x_5.Kind, .int .i64 x_5.From, .int .i64 x_5.To, .int .u64 x_5.Term, .int .u64 x_5.Index, .int .u64 x_5.Prev, .int .u64 x_5.Commit, .bool x_5.Ok, .slice A_6 x_5.Entries.length c_7, .string (bs x_5.Data)]⟩, ⟨1, b_2, [.slice A_3 n_1.l.length c_4, .int .i64 n_1.lost]⟩] [] (n := 12) (by kernel_rfl) ?_
    simp only [List.replicate]
    refine GoF.take [0, 1, 2, 3, 4, 5] [.p, .p, .p, .p, .b 1, .b 0] (ks := [20, 24, 25]) (fu := 6) (li := [true, true, true, true, true, true, false, false, false, false, false, false]) (env' := [(20, .pointer (some ⟨b_2, 0, none⟩)), (24, .slice A_3 n_1.l.length c_4), (25, .agg ⟨[.int .i64 x_5.Kind, .int .i64 x_5.From, .int .i64 x_5.To, .int .u64 x_5.Term, .int .u64 x_5.Index, .int .u64 x_5.Prev, .int .u64 x_5.Commit, .bool x_5.Ok, .slice A_6 x_5.Entries.length c_7, .string (bs x_5.Data)]⟩)]) (ps := [b_2 = b_2, b_8 = b_8]) (hk := [0, 1]) (bk := []) (by kernel_rfl) (And.intro rfl (And.intro rfl trivial)) rfl rfl ?_
    refine OpTo.goF (i := 6) (by kernel_rfl) (hk := [0, 1]) (bk := []) (GoO.call rfl (by kernel_rfl) (by kernel_rfl) (net_copied_ok n x_5 A_6 c_7) [[0]] [] [] [(0, 1)] (hks := [0, 1]) (bks := [0, 1]) (by kernel_rfl) (by kernel_rfl) (by kernel_rfl) (.inl rfl) rfl rfl (by kernel_rfl) (by kernel_rfl) _ (fun _ _ => rfl) _ _ (fun _ _ => rfl) (fun _ _ => rfl) (fun _ _ => by kernel_rfl) (fun _ _ => by kernel_rfl) (fun r_10 x_18 => ⟨rfl, rfl, ?_⟩))
    obtain ⟨A_11, c_12⟩ := x_18
    refine GoF.shape (env' := [(20, .pointer (some ⟨b_2, 0, none⟩)), (24, .slice A_3 n_1.l.length c_4), (25, .agg ⟨[.int .i64 x_5.Kind, .int .i64 x_5.From, .int .i64 x_5.To, .int .u64 x_5.Term, .int .u64 x_5.Index, .int .u64 x_5.Prev, .int .u64 x_5.Commit, .bool x_5.Ok, .slice A_6 x_5.Entries.length c_7, .string (bs x_5.Data)]⟩), (26, .agg ⟨[.int .i64 r_10.Kind, .int .i64 r_10.From, .int .i64 r_10.To, .int .u64 r_10.Term, .int .u64 r_10.Index, .int .u64 r_10.Prev, .int .u64 r_10.Commit, .bool r_10.Ok, .slice A_11 r_10.Entries.length c_12, .string (bs r_10.Data)]⟩)]) (H' := [⟨40, b_8, [.int .i64 x_5.Kind, .int .i64 x_5.From, .int .i64 x_5.To, .int .u64 x_5.Term, .int .u64 x_5.Index, .int .u64 x_5.Prev, .int .u64 x_5.Commit, .bool x_5.Ok, .slice A_6 x_5.Entries.length c_7, .string (bs x_5.Data)]⟩, ⟨1, b_2, [.slice A_3 n_1.l.length c_4, .int .i64 n_1.lost]⟩]) (B' := [Rd 0 kT_api_Entry A_11 c_12 r_10.Entries, Ow 2 kT_api_Letter A_3 c_4 n_1.l, Rd 0 kT_api_Entry A_6 c_7 x_5.Entries]) (ks := [20, 24, 25, 26]) (by kernel_rfl) (by kernel_rfl) (by kernel_rfl) ?_
    refine OpTo.goF (i := 7) (by kernel_rfl) (hk := [0, 1]) (bk := []) (GoO.lit (e := 29) (K := kT_api_Letter) rfl (by kernel_rfl) (by kernel_rfl) (cs := [.int .i64 r_10.Kind, .int .i64 r_10.From, .int .i64 r_10.To, .int .u64 r_10.Term, .int .u64 r_10.Index, .int .u64 r_10.Prev, .int .u64 r_10.Commit, .bool r_10.Ok, .slice A_11 r_10.Entries.length c_12, .string (bs r_10.Data)]) (by kernel_rfl) [r_10] (by kernel_rfl) (by kernel_rfl) (fun w S hB => ⟨[.int .i64 r_10.Kind, .int .i64 r_10.From, .int .i64 r_10.To, .int .u64 r_10.Term, .int .u64 r_10.Index, .int .u64 r_10.Prev, .int .u64 r_10.Commit, .bool r_10.Ok, .slice A_11 r_10.Entries.length c_12, .string (bs r_10.Data)], _, rfl, ⟨A_11, c_12, rfl, hB _ (List.mem_of_getElem? (i := 0) rfl)⟩, rfl⟩) 41 _ (fun _ _ => rfl) (fun A_13 c_14 => ⟨rfl, rfl, ?_⟩))
    refine GoF.guard (fun h15 => ?_)
    refine OpTo.goF (i := 8) (by kernel_rfl) (hk := [0, 1]) (bk := []) (GoO.appW (e := 29) (K := kT_api_Letter) (A := A_3) (c := c_4) (tg := 2) (bytes := 104) (zs := [.int .i64 0, .int .i64 0, .int .i64 0, .int .u64 0, .int .u64 0, .int .u64 0, .int .u64 0, .bool false, .slice none 0 0, .string (bs [])]) (xs := n_1.l) (ys := [r_10]) (xv := .slice A_13 [r_10].length c_14) (j := 2) (bk := [0, 1, 3]) rfl (by kernel_rfl) (by kernel_rfl) (by kernel_rfl) (by kernel_rfl) rfl (by kernel_rfl) rfl (fun w S hB => SrcIs.row (Reads.own w S (hB _ (List.mem_of_getElem? (i := 0) rfl)))) h15 rfl rfl rfl rfl _ (fun _ _ => rfl) (fun A_16 c_17 => ⟨rfl, rfl, ?_⟩))
    refine GoF.fin1 (i := 9) (hint := .p) (ps := []) (hk := []) (bk := []) (by kernel_rfl) rfl trivial (.inl rfl) ?_
    refine GoF.fin1 (i := 10) (hint := .p) (ps := []) (hk := []) (bk := []) (by kernel_rfl) rfl trivial (.inl rfl) ?_
    refine GoF.fin1 (i := 11) (hint := .b 1) (ps := [b_2 = b_2]) (hk := []) (bk := []) (by kernel_rfl) rfl (And.intro rfl trivial) (.inl rfl) ?_
    refine GoF.done (by kernel_rfl) ?_
    refine GoO.seq' c16_22e ?_
    refine GoO.region' (is := [0]) c16_23e (by kernel_rfl) ?_
    refine GoO.exec (is := [0]) (hs := [.p]) (rest := []) (ks := [4]) (env' := [(4, .bool true)]) (H' := [⟨40, b_8, [.int .i64 x_5.Kind, .int .i64 x_5.From, .int .i64 x_5.To, .int .u64 x_5.Term, .int .u64 x_5.Index, .int .u64 x_5.Prev, .int .u64 x_5.Commit, .bool x_5.Ok, .slice A_6 x_5.Entries.length c_7, .string (bs x_5.Data)]⟩, ⟨1, b_2, [.slice A_16 (n_1.l ++ [r_10]).length c_17, .int .i64 n_1.lost]⟩]) (ps := []) (by kernel_rfl) trivial ?_
    refine GoO.regionEnd ?_
    exact GoO.ret' (h := c16_24e) (hs := []) (ps := []) (hk := [1]) (bk := [0]) Try.func16 (⟨A_16, c_17⟩ : Option Addr × Nat) (by kernel_rfl) trivial (by kernel_rfl) (by kernel_rfl)

/-! (*tontine/net.Net).place -/
noncomputable def c39_0 : Code := bodyOf Try.f39
noncomputable def c39_1 : Code := cdL c39_0
noncomputable def c39_2 : Code := cdR c39_0
noncomputable def c39_3 : Code := cdL c39_2
noncomputable def c39_4 : Code := cdL c39_3
noncomputable def c39_5 : Code := cdR c39_3
noncomputable def c39_6 : Code := cdL c39_5
noncomputable def c39_7 : Code := cdL c39_6
noncomputable def c39_8 : Code := cdR c39_6
noncomputable def c39_9 : Code := cdR c39_5
noncomputable def c39_10 : Code := cdR c39_2
noncomputable def c39_11 : Code := cdL c39_10
noncomputable def c39_12 : Code := cdR c39_10
noncomputable def c39_13 : Code := cdL c39_12
noncomputable def c39_14 : Code := cdL c39_13
noncomputable def c39_15 : Code := cdR c39_13
noncomputable def c39_16 : Code := cdL c39_15
noncomputable def c39_17 : Code := cdR c39_15
noncomputable def c39_18 : Code := cdR c39_12
noncomputable def c39_19 : Code := cdL c39_18
noncomputable def c39_20 : Code := cdR c39_18
noncomputable def r39_1 : Array Oper := cdO c39_1
noncomputable def r39_4 : Array Oper := cdO c39_4
noncomputable def r39_7 : Array Oper := cdO c39_7
noncomputable def r39_11 : Array Oper := cdO c39_11
noncomputable def r39_14 : Array Oper := cdO c39_14
noncomputable def r39_16 : Array Oper := cdO c39_16
noncomputable def r39_19 : Array Oper := cdO c39_19
theorem c39_0e : c39_0 = .seq c39_1 c39_2 := by kernel_rfl
theorem c39_1e : c39_1 = .region 0 r39_1 false := by kernel_rfl
theorem c39_2e : c39_2 = .seq c39_3 c39_10 := by kernel_rfl
theorem c39_3e : c39_3 = .seq c39_4 c39_5 := by kernel_rfl
theorem c39_4e : c39_4 = .region 1 r39_4 false := by kernel_rfl
theorem c39_5e : c39_5 = .cond (cdC c39_5) c39_6 c39_9 := by kernel_rfl
theorem c39_6e : c39_6 = .seq c39_7 c39_8 := by kernel_rfl
theorem c39_7e : c39_7 = .region 2 r39_7 false := by kernel_rfl
theorem c39_8e : c39_8 = .ret := by kernel_rfl
theorem c39_9e : c39_9 = .skip := by kernel_rfl
theorem c39_10e : c39_10 = .seq c39_11 c39_12 := by kernel_rfl
theorem c39_11e : c39_11 = .region 3 r39_11 false := by kernel_rfl
theorem c39_12e : c39_12 = .seq c39_13 c39_18 := by kernel_rfl
theorem c39_13e : c39_13 = .seq c39_14 c39_15 := by kernel_rfl
theorem c39_14e : c39_14 = .region 4 r39_14 false := by kernel_rfl
theorem c39_15e : c39_15 = .cond (cdC c39_15) c39_16 c39_17 := by kernel_rfl
theorem c39_16e : c39_16 = .region 5 r39_16 false := by kernel_rfl
theorem c39_17e : c39_17 = .skip := by kernel_rfl
theorem c39_18e : c39_18 = .seq c39_19 c39_20 := by kernel_rfl
theorem c39_19e : c39_19 = .region 6 r39_19 false := by kernel_rfl
theorem c39_20e : c39_20 = .ret := by kernel_rfl
noncomputable def net_Net_place.R (b_2 : Nat) (A_3 : Option Addr) (c_4 : Nat) : Pst Int where
  ε := Unit
  v := fun r x => .int .i64 r
  H := fun r x => []
  B := fun r x => []
noncomputable def net_Net_place.cx (b_2 : Nat) (A_3 : Option Addr) (c_4 : Nat) (w0 : World) (S0 : Fam) : Cx Int := ⟨Try.prog, 39, Try.f39, 33, w0, S0, [], 2, net_Net_place.R b_2 A_3 c_4⟩
theorem net_Net_place_ok (n : Nat) (n_1 : T_net_Net) (i_5 : Int) (b_2 : Nat) (A_3 : Option Addr) (c_4 : Nat) :
    Meets Try.prog 39 [.pointer (some ⟨b_2, 0, none⟩), .int .i64 i_5] 2 [] [⟨1, b_2, [.slice A_3 n_1.l.length c_4, .int .i64 n_1.lost]⟩] [Ow 2 kT_api_Letter A_3 c_4 n_1.l] (net_Net_place.f n n_1 i_5) (net_Net_place.R b_2 A_3 c_4) := by
  refine Meets.of (c := c39_0) (n := 33) Try.func39 (by kernel_rfl) (by kernel_rfl) (by kernel_rfl) fun w0 S0 => ?_
  unfold net_Net_place.f
  show GoO (net_Net_place.cx b_2 A_3 c_4 w0 S0) [(0, .pointer (some ⟨b_2, 0, none⟩)), (1, .int .i64 i_5)] [⟨1, b_2, [.slice A_3 n_1.l.length c_4, .int .i64 n_1.lost]⟩] [Ow 2 kT_api_Letter A_3 c_4 n_1.l] [.code c39_0] _
  refine GoO.seq' c39_0e ?_
  refine GoO.region' (is := [0]) c39_1e (by kernel_rfl) ?_
  refine GoO.exec (is := [0]) (hs := [.p]) (rest := []) (ks := [0, 1]) (env' := [(0, .pointer (some ⟨b_2, 0, none⟩)), (1, .int .i64 i_5)]) (H' := [⟨1, b_2, [.slice A_3 n_1.l.length c_4, .int .i64 n_1.lost]⟩]) (ps := []) (by kernel_rfl) trivial ?_
  refine GoO.regionEnd ?_
  refine GoO.seq' c39_2e ?_
  refine GoO.seq' c39_3e ?_
  refine GoO.region' (is := [0, 1, 2, 3, 4, 5, 6, 7, 8, 9]) c39_4e (by kernel_rfl) ?_
  refine GoO.exec (is := [0, 1, 2, 3, 4, 5, 6, 7, 8, 9]) (hs := [.p, .p, .p, .p, .p, .p, .b 0, .p, .p, .p]) (rest := []) (ks := [0, 1, 15]) (env' := [(0, .pointer (some ⟨b_2, 0, none⟩)), (1, .int .i64 i_5), (15, .bool ((n_1.l.length : Int) == 0))]) (H' := [⟨1, b_2, [.slice A_3 n_1.l.length c_4, .int .i64 n_1.lost]⟩]) (ps := [b_2 = b_2]) (by kernel_rfl) (And.intro rfl trivial) ?_
  refine GoO.regionEnd ?_
  refine GoO.ite' c39_5e (by kernel_rfl) (fun h6 => ?_) (fun h6 => ?_)
  · refine GoO.seq' c39_6e ?_
    refine GoO.region' (is := [0]) c39_7e (by kernel_rfl) ?_
    refine GoO.exec (is := [0]) (hs := [.p]) (rest := []) (ks := [4]) (env' := [(4, .int .i64 (-1))]) (H' := [⟨1, b_2, [.slice A_3 n_1.l.length c_4, .int .i64 n_1.lost]⟩]) (ps := []) (by kernel_rfl) trivial ?_
    refine GoO.regionEnd ?_
    exact GoO.ret' (h := c39_8e) (hs := []) (ps := []) (hk := []) (bk := []) Try.func39 () (by kernel_rfl) trivial (by kernel_rfl) (by kernel_rfl)
  · refine GoO.skip' c39_9e ?_
    refine GoO.seq' c39_10e ?_
    refine GoO.region' (is := [0, 1, 2, 3, 4, 5, 6, 7]) c39_11e (by kernel_rfl) ?_
    refine GoO.guard (fun h7 => ?_)
    refine GoO.exec (is := [0, 1, 2, 3, 4, 5, 6, 7]) (hs := [.p, .p, .p, .p, .b 0, .p, .p, .p]) (rest := []) (ks := [0, 5]) (env' := [(0, .pointer (some ⟨b_2, 0, none⟩)), (5, .int .i64 (i_5.tmod (n_1.l.length : Int)))]) (H' := [⟨1, b_2, [.slice A_3 n_1.l.length c_4, .int .i64 n_1.lost]⟩]) (ps := [b_2 = b_2, (n_1.l.length : Int) ≠ 0]) (by kernel_rfl) (And.intro rfl (And.intro h7 trivial)) ?_
    refine GoO.regionEnd ?_
    refine GoO.seq' c39_12e ?_
    refine GoO.seq' c39_13e ?_
    refine GoO.region' (is := [0, 1]) c39_14e (by kernel_rfl) ?_
    refine GoO.exec (is := [0, 1]) (hs := [.p, .p]) (rest := []) (ks := [0, 5, 24]) (env' := [(0, .pointer (some ⟨b_2, 0, none⟩)), (5, .int .i64 (i_5.tmod (n_1.l.length : Int))), (24, .bool (decide ((i_5.tmod (n_1.l.length : Int)) < 0)))]) (H' := [⟨1, b_2, [.slice A_3 n_1.l.length c_4, .int .i64 n_1.lost]⟩]) (ps := []) (by kernel_rfl) trivial ?_
    refine GoO.regionEnd ?_
    refine GoO.ite' c39_15e (by kernel_rfl) (fun h8 => ?_) (fun h8 => ?_)
    · refine GoO.region' (is := [0, 1, 2, 3, 4, 5, 6, 7]) c39_16e (by kernel_rfl) ?_
      refine GoO.exec (is := [0, 1, 2, 3, 4, 5, 6, 7]) (hs := [.p, .p, .p, .p, .b 0, .p, .p, .p]) (rest := []) (ks := [5]) (env' := [(5, .int .i64 (wi64 ((i_5.tmod (n_1.l.length : Int)) + (n_1.l.length : Int))))]) (H' := [⟨1, b_2, [.slice A_3 n_1.l.length c_4, .int .i64 n_1.lost]⟩]) (ps := [b_2 = b_2]) (by kernel_rfl) (And.intro rfl trivial) ?_
      refine GoO.regionEnd ?_
      refine GoO.seq' c39_18e ?_
      refine GoO.region' (is := [0, 1]) c39_19e (by kernel_rfl) ?_
      refine GoO.exec (is := [0, 1]) (hs := [.p, .p]) (rest := []) (ks := [4]) (env' := [(4, .int .i64 (wi64 ((i_5.tmod (n_1.l.length : Int)) + (n_1.l.length : Int))))]) (H' := [⟨1, b_2, [.slice A_3 n_1.l.length c_4, .int .i64 n_1.lost]⟩]) (ps := []) (by kernel_rfl) trivial ?_
      refine GoO.regionEnd ?_
      exact GoO.ret' (h := c39_20e) (hs := []) (ps := []) (hk := []) (bk := []) Try.func39 () (by kernel_rfl) trivial (by kernel_rfl) (by kernel_rfl)
    · refine GoO.skip' c39_17e ?_
      refine GoO.seq' c39_18e ?_
      refine GoO.region' (is := [0, 1]) c39_19e (by kernel_rfl) ?_
      refine GoO.exec (is := [0, 1]) (hs := [.p, .p]) (rest := []) (ks := [4]) (env' := [(4, .int .i64 (i_5.tmod (n_1.l.length : Int)))]) (H' := [⟨1, b_2, [.slice A_3 n_1.l.length c_4, .int .i64 n_1.lost]⟩]) (ps := []) (by kernel_rfl) trivial ?_
      refine GoO.regionEnd ?_
      exact GoO.ret' (h := c39_20e) (hs := []) (ps := []) (hk := []) (bk := []) Try.func39 () (by kernel_rfl) trivial (by kernel_rfl) (by kernel_rfl)

/-! (*tontine/net.Net).Take -/
noncomputable def c17_0 : Code := bodyOf Try.f17
noncomputable def c17_1 : Code := cdL c17_0
noncomputable def c17_2 : Code := cdR c17_0
noncomputable def c17_3 : Code := cdL c17_2
noncomputable def c17_4 : Code := cdR c17_2
noncomputable def c17_5 : Code := cdL c17_4
noncomputable def c17_6 : Code := cdL c17_5
noncomputable def c17_7 : Code := cdR c17_5
noncomputable def c17_8 : Code := cdL c17_7
noncomputable def c17_9 : Code := cdL c17_8
noncomputable def c17_10 : Code := cdR c17_8
noncomputable def c17_11 : Code := cdR c17_7
noncomputable def c17_12 : Code := cdR c17_4
noncomputable def c17_13 : Code := cdL c17_12
noncomputable def c17_14 : Code := cdR c17_12
noncomputable def c17_15 : Code := cdL c17_14
noncomputable def c17_16 : Code := cdR c17_14
noncomputable def c17_17 : Code := cdL c17_16
noncomputable def c17_18 : Code := cdR c17_16
noncomputable def r17_1 : Array Oper := cdO c17_1
noncomputable def r17_3 : Array Oper := cdO c17_3
noncomputable def r17_6 : Array Oper := cdO c17_6
noncomputable def r17_9 : Array Oper := cdO c17_9
noncomputable def r17_13 : Array Oper := cdO c17_13
noncomputable def r17_15 : Array Oper := cdO c17_15
noncomputable def r17_17 : Array Oper := cdO c17_17
theorem c17_0e : c17_0 = .seq c17_1 c17_2 := by kernel_rfl
theorem c17_1e : c17_1 = .region 0 r17_1 false := by kernel_rfl
theorem c17_2e : c17_2 = .seq c17_3 c17_4 := by kernel_rfl
theorem c17_3e : c17_3 = .region 1 r17_3 false := by kernel_rfl
theorem c17_4e : c17_4 = .seq c17_5 c17_12 := by kernel_rfl
theorem c17_5e : c17_5 = .seq c17_6 c17_7 := by kernel_rfl
theorem c17_6e : c17_6 = .region 2 r17_6 false := by kernel_rfl
theorem c17_7e : c17_7 = .cond (cdC c17_7) c17_8 c17_11 := by kernel_rfl
theorem c17_8e : c17_8 = .seq c17_9 c17_10 := by kernel_rfl
theorem c17_9e : c17_9 = .region 3 r17_9 false := by kernel_rfl
theorem c17_10e : c17_10 = .ret := by kernel_rfl
theorem c17_11e : c17_11 = .skip := by kernel_rfl
theorem c17_12e : c17_12 = .seq c17_13 c17_14 := by kernel_rfl
theorem c17_13e : c17_13 = .region 4 r17_13 false := by kernel_rfl
theorem c17_14e : c17_14 = .seq c17_15 c17_16 := by kernel_rfl
theorem c17_15e : c17_15 = .region 5 r17_15 true := by kernel_rfl
theorem c17_16e : c17_16 = .seq c17_17 c17_18 := by kernel_rfl
theorem c17_17e : c17_17 = .region 6 r17_17 false := by kernel_rfl
theorem c17_18e : c17_18 = .ret := by kernel_rfl
noncomputable def net_Net_Take.R (b_2 : Nat) (A_3 : Option Addr) (c_4 : Nat) : Pst (T_api_Letter × Bool × T_net_Net) where
  ε := Option Addr × Nat × Option Addr × Nat
  v := fun r x => .tuple ⟨[.agg ⟨[.int .i64 r.1.Kind, .int .i64 r.1.From, .int .i64 r.1.To, .int .u64 r.1.Term, .int .u64 r.1.Index, .int .u64 r.1.Prev, .int .u64 r.1.Commit, .bool r.1.Ok, .slice x.1 r.1.Entries.length x.2.1, .string (bs r.1.Data)]⟩, .bool r.2.1]⟩
  H := fun r x => [⟨1, b_2, [.slice x.2.2.1 r.2.2.l.length x.2.2.2, .int .i64 r.2.2.lost]⟩]
  B := fun r x => [Rd 0 kT_api_Entry x.1 x.2.1 r.1.Entries, Ow 2 kT_api_Letter x.2.2.1 x.2.2.2 r.2.2.l]
noncomputable def net_Net_Take.cx (b_2 : Nat) (A_3 : Option Addr) (c_4 : Nat) (w0 : World) (S0 : Fam) : Cx (T_api_Letter × Bool × T_net_Net) := ⟨Try.prog, 17, Try.f17, 40, w0, S0, [1, 2], 2, net_Net_Take.R b_2 A_3 c_4⟩
theorem net_Net_Take_ok (n : Nat) (n_1 : T_net_Net) (i_5 : Int) (b_2 : Nat) (A_3 : Option Addr) (c_4 : Nat) :
    Meets Try.prog 17 [.pointer (some ⟨b_2, 0, none⟩), .int .i64 i_5] 2 [1, 2] [⟨1, b_2, [.slice A_3 n_1.l.length c_4, .int .i64 n_1.lost]⟩] [Ow 2 kT_api_Letter A_3 c_4 n_1.l] (net_Net_Take.f n n_1 i_5) (net_Net_Take.R b_2 A_3 c_4) := by
  refine Meets.of (c := c17_0) (n := 40) Try.func17 (by kernel_rfl) (by kernel_rfl) (by kernel_rfl) fun w0 S0 => ?_
  unfold net_Net_Take.f
  show GoO (net_Net_Take.cx b_2 A_3 c_4 w0 S0) [(0, .pointer (some ⟨b_2, 0, none⟩)), (1, .int .i64 i_5)] [⟨1, b_2, [.slice A_3 n_1.l.length c_4, .int .i64 n_1.lost]⟩] [Ow 2 kT_api_Letter A_3 c_4 n_1.l] [.code c17_0] _
  refine GoO.seq' c17_0e ?_
  refine GoO.region' (is := [0, 1]) c17_1e (by kernel_rfl) ?_
  refine OpTo.go (GoO.new rfl 40 (cs := [.int .i64 0, .int .i64 0, .int .i64 0, .int .u64 0, .int .u64 0, .int .u64 0, .int .u64 0, .bool false, .slice none ([] : List T_api_Entry).length 0, .string (bs [])]) (by kernel_rfl) _ (fun _ => rfl) (fun b_6 => ?_))
  refine GoO.exec (is := [1]) (hs := [.p]) (rest := []) (ks := [0, 1, 4]) (env' := [(0, .pointer (some ⟨b_2, 0, none⟩)), (1, .int .i64 i_5), (4, .pointer (some ⟨b_6, 0, none⟩))]) (H' := [⟨40, b_6, [.int .i64 0, .int .i64 0, .int .i64 0, .int .u64 0, .int .u64 0, .int .u64 0, .int .u64 0, .bool false, .slice none ([] : List T_api_Entry).length 0, .string (bs [])]⟩, ⟨1, b_2, [.slice A_3 n_1.l.length c_4, .int .i64 n_1.lost]⟩]) (ps := []) (by kernel_rfl) trivial ?_
  refine GoO.regionEnd ?_
  refine GoO.seq' c17_2e ?_
  refine GoO.region' (is := [0, 1, 2, 3]) c17_3e (by kernel_rfl) ?_
  refine GoO.exec (is := [0, 1]) (hs := [.p, .p]) (rest := [2, 3]) (ks := [0, 4, 8, 9]) (env' := [(0, .pointer (some ⟨b_2, 0, none⟩)), (4, .pointer (some ⟨b_6, 0, none⟩)), (8, .pointer (some ⟨b_2, 0, none⟩)), (9, .int .i64 i_5)]) (H' := [⟨40, b_6, [.int .i64 0, .int .i64 0, .int .i64 0, .int .u64 0, .int .u64 0, .int .u64 0, .int .u64 0, .bool false, .slice none ([] : List T_api_Entry).length 0, .string (bs [])]⟩, ⟨1, b_2, [.slice A_3 n_1.l.length c_4, .int .i64 n_1.lost]⟩]) (ps := []) (by kernel_rfl) trivial ?_
  refine OpTo.go (GoO.call rfl (by kernel_rfl) (by kernel_rfl) (net_Net_place_ok n n_1 i_5 b_2 A_3 c_4) [[0], [1], [2]] [] [(1, 1)] [(2, 0)] (hks := [0, 1]) (bks := [0]) (by kernel_rfl) (by kernel_rfl) (by kernel_rfl) (.inl rfl) rfl rfl (by kernel_rfl) (by kernel_rfl) _ (fun _ _ => rfl) _ _ (fun _ _ => rfl) (fun _ _ => rfl) (fun _ _ => by kernel_rfl) (fun _ _ => by kernel_rfl) (fun r_7 x_20 => ?_))
  refine GoO.shape (env' := [(0, .pointer (some ⟨b_2, 0, none⟩)), (4, .pointer (some ⟨b_6, 0, none⟩)), (8, .pointer (some ⟨b_2, 0, none⟩)), (9, .int .i64 i_5), (10, .int .i64 r_7)]) (H' := [⟨40, b_6, [.int .i64 0, .int .i64 0, .int .i64 0, .int .u64 0, .int .u64 0, .int .u64 0, .int .u64 0, .bool false, .slice none ([] : List T_api_Entry).length 0, .string (bs [])]⟩, ⟨1, b_2, [.slice A_3 n_1.l.length c_4, .int .i64 n_1.lost]⟩]) (B' := [Ow 2 kT_api_Letter A_3 c_4 n_1.l]) (ks := [0, 4, 8, 9, 10]) (by kernel_rfl) (by kernel_rfl) (by kernel_rfl) ?_
  refine GoO.exec (is := [3]) (hs := [.p]) (rest := []) (ks := [0, 4, 6]) (env' := [(0, .pointer (some ⟨b_2, 0, none⟩)), (4, .pointer (some ⟨b_6, 0, none⟩)), (6, .int .i64 r_7)]) (H' := [⟨40, b_6, [.int .i64 0, .int .i64 0, .int .i64 0, .int .u64 0, .int .u64 0, .int .u64 0, .int .u64 0, .bool false, .slice none ([] : List T_api_Entry).length 0, .string (bs [])]⟩, ⟨1, b_2, [.slice A_3 n_1.l.length c_4, .int .i64 n_1.lost]⟩]) (ps := []) (by kernel_rfl) trivial ?_
  refine GoO.regionEnd ?_
  refine GoO.seq' c17_4e ?_
  refine GoO.seq' c17_5e ?_
  refine GoO.region' (is := [0, 1]) c17_6e (by kernel_rfl) ?_
  refine GoO.exec (is := [0, 1]) (hs := [.p, .p]) (rest := []) (ks := [0, 4, 6, 12]) (env' := [(0, .pointer (some ⟨b_2, 0, none⟩)), (4, .pointer (some ⟨b_6, 0, none⟩)), (6, .int .i64 r_7), (12, .bool (decide (r_7 < 0)))]) (H' := [⟨40, b_6, [.int .i64 0, .int .i64 0, .int .i64 0, .int .u64 0, .int .u64 0, .int .u64 0, .int .u64 0, .bool false, .slice none ([] : List T_api_Entry).length 0, .string (bs [])]⟩, ⟨1, b_2, [.slice A_3 n_1.l.length c_4, .int .i64 n_1.lost]⟩]) (ps := []) (by kernel_rfl) trivial ?_
  refine GoO.regionEnd ?_
  refine GoO.ite' c17_7e (by kernel_rfl) (fun h8 => ?_) (fun h8 => ?_)
  · refine GoO.seq' c17_8e ?_
    refine GoO.region' (is := [0, 1, 2]) c17_9e (by kernel_rfl) ?_
    refine GoO.exec (is := [0, 1, 2]) (hs := [.p, .b 0, .p]) (rest := []) (ks := [4, 5]) (env' := [(4, .pointer (some ⟨b_6, 0, none⟩)), (5, .bool false)]) (H' := [⟨40, b_6, [.int .i64 0, .int .i64 0, .int .i64 0, .int .u64 0, .int .u64 0, .int .u64 0, .int .u64 0, .bool false, .slice none ([] : List T_api_Entry).length 0, .string (bs [])]⟩, ⟨1, b_2, [.slice A_3 n_1.l.length c_4, .int .i64 n_1.lost]⟩]) (ps := [b_6 = b_6]) (by kernel_rfl) (And.intro rfl trivial) ?_
    refine GoO.regionEnd ?_
    refine GoO.nilRd kT_api_Entry ?_
    exact GoO.ret' (h := c17_10e) (hs := [0]) (ps := [b_6 = b_6]) (hk := [1]) (bk := [0, 1]) Try.func17 (⟨none, 0, A_3, c_4⟩ : Option Addr × Nat × Option Addr × Nat) (by kernel_rfl) (And.intro rfl trivial) (by kernel_rfl) (by kernel_rfl)
  · refine GoO.skip' c17_11e ?_
    refine GoO.seq' c17_12e ?_
    refine GoO.region' (is := [0, 1, 2, 3, 4, 5, 6, 7, 8]) c17_13e (by kernel_rfl) ?_
    refine GoO.exec (is := [0, 1, 2, 3, 4]) (hs := [.p, .p, .p, .b 1, .p]) (rest := [5, 6, 7, 8]) (ks := [0, 4, 6, 17, 18]) (env' := [(0, .pointer (some ⟨b_2, 0, none⟩)), (4, .pointer (some ⟨b_6, 0, none⟩)), (6, .int .i64 r_7), (17, .slice A_3 n_1.l.length c_4), (18, .int .i64 r_7)]) (H' := [⟨40, b_6, [.int .i64 0, .int .i64 0, .int .i64 0, .int .u64 0, .int .u64 0, .int .u64 0, .int .u64 0, .bool false, .slice none ([] : List T_api_Entry).length 0, .string (bs [])]⟩, ⟨1, b_2, [.slice A_3 n_1.l.length c_4, .int .i64 n_1.lost]⟩]) (ps := [b_2 = b_2]) (by kernel_rfl) (And.intro rfl trivial) ?_
    refine GoO.guard (fun h9 => ?_)
    refine OpTo.go (GoO.idx (kk := .i64) (e := 29) (K := kT_api_Letter) (A := A_3) (c := c_4) (xs := n_1.l) (iv := r_7) (j := 0) rfl (by kernel_rfl) (by kernel_rfl) (by kernel_rfl) (by kernel_rfl) rfl Reads.own rfl h9.1 h9.2 (by decide) rfl ?_)
    refine OpTo.go (GoO.ldE' (K := kT_api_Letter) (A := A_3) (c := c_4) (xs := n_1.l) (iN := r_7.toNat) (off := 0) (j := 0) rfl (by kernel_rfl) rfl Reads.own (idx_lt h9.1 h9.2) (by decide) (oT_api_Letter _) (v := fun e => .agg ⟨[.int .i64 ((rdL n_1.l r_7).Kind), .int .i64 ((rdL n_1.l r_7).From), .int .i64 ((rdL n_1.l r_7).To), .int .u64 ((rdL n_1.l r_7).Term), .int .u64 ((rdL n_1.l r_7).Index), .int .u64 ((rdL n_1.l r_7).Prev), .int .u64 ((rdL n_1.l r_7).Commit), .bool ((rdL n_1.l r_7).Ok), .slice e.1 ((rdL n_1.l r_7).Entries).length e.2, .string (bs ((rdL n_1.l r_7).Data))]⟩) (fun _ => by kernel_rfl) _ (fun _ => rfl) ?_)
    rintro ⟨A_10, c_11⟩
    refine OpTo.go (GoO.new rfl 41 (cs := [.int .i64 0, .int .i64 0, .int .i64 0, .int .u64 0, .int .u64 0, .int .u64 0, .int .u64 0, .bool false, .slice none ([] : List T_api_Entry).length 0, .string (bs [])]) (by kernel_rfl) _ (fun _ => rfl) (fun b_12 => ?_))
    refine GoO.exec (is := [8]) (hs := [.b 0]) (rest := []) (ks := [0, 4, 6, 7]) (env' := [(0, .pointer (some ⟨b_2, 0, none⟩)), (4, .pointer (some ⟨b_6, 0, none⟩)), (6, .int .i64 r_7), (7, .pointer (some ⟨b_12, 0, none⟩))]) (H' := [⟨41, b_12, [.int .i64 ((rdL n_1.l r_7).Kind), .int .i64 ((rdL n_1.l r_7).From), .int .i64 ((rdL n_1.l r_7).To), .int .u64 ((rdL n_1.l r_7).Term), .int .u64 ((rdL n_1.l r_7).Index), .int .u64 ((rdL n_1.l r_7).Prev), .int .u64 ((rdL n_1.l r_7).Commit), .bool ((rdL n_1.l r_7).Ok), .slice A_10 ((rdL n_1.l r_7).Entries).length c_11, .string (bs ((rdL n_1.l r_7).Data))]⟩, ⟨40, b_6, [.int .i64 0, .int .i64 0, .int .i64 0, .int .u64 0, .int .u64 0, .int .u64 0, .int .u64 0, .bool false, .slice none ([] : List T_api_Entry).length 0, .string (bs [])]⟩, ⟨1, b_2, [.slice A_3 n_1.l.length c_4, .int .i64 n_1.lost]⟩]) (ps := [b_12 = b_12]) (by kernel_rfl) (And.intro rfl trivial) ?_
    refine GoO.regionEnd ?_
    refine GoO.seq' c17_14e ?_
    refine GoO.draw c17_15e (by kernel_rfl) [16, 17, 18] [⟨1, b_2, [.slice A_3 n_1.l.length c_4, .int .i64 n_1.lost]⟩] [] (n := 19) (by kernel_rfl) ?_
    simp only [List.replicate]
    refine GoF.take [0, 1, 2, 3, 4, 5, 6, 8, 9, 10, 11, 12, 13] [.p, .p, .p, .p, .b 0, .p, .p, .p, .p, .p, .b 0, .p, .p] (ks := [4, 7, 21, 25, 26, 27, 32, 34]) (fu := 6) (li := [true, true, true, true, true, true, true, false, true, true, true, true, true, true, false, false, false, false, false]) (env' := [(4, .pointer (some ⟨b_6, 0, none⟩)), (7, .pointer (some ⟨b_12, 0, none⟩)), (21, .pointer (some ⟨b_2, 0, none⟩)), (25, .slice A_3 n_1.l.length c_4), (26, .int .i64 r_7), (27, .int .i64 r_7), (32, .slice A_3 n_1.l.length c_4), (34, .int .i64 (wi64 (r_7 + 1)))]) (ps := [b_2 = b_2, b_2 = b_2]) (hk := [2]) (bk := []) (by kernel_rfl) (And.intro rfl (And.intro rfl trivial)) rfl rfl ?_
    refine GoF.guard (fun h13 => ?_)
    refine GoF.cut1 (i := 7) (hk := [2]) (bk := []) (e := 29) (K := kT_api_Letter) (A := A_3) (c := c_4) (xs := n_1.l) (h := r_7) (tg := 2) (j := 1) (by kernel_rfl) rfl rfl rfl (by kernel_rfl) (by kernel_rfl) (by kernel_rfl) rfl rfl (by kernel_rfl) (by kernel_rfl) h13.1 h13.2 rfl ?_
    refine GoF.guard (fun h16 => ?_)
    refine GoF.slc1 (i := 14) (hk := [2]) (bk := []) (e := 29) (K := kT_api_Letter) (A := A_3) (c := c_4) (xs := n_1.l) (j := 1) (l := (wi64 (r_7 + 1))) (h := (n_1.l.length : Int)) (by kernel_rfl) rfl rfl rfl (by kernel_rfl) (by kernel_rfl) (by kernel_rfl) rfl Reads.own rfl (by kernel_rfl) (by kernel_rfl) h16.1 h16.2.1 h16.2.2 _ (fun _ _ => rfl) (fun A_14 c_15 => ?_)
    refine GoF.guard (fun h17 => ?_)
    refine OpTo.goF (i := 15) (by kernel_rfl) (hk := [2]) (bk := []) (GoO.appC (e := 29) (K := kT_api_Letter) (A := A_3) (c0 := c_4) (m := r_7.toNat) (tg := 2) (bytes := 104) (zs := [.int .i64 0, .int .i64 0, .int .i64 0, .int .u64 0, .int .u64 0, .int .u64 0, .int .u64 0, .bool false, .slice none 0 0, .string (bs [])]) (xs := n_1.l) (ys := (n_1.l.take (n_1.l.length : Int).toNat).drop (wi64 (r_7 + 1)).toNat) (xv := .slice A_14 ((n_1.l.take (n_1.l.length : Int).toNat).drop (wi64 (r_7 + 1)).toNat).length c_15) (j := 2) (bk := [1]) rfl (by kernel_rfl) (by kernel_rfl) (by kernel_rfl) (by kernel_rfl) rfl (by kernel_rfl) rfl (by omega) (fun w S hB => SrcIs.row (Reads.rd w S (hB _ (List.mem_of_getElem? (i := 0) rfl)))) h17 rfl rfl rfl rfl _ (fun _ _ => rfl) (fun A_18 c_19 => ⟨rfl, rfl, ?_⟩))
    refine GoF.fin1 (i := 16) (hint := .p) (ps := []) (hk := []) (bk := []) (by kernel_rfl) rfl trivial (.inl rfl) ?_
    refine GoF.fin1 (i := 17) (hint := .p) (ps := []) (hk := []) (bk := []) (by kernel_rfl) rfl trivial (.inl rfl) ?_
    refine GoF.fin1 (i := 18) (hint := .b 2) (ps := [b_2 = b_2]) (hk := []) (bk := []) (by kernel_rfl) rfl (And.intro rfl trivial) (.inl rfl) ?_
    refine GoF.done (by kernel_rfl) ?_
    refine GoO.seq' c17_16e ?_
    refine GoO.region' (is := [0, 1, 2]) c17_17e (by kernel_rfl) ?_
    refine GoO.exec (is := [0, 1, 2]) (hs := [.b 0, .b 1, .p]) (rest := []) (ks := [4, 5]) (env' := [(4, .pointer (some ⟨b_6, 0, none⟩)), (5, .bool true)]) (H' := [⟨41, b_12, [.int .i64 ((rdL n_1.l r_7).Kind), .int .i64 ((rdL n_1.l r_7).From), .int .i64 ((rdL n_1.l r_7).To), .int .u64 ((rdL n_1.l r_7).Term), .int .u64 ((rdL n_1.l r_7).Index), .int .u64 ((rdL n_1.l r_7).Prev), .int .u64 ((rdL n_1.l r_7).Commit), .bool ((rdL n_1.l r_7).Ok), .slice A_10 ((rdL n_1.l r_7).Entries).length c_11, .string (bs ((rdL n_1.l r_7).Data))]⟩, ⟨40, b_6, [.int .i64 ((rdL n_1.l r_7).Kind), .int .i64 ((rdL n_1.l r_7).From), .int .i64 ((rdL n_1.l r_7).To), .int .u64 ((rdL n_1.l r_7).Term), .int .u64 ((rdL n_1.l r_7).Index), .int .u64 ((rdL n_1.l r_7).Prev), .int .u64 ((rdL n_1.l r_7).Commit), .bool ((rdL n_1.l r_7).Ok), .slice A_10 ((rdL n_1.l r_7).Entries).length c_11, .string (bs ((rdL n_1.l r_7).Data))]⟩, ⟨1, b_2, [.slice A_18 (n_1.l.take r_7.toNat ++ ((n_1.l.take (n_1.l.length : Int).toNat).drop (wi64 (r_7 + 1)).toNat)).length c_19, .int .i64 n_1.lost]⟩]) (ps := [b_12 = b_12, b_6 = b_6]) (by kernel_rfl) (And.intro rfl (And.intro rfl trivial)) ?_
    refine GoO.regionEnd ?_
    exact GoO.ret' (h := c17_18e) (hs := [1]) (ps := [b_6 = b_6]) (hk := [2]) (bk := [1, 0]) Try.func17 (⟨A_10, c_11, A_18, c_19⟩ : Option Addr × Nat × Option Addr × Nat) (by kernel_rfl) (And.intro rfl trivial) (by kernel_rfl) (by kernel_rfl)

/-! (*tontine/net.Net).Count -/
noncomputable def c19_0 : Code := bodyOf Try.f19
noncomputable def c19_1 : Code := cdL c19_0
noncomputable def c19_2 : Code := cdR c19_0
noncomputable def c19_3 : Code := cdL c19_2
noncomputable def c19_4 : Code := cdL c19_3
noncomputable def c19_5 : Code := cdR c19_3
noncomputable def c19_9 : Code := cdR c19_5
noncomputable def c19_10 : Code := cdR c19_2
noncomputable def c19_11 : Code := cdL c19_10
noncomputable def c19_12 : Code := cdR c19_10
noncomputable def c19_6 : Code := cdL c19_5
noncomputable def r19_1 : Array Oper := cdO c19_1
noncomputable def r19_4 : Array Oper := cdO c19_4
noncomputable def r19_11 : Array Oper := cdO c19_11
theorem c19_0e : c19_0 = .seq c19_1 c19_2 := by kernel_rfl
theorem c19_1e : c19_1 = .region 0 r19_1 false := by kernel_rfl
theorem c19_2e : c19_2 = .seq c19_3 c19_10 := by kernel_rfl
theorem c19_3e : c19_3 = .seq c19_4 c19_5 := by kernel_rfl
theorem c19_4e : c19_4 = .region 1 r19_4 false := by kernel_rfl
theorem c19_5e : c19_5 = .cond (cdC c19_5) c19_6 c19_9 := by kernel_rfl
theorem c19_9e : c19_9 = .skip := by kernel_rfl
theorem c19_10e : c19_10 = .seq c19_11 c19_12 := by kernel_rfl
theorem c19_11e : c19_11 = .region 3 r19_11 true := by kernel_rfl
theorem c19_12e : c19_12 = .ret := by kernel_rfl
noncomputable def net_Net_Count.R (b_2 : Nat) (A_3 : Option Addr) (c_4 : Nat) : Pst (Int × Int) where
  ε := Unit
  v := fun r x => .tuple ⟨[.int .i64 r.1, .int .i64 r.2]⟩
  H := fun r x => []
  B := fun r x => []
noncomputable def net_Net_Count.cx (b_2 : Nat) (A_3 : Option Addr) (c_4 : Nat) (w0 : World) (S0 : Fam) : Cx (Int × Int) := ⟨Try.prog, 19, Try.f19, 15, w0, S0, [], 2, net_Net_Count.R b_2 A_3 c_4⟩
theorem net_Net_Count_ok (n : Nat) (n_1 : T_net_Net) (b_2 : Nat) (A_3 : Option Addr) (c_4 : Nat) :
    Meets Try.prog 19 [.pointer (some ⟨b_2, 0, none⟩)] 2 [] [⟨1, b_2, [.slice A_3 n_1.l.length c_4, .int .i64 n_1.lost]⟩] [Ow 2 kT_api_Letter A_3 c_4 n_1.l] (net_Net_Count.f n n_1) (net_Net_Count.R b_2 A_3 c_4) := by
  refine Meets.of (c := c19_0) (n := 15) Try.func19 (by kernel_rfl) (by kernel_rfl) (by kernel_rfl) fun w0 S0 => ?_
  unfold net_Net_Count.f
  show GoO (net_Net_Count.cx b_2 A_3 c_4 w0 S0) [(0, .pointer (some ⟨b_2, 0, none⟩))] [⟨1, b_2, [.slice A_3 n_1.l.length c_4, .int .i64 n_1.lost]⟩] [Ow 2 kT_api_Letter A_3 c_4 n_1.l] [.code c19_0] _
  refine GoO.seq' c19_0e ?_
  refine GoO.region' (is := [0, 1]) c19_1e (by kernel_rfl) ?_
  refine GoO.exec (is := [0, 1]) (hs := [.p, .p]) (rest := []) (ks := [0]) (env' := [(0, .pointer (some ⟨b_2, 0, none⟩))]) (H' := [⟨1, b_2, [.slice A_3 n_1.l.length c_4, .int .i64 n_1.lost]⟩]) (ps := []) (by kernel_rfl) trivial ?_
  refine GoO.regionEnd ?_
  refine GoO.seq' c19_2e ?_
  refine GoO.seq' c19_3e ?_
  refine GoO.region' (is := [0, 1]) c19_4e (by kernel_rfl) ?_
  refine GoO.exec (is := [0, 1]) (hs := [.p, .p]) (rest := []) (ks := [0, 5]) (env' := [(0, .pointer (some ⟨b_2, 0, none⟩)), (5, .bool false)]) (H' := [⟨1, b_2, [.slice A_3 n_1.l.length c_4, .int .i64 n_1.lost]⟩]) (ps := []) (by kernel_rfl) trivial ?_
  refine GoO.regionEnd ?_
  refine GoO.condF c19_5e (by kernel_rfl) ?_
  refine GoO.skip' c19_9e ?_
  refine GoO.seq' c19_10e ?_
  refine GoO.draw c19_11e (by kernel_rfl) [10] [⟨1, b_2, [.slice A_3 n_1.l.length c_4, .int .i64 n_1.lost]⟩] [] (n := 11) (by kernel_rfl) ?_
  simp only [List.replicate]
  refine GoF.take [0, 1, 2, 3, 4, 5, 6, 7, 8, 9] [.p, .p, .p, .b 0, .p, .p, .p, .p, .b 0, .p] (ks := [2, 14]) (fu := 1) (li := [true, true, true, true, true, true, true, true, true, true, false]) (env' := [(2, .int .i64 (n_1.l.length : Int)), (14, .int .i64 n_1.lost)]) (ps := [b_2 = b_2, b_2 = b_2]) (hk := [0]) (bk := []) (by kernel_rfl) (And.intro rfl (And.intro rfl trivial)) rfl rfl ?_
  refine GoF.fin1 (i := 10) (hint := .p) (ps := []) (hk := []) (bk := []) (by kernel_rfl) rfl trivial (.inl rfl) ?_
  refine GoF.done (by kernel_rfl) ?_
  exact GoO.ret' (h := c19_12e) (hs := []) (ps := []) (hk := []) (bk := []) Try.func19 () (by kernel_rfl) trivial (by kernel_rfl) (by kernel_rfl)

/-! tontine/tontinelaw10.begun -/
noncomputable def c14_0 : Code := bodyOf Try.f14
noncomputable def c14_1 : Code := cdL c14_0
noncomputable def c14_2 : Code := cdR c14_0
noncomputable def c14_3 : Code := cdL c14_2
noncomputable def c14_4 : Code := cdR c14_2
noncomputable def c14_5 : Code := cdL c14_4
noncomputable def c14_6 : Code := cdR c14_4
noncomputable def c14_7 : Code := cdL c14_6
noncomputable def c14_8 : Code := cdR c14_6
noncomputable def c14_9 : Code := cdL c14_8
noncomputable def c14_10 : Code := cdR c14_8
noncomputable def c14_11 : Code := cdL c14_10
noncomputable def c14_12 : Code := cdR c14_10
noncomputable def r14_1 : Array Oper := cdO c14_1
noncomputable def r14_3 : Array Oper := cdO c14_3
noncomputable def r14_5 : Array Oper := cdO c14_5
noncomputable def r14_7 : Array Oper := cdO c14_7
noncomputable def r14_9 : Array Oper := cdO c14_9
noncomputable def r14_11 : Array Oper := cdO c14_11
theorem c14_0e : c14_0 = .seq c14_1 c14_2 := by kernel_rfl
theorem c14_1e : c14_1 = .region 0 r14_1 false := by kernel_rfl
theorem c14_2e : c14_2 = .seq c14_3 c14_4 := by kernel_rfl
theorem c14_3e : c14_3 = .region 1 r14_3 false := by kernel_rfl
theorem c14_4e : c14_4 = .seq c14_5 c14_6 := by kernel_rfl
theorem c14_5e : c14_5 = .region 2 r14_5 false := by kernel_rfl
theorem c14_6e : c14_6 = .seq c14_7 c14_8 := by kernel_rfl
theorem c14_7e : c14_7 = .region 3 r14_7 false := by kernel_rfl
theorem c14_8e : c14_8 = .seq c14_9 c14_10 := by kernel_rfl
theorem c14_9e : c14_9 = .region 4 r14_9 false := by kernel_rfl
theorem c14_10e : c14_10 = .seq c14_11 c14_12 := by kernel_rfl
theorem c14_11e : c14_11 = .region 5 r14_11 false := by kernel_rfl
theorem c14_12e : c14_12 = .ret := by kernel_rfl
noncomputable def tontinelaw10_begun.R : Pst Bool where
  ε := Unit
  v := fun r x => .bool r
  H := fun r x => []
  B := fun r x => []
noncomputable def tontinelaw10_begun.cx (w0 : World) (S0 : Fam) : Cx Bool := ⟨Try.prog, 14, Try.f14, 45, w0, S0, [], 0, tontinelaw10_begun.R⟩
theorem tontinelaw10_begun_ok (n : Nat) :
    Meets Try.prog 14 [] 0 [] [] [] (tontinelaw10_begun.f n) (tontinelaw10_begun.R) := by
  refine Meets.of (c := c14_0) (n := 45) Try.func14 (by kernel_rfl) (by kernel_rfl) (by kernel_rfl) fun w0 S0 => ?_
  unfold tontinelaw10_begun.f
  show GoO (tontinelaw10_begun.cx w0 S0) [] [] [] [.code c14_0] _
  refine GoO.seq' c14_0e ?_
  refine GoO.region' (is := [0]) c14_1e (by kernel_rfl) ?_
  refine GoO.exec (is := [0]) (hs := [.p]) (rest := []) (ks := []) (env' := []) (H' := []) (ps := []) (by kernel_rfl) trivial ?_
  refine GoO.regionEnd ?_
  refine GoO.seq' c14_2e ?_
  refine GoO.region' (is := [0, 1]) c14_3e (by kernel_rfl) ?_
  refine OpTo.go (GoO.call rfl (by kernel_rfl) (by kernel_rfl) (net_New_ok n) [[0]] [(40, 1), (41, 2)] [] [] (hks := []) (bks := []) (by kernel_rfl) (by kernel_rfl) (by kernel_rfl) (.inl rfl) rfl rfl (by kernel_rfl) (by kernel_rfl) _ (fun _ _ => rfl) _ _ (fun _ _ => rfl) (fun _ _ => rfl) (fun _ _ => by kernel_rfl) (fun _ _ => by kernel_rfl) (fun r_1 x_27 => ?_))
  obtain ⟨b_2, A_3, c_4⟩ := x_27
  refine GoO.shape (env' := [(8, .pointer (some ⟨b_2, 0, none⟩))]) (H' := [⟨40, b_2, [.slice A_3 r_1.l.length c_4, .int .i64 r_1.lost]⟩]) (B' := [Ow 41 kT_api_Letter A_3 c_4 r_1.l]) (ks := [8]) (by kernel_rfl) (by kernel_rfl) (by kernel_rfl) ?_
  refine GoO.exec (is := [1]) (hs := [.p]) (rest := []) (ks := [1]) (env' := [(1, .pointer (some ⟨b_2, 0, none⟩))]) (H' := [⟨40, b_2, [.slice A_3 r_1.l.length c_4, .int .i64 r_1.lost]⟩]) (ps := []) (by kernel_rfl) trivial ?_
  refine GoO.regionEnd ?_
  refine GoO.seq' c14_4e ?_
  refine GoO.region' (is := [0, 1, 2, 3, 4, 5, 6, 7]) c14_5e (by kernel_rfl) ?_
  refine GoO.exec (is := [0, 1]) (hs := [.p, .p]) (rest := [2, 3, 4, 5, 6, 7]) (ks := [1, 9, 10]) (env' := [(1, .pointer (some ⟨b_2, 0, none⟩)), (9, .pointer (some ⟨b_2, 0, none⟩)), (10, .agg ⟨[.int .i64 1, .int .i64 0, .int .i64 0, .int .u64 0, .int .u64 0, .int .u64 0, .int .u64 0, .bool false, .slice none ([] : List T_api_Entry).length 0, .string (bs [])]⟩)]) (H' := [⟨40, b_2, [.slice A_3 r_1.l.length c_4, .int .i64 r_1.lost]⟩]) (ps := []) (by kernel_rfl) trivial ?_
  refine GoO.nilRd kT_api_Entry ?_
  refine OpTo.go (GoO.call rfl (by kernel_rfl) (by kernel_rfl) (net_Net_Send_ok n r_1 (⟨1, 0, 0, 0, 0, 0, 0, false, [], []⟩ : T_api_Letter) b_2 A_3 c_4 none 0) [[0], [40], [41]] [(40, 1), (41, 2)] [(1, 0)] [(2, 1), (0, 0)] (hks := []) (bks := [0]) (by kernel_rfl) (by kernel_rfl) (by kernel_rfl) (.inl rfl) rfl rfl (by kernel_rfl) (by kernel_rfl) _ (fun _ _ => rfl) _ _ (fun _ _ => rfl) (fun _ _ => rfl) (fun _ _ => by kernel_rfl) (fun _ _ => by kernel_rfl) (fun r_5 x_26 => ?_))
  obtain ⟨A_6, c_7⟩ := x_26
  refine GoO.shape (env' := [(1, .pointer (some ⟨b_2, 0, none⟩)), (9, .pointer (some ⟨b_2, 0, none⟩)), (10, .agg ⟨[.int .i64 1, .int .i64 0, .int .i64 0, .int .u64 0, .int .u64 0, .int .u64 0, .int .u64 0, .bool false, .slice none ([] : List T_api_Entry).length 0, .string (bs [])]⟩), (11, .bool r_5.1)]) (H' := [⟨40, b_2, [.slice A_6 r_5.2.l.length c_7, .int .i64 r_5.2.lost]⟩]) (B' := [Ow 41 kT_api_Letter A_6 c_7 r_5.2.l, Rd 0 kT_api_Entry none 0 ([] : List T_api_Entry)]) (ks := [1, 9, 10, 11]) (by kernel_rfl) (by kernel_rfl) (by kernel_rfl) ?_
  refine GoO.exec (is := [3, 4]) (hs := [.p, .p]) (rest := [5, 6, 7]) (ks := [1, 11, 12, 13]) (env' := [(1, .pointer (some ⟨b_2, 0, none⟩)), (11, .bool r_5.1), (12, .pointer (some ⟨b_2, 0, none⟩)), (13, .agg ⟨[.int .i64 2, .int .i64 0, .int .i64 0, .int .u64 0, .int .u64 0, .int .u64 0, .int .u64 0, .bool false, .slice none ([] : List T_api_Entry).length 0, .string (bs [])]⟩)]) (H' := [⟨40, b_2, [.slice A_6 r_5.2.l.length c_7, .int .i64 r_5.2.lost]⟩]) (ps := []) (by kernel_rfl) trivial ?_
  refine GoO.nilRd kT_api_Entry ?_
  refine OpTo.go (GoO.call rfl (by kernel_rfl) (by kernel_rfl) (net_Net_Send_ok n r_5.2 (⟨2, 0, 0, 0, 0, 0, 0, false, [], []⟩ : T_api_Letter) b_2 A_6 c_7 none 0) [[0], [40], [41]] [(40, 1), (41, 2)] [(1, 0)] [(2, 1), (0, 0)] (hks := []) (bks := [0, 2]) (by kernel_rfl) (by kernel_rfl) (by kernel_rfl) (.inl rfl) rfl rfl (by kernel_rfl) (by kernel_rfl) _ (fun _ _ => rfl) _ _ (fun _ _ => rfl) (fun _ _ => rfl) (fun _ _ => by kernel_rfl) (fun _ _ => by kernel_rfl) (fun r_8 x_25 => ?_))
  obtain ⟨A_9, c_10⟩ := x_25
  refine GoO.shape (env' := [(1, .pointer (some ⟨b_2, 0, none⟩)), (11, .bool r_5.1), (12, .pointer (some ⟨b_2, 0, none⟩)), (13, .agg ⟨[.int .i64 2, .int .i64 0, .int .i64 0, .int .u64 0, .int .u64 0, .int .u64 0, .int .u64 0, .bool false, .slice none ([] : List T_api_Entry).length 0, .string (bs [])]⟩), (14, .bool r_8.1)]) (H' := [⟨40, b_2, [.slice A_9 r_8.2.l.length c_10, .int .i64 r_8.2.lost]⟩]) (B' := [Ow 41 kT_api_Letter A_9 c_10 r_8.2.l, Rd 0 kT_api_Entry none 0 ([] : List T_api_Entry), Rd 0 kT_api_Entry none 0 ([] : List T_api_Entry)]) (ks := [1, 11, 12, 13, 14]) (by kernel_rfl) (by kernel_rfl) (by kernel_rfl) ?_
  refine GoO.exec (is := [6, 7]) (hs := [.p, .p]) (rest := []) (ks := [1, 2, 3]) (env' := [(1, .pointer (some ⟨b_2, 0, none⟩)), (2, .bool r_5.1), (3, .bool r_8.1)]) (H' := [⟨40, b_2, [.slice A_9 r_8.2.l.length c_10, .int .i64 r_8.2.lost]⟩]) (ps := []) (by kernel_rfl) trivial ?_
  refine GoO.regionEnd ?_
  refine GoO.seq' c14_6e ?_
  refine GoO.region' (is := [0, 1, 2, 3, 4, 5, 6, 7]) c14_7e (by kernel_rfl) ?_
  refine GoO.exec (is := [0]) (hs := [.p]) (rest := [1, 2, 3, 4, 5, 6, 7]) (ks := [1, 2, 3, 16]) (env' := [(1, .pointer (some ⟨b_2, 0, none⟩)), (2, .bool r_5.1), (3, .bool r_8.1), (16, .pointer (some ⟨b_2, 0, none⟩))]) (H' := [⟨40, b_2, [.slice A_9 r_8.2.l.length c_10, .int .i64 r_8.2.lost]⟩]) (ps := []) (by kernel_rfl) trivial ?_
  refine OpTo.go (GoO.call rfl (by kernel_rfl) (by kernel_rfl) (net_Net_Take_ok n r_8.2 3 b_2 A_9 c_10) [[0], [40], [41]] [(40, 1), (41, 2)] [(1, 0)] [(2, 0)] (hks := []) (bks := [1, 2]) (by kernel_rfl) (by kernel_rfl) (by kernel_rfl) (.inl rfl) rfl rfl (by kernel_rfl) (by kernel_rfl) _ (fun _ _ => rfl) _ _ (fun _ _ => rfl) (fun _ _ => rfl) (fun _ _ => by kernel_rfl) (fun _ _ => by kernel_rfl) (fun r_11 x_24 => ?_))
  obtain ⟨A_12, c_13, A_14, c_15⟩ := x_24
  refine GoO.shape (env' := [(1, .pointer (some ⟨b_2, 0, none⟩)), (2, .bool r_5.1), (3, .bool r_8.1), (16, .pointer (some ⟨b_2, 0, none⟩)), (17, .tuple ⟨[.agg ⟨[.int .i64 r_11.1.Kind, .int .i64 r_11.1.From, .int .i64 r_11.1.To, .int .u64 r_11.1.Term, .int .u64 r_11.1.Index, .int .u64 r_11.1.Prev, .int .u64 r_11.1.Commit, .bool r_11.1.Ok, .slice A_12 r_11.1.Entries.length c_13, .string (bs r_11.1.Data)]⟩, .bool r_11.2.1]⟩)]) (H' := [⟨40, b_2, [.slice A_14 r_11.2.2.l.length c_15, .int .i64 r_11.2.2.lost]⟩]) (B' := [Rd 0 kT_api_Entry A_12 c_13 r_11.1.Entries, Ow 41 kT_api_Letter A_14 c_15 r_11.2.2.l, Rd 0 kT_api_Entry none 0 ([] : List T_api_Entry), Rd 0 kT_api_Entry none 0 ([] : List T_api_Entry)]) (ks := [1, 2, 3, 16, 17]) (by kernel_rfl) (by kernel_rfl) (by kernel_rfl) ?_
  refine GoO.exec (is := [2, 3, 4]) (hs := [.p, .p, .p]) (rest := [5, 6, 7]) (ks := [1, 2, 3, 18, 19]) (env' := [(1, .pointer (some ⟨b_2, 0, none⟩)), (2, .bool r_5.1), (3, .bool r_8.1), (18, .agg ⟨[.int .i64 r_11.1.Kind, .int .i64 r_11.1.From, .int .i64 r_11.1.To, .int .u64 r_11.1.Term, .int .u64 r_11.1.Index, .int .u64 r_11.1.Prev, .int .u64 r_11.1.Commit, .bool r_11.1.Ok, .slice A_12 r_11.1.Entries.length c_13, .string (bs r_11.1.Data)]⟩), (19, .bool r_11.2.1)]) (H' := [⟨40, b_2, [.slice A_14 r_11.2.2.l.length c_15, .int .i64 r_11.2.2.lost]⟩]) (ps := []) (by kernel_rfl) trivial ?_
  refine OpTo.go (GoO.new rfl 42 (cs := [.int .i64 0, .int .i64 0, .int .i64 0, .int .u64 0, .int .u64 0, .int .u64 0, .int .u64 0, .bool false, .slice none ([] : List T_api_Entry).length 0, .string (bs [])]) (by kernel_rfl) _ (fun _ => rfl) (fun b_16 => ?_))
  refine GoO.exec (is := [6, 7]) (hs := [.b 0, .p]) (rest := []) (ks := [1, 2, 3, 4, 5]) (env' := [(1, .pointer (some ⟨b_2, 0, none⟩)), (2, .bool r_5.1), (3, .bool r_8.1), (4, .pointer (some ⟨b_16, 0, none⟩)), (5, .bool r_11.2.1)]) (H' := [⟨42, b_16, [.int .i64 r_11.1.Kind, .int .i64 r_11.1.From, .int .i64 r_11.1.To, .int .u64 r_11.1.Term, .int .u64 r_11.1.Index, .int .u64 r_11.1.Prev, .int .u64 r_11.1.Commit, .bool r_11.1.Ok, .slice A_12 r_11.1.Entries.length c_13, .string (bs r_11.1.Data)]⟩, ⟨40, b_2, [.slice A_14 r_11.2.2.l.length c_15, .int .i64 r_11.2.2.lost]⟩]) (ps := [b_16 = b_16]) (by kernel_rfl) (And.intro rfl trivial) ?_
  refine GoO.regionEnd ?_
  refine GoO.seq' c14_8e ?_
  refine GoO.region' (is := [0, 1, 2, 3, 4, 5, 6]) c14_9e (by kernel_rfl) ?_
  refine GoO.exec (is := [0]) (hs := [.p]) (rest := [1, 2, 3, 4, 5, 6]) (ks := [2, 3, 4, 5, 21]) (env' := [(2, .bool r_5.1), (3, .bool r_8.1), (4, .pointer (some ⟨b_16, 0, none⟩)), (5, .bool r_11.2.1), (21, .pointer (some ⟨b_2, 0, none⟩))]) (H' := [⟨42, b_16, [.int .i64 r_11.1.Kind, .int .i64 r_11.1.From, .int .i64 r_11.1.To, .int .u64 r_11.1.Term, .int .u64 r_11.1.Index, .int .u64 r_11.1.Prev, .int .u64 r_11.1.Commit, .bool r_11.1.Ok, .slice A_12 r_11.1.Entries.length c_13, .string (bs r_11.1.Data)]⟩, ⟨40, b_2, [.slice A_14 r_11.2.2.l.length c_15, .int .i64 r_11.2.2.lost]⟩]) (ps := []) (by kernel_rfl) trivial ?_
  refine OpTo.go (GoO.call rfl (by kernel_rfl) (by kernel_rfl) (net_Net_Count_ok n r_11.2.2 b_2 A_14 c_15) [[0], [40], [41]] [] [(1, 1)] [(2, 1)] (hks := [0, 1]) (bks := [0, 1, 2, 3]) (by kernel_rfl) (by kernel_rfl) (by kernel_rfl) (.inl rfl) rfl rfl (by kernel_rfl) (by kernel_rfl) _ (fun _ _ => rfl) _ _ (fun _ _ => rfl) (fun _ _ => rfl) (fun _ _ => by kernel_rfl) (fun _ _ => by kernel_rfl) (fun r_17 x_23 => ?_))
  refine GoO.shape (env' := [(2, .bool r_5.1), (3, .bool r_8.1), (4, .pointer (some ⟨b_16, 0, none⟩)), (5, .bool r_11.2.1), (21, .pointer (some ⟨b_2, 0, none⟩)), (22, .tuple ⟨[.int .i64 r_17.1, .int .i64 r_17.2]⟩)]) (H' := [⟨42, b_16, [.int .i64 r_11.1.Kind, .int .i64 r_11.1.From, .int .i64 r_11.1.To, .int .u64 r_11.1.Term, .int .u64 r_11.1.Index, .int .u64 r_11.1.Prev, .int .u64 r_11.1.Commit, .bool r_11.1.Ok, .slice A_12 r_11.1.Entries.length c_13, .string (bs r_11.1.Data)]⟩, ⟨40, b_2, [.slice A_14 r_11.2.2.l.length c_15, .int .i64 r_11.2.2.lost]⟩]) (B' := [Rd 0 kT_api_Entry A_12 c_13 r_11.1.Entries, Ow 41 kT_api_Letter A_14 c_15 r_11.2.2.l, Rd 0 kT_api_Entry none 0 ([] : List T_api_Entry), Rd 0 kT_api_Entry none 0 ([] : List T_api_Entry)]) (ks := [2, 3, 4, 5, 21, 22]) (by kernel_rfl) (by kernel_rfl) (by kernel_rfl) ?_
  refine GoO.exec (is := [2, 3, 4, 5, 6]) (hs := [.p, .p, .p, .p, .p]) (rest := []) (ks := [2, 3, 4, 5, 6, 7]) (env' := [(2, .bool r_5.1), (3, .bool r_8.1), (4, .pointer (some ⟨b_16, 0, none⟩)), (5, .bool r_11.2.1), (6, .int .i64 r_17.1), (7, .int .i64 r_17.2)]) (H' := [⟨42, b_16, [.int .i64 r_11.1.Kind, .int .i64 r_11.1.From, .int .i64 r_11.1.To, .int .u64 r_11.1.Term, .int .u64 r_11.1.Index, .int .u64 r_11.1.Prev, .int .u64 r_11.1.Commit, .bool r_11.1.Ok, .slice A_12 r_11.1.Entries.length c_13, .string (bs r_11.1.Data)]⟩, ⟨40, b_2, [.slice A_14 r_11.2.2.l.length c_15, .int .i64 r_11.2.2.lost]⟩]) (ps := []) (by kernel_rfl) trivial ?_
  refine GoO.regionEnd ?_
  refine GoO.seq' c14_10e ?_
  refine GoO.region' (is := [0, 1, 2, 3, 4, 5, 6, 7, 8, 9, 10, 11, 12, 13, 14, 15, 16, 17, 18, 19, 20]) c14_11e (by kernel_rfl) ?_
  refine GoO.exec (is := [0, 1]) (hs := [.p, .p]) (rest := [2, 3, 4, 5, 6, 7, 8, 9, 10, 11, 12, 13, 14, 15, 16, 17, 18, 19, 20]) (ks := [3, 4, 5, 6, 7, 26]) (env' := [(3, .bool r_8.1), (4, .pointer (some ⟨b_16, 0, none⟩)), (5, .bool r_11.2.1), (6, .int .i64 r_17.1), (7, .int .i64 r_17.2), (26, .bool r_5.1)]) (H' := [⟨42, b_16, [.int .i64 r_11.1.Kind, .int .i64 r_11.1.From, .int .i64 r_11.1.To, .int .u64 r_11.1.Term, .int .u64 r_11.1.Index, .int .u64 r_11.1.Prev, .int .u64 r_11.1.Commit, .bool r_11.1.Ok, .slice A_12 r_11.1.Entries.length c_13, .string (bs r_11.1.Data)]⟩, ⟨40, b_2, [.slice A_14 r_11.2.2.l.length c_15, .int .i64 r_11.2.2.lost]⟩]) (ps := []) (by kernel_rfl) trivial ?_
  refine GoO.bsplit (t := 26) (by kernel_rfl) (fun h18 => ?_) (fun h18 => ?_)
  · refine GoO.exec (is := [2, 3, 4]) (hs := [.p, .p, .p]) (rest := [5, 6, 7, 8, 9, 10, 11, 12, 13, 14, 15, 16, 17, 18, 19, 20]) (ks := [4, 5, 6, 7, 29]) (env' := [(4, .pointer (some ⟨b_16, 0, none⟩)), (5, .bool r_11.2.1), (6, .int .i64 r_17.1), (7, .int .i64 r_17.2), (29, .bool r_8.1)]) (H' := [⟨42, b_16, [.int .i64 r_11.1.Kind, .int .i64 r_11.1.From, .int .i64 r_11.1.To, .int .u64 r_11.1.Term, .int .u64 r_11.1.Index, .int .u64 r_11.1.Prev, .int .u64 r_11.1.Commit, .bool r_11.1.Ok, .slice A_12 r_11.1.Entries.length c_13, .string (bs r_11.1.Data)]⟩, ⟨40, b_2, [.slice A_14 r_11.2.2.l.length c_15, .int .i64 r_11.2.2.lost]⟩]) (ps := []) (by kernel_rfl) trivial ?_
    refine GoO.bsplit (t := 29) (by kernel_rfl) (fun h19 => ?_) (fun h19 => ?_)
    · refine GoO.exec (is := [5, 6, 7]) (hs := [.p, .p, .p]) (rest := [8, 9, 10, 11, 12, 13, 14, 15, 16, 17, 18, 19, 20]) (ks := [4, 6, 7, 32]) (env' := [(4, .pointer (some ⟨b_16, 0, none⟩)), (6, .int .i64 r_17.1), (7, .int .i64 r_17.2), (32, .bool r_11.2.1)]) (H' := [⟨42, b_16, [.int .i64 r_11.1.Kind, .int .i64 r_11.1.From, .int .i64 r_11.1.To, .int .u64 r_11.1.Term, .int .u64 r_11.1.Index, .int .u64 r_11.1.Prev, .int .u64 r_11.1.Commit, .bool r_11.1.Ok, .slice A_12 r_11.1.Entries.length c_13, .string (bs r_11.1.Data)]⟩, ⟨40, b_2, [.slice A_14 r_11.2.2.l.length c_15, .int .i64 r_11.2.2.lost]⟩]) (ps := []) (by kernel_rfl) trivial ?_
      refine GoO.bsplit (t := 32) (by kernel_rfl) (fun h20 => ?_) (fun h20 => ?_)
      · refine GoO.exec (is := [8, 9, 10, 11, 12]) (hs := [.p, .b 0, .p, .p, .p]) (rest := [13, 14, 15, 16, 17, 18, 19, 20]) (ks := [6, 7, 37]) (env' := [(6, .int .i64 r_17.1), (7, .int .i64 r_17.2), (37, .bool (r_11.1.Kind == 2))]) (H' := [⟨42, b_16, [.int .i64 r_11.1.Kind, .int .i64 r_11.1.From, .int .i64 r_11.1.To, .int .u64 r_11.1.Term, .int .u64 r_11.1.Index, .int .u64 r_11.1.Prev, .int .u64 r_11.1.Commit, .bool r_11.1.Ok, .slice A_12 r_11.1.Entries.length c_13, .string (bs r_11.1.Data)]⟩, ⟨40, b_2, [.slice A_14 r_11.2.2.l.length c_15, .int .i64 r_11.2.2.lost]⟩]) (ps := [b_16 = b_16]) (by kernel_rfl) (And.intro rfl trivial) ?_
        refine GoO.bsplit (t := 37) (by kernel_rfl) (fun h21 => ?_) (fun h21 => ?_)
        · refine GoO.exec (is := [13, 14, 15, 16]) (hs := [.p, .p, .p, .p]) (rest := [17, 18, 19, 20]) (ks := [7, 41]) (env' := [(7, .int .i64 r_17.2), (41, .bool (r_17.1 == 1))]) (H' := [⟨42, b_16, [.int .i64 r_11.1.Kind, .int .i64 r_11.1.From, .int .i64 r_11.1.To, .int .u64 r_11.1.Term, .int .u64 r_11.1.Index, .int .u64 r_11.1.Prev, .int .u64 r_11.1.Commit, .bool r_11.1.Ok, .slice A_12 r_11.1.Entries.length c_13, .string (bs r_11.1.Data)]⟩, ⟨40, b_2, [.slice A_14 r_11.2.2.l.length c_15, .int .i64 r_11.2.2.lost]⟩]) (ps := []) (by kernel_rfl) trivial ?_
          refine GoO.bsplit (t := 41) (by kernel_rfl) (fun h22 => ?_) (fun h22 => ?_)
          · refine GoO.exec (is := [17, 18, 19, 20]) (hs := [.p, .p, .p, .p]) (rest := []) (ks := [0]) (env' := [(0, .bool (r_17.2 == 0))]) (H' := [⟨42, b_16, [.int .i64 r_11.1.Kind, .int .i64 r_11.1.From, .int .i64 r_11.1.To, .int .u64 r_11.1.Term, .int .u64 r_11.1.Index, .int .u64 r_11.1.Prev, .int .u64 r_11.1.Commit, .bool r_11.1.Ok, .slice A_12 r_11.1.Entries.length c_13, .string (bs r_11.1.Data)]⟩, ⟨40, b_2, [.slice A_14 r_11.2.2.l.length c_15, .int .i64 r_11.2.2.lost]⟩]) (ps := []) (by kernel_rfl) trivial ?_
            refine GoO.regionEnd ?_
            exact GoO.ret' (h := c14_12e) (hs := []) (ps := []) (hk := []) (bk := []) Try.func14 () (by kernel_rfl) trivial (by kernel_rfl) (by kernel_rfl)
          · refine GoO.exec (is := [17, 18, 19, 20]) (hs := [.p, .p, .p, .p]) (rest := []) (ks := [0]) (env' := [(0, .bool false)]) (H' := [⟨42, b_16, [.int .i64 r_11.1.Kind, .int .i64 r_11.1.From, .int .i64 r_11.1.To, .int .u64 r_11.1.Term, .int .u64 r_11.1.Index, .int .u64 r_11.1.Prev, .int .u64 r_11.1.Commit, .bool r_11.1.Ok, .slice A_12 r_11.1.Entries.length c_13, .string (bs r_11.1.Data)]⟩, ⟨40, b_2, [.slice A_14 r_11.2.2.l.length c_15, .int .i64 r_11.2.2.lost]⟩]) (ps := []) (by kernel_rfl) trivial ?_
            refine GoO.regionEnd ?_
            exact GoO.ret' (h := c14_12e) (hs := []) (ps := []) (hk := []) (bk := []) Try.func14 () (by kernel_rfl) trivial (by kernel_rfl) (by kernel_rfl)
        · refine GoO.exec (is := [13, 14, 15, 16, 17, 18, 19, 20]) (hs := [.p, .p, .p, .p, .p, .p, .p, .p]) (rest := []) (ks := [0]) (env' := [(0, .bool false)]) (H' := [⟨42, b_16, [.int .i64 r_11.1.Kind, .int .i64 r_11.1.From, .int .i64 r_11.1.To, .int .u64 r_11.1.Term, .int .u64 r_11.1.Index, .int .u64 r_11.1.Prev, .int .u64 r_11.1.Commit, .bool r_11.1.Ok, .slice A_12 r_11.1.Entries.length c_13, .string (bs r_11.1.Data)]⟩, ⟨40, b_2, [.slice A_14 r_11.2.2.l.length c_15, .int .i64 r_11.2.2.lost]⟩]) (ps := []) (by kernel_rfl) trivial ?_
          refine GoO.regionEnd ?_
          exact GoO.ret' (h := c14_12e) (hs := []) (ps := []) (hk := []) (bk := []) Try.func14 () (by kernel_rfl) trivial (by kernel_rfl) (by kernel_rfl)
      · refine GoO.exec (is := [8, 9, 10, 11, 12, 13, 14, 15, 16, 17, 18, 19, 20]) (hs := [.p, .p, .p, .p, .p, .p, .p, .p, .p, .p, .p, .p, .p]) (rest := []) (ks := [0]) (env' := [(0, .bool false)]) (H' := [⟨42, b_16, [.int .i64 r_11.1.Kind, .int .i64 r_11.1.From, .int .i64 r_11.1.To, .int .u64 r_11.1.Term, .int .u64 r_11.1.Index, .int .u64 r_11.1.Prev, .int .u64 r_11.1.Commit, .bool r_11.1.Ok, .slice A_12 r_11.1.Entries.length c_13, .string (bs r_11.1.Data)]⟩, ⟨40, b_2, [.slice A_14 r_11.2.2.l.length c_15, .int .i64 r_11.2.2.lost]⟩]) (ps := []) (by kernel_rfl) trivial ?_
        refine GoO.regionEnd ?_
        exact GoO.ret' (h := c14_12e) (hs := []) (ps := []) (hk := []) (bk := []) Try.func14 () (by kernel_rfl) trivial (by kernel_rfl) (by kernel_rfl)
    · refine GoO.exec (is := [5, 6, 7, 8, 9, 10, 11, 12, 13, 14, 15, 16, 17, 18, 19, 20]) (hs := [.p, .p, .p, .p, .p, .p, .p, .p, .p, .p, .p, .p, .p, .p, .p, .p]) (rest := []) (ks := [0]) (env' := [(0, .bool false)]) (H' := [⟨42, b_16, [.int .i64 r_11.1.Kind, .int .i64 r_11.1.From, .int .i64 r_11.1.To, .int .u64 r_11.1.Term, .int .u64 r_11.1.Index, .int .u64 r_11.1.Prev, .int .u64 r_11.1.Commit, .bool r_11.1.Ok, .slice A_12 r_11.1.Entries.length c_13, .string (bs r_11.1.Data)]⟩, ⟨40, b_2, [.slice A_14 r_11.2.2.l.length c_15, .int .i64 r_11.2.2.lost]⟩]) (ps := []) (by kernel_rfl) trivial ?_
      refine GoO.regionEnd ?_
      exact GoO.ret' (h := c14_12e) (hs := []) (ps := []) (hk := []) (bk := []) Try.func14 () (by kernel_rfl) trivial (by kernel_rfl) (by kernel_rfl)
  · refine GoO.exec (is := [2, 3, 4, 5, 6, 7, 8, 9, 10, 11, 12, 13, 14, 15, 16, 17, 18, 19, 20]) (hs := [.p, .p, .p, .p, .p, .p, .p, .p, .p, .p, .p, .p, .p, .p, .p, .p, .p, .p, .p]) (rest := []) (ks := [0]) (env' := [(0, .bool false)]) (H' := [⟨42, b_16, [.int .i64 r_11.1.Kind, .int .i64 r_11.1.From, .int .i64 r_11.1.To, .int .u64 r_11.1.Term, .int .u64 r_11.1.Index, .int .u64 r_11.1.Prev, .int .u64 r_11.1.Commit, .bool r_11.1.Ok, .slice A_12 r_11.1.Entries.length c_13, .string (bs r_11.1.Data)]⟩, ⟨40, b_2, [.slice A_14 r_11.2.2.l.length c_15, .int .i64 r_11.2.2.lost]⟩]) (ps := []) (by kernel_rfl) trivial ?_
    refine GoO.regionEnd ?_
    exact GoO.ret' (h := c14_12e) (hs := []) (ps := []) (hk := []) (bk := []) Try.func14 () (by kernel_rfl) trivial (by kernel_rfl) (by kernel_rfl)

/-! (*tontine/net.Net).Double -/
noncomputable def c18_0 : Code := bodyOf Try.f18
noncomputable def c18_1 : Code := cdL c18_0
noncomputable def c18_2 : Code := cdR c18_0
noncomputable def c18_3 : Code := cdL c18_2
noncomputable def c18_4 : Code := cdR c18_2
noncomputable def c18_5 : Code := cdL c18_4
noncomputable def c18_6 : Code := cdL c18_5
noncomputable def c18_7 : Code := cdR c18_5
noncomputable def c18_8 : Code := cdL c18_7
noncomputable def c18_9 : Code := cdL c18_8
noncomputable def c18_10 : Code := cdR c18_8
noncomputable def c18_11 : Code := cdR c18_7
noncomputable def c18_12 : Code := cdR c18_4
noncomputable def c18_13 : Code := cdL c18_12
noncomputable def c18_14 : Code := cdR c18_12
noncomputable def r18_1 : Array Oper := cdO c18_1
noncomputable def r18_3 : Array Oper := cdO c18_3
noncomputable def r18_6 : Array Oper := cdO c18_6
noncomputable def r18_9 : Array Oper := cdO c18_9
noncomputable def r18_13 : Array Oper := cdO c18_13
theorem c18_0e : c18_0 = .seq c18_1 c18_2 := by kernel_rfl
theorem c18_1e : c18_1 = .region 0 r18_1 false := by kernel_rfl
theorem c18_2e : c18_2 = .seq c18_3 c18_4 := by kernel_rfl
theorem c18_3e : c18_3 = .region 1 r18_3 false := by kernel_rfl
theorem c18_4e : c18_4 = .seq c18_5 c18_12 := by kernel_rfl
theorem c18_5e : c18_5 = .seq c18_6 c18_7 := by kernel_rfl
theorem c18_6e : c18_6 = .region 2 r18_6 false := by kernel_rfl
theorem c18_7e : c18_7 = .cond (cdC c18_7) c18_8 c18_11 := by kernel_rfl
theorem c18_8e : c18_8 = .seq c18_9 c18_10 := by kernel_rfl
theorem c18_9e : c18_9 = .region 3 r18_9 false := by kernel_rfl
theorem c18_10e : c18_10 = .ret := by kernel_rfl
theorem c18_11e : c18_11 = .skip := by kernel_rfl
theorem c18_12e : c18_12 = .seq c18_13 c18_14 := by kernel_rfl
theorem c18_13e : c18_13 = .region 4 r18_13 false := by kernel_rfl
theorem c18_14e : c18_14 = .ret := by kernel_rfl
noncomputable def net_Net_Double.R (b_2 : Nat) (A_3 : Option Addr) (c_4 : Nat) : Pst (Bool × T_net_Net) where
  ε := Option Addr × Nat
  v := fun r x => .bool r.1
  H := fun r x => [⟨1, b_2, [.slice x.1 r.2.l.length x.2, .int .i64 r.2.lost]⟩]
  B := fun r x => [Ow 2 kT_api_Letter x.1 x.2 r.2.l]
noncomputable def net_Net_Double.cx (b_2 : Nat) (A_3 : Option Addr) (c_4 : Nat) (w0 : World) (S0 : Fam) : Cx (Bool × T_net_Net) := ⟨Try.prog, 18, Try.f18, 20, w0, S0, [1, 2], 2, net_Net_Double.R b_2 A_3 c_4⟩
theorem net_Net_Double_ok (n : Nat) (n_1 : T_net_Net) (i_5 : Int) (b_2 : Nat) (A_3 : Option Addr) (c_4 : Nat) :
    Meets Try.prog 18 [.pointer (some ⟨b_2, 0, none⟩), .int .i64 i_5] 2 [1, 2] [⟨1, b_2, [.slice A_3 n_1.l.length c_4, .int .i64 n_1.lost]⟩] [Ow 2 kT_api_Letter A_3 c_4 n_1.l] (net_Net_Double.f n n_1 i_5) (net_Net_Double.R b_2 A_3 c_4) := by
  refine Meets.of (c := c18_0) (n := 20) Try.func18 (by kernel_rfl) (by kernel_rfl) (by kernel_rfl) fun w0 S0 => ?_
  unfold net_Net_Double.f
  show GoO (net_Net_Double.cx b_2 A_3 c_4 w0 S0) [(0, .pointer (some ⟨b_2, 0, none⟩)), (1, .int .i64 i_5)] [⟨1, b_2, [.slice A_3 n_1.l.length c_4, .int .i64 n_1.lost]⟩] [Ow 2 kT_api_Letter A_3 c_4 n_1.l] [.code c18_0] _
  refine GoO.seq' c18_0e ?_
  refine GoO.region' (is := [0]) c18_1e (by kernel_rfl) ?_
  refine GoO.exec (is := [0]) (hs := [.p]) (rest := []) (ks := [0, 1]) (env' := [(0, .pointer (some ⟨b_2, 0, none⟩)), (1, .int .i64 i_5)]) (H' := [⟨1, b_2, [.slice A_3 n_1.l.length c_4, .int .i64 n_1.lost]⟩]) (ps := []) (by kernel_rfl) trivial ?_
  refine GoO.regionEnd ?_
  refine GoO.seq' c18_2e ?_
  refine GoO.region' (is := [0, 1, 2, 3]) c18_3e (by kernel_rfl) ?_
  refine GoO.exec (is := [0, 1]) (hs := [.p, .p]) (rest := [2, 3]) (ks := [0, 6, 7]) (env' := [(0, .pointer (some ⟨b_2, 0, none⟩)), (6, .pointer (some ⟨b_2, 0, none⟩)), (7, .int .i64 i_5)]) (H' := [⟨1, b_2, [.slice A_3 n_1.l.length c_4, .int .i64 n_1.lost]⟩]) (ps := []) (by kernel_rfl) trivial ?_
  refine OpTo.go (GoO.call rfl (by kernel_rfl) (by kernel_rfl) (net_Net_place_ok n n_1 i_5 b_2 A_3 c_4) [[0], [1], [2]] [] [(1, 0)] [(2, 0)] (hks := [0]) (bks := [0]) (by kernel_rfl) (by kernel_rfl) (by kernel_rfl) (.inl rfl) rfl rfl (by kernel_rfl) (by kernel_rfl) _ (fun _ _ => rfl) _ _ (fun _ _ => rfl) (fun _ _ => rfl) (fun _ _ => by kernel_rfl) (fun _ _ => by kernel_rfl) (fun r_6 x_15 => ?_))
  refine GoO.shape (env' := [(0, .pointer (some ⟨b_2, 0, none⟩)), (6, .pointer (some ⟨b_2, 0, none⟩)), (7, .int .i64 i_5), (8, .int .i64 r_6)]) (H' := [⟨1, b_2, [.slice A_3 n_1.l.length c_4, .int .i64 n_1.lost]⟩]) (B' := [Ow 2 kT_api_Letter A_3 c_4 n_1.l]) (ks := [0, 6, 7, 8]) (by kernel_rfl) (by kernel_rfl) (by kernel_rfl) ?_
  refine GoO.exec (is := [3]) (hs := [.p]) (rest := []) (ks := [0, 5]) (env' := [(0, .pointer (some ⟨b_2, 0, none⟩)), (5, .int .i64 r_6)]) (H' := [⟨1, b_2, [.slice A_3 n_1.l.length c_4, .int .i64 n_1.lost]⟩]) (ps := []) (by kernel_rfl) trivial ?_
  refine GoO.regionEnd ?_
  refine GoO.seq' c18_4e ?_
  refine GoO.seq' c18_5e ?_
  refine GoO.region' (is := [0, 1]) c18_6e (by kernel_rfl) ?_
  refine GoO.exec (is := [0, 1]) (hs := [.p, .p]) (rest := []) (ks := [0, 5, 10]) (env' := [(0, .pointer (some ⟨b_2, 0, none⟩)), (5, .int .i64 r_6), (10, .bool (decide (r_6 < 0)))]) (H' := [⟨1, b_2, [.slice A_3 n_1.l.length c_4, .int .i64 n_1.lost]⟩]) (ps := []) (by kernel_rfl) trivial ?_
  refine GoO.regionEnd ?_
  refine GoO.ite' c18_7e (by kernel_rfl) (fun h7 => ?_) (fun h7 => ?_)
  · refine GoO.seq' c18_8e ?_
    refine GoO.region' (is := [0]) c18_9e (by kernel_rfl) ?_
    refine GoO.exec (is := [0]) (hs := [.p]) (rest := []) (ks := [4]) (env' := [(4, .bool false)]) (H' := [⟨1, b_2, [.slice A_3 n_1.l.length c_4, .int .i64 n_1.lost]⟩]) (ps := []) (by kernel_rfl) trivial ?_
    refine GoO.regionEnd ?_
    exact GoO.ret' (h := c18_10e) (hs := []) (ps := []) (hk := [0]) (bk := [0]) Try.func18 (⟨A_3, c_4⟩ : Option Addr × Nat) (by kernel_rfl) trivial (by kernel_rfl) (by kernel_rfl)
  · refine GoO.skip' c18_11e ?_
    refine GoO.seq' c18_12e ?_
    refine GoO.region' (is := [0, 1, 2, 3, 4, 5, 6, 7, 8, 9]) c18_13e (by kernel_rfl) ?_
    refine GoO.exec (is := [0, 1, 2, 3, 4, 5]) (hs := [.p, .p, .p, .p, .b 0, .p]) (rest := [6, 7, 8, 9]) (ks := [11, 15, 16]) (env' := [(11, .pointer (some ⟨b_2, 0, none⟩)), (15, .slice A_3 n_1.l.length c_4), (16, .int .i64 r_6)]) (H' := [⟨1, b_2, [.slice A_3 n_1.l.length c_4, .int .i64 n_1.lost]⟩]) (ps := [b_2 = b_2]) (by kernel_rfl) (And.intro rfl trivial) ?_
    refine GoO.guard (fun h8 => ?_)
    refine OpTo.go (GoO.idx (kk := .i64) (e := 29) (K := kT_api_Letter) (A := A_3) (c := c_4) (xs := n_1.l) (iv := r_6) (j := 0) rfl (by kernel_rfl) (by kernel_rfl) (by kernel_rfl) (by kernel_rfl) rfl Reads.own rfl h8.1 h8.2 (by decide) rfl ?_)
    refine OpTo.go (GoO.ldE' (K := kT_api_Letter) (A := A_3) (c := c_4) (xs := n_1.l) (iN := r_6.toNat) (off := 0) (j := 0) rfl (by kernel_rfl) rfl Reads.own (idx_lt h8.1 h8.2) (by decide) (oT_api_Letter _) (v := fun e => .agg ⟨[.int .i64 ((rdL n_1.l r_6).Kind), .int .i64 ((rdL n_1.l r_6).From), .int .i64 ((rdL n_1.l r_6).To), .int .u64 ((rdL n_1.l r_6).Term), .int .u64 ((rdL n_1.l r_6).Index), .int .u64 ((rdL n_1.l r_6).Prev), .int .u64 ((rdL n_1.l r_6).Commit), .bool ((rdL n_1.l r_6).Ok), .slice e.1 ((rdL n_1.l r_6).Entries).length e.2, .string (bs ((rdL n_1.l r_6).Data))]⟩) (fun _ => by kernel_rfl) _ (fun _ => rfl) ?_)
    rintro ⟨A_9, c_10⟩
    refine OpTo.go (GoO.call rfl (by kernel_rfl) (by kernel_rfl) (net_Net_Send_ok n n_1 (rdL n_1.l r_6) b_2 A_3 c_4 A_9 c_10) [[0], [1], [2]] [(1, 1), (2, 2)] [(1, 0)] [(2, 1), (0, 0)] (hks := []) (bks := [0]) (by kernel_rfl) (by kernel_rfl) (by kernel_rfl) (.inl rfl) rfl rfl (by kernel_rfl) (by kernel_rfl) _ (fun _ _ => rfl) _ _ (fun _ _ => rfl) (fun _ _ => rfl) (fun _ _ => by kernel_rfl) (fun _ _ => by kernel_rfl) (fun r_11 x_14 => ?_))
    obtain ⟨A_12, c_13⟩ := x_14
    refine GoO.shape (env' := [(11, .pointer (some ⟨b_2, 0, none⟩)), (16, .int .i64 r_6), (18, .agg ⟨[.int .i64 ((rdL n_1.l r_6).Kind), .int .i64 ((rdL n_1.l r_6).From), .int .i64 ((rdL n_1.l r_6).To), .int .u64 ((rdL n_1.l r_6).Term), .int .u64 ((rdL n_1.l r_6).Index), .int .u64 ((rdL n_1.l r_6).Prev), .int .u64 ((rdL n_1.l r_6).Commit), .bool ((rdL n_1.l r_6).Ok), .slice A_9 ((rdL n_1.l r_6).Entries).length c_10, .string (bs ((rdL n_1.l r_6).Data))]⟩), (19, .bool r_11.1)]) (H' := [⟨1, b_2, [.slice A_12 r_11.2.l.length c_13, .int .i64 r_11.2.lost]⟩]) (B' := [Ow 2 kT_api_Letter A_12 c_13 r_11.2.l, Rd 0 kT_api_Entry A_9 c_10 ((rdL n_1.l r_6).Entries)]) (ks := [11, 16, 18, 19]) (by kernel_rfl) (by kernel_rfl) (by kernel_rfl) ?_
    refine GoO.exec (is := [9]) (hs := [.p]) (rest := []) (ks := [4]) (env' := [(4, .bool r_11.1)]) (H' := [⟨1, b_2, [.slice A_12 r_11.2.l.length c_13, .int .i64 r_11.2.lost]⟩]) (ps := []) (by kernel_rfl) trivial ?_
    refine GoO.regionEnd ?_
    exact GoO.ret' (h := c18_14e) (hs := []) (ps := []) (hk := [0]) (bk := [0]) Try.func18 (⟨A_12, c_13⟩ : Option Addr × Nat) (by kernel_rfl) trivial (by kernel_rfl) (by kernel_rfl)

/-! tontine/tontineref07.Same -/
noncomputable def c40_0 : Code := bodyOf Try.f40
noncomputable def c40_1 : Code := cdL c40_0
noncomputable def c40_2 : Code := cdR c40_0
noncomputable def c40_3 : Code := cdL c40_2
noncomputable def c40_4 : Code := cdL c40_3
noncomputable def c40_5 : Code := cdR c40_3
noncomputable def c40_6 : Code := cdL c40_5
noncomputable def c40_7 : Code := cdL c40_6
noncomputable def c40_8 : Code := cdR c40_6
noncomputable def c40_9 : Code := cdR c40_5
noncomputable def c40_10 : Code := cdR c40_2
noncomputable def c40_11 : Code := cdL c40_10
noncomputable def c40_12 : Code := cdL c40_11
noncomputable def c40_13 : Code := cdR c40_11
noncomputable def c40_14 : Code := cdL c40_13
noncomputable def c40_15 : Code := cdL c40_14
noncomputable def c40_16 : Code := cdL c40_15
noncomputable def c40_17 : Code := cdL c40_16
noncomputable def c40_18 : Code := cdR c40_16
noncomputable def c40_19 : Code := cdL c40_18
noncomputable def c40_20 : Code := cdR c40_18
noncomputable def c40_21 : Code := cdR c40_15
noncomputable def c40_22 : Code := cdL c40_21
noncomputable def c40_23 : Code := cdL c40_22
noncomputable def c40_24 : Code := cdL c40_23
noncomputable def c40_25 : Code := cdR c40_23
noncomputable def c40_26 : Code := cdL c40_25
noncomputable def c40_27 : Code := cdL c40_26
noncomputable def c40_28 : Code := cdR c40_26
noncomputable def c40_29 : Code := cdR c40_25
noncomputable def c40_30 : Code := cdR c40_21
noncomputable def c40_31 : Code := cdR c40_10
noncomputable def c40_32 : Code := cdL c40_31
noncomputable def c40_33 : Code := cdR c40_31
noncomputable def r40_1 : Array Oper := cdO c40_1
noncomputable def r40_4 : Array Oper := cdO c40_4
noncomputable def r40_7 : Array Oper := cdO c40_7
noncomputable def r40_12 : Array Oper := cdO c40_12
noncomputable def r40_17 : Array Oper := cdO c40_17
noncomputable def r40_24 : Array Oper := cdO c40_24
noncomputable def r40_27 : Array Oper := cdO c40_27
noncomputable def r40_30 : Array Oper := cdO c40_30
noncomputable def r40_32 : Array Oper := cdO c40_32
theorem c40_0e : c40_0 = .seq c40_1 c40_2 := by kernel_rfl
theorem c40_1e : c40_1 = .region 0 r40_1 false := by kernel_rfl
theorem c40_2e : c40_2 = .seq c40_3 c40_10 := by kernel_rfl
theorem c40_3e : c40_3 = .seq c40_4 c40_5 := by kernel_rfl
theorem c40_4e : c40_4 = .region 1 r40_4 false := by kernel_rfl
theorem c40_5e : c40_5 = .cond (cdC c40_5) c40_6 c40_9 := by kernel_rfl
theorem c40_6e : c40_6 = .seq c40_7 c40_8 := by kernel_rfl
theorem c40_7e : c40_7 = .region 2 r40_7 false := by kernel_rfl
theorem c40_8e : c40_8 = .ret := by kernel_rfl
theorem c40_9e : c40_9 = .skip := by kernel_rfl
theorem c40_10e : c40_10 = .seq c40_11 c40_31 := by kernel_rfl
theorem c40_11e : c40_11 = .seq c40_12 c40_13 := by kernel_rfl
theorem c40_12e : c40_12 = .region 3 r40_12 false := by kernel_rfl
theorem c40_13e : c40_13 = .block 0 c40_14 := by kernel_rfl
theorem c40_14e : c40_14 = .loop c40_15 := by kernel_rfl
theorem c40_15e : c40_15 = .seq c40_16 c40_21 := by kernel_rfl
theorem c40_16e : c40_16 = .seq c40_17 c40_18 := by kernel_rfl
theorem c40_17e : c40_17 = .region 4 r40_17 false := by kernel_rfl
theorem c40_18e : c40_18 = .cond (cdC c40_18) c40_19 c40_20 := by kernel_rfl
theorem c40_19e : c40_19 = .skip := by kernel_rfl
theorem c40_20e : c40_20 = .exit 0 := by kernel_rfl
theorem c40_21e : c40_21 = .seq c40_22 c40_30 := by kernel_rfl
theorem c40_22e : c40_22 = .block 1 c40_23 := by kernel_rfl
theorem c40_23e : c40_23 = .seq c40_24 c40_25 := by kernel_rfl
theorem c40_24e : c40_24 = .region 6 r40_24 true := by kernel_rfl
theorem c40_25e : c40_25 = .cond (cdC c40_25) c40_26 c40_29 := by kernel_rfl
theorem c40_26e : c40_26 = .seq c40_27 c40_28 := by kernel_rfl
theorem c40_27e : c40_27 = .region 7 r40_27 false := by kernel_rfl
theorem c40_28e : c40_28 = .ret := by kernel_rfl
theorem c40_29e : c40_29 = .skip := by kernel_rfl
theorem c40_30e : c40_30 = .region 5 r40_30 false := by kernel_rfl
theorem c40_31e : c40_31 = .seq c40_32 c40_33 := by kernel_rfl
theorem c40_32e : c40_32 = .region 8 r40_32 false := by kernel_rfl
theorem c40_33e : c40_33 = .ret := by kernel_rfl
noncomputable def tontineref07_Same.R (A_2 : Option Addr) (c_3 : Nat) (A_5 : Option Addr) (c_6 : Nat) : Pst Bool where
  ε := Unit
  v := fun r x => .bool r
  H := fun r x => []
  B := fun r x => []
noncomputable def tontineref07_Same.cx (A_2 : Option Addr) (c_3 : Nat) (A_5 : Option Addr) (c_6 : Nat) (w0 : World) (S0 : Fam) : Cx Bool := ⟨Try.prog, 40, Try.f40, 26, w0, S0, [], 0, tontineref07_Same.R A_2 c_3 A_5 c_6⟩
theorem tontineref07_Same_l0_ok (n : Nat) (a_1 : (List T_api_Entry)) (b_4 : (List T_api_Entry)) (A_2 : Option Addr) (c_3 : Nat) (A_5 : Option Addr) (c_6 : Nat) (w0 : World) (S0 : Fam) :
    ∀ (k : Nat) (i_8 : Int), GoO (tontineref07_Same.cx A_2 c_3 A_5 c_6 w0 S0) [(0, .slice A_2 a_1.length c_3), (1, .slice A_5 b_4.length c_6), (5, .int .i64 i_8)] [] [Rd 0 kT_api_Entry A_2 c_3 a_1, Rd 0 kT_api_Entry A_5 c_6 b_4] [.code c40_15, .inLoop c40_15, .inBlock 0, .code c40_31] (tontineref07_Same.l0 n a_1 b_4 k i_8) := by
  intro k
  induction k with
  | zero => intros; rw [tontineref07_Same.l0.eq_1]; exact GoO.stop
  | succ k ih0 =>
    intro i_8
    rw [tontineref07_Same.l0.eq_2]
    refine GoO.seq' c40_15e ?_
    refine GoO.seq' c40_16e ?_
    refine GoO.region' (is := [0, 1, 2, 3]) c40_17e (by kernel_rfl) ?_
    refine GoO.exec (is := [0, 1, 2, 3]) (hs := [.p, .p, .p, .p]) (rest := []) (ks := [0, 1, 5, 14]) (env' := [(0, .slice A_2 a_1.length c_3), (1, .slice A_5 b_4.length c_6), (5, .int .i64 i_8), (14, .bool (decide (i_8 < (a_1.length : Int))))]) (H' := []) (ps := []) (by kernel_rfl) trivial ?_
    refine GoO.regionEnd ?_
    refine GoO.ite' c40_18e (by kernel_rfl) (fun h9 => ?_) (fun h9 => ?_)
    · refine GoO.skip' c40_19e ?_
      refine GoO.seq' c40_21e ?_
      refine GoO.block' c40_22e ?_
      refine GoO.seq' c40_23e ?_
      refine GoO.draw c40_24e (by kernel_rfl) [] [] [Rd 0 kT_api_Entry A_2 c_3 a_1, Rd 0 kT_api_Entry A_5 c_6 b_4] (n := 9) (by kernel_rfl) ?_
      simp only [List.replicate]
      refine GoF.take [0, 1, 4, 5] [.p, .p, .p, .p] (ks := [0, 1, 5, 17, 18, 21, 22]) (fu := 5) (li := [true, true, false, false, true, true, false, false, false]) (env' := [(0, .slice A_2 a_1.length c_3), (1, .slice A_5 b_4.length c_6), (5, .int .i64 i_8), (17, .slice A_2 a_1.length c_3), (18, .int .i64 i_8), (21, .slice A_5 b_4.length c_6), (22, .int .i64 i_8)]) (ps := []) (hk := []) (bk := [0, 1]) (by kernel_rfl) trivial rfl rfl ?_
      refine GoF.guard (fun h10 => ?_)
      refine GoF.idx (i := 2) (hk := []) (bk := [0, 1]) (kk := .i64) (e := 88) (K := kT_api_Entry) (A := A_2) (c := c_3) (xs := a_1) (iv := i_8) (j := 0) (by kernel_rfl) rfl rfl rfl (by kernel_rfl) (by kernel_rfl) (by kernel_rfl) (by kernel_rfl) rfl Reads.rd rfl h10.1 h10.2 (by decide) rfl ?_
      refine GoF.ldE (i := 3) (hk := []) (bk := [0, 1]) (K := kT_api_Entry) (A := A_2) (c := c_3) (xs := a_1) (iN := i_8.toNat) (off := 0) (j := 0) (v := .agg ⟨[.int .u64 ((rdL a_1 i_8).Term), .int .u64 ((rdL a_1 i_8).Index), .int .i64 ((rdL a_1 i_8).Kind), .string (bs ((rdL a_1 i_8).Data))]⟩) (by kernel_rfl) rfl rfl rfl (hK := rfl) (by kernel_rfl) rfl Reads.rd (idx_lt h10.1 h10.2) (by decide) (by kernel_rfl) rfl ?_
      refine GoF.guard (fun h11 => ?_)
      refine GoF.idx (i := 6) (hk := []) (bk := [0, 1]) (kk := .i64) (e := 88) (K := kT_api_Entry) (A := A_5) (c := c_6) (xs := b_4) (iv := i_8) (j := 1) (by kernel_rfl) rfl rfl rfl (by kernel_rfl) (by kernel_rfl) (by kernel_rfl) (by kernel_rfl) rfl Reads.rd rfl h11.1 h11.2 (by decide) rfl ?_
      refine GoF.ldE (i := 7) (hk := []) (bk := [0, 1]) (K := kT_api_Entry) (A := A_5) (c := c_6) (xs := b_4) (iN := i_8.toNat) (off := 0) (j := 1) (v := .agg ⟨[.int .u64 ((rdL b_4 i_8).Term), .int .u64 ((rdL b_4 i_8).Index), .int .i64 ((rdL b_4 i_8).Kind), .string (bs ((rdL b_4 i_8).Data))]⟩) (by kernel_rfl) rfl rfl rfl (hK := rfl) (by kernel_rfl) rfl Reads.rd (idx_lt h11.1 h11.2) (by decide) (by kernel_rfl) rfl ?_
      refine GoF.take [8] [.p] (ks := [0, 1, 5, 25]) (fu := 0) (li := [true, true, true, true, true, true, true, true, true]) (env' := [(0, .slice A_2 a_1.length c_3), (1, .slice A_5 b_4.length c_6), (5, .int .i64 i_8), (25, .bool (!((((rdL a_1 i_8).Term) == ((rdL b_4 i_8).Term)) && ((((rdL a_1 i_8).Index) == ((rdL b_4 i_8).Index)) && ((((rdL a_1 i_8).Kind) == ((rdL b_4 i_8).Kind)) && ((((rdL a_1 i_8).Data) == ((rdL b_4 i_8).Data)) && true))))))]) (ps := []) (hk := []) (bk := [0, 1]) (by kernel_rfl) trivial rfl rfl ?_
      refine GoF.done (by kernel_rfl) ?_
      refine GoO.ite' c40_25e (by kernel_rfl) (fun h12 => ?_) (fun h12 => ?_)
      · refine GoO.seq' c40_26e ?_
        refine GoO.region' (is := [0]) c40_27e (by kernel_rfl) ?_
        refine GoO.exec (is := [0]) (hs := [.p]) (rest := []) (ks := [4]) (env' := [(4, .bool false)]) (H' := []) (ps := []) (by kernel_rfl) trivial ?_
        refine GoO.regionEnd ?_
        exact GoO.ret' (h := c40_28e) (hs := []) (ps := []) (hk := []) (bk := []) Try.func40 () (by kernel_rfl) trivial (by kernel_rfl) (by kernel_rfl)
      · refine GoO.skip' c40_29e ?_
        refine GoO.inBlock ?_
        refine GoO.region' (is := [0, 1, 2]) c40_30e (by kernel_rfl) ?_
        refine GoO.exec (is := [0, 1, 2]) (hs := [.p, .p, .p]) (rest := []) (ks := [0, 1, 5]) (env' := [(0, .slice A_2 a_1.length c_3), (1, .slice A_5 b_4.length c_6), (5, .int .i64 (wi64 (i_8 + 1)))]) (H' := []) (ps := []) (by kernel_rfl) trivial ?_
        refine GoO.regionEnd ?_
        refine GoO.inLoop ?_
        exact GoO.sub (ks := [0, 1, 5]) (hk := []) (bk := [0, 1]) (by kernel_rfl) (by kernel_rfl) (by kernel_rfl) (ih0 (wi64 (i_8 + 1)))
    · refine GoO.exit' c40_20e rfl ?_
      refine GoO.seq' c40_31e ?_
      refine GoO.region' (is := [0]) c40_32e (by kernel_rfl) ?_
      refine GoO.exec (is := [0]) (hs := [.p]) (rest := []) (ks := [4]) (env' := [(4, .bool true)]) (H' := []) (ps := []) (by kernel_rfl) trivial ?_
      refine GoO.regionEnd ?_
      exact GoO.ret' (h := c40_33e) (hs := []) (ps := []) (hk := []) (bk := []) Try.func40 () (by kernel_rfl) trivial (by kernel_rfl) (by kernel_rfl)
theorem tontineref07_Same_ok (n : Nat) (a_1 : (List T_api_Entry)) (b_4 : (List T_api_Entry)) (A_2 : Option Addr) (c_3 : Nat) (A_5 : Option Addr) (c_6 : Nat) :
    Meets Try.prog 40 [.slice A_2 a_1.length c_3, .slice A_5 b_4.length c_6] 0 [] [] [Rd 0 kT_api_Entry A_2 c_3 a_1, Rd 0 kT_api_Entry A_5 c_6 b_4] (tontineref07_Same.f n a_1 b_4) (tontineref07_Same.R A_2 c_3 A_5 c_6) := by
  refine Meets.of (c := c40_0) (n := 26) Try.func40 (by kernel_rfl) (by kernel_rfl) (by kernel_rfl) fun w0 S0 => ?_
  unfold tontineref07_Same.f
  show GoO (tontineref07_Same.cx A_2 c_3 A_5 c_6 w0 S0) [(0, .slice A_2 a_1.length c_3), (1, .slice A_5 b_4.length c_6)] [] [Rd 0 kT_api_Entry A_2 c_3 a_1, Rd 0 kT_api_Entry A_5 c_6 b_4] [.code c40_0] _
  refine GoO.seq' c40_0e ?_
  refine GoO.region' (is := [0]) c40_1e (by kernel_rfl) ?_
  refine GoO.exec (is := [0]) (hs := [.p]) (rest := []) (ks := [0, 1]) (env' := [(0, .slice A_2 a_1.length c_3), (1, .slice A_5 b_4.length c_6)]) (H' := []) (ps := []) (by kernel_rfl) trivial ?_
  refine GoO.regionEnd ?_
  refine GoO.seq' c40_2e ?_
  refine GoO.seq' c40_3e ?_
  refine GoO.region' (is := [0, 1, 2, 3, 4]) c40_4e (by kernel_rfl) ?_
  refine GoO.exec (is := [0, 1, 2, 3, 4]) (hs := [.p, .p, .p, .p, .p]) (rest := []) (ks := [0, 1, 10]) (env' := [(0, .slice A_2 a_1.length c_3), (1, .slice A_5 b_4.length c_6), (10, .bool ((a_1.length : Int) != (b_4.length : Int)))]) (H' := []) (ps := []) (by kernel_rfl) trivial ?_
  refine GoO.regionEnd ?_
  refine GoO.ite' c40_5e (by kernel_rfl) (fun h7 => ?_) (fun h7 => ?_)
  · refine GoO.seq' c40_6e ?_
    refine GoO.region' (is := [0]) c40_7e (by kernel_rfl) ?_
    refine GoO.exec (is := [0]) (hs := [.p]) (rest := []) (ks := [4]) (env' := [(4, .bool false)]) (H' := []) (ps := []) (by kernel_rfl) trivial ?_
    refine GoO.regionEnd ?_
    exact GoO.ret' (h := c40_8e) (hs := []) (ps := []) (hk := []) (bk := []) Try.func40 () (by kernel_rfl) trivial (by kernel_rfl) (by kernel_rfl)
  · refine GoO.skip' c40_9e ?_
    refine GoO.seq' c40_10e ?_
    refine GoO.seq' c40_11e ?_
    refine GoO.region' (is := [0]) c40_12e (by kernel_rfl) ?_
    refine GoO.exec (is := [0]) (hs := [.p]) (rest := []) (ks := [0, 1, 5]) (env' := [(0, .slice A_2 a_1.length c_3), (1, .slice A_5 b_4.length c_6), (5, .int .i64 0)]) (H' := []) (ps := []) (by kernel_rfl) trivial ?_
    refine GoO.regionEnd ?_
    refine GoO.block' c40_13e ?_
    refine GoO.loop' c40_14e ?_
    exact GoO.sub (ks := [0, 1, 5]) (hk := []) (bk := [0, 1]) (by kernel_rfl) (by kernel_rfl) (by kernel_rfl) (tontineref07_Same_l0_ok n a_1 b_4 A_2 c_3 A_5 c_6 w0 S0 n 0)

/-! tontine/tontineref10.Same -/
noncomputable def c20_0 : Code := bodyOf Try.f20
noncomputable def c20_1 : Code := cdL c20_0
noncomputable def c20_2 : Code := cdR c20_0
noncomputable def c20_3 : Code := cdL c20_2
noncomputable def c20_4 : Code := cdR c20_2
noncomputable def r20_1 : Array Oper := cdO c20_1
noncomputable def r20_3 : Array Oper := cdO c20_3
theorem c20_0e : c20_0 = .seq c20_1 c20_2 := by kernel_rfl
theorem c20_1e : c20_1 = .region 0 r20_1 false := by kernel_rfl
theorem c20_2e : c20_2 = .seq c20_3 c20_4 := by kernel_rfl
theorem c20_3e : c20_3 = .region 1 r20_3 false := by kernel_rfl
theorem c20_4e : c20_4 = .ret := by kernel_rfl
noncomputable def tontineref10_Same.R (A_2 : Option Addr) (c_3 : Nat) (A_5 : Option Addr) (c_6 : Nat) : Pst Bool where
  ε := Unit
  v := fun r x => .bool r
  H := fun r x => []
  B := fun r x => []
noncomputable def tontineref10_Same.cx (A_2 : Option Addr) (c_3 : Nat) (A_5 : Option Addr) (c_6 : Nat) (w0 : World) (S0 : Fam) : Cx Bool := ⟨Try.prog, 20, Try.f20, 73, w0, S0, [], 0, tontineref10_Same.R A_2 c_3 A_5 c_6⟩
theorem tontineref10_Same_ok (n : Nat) (a_1 : T_api_Letter) (b_4 : T_api_Letter) (A_2 : Option Addr) (c_3 : Nat) (A_5 : Option Addr) (c_6 : Nat) :
    Meets Try.prog 20 [.agg ⟨[.int .i64 a_1.Kind, .int .i64 a_1.From, .int .i64 a_1.To, .int .u64 a_1.Term, .int .u64 a_1.Index, .int .u64 a_1.Prev, .int .u64 a_1.Commit, .bool a_1.Ok, .slice A_2 a_1.Entries.length c_3, .string (bs a_1.Data)]⟩, .agg ⟨[.int .i64 b_4.Kind, .int .i64 b_4.From, .int .i64 b_4.To, .int .u64 b_4.Term, .int .u64 b_4.Index, .int .u64 b_4.Prev, .int .u64 b_4.Commit, .bool b_4.Ok, .slice A_5 b_4.Entries.length c_6, .string (bs b_4.Data)]⟩] 0 [] [] [Rd 0 kT_api_Entry A_2 c_3 a_1.Entries, Rd 0 kT_api_Entry A_5 c_6 b_4.Entries] (tontineref10_Same.f n a_1 b_4) (tontineref10_Same.R A_2 c_3 A_5 c_6) := by
  refine Meets.of (c := c20_0) (n := 73) Try.func20 (by kernel_rfl) (by kernel_rfl) (by kernel_rfl) fun w0 S0 => ?_
  unfold tontineref10_Same.f
  show GoO (tontineref10_Same.cx A_2 c_3 A_5 c_6 w0 S0) [(0, .agg ⟨[.int .i64 a_1.Kind, .int .i64 a_1.From, .int .i64 a_1.To, .int .u64 a_1.Term, .int .u64 a_1.Index, .int .u64 a_1.Prev, .int .u64 a_1.Commit, .bool a_1.Ok, .slice A_2 a_1.Entries.length c_3, .string (bs a_1.Data)]⟩), (1, .agg ⟨[.int .i64 b_4.Kind, .int .i64 b_4.From, .int .i64 b_4.To, .int .u64 b_4.Term, .int .u64 b_4.Index, .int .u64 b_4.Prev, .int .u64 b_4.Commit, .bool b_4.Ok, .slice A_5 b_4.Entries.length c_6, .string (bs b_4.Data)]⟩)] [] [Rd 0 kT_api_Entry A_2 c_3 a_1.Entries, Rd 0 kT_api_Entry A_5 c_6 b_4.Entries] [.code c20_0] _
  refine GoO.seq' c20_0e ?_
  refine GoO.region' (is := [0, 1, 2]) c20_1e (by kernel_rfl) ?_
  refine OpTo.go (GoO.new rfl 40 (cs := [.int .i64 a_1.Kind, .int .i64 a_1.From, .int .i64 a_1.To, .int .u64 a_1.Term, .int .u64 a_1.Index, .int .u64 a_1.Prev, .int .u64 a_1.Commit, .bool a_1.Ok, .slice A_2 a_1.Entries.length c_3, .string (bs a_1.Data)]) (by kernel_rfl) _ (fun _ => rfl) (fun b_7 => ?_))
  refine OpTo.go (GoO.new rfl 41 (cs := [.int .i64 b_4.Kind, .int .i64 b_4.From, .int .i64 b_4.To, .int .u64 b_4.Term, .int .u64 b_4.Index, .int .u64 b_4.Prev, .int .u64 b_4.Commit, .bool b_4.Ok, .slice A_5 b_4.Entries.length c_6, .string (bs b_4.Data)]) (by kernel_rfl) _ (fun _ => rfl) (fun b_8 => ?_))
  refine GoO.exec (is := [2]) (hs := [.p]) (rest := []) (ks := [2, 3]) (env' := [(2, .pointer (some ⟨b_7, 0, none⟩)), (3, .pointer (some ⟨b_8, 0, none⟩))]) (H' := [⟨41, b_8, [.int .i64 b_4.Kind, .int .i64 b_4.From, .int .i64 b_4.To, .int .u64 b_4.Term, .int .u64 b_4.Index, .int .u64 b_4.Prev, .int .u64 b_4.Commit, .bool b_4.Ok, .slice A_5 b_4.Entries.length c_6, .string (bs b_4.Data)]⟩, ⟨40, b_7, [.int .i64 a_1.Kind, .int .i64 a_1.From, .int .i64 a_1.To, .int .u64 a_1.Term, .int .u64 a_1.Index, .int .u64 a_1.Prev, .int .u64 a_1.Commit, .bool a_1.Ok, .slice A_2 a_1.Entries.length c_3, .string (bs a_1.Data)]⟩]) (ps := []) (by kernel_rfl) trivial ?_
  refine GoO.regionEnd ?_
  refine GoO.seq' c20_2e ?_
  refine GoO.region' (is := [0, 1, 2, 3, 4, 5, 6, 7, 8, 9, 10, 11, 12, 13, 14, 15, 16, 17, 18, 19, 20, 21, 22, 23, 24, 25, 26, 27, 28, 29, 30, 31, 32, 33, 34, 35, 36, 37, 38, 39, 40, 41, 42, 43, 44, 45, 46, 47, 48, 49, 50, 51, 52, 53, 54, 55, 56, 57, 58, 59, 60, 61, 62, 63, 64, 65, 66, 67, 68]) c20_3e (by kernel_rfl) ?_
  refine GoO.exec (is := [0, 1, 2, 3, 4, 5]) (hs := [.p, .b 1, .p, .b 0, .p, .p]) (rest := [6, 7, 8, 9, 10, 11, 12, 13, 14, 15, 16, 17, 18, 19, 20, 21, 22, 23, 24, 25, 26, 27, 28, 29, 30, 31, 32, 33, 34, 35, 36, 37, 38, 39, 40, 41, 42, 43, 44, 45, 46, 47, 48, 49, 50, 51, 52, 53, 54, 55, 56, 57, 58, 59, 60, 61, 62, 63, 64, 65, 66, 67, 68]) (ks := [2, 3, 10]) (env' := [(2, .pointer (some ⟨b_7, 0, none⟩)), (3, .pointer (some ⟨b_8, 0, none⟩)), (10, .bool (a_1.Kind == b_4.Kind))]) (H' := [⟨41, b_8, [.int .i64 b_4.Kind, .int .i64 b_4.From, .int .i64 b_4.To, .int .u64 b_4.Term, .int .u64 b_4.Index, .int .u64 b_4.Prev, .int .u64 b_4.Commit, .bool b_4.Ok, .slice A_5 b_4.Entries.length c_6, .string (bs b_4.Data)]⟩, ⟨40, b_7, [.int .i64 a_1.Kind, .int .i64 a_1.From, .int .i64 a_1.To, .int .u64 a_1.Term, .int .u64 a_1.Index, .int .u64 a_1.Prev, .int .u64 a_1.Commit, .bool a_1.Ok, .slice A_2 a_1.Entries.length c_3, .string (bs a_1.Data)]⟩]) (ps := [b_7 = b_7, b_8 = b_8]) (by kernel_rfl) (And.intro rfl (And.intro rfl trivial)) ?_
  refine GoO.bsplit (t := 10) (by kernel_rfl) (fun h9 => ?_) (fun h9 => ?_)
  · refine GoO.exec (is := [6, 7, 8, 9, 10, 11, 12]) (hs := [.p, .b 1, .p, .b 0, .p, .p, .p]) (rest := [13, 14, 15, 16, 17, 18, 19, 20, 21, 22, 23, 24, 25, 26, 27, 28, 29, 30, 31, 32, 33, 34, 35, 36, 37, 38, 39, 40, 41, 42, 43, 44, 45, 46, 47, 48, 49, 50, 51, 52, 53, 54, 55, 56, 57, 58, 59, 60, 61, 62, 63, 64, 65, 66, 67, 68]) (ks := [2, 3, 17]) (env' := [(2, .pointer (some ⟨b_7, 0, none⟩)), (3, .pointer (some ⟨b_8, 0, none⟩)), (17, .bool (a_1.From == b_4.From))]) (H' := [⟨41, b_8, [.int .i64 b_4.Kind, .int .i64 b_4.From, .int .i64 b_4.To, .int .u64 b_4.Term, .int .u64 b_4.Index, .int .u64 b_4.Prev, .int .u64 b_4.Commit, .bool b_4.Ok, .slice A_5 b_4.Entries.length c_6, .string (bs b_4.Data)]⟩, ⟨40, b_7, [.int .i64 a_1.Kind, .int .i64 a_1.From, .int .i64 a_1.To, .int .u64 a_1.Term, .int .u64 a_1.Index, .int .u64 a_1.Prev, .int .u64 a_1.Commit, .bool a_1.Ok, .slice A_2 a_1.Entries.length c_3, .string (bs a_1.Data)]⟩]) (ps := [b_7 = b_7, b_8 = b_8]) (by kernel_rfl) (And.intro rfl (And.intro rfl trivial)) ?_
    refine GoO.bsplit (t := 17) (by kernel_rfl) (fun h10 => ?_) (fun h10 => ?_)
    · refine GoO.exec (is := [13, 14, 15, 16, 17, 18, 19]) (hs := [.p, .b 1, .p, .b 0, .p, .p, .p]) (rest := [20, 21, 22, 23, 24, 25, 26, 27, 28, 29, 30, 31, 32, 33, 34, 35, 36, 37, 38, 39, 40, 41, 42, 43, 44, 45, 46, 47, 48, 49, 50, 51, 52, 53, 54, 55, 56, 57, 58, 59, 60, 61, 62, 63, 64, 65, 66, 67, 68]) (ks := [2, 3, 24]) (env' := [(2, .pointer (some ⟨b_7, 0, none⟩)), (3, .pointer (some ⟨b_8, 0, none⟩)), (24, .bool (a_1.To == b_4.To))]) (H' := [⟨41, b_8, [.int .i64 b_4.Kind, .int .i64 b_4.From, .int .i64 b_4.To, .int .u64 b_4.Term, .int .u64 b_4.Index, .int .u64 b_4.Prev, .int .u64 b_4.Commit, .bool b_4.Ok, .slice A_5 b_4.Entries.length c_6, .string (bs b_4.Data)]⟩, ⟨40, b_7, [.int .i64 a_1.Kind, .int .i64 a_1.From, .int .i64 a_1.To, .int .u64 a_1.Term, .int .u64 a_1.Index, .int .u64 a_1.Prev, .int .u64 a_1.Commit, .bool a_1.Ok, .slice A_2 a_1.Entries.length c_3, .string (bs a_1.Data)]⟩]) (ps := [b_7 = b_7, b_8 = b_8]) (by kernel_rfl) (And.intro rfl (And.intro rfl trivial)) ?_
      refine GoO.bsplit (t := 24) (by kernel_rfl) (fun h11 => ?_) (fun h11 => ?_)
      · refine GoO.exec (is := [20, 21, 22, 23, 24, 25, 26]) (hs := [.p, .b 1, .p, .b 0, .p, .p, .p]) (rest := [27, 28, 29, 30, 31, 32, 33, 34, 35, 36, 37, 38, 39, 40, 41, 42, 43, 44, 45, 46, 47, 48, 49, 50, 51, 52, 53, 54, 55, 56, 57, 58, 59, 60, 61, 62, 63, 64, 65, 66, 67, 68]) (ks := [2, 3, 31]) (env' := [(2, .pointer (some ⟨b_7, 0, none⟩)), (3, .pointer (some ⟨b_8, 0, none⟩)), (31, .bool (a_1.Term == b_4.Term))]) (H' := [⟨41, b_8, [.int .i64 b_4.Kind, .int .i64 b_4.From, .int .i64 b_4.To, .int .u64 b_4.Term, .int .u64 b_4.Index, .int .u64 b_4.Prev, .int .u64 b_4.Commit, .bool b_4.Ok, .slice A_5 b_4.Entries.length c_6, .string (bs b_4.Data)]⟩, ⟨40, b_7, [.int .i64 a_1.Kind, .int .i64 a_1.From, .int .i64 a_1.To, .int .u64 a_1.Term, .int .u64 a_1.Index, .int .u64 a_1.Prev, .int .u64 a_1.Commit, .bool a_1.Ok, .slice A_2 a_1.Entries.length c_3, .string (bs a_1.Data)]⟩]) (ps := [b_7 = b_7, b_8 = b_8]) (by kernel_rfl) (And.intro rfl (And.intro rfl trivial)) ?_
        refine GoO.bsplit (t := 31) (by kernel_rfl) (fun h12 => ?_) (fun h12 => ?_)
        · refine GoO.exec (is := [27, 28, 29, 30, 31, 32, 33]) (hs := [.p, .b 1, .p, .b 0, .p, .p, .p]) (rest := [34, 35, 36, 37, 38, 39, 40, 41, 42, 43, 44, 45, 46, 47, 48, 49, 50, 51, 52, 53, 54, 55, 56, 57, 58, 59, 60, 61, 62, 63, 64, 65, 66, 67, 68]) (ks := [2, 3, 38]) (env' := [(2, .pointer (some ⟨b_7, 0, none⟩)), (3, .pointer (some ⟨b_8, 0, none⟩)), (38, .bool (a_1.Index == b_4.Index))]) (H' := [⟨41, b_8, [.int .i64 b_4.Kind, .int .i64 b_4.From, .int .i64 b_4.To, .int .u64 b_4.Term, .int .u64 b_4.Index, .int .u64 b_4.Prev, .int .u64 b_4.Commit, .bool b_4.Ok, .slice A_5 b_4.Entries.length c_6, .string (bs b_4.Data)]⟩, ⟨40, b_7, [.int .i64 a_1.Kind, .int .i64 a_1.From, .int .i64 a_1.To, .int .u64 a_1.Term, .int .u64 a_1.Index, .int .u64 a_1.Prev, .int .u64 a_1.Commit, .bool a_1.Ok, .slice A_2 a_1.Entries.length c_3, .string (bs a_1.Data)]⟩]) (ps := [b_7 = b_7, b_8 = b_8]) (by kernel_rfl) (And.intro rfl (And.intro rfl trivial)) ?_
          refine GoO.bsplit (t := 38) (by kernel_rfl) (fun h13 => ?_) (fun h13 => ?_)
          · refine GoO.exec (is := [34, 35, 36, 37, 38, 39, 40]) (hs := [.p, .b 1, .p, .b 0, .p, .p, .p]) (rest := [41, 42, 43, 44, 45, 46, 47, 48, 49, 50, 51, 52, 53, 54, 55, 56, 57, 58, 59, 60, 61, 62, 63, 64, 65, 66, 67, 68]) (ks := [2, 3, 45]) (env' := [(2, .pointer (some ⟨b_7, 0, none⟩)), (3, .pointer (some ⟨b_8, 0, none⟩)), (45, .bool (a_1.Prev == b_4.Prev))]) (H' := [⟨41, b_8, [.int .i64 b_4.Kind, .int .i64 b_4.From, .int .i64 b_4.To, .int .u64 b_4.Term, .int .u64 b_4.Index, .int .u64 b_4.Prev, .int .u64 b_4.Commit, .bool b_4.Ok, .slice A_5 b_4.Entries.length c_6, .string (bs b_4.Data)]⟩, ⟨40, b_7, [.int .i64 a_1.Kind, .int .i64 a_1.From, .int .i64 a_1.To, .int .u64 a_1.Term, .int .u64 a_1.Index, .int .u64 a_1.Prev, .int .u64 a_1.Commit, .bool a_1.Ok, .slice A_2 a_1.Entries.length c_3, .string (bs a_1.Data)]⟩]) (ps := [b_7 = b_7, b_8 = b_8]) (by kernel_rfl) (And.intro rfl (And.intro rfl trivial)) ?_
            refine GoO.bsplit (t := 45) (by kernel_rfl) (fun h14 => ?_) (fun h14 => ?_)
            · refine GoO.exec (is := [41, 42, 43, 44, 45, 46, 47]) (hs := [.p, .b 1, .p, .b 0, .p, .p, .p]) (rest := [48, 49, 50, 51, 52, 53, 54, 55, 56, 57, 58, 59, 60, 61, 62, 63, 64, 65, 66, 67, 68]) (ks := [2, 3, 52]) (env' := [(2, .pointer (some ⟨b_7, 0, none⟩)), (3, .pointer (some ⟨b_8, 0, none⟩)), (52, .bool (a_1.Commit == b_4.Commit))]) (H' := [⟨41, b_8, [.int .i64 b_4.Kind, .int .i64 b_4.From, .int .i64 b_4.To, .int .u64 b_4.Term, .int .u64 b_4.Index, .int .u64 b_4.Prev, .int .u64 b_4.Commit, .bool b_4.Ok, .slice A_5 b_4.Entries.length c_6, .string (bs b_4.Data)]⟩, ⟨40, b_7, [.int .i64 a_1.Kind, .int .i64 a_1.From, .int .i64 a_1.To, .int .u64 a_1.Term, .int .u64 a_1.Index, .int .u64 a_1.Prev, .int .u64 a_1.Commit, .bool a_1.Ok, .slice A_2 a_1.Entries.length c_3, .string (bs a_1.Data)]⟩]) (ps := [b_7 = b_7, b_8 = b_8]) (by kernel_rfl) (And.intro rfl (And.intro rfl trivial)) ?_
              refine GoO.bsplit (t := 52) (by kernel_rfl) (fun h15 => ?_) (fun h15 => ?_)
              · refine GoO.exec (is := [48, 49, 50, 51, 52, 53, 54]) (hs := [.p, .b 1, .p, .b 0, .p, .p, .p]) (rest := [55, 56, 57, 58, 59, 60, 61, 62, 63, 64, 65, 66, 67, 68]) (ks := [2, 3, 59]) (env' := [(2, .pointer (some ⟨b_7, 0, none⟩)), (3, .pointer (some ⟨b_8, 0, none⟩)), (59, .bool (a_1.Ok == b_4.Ok))]) (H' := [⟨41, b_8, [.int .i64 b_4.Kind, .int .i64 b_4.From, .int .i64 b_4.To, .int .u64 b_4.Term, .int .u64 b_4.Index, .int .u64 b_4.Prev, .int .u64 b_4.Commit, .bool b_4.Ok, .slice A_5 b_4.Entries.length c_6, .string (bs b_4.Data)]⟩, ⟨40, b_7, [.int .i64 a_1.Kind, .int .i64 a_1.From, .int .i64 a_1.To, .int .u64 a_1.Term, .int .u64 a_1.Index, .int .u64 a_1.Prev, .int .u64 a_1.Commit, .bool a_1.Ok, .slice A_2 a_1.Entries.length c_3, .string (bs a_1.Data)]⟩]) (ps := [b_7 = b_7, b_8 = b_8]) (by kernel_rfl) (And.intro rfl (And.intro rfl trivial)) ?_
                refine GoO.bsplit (t := 59) (by kernel_rfl) (fun h16 => ?_) (fun h16 => ?_)
                · refine GoO.exec (is := [55, 56, 57, 58, 59, 60, 61]) (hs := [.p, .b 1, .p, .b 0, .p, .p, .p]) (rest := [62, 63, 64, 65, 66, 67, 68]) (ks := [2, 3, 66]) (env' := [(2, .pointer (some ⟨b_7, 0, none⟩)), (3, .pointer (some ⟨b_8, 0, none⟩)), (66, .bool (a_1.Data == b_4.Data))]) (H' := [⟨41, b_8, [.int .i64 b_4.Kind, .int .i64 b_4.From, .int .i64 b_4.To, .int .u64 b_4.Term, .int .u64 b_4.Index, .int .u64 b_4.Prev, .int .u64 b_4.Commit, .bool b_4.Ok, .slice A_5 b_4.Entries.length c_6, .string (bs b_4.Data)]⟩, ⟨40, b_7, [.int .i64 a_1.Kind, .int .i64 a_1.From, .int .i64 a_1.To, .int .u64 a_1.Term, .int .u64 a_1.Index, .int .u64 a_1.Prev, .int .u64 a_1.Commit, .bool a_1.Ok, .slice A_2 a_1.Entries.length c_3, .string (bs a_1.Data)]⟩]) (ps := [b_7 = b_7, b_8 = b_8]) (by kernel_rfl) (And.intro rfl (And.intro rfl trivial)) ?_
                  refine GoO.bsplit (t := 66) (by kernel_rfl) (fun h17 => ?_) (fun h17 => ?_)
                  · refine GoO.exec (is := [62, 63, 64, 65]) (hs := [.p, .b 1, .p, .b 0]) (rest := [66, 67, 68]) (ks := [66, 68, 70]) (env' := [(66, .bool true), (68, .slice A_2 a_1.Entries.length c_3), (70, .slice A_5 b_4.Entries.length c_6)]) (H' := [⟨41, b_8, [.int .i64 b_4.Kind, .int .i64 b_4.From, .int .i64 b_4.To, .int .u64 b_4.Term, .int .u64 b_4.Index, .int .u64 b_4.Prev, .int .u64 b_4.Commit, .bool b_4.Ok, .slice A_5 b_4.Entries.length c_6, .string (bs b_4.Data)]⟩, ⟨40, b_7, [.int .i64 a_1.Kind, .int .i64 a_1.From, .int .i64 a_1.To, .int .u64 a_1.Term, .int .u64 a_1.Index, .int .u64 a_1.Prev, .int .u64 a_1.Commit, .bool a_1.Ok, .slice A_2 a_1.Entries.length c_3, .string (bs a_1.Data)]⟩]) (ps := [b_7 = b_7, b_8 = b_8]) (by kernel_rfl) (And.intro rfl (And.intro rfl trivial)) ?_
                    refine OpTo.go (GoO.call rfl (by kernel_rfl) (by kernel_rfl) (tontineref07_Same_ok n a_1.Entries b_4.Entries A_2 c_3 A_5 c_6) [[0]] [] [] [(0, 0), (0, 1)] (hks := [0, 1]) (bks := [0, 1]) (by kernel_rfl) (by kernel_rfl) (by kernel_rfl) (.inl rfl) rfl rfl (by kernel_rfl) (by kernel_rfl) _ (fun _ _ => rfl) _ _ (fun _ _ => rfl) (fun _ _ => rfl) (fun _ _ => by kernel_rfl) (fun _ _ => by kernel_rfl) (fun r_18 x_19 => ?_))
                    refine GoO.shape (env' := [(66, .bool true), (68, .slice A_2 a_1.Entries.length c_3), (70, .slice A_5 b_4.Entries.length c_6), (71, .bool r_18)]) (H' := [⟨41, b_8, [.int .i64 b_4.Kind, .int .i64 b_4.From, .int .i64 b_4.To, .int .u64 b_4.Term, .int .u64 b_4.Index, .int .u64 b_4.Prev, .int .u64 b_4.Commit, .bool b_4.Ok, .slice A_5 b_4.Entries.length c_6, .string (bs b_4.Data)]⟩, ⟨40, b_7, [.int .i64 a_1.Kind, .int .i64 a_1.From, .int .i64 a_1.To, .int .u64 a_1.Term, .int .u64 a_1.Index, .int .u64 a_1.Prev, .int .u64 a_1.Commit, .bool a_1.Ok, .slice A_2 a_1.Entries.length c_3, .string (bs a_1.Data)]⟩]) (B' := [Rd 0 kT_api_Entry A_2 c_3 a_1.Entries, Rd 0 kT_api_Entry A_5 c_6 b_4.Entries]) (ks := [66, 68, 70, 71]) (by kernel_rfl) (by kernel_rfl) (by kernel_rfl) ?_
                    refine GoO.exec (is := [67, 68]) (hs := [.p, .p]) (rest := []) (ks := [4]) (env' := [(4, .bool r_18)]) (H' := [⟨41, b_8, [.int .i64 b_4.Kind, .int .i64 b_4.From, .int .i64 b_4.To, .int .u64 b_4.Term, .int .u64 b_4.Index, .int .u64 b_4.Prev, .int .u64 b_4.Commit, .bool b_4.Ok, .slice A_5 b_4.Entries.length c_6, .string (bs b_4.Data)]⟩, ⟨40, b_7, [.int .i64 a_1.Kind, .int .i64 a_1.From, .int .i64 a_1.To, .int .u64 a_1.Term, .int .u64 a_1.Index, .int .u64 a_1.Prev, .int .u64 a_1.Commit, .bool a_1.Ok, .slice A_2 a_1.Entries.length c_3, .string (bs a_1.Data)]⟩]) (ps := []) (by kernel_rfl) trivial ?_
                    refine GoO.regionEnd ?_
                    exact GoO.ret' (h := c20_4e) (hs := []) (ps := []) (hk := []) (bk := []) Try.func20 () (by kernel_rfl) trivial (by kernel_rfl) (by kernel_rfl)
                  · refine GoO.exec (is := [62, 63, 64, 65, 66, 67, 68]) (hs := [.p, .p, .p, .p, .p, .p, .p]) (rest := []) (ks := [4]) (env' := [(4, .bool false)]) (H' := [⟨41, b_8, [.int .i64 b_4.Kind, .int .i64 b_4.From, .int .i64 b_4.To, .int .u64 b_4.Term, .int .u64 b_4.Index, .int .u64 b_4.Prev, .int .u64 b_4.Commit, .bool b_4.Ok, .slice A_5 b_4.Entries.length c_6, .string (bs b_4.Data)]⟩, ⟨40, b_7, [.int .i64 a_1.Kind, .int .i64 a_1.From, .int .i64 a_1.To, .int .u64 a_1.Term, .int .u64 a_1.Index, .int .u64 a_1.Prev, .int .u64 a_1.Commit, .bool a_1.Ok, .slice A_2 a_1.Entries.length c_3, .string (bs a_1.Data)]⟩]) (ps := []) (by kernel_rfl) trivial ?_
                    refine GoO.regionEnd ?_
                    exact GoO.ret' (h := c20_4e) (hs := []) (ps := []) (hk := []) (bk := []) Try.func20 () (by kernel_rfl) trivial (by kernel_rfl) (by kernel_rfl)
                · refine GoO.exec (is := [55, 56, 57, 58, 59, 60, 61, 62, 63, 64, 65, 66, 67, 68]) (hs := [.p, .p, .p, .p, .p, .p, .p, .p, .p, .p, .p, .p, .p, .p]) (rest := []) (ks := [4]) (env' := [(4, .bool false)]) (H' := [⟨41, b_8, [.int .i64 b_4.Kind, .int .i64 b_4.From, .int .i64 b_4.To, .int .u64 b_4.Term, .int .u64 b_4.Index, .int .u64 b_4.Prev, .int .u64 b_4.Commit, .bool b_4.Ok, .slice A_5 b_4.Entries.length c_6, .string (bs b_4.Data)]⟩, ⟨40, b_7, [.int .i64 a_1.Kind, .int .i64 a_1.From, .int .i64 a_1.To, .int .u64 a_1.Term, .int .u64 a_1.Index, .int .u64 a_1.Prev, .int .u64 a_1.Commit, .bool a_1.Ok, .slice A_2 a_1.Entries.length c_3, .string (bs a_1.Data)]⟩]) (ps := []) (by kernel_rfl) trivial ?_
                  refine GoO.regionEnd ?_
                  exact GoO.ret' (h := c20_4e) (hs := []) (ps := []) (hk := []) (bk := []) Try.func20 () (by kernel_rfl) trivial (by kernel_rfl) (by kernel_rfl)
              · refine GoO.exec (is := [48, 49, 50, 51, 52, 53, 54, 55, 56, 57, 58, 59, 60, 61, 62, 63, 64, 65, 66, 67, 68]) (hs := [.p, .p, .p, .p, .p, .p, .p, .p, .p, .p, .p, .p, .p, .p, .p, .p, .p, .p, .p, .p, .p]) (rest := []) (ks := [4]) (env' := [(4, .bool false)]) (H' := [⟨41, b_8, [.int .i64 b_4.Kind, .int .i64 b_4.From, .int .i64 b_4.To, .int .u64 b_4.Term, .int .u64 b_4.Index, .int .u64 b_4.Prev, .int .u64 b_4.Commit, .bool b_4.Ok, .slice A_5 b_4.Entries.length c_6, .string (bs b_4.Data)]⟩, ⟨40, b_7, [.int .i64 a_1.Kind, .int .i64 a_1.From, .int .i64 a_1.To, .int .u64 a_1.Term, .int .u64 a_1.Index, .int .u64 a_1.Prev, .int .u64 a_1.Commit, .bool a_1.Ok, .slice A_2 a_1.Entries.length c_3, .string (bs a_1.Data)]⟩]) (ps := []) (by kernel_rfl) trivial ?_
                refine GoO.regionEnd ?_
                exact GoO.ret' (h := c20_4e) (hs := []) (ps := []) (hk := []) (bk := []) Try.func20 () (by kernel_rfl) trivial (by kernel_rfl) (by kernel_rfl)
            · refine GoO.exec (is := [41, 42, 43, 44, 45, 46, 47, 48, 49, 50, 51, 52, 53, 54, 55, 56, 57, 58, 59, 60, 61, 62, 63, 64, 65, 66, 67, 68]) (hs := [.p, .p, .p, .p, .p, .p, .p, .p, .p, .p, .p, .p, .p, .p, .p, .p, .p, .p, .p, .p, .p, .p, .p, .p, .p, .p, .p, .p]) (rest := []) (ks := [4]) (env' := [(4, .bool false)]) (H' := [⟨41, b_8, [.int .i64 b_4.Kind, .int .i64 b_4.From, .int .i64 b_4.To, .int .u64 b_4.Term, .int .u64 b_4.Index, .int .u64 b_4.Prev, .int .u64 b_4.Commit, .bool b_4.Ok, .slice A_5 b_4.Entries.length c_6, .string (bs b_4.Data)]⟩, ⟨40, b_7, [.int .i64 a_1.Kind, .int .i64 a_1.From, .int .i64 a_1.To, .int .u64 a_1.Term, .int .u64 a_1.Index, .int .u64 a_1.Prev, .int .u64 a_1.Commit, .bool a_1.Ok, .slice A_2 a_1.Entries.length c_3, .string (bs a_1.Data)]⟩]) (ps := []) (by kernel_rfl) trivial ?_
              refine GoO.regionEnd ?_
              exact GoO.ret' (h := c20_4e) (hs := []) (ps := []) (hk := []) (bk := []) Try.func20 () (by kernel_rfl) trivial (by kernel_rfl) (by kernel_rfl)
          · refine GoO.exec (is := [34, 35, 36, 37, 38, 39, 40, 41, 42, 43, 44, 45, 46, 47, 48, 49, 50, 51, 52, 53, 54, 55, 56, 57, 58, 59, 60, 61, 62, 63, 64, 65, 66, 67, 68]) (hs := [.p, .p, .p, .p, .p, .p, .p, .p, .p, .p, .p, .p, .p, .p, .p, .p, .p, .p, .p, .p, .p, .p, .p, .p, .p, .p, .p, .p, .p, .p, .p, .p, .p, .p, .p]) (rest := []) (ks := [4]) (env' := [(4, .bool false)]) (H' := [⟨41, b_8, [.int .i64 b_4.Kind, .int .i64 b_4.From, .int .i64 b_4.To, .int .u64 b_4.Term, .int .u64 b_4.Index, .int .u64 b_4.Prev, .int .u64 b_4.Commit, .bool b_4.Ok, .slice A_5 b_4.Entries.length c_6, .string (bs b_4.Data)]⟩, ⟨40, b_7, [.int .i64 a_1.Kind, .int .i64 a_1.From, .int .i64 a_1.To, .int .u64 a_1.Term, .int .u64 a_1.Index, .int .u64 a_1.Prev, .int .u64 a_1.Commit, .bool a_1.Ok, .slice A_2 a_1.Entries.length c_3, .string (bs a_1.Data)]⟩]) (ps := []) (by kernel_rfl) trivial ?_
            refine GoO.regionEnd ?_
            exact GoO.ret' (h := c20_4e) (hs := []) (ps := []) (hk := []) (bk := []) Try.func20 () (by kernel_rfl) trivial (by kernel_rfl) (by kernel_rfl)
        · refine GoO.exec (is := [27, 28, 29, 30, 31, 32, 33, 34, 35, 36, 37, 38, 39, 40, 41, 42, 43, 44, 45, 46, 47, 48, 49, 50, 51, 52, 53, 54, 55, 56, 57, 58, 59, 60, 61, 62, 63, 64, 65, 66, 67, 68]) (hs := [.p, .p, .p, .p, .p, .p, .p, .p, .p, .p, .p, .p, .p, .p, .p, .p, .p, .p, .p, .p, .p, .p, .p, .p, .p, .p, .p, .p, .p, .p, .p, .p, .p, .p, .p, .p, .p, .p, .p, .p, .p, .p]) (rest := []) (ks := [4]) (env' := [(4, .bool false)]) (H' := [⟨41, b_8, [.int .i64 b_4.Kind, .int .i64 b_4.From, .int .i64 b_4.To, .int .u64 b_4.Term, .int .u64 b_4.Index, .int .u64 b_4.Prev, .int .u64 b_4.Commit, .bool b_4.Ok, .slice A_5 b_4.Entries.length c_6, .string (bs b_4.Data)]⟩, ⟨40, b_7, [.int .i64 a_1.Kind, .int .i64 a_1.From, .int .i64 a_1.To, .int .u64 a_1.Term, .int .u64 a_1.Index, .int .u64 a_1.Prev, .int .u64 a_1.Commit, .bool a_1.Ok, .slice A_2 a_1.Entries.length c_3, .string (bs a_1.Data)]⟩]) (ps := []) (by kernel_rfl) trivial ?_
          refine GoO.regionEnd ?_
          exact GoO.ret' (h := c20_4e) (hs := []) (ps := []) (hk := []) (bk := []) Try.func20 () (by kernel_rfl) trivial (by kernel_rfl) (by kernel_rfl)
      · refine GoO.exec (is := [20, 21, 22, 23, 24, 25, 26, 27, 28, 29, 30, 31, 32, 33, 34, 35, 36, 37, 38, 39, 40, 41, 42, 43, 44, 45, 46, 47, 48, 49, 50, 51, 52, 53, 54, 55, 56, 57, 58, 59, 60, 61, 62, 63, 64, 65, 66, 67, 68]) (hs := [.p, .p, .p, .p, .p, .p, .p, .p, .p, .p, .p, .p, .p, .p, .p, .p, .p, .p, .p, .p, .p, .p, .p, .p, .p, .p, .p, .p, .p, .p, .p, .p, .p, .p, .p, .p, .p, .p, .p, .p, .p, .p, .p, .p, .p, .p, .p, .p, .p]) (rest := []) (ks := [4]) (env' := [(4, .bool false)]) (H' := [⟨41, b_8, [.int .i64 b_4.Kind, .int .i64 b_4.From, .int .i64 b_4.To, .int .u64 b_4.Term, .int .u64 b_4.Index, .int .u64 b_4.Prev, .int .u64 b_4.Commit, .bool b_4.Ok, .slice A_5 b_4.Entries.length c_6, .string (bs b_4.Data)]⟩, ⟨40, b_7, [.int .i64 a_1.Kind, .int .i64 a_1.From, .int .i64 a_1.To, .int .u64 a_1.Term, .int .u64 a_1.Index, .int .u64 a_1.Prev, .int .u64 a_1.Commit, .bool a_1.Ok, .slice A_2 a_1.Entries.length c_3, .string (bs a_1.Data)]⟩]) (ps := []) (by kernel_rfl) trivial ?_
        refine GoO.regionEnd ?_
        exact GoO.ret' (h := c20_4e) (hs := []) (ps := []) (hk := []) (bk := []) Try.func20 () (by kernel_rfl) trivial (by kernel_rfl) (by kernel_rfl)
    · refine GoO.exec (is := [13, 14, 15, 16, 17, 18, 19, 20, 21, 22, 23, 24, 25, 26, 27, 28, 29, 30, 31, 32, 33, 34, 35, 36, 37, 38, 39, 40, 41, 42, 43, 44, 45, 46, 47, 48, 49, 50, 51, 52, 53, 54, 55, 56, 57, 58, 59, 60, 61, 62, 63, 64, 65, 66, 67, 68]) (hs := [.p, .p, .p, .p, .p, .p, .p, .p, .p, .p, .p, .p, .p, .p, .p, .p, .p, .p, .p, .p, .p, .p, .p, .p, .p, .p, .p, .p, .p, .p, .p, .p, .p, .p, .p, .p, .p, .p, .p, .p, .p, .p, .p, .p, .p, .p, .p, .p, .p, .p, .p, .p, .p, .p, .p, .p]) (rest := []) (ks := [4]) (env' := [(4, .bool false)]) (H' := [⟨41, b_8, [.int .i64 b_4.Kind, .int .i64 b_4.From, .int .i64 b_4.To, .int .u64 b_4.Term, .int .u64 b_4.Index, .int .u64 b_4.Prev, .int .u64 b_4.Commit, .bool b_4.Ok, .slice A_5 b_4.Entries.length c_6, .string (bs b_4.Data)]⟩, ⟨40, b_7, [.int .i64 a_1.Kind, .int .i64 a_1.From, .int .i64 a_1.To, .int .u64 a_1.Term, .int .u64 a_1.Index, .int .u64 a_1.Prev, .int .u64 a_1.Commit, .bool a_1.Ok, .slice A_2 a_1.Entries.length c_3, .string (bs a_1.Data)]⟩]) (ps := []) (by kernel_rfl) trivial ?_
      refine GoO.regionEnd ?_
      exact GoO.ret' (h := c20_4e) (hs := []) (ps := []) (hk := []) (bk := []) Try.func20 () (by kernel_rfl) trivial (by kernel_rfl) (by kernel_rfl)
  · refine GoO.exec (is := [6, 7, 8, 9, 10, 11, 12, 13, 14, 15, 16, 17, 18, 19, 20, 21, 22, 23, 24, 25, 26, 27, 28, 29, 30, 31, 32, 33, 34, 35, 36, 37, 38, 39, 40, 41, 42, 43, 44, 45, 46, 47, 48, 49, 50, 51, 52, 53, 54, 55, 56, 57, 58, 59, 60, 61, 62, 63, 64, 65, 66, 67, 68]) (hs := [.p, .p, .p, .p, .p, .p, .p, .p, .p, .p, .p, .p, .p, .p, .p, .p, .p, .p, .p, .p, .p, .p, .p, .p, .p, .p, .p, .p, .p, .p, .p, .p, .p, .p, .p, .p, .p, .p, .p, .p, .p, .p, .p, .p, .p, .p, .p, .p, .p, .p, .p, .p, .p, .p, .p, .p, .p, .p, .p, .p, .p, .p, .p]) (rest := []) (ks := [4]) (env' := [(4, .bool false)]) (H' := [⟨41, b_8, [.int .i64 b_4.Kind, .int .i64 b_4.From, .int .i64 b_4.To, .int .u64 b_4.Term, .int .u64 b_4.Index, .int .u64 b_4.Prev, .int .u64 b_4.Commit, .bool b_4.Ok, .slice A_5 b_4.Entries.length c_6, .string (bs b_4.Data)]⟩, ⟨40, b_7, [.int .i64 a_1.Kind, .int .i64 a_1.From, .int .i64 a_1.To, .int .u64 a_1.Term, .int .u64 a_1.Index, .int .u64 a_1.Prev, .int .u64 a_1.Commit, .bool a_1.Ok, .slice A_2 a_1.Entries.length c_3, .string (bs a_1.Data)]⟩]) (ps := []) (by kernel_rfl) trivial ?_
    refine GoO.regionEnd ?_
    exact GoO.ret' (h := c20_4e) (hs := []) (ps := []) (hk := []) (bk := []) Try.func20 () (by kernel_rfl) trivial (by kernel_rfl) (by kernel_rfl)

/-! tontine/tontinelaw10.NetDoubles -/
noncomputable def c4_0 : Code := bodyOf Try.f4
noncomputable def c4_1 : Code := cdL c4_0
noncomputable def c4_2 : Code := cdR c4_0
noncomputable def c4_3 : Code := cdL c4_2
noncomputable def c4_4 : Code := cdL c4_3
noncomputable def c4_5 : Code := cdR c4_3
noncomputable def c4_6 : Code := cdL c4_5
noncomputable def c4_7 : Code := cdL c4_6
noncomputable def c4_8 : Code := cdR c4_6
noncomputable def c4_9 : Code := cdR c4_5
noncomputable def c4_10 : Code := cdR c4_2
noncomputable def c4_11 : Code := cdL c4_10
noncomputable def c4_12 : Code := cdR c4_10
noncomputable def c4_13 : Code := cdL c4_12
noncomputable def c4_14 : Code := cdL c4_13
noncomputable def c4_15 : Code := cdR c4_13
noncomputable def c4_16 : Code := cdL c4_15
noncomputable def c4_17 : Code := cdL c4_16
noncomputable def c4_18 : Code := cdR c4_16
noncomputable def c4_19 : Code := cdR c4_15
noncomputable def c4_20 : Code := cdR c4_12
noncomputable def c4_21 : Code := cdL c4_20
noncomputable def c4_22 : Code := cdR c4_20
noncomputable def c4_23 : Code := cdL c4_22
noncomputable def c4_24 : Code := cdR c4_22
noncomputable def c4_25 : Code := cdL c4_24
noncomputable def c4_26 : Code := cdL c4_25
noncomputable def c4_27 : Code := cdR c4_25
noncomputable def c4_28 : Code := cdL c4_27
noncomputable def c4_29 : Code := cdL c4_28
noncomputable def c4_30 : Code := cdL c4_29
noncomputable def c4_31 : Code := cdR c4_29
noncomputable def c4_32 : Code := cdL c4_31
noncomputable def c4_33 : Code := cdL c4_32
noncomputable def c4_34 : Code := cdR c4_32
noncomputable def c4_35 : Code := cdR c4_31
noncomputable def c4_36 : Code := cdL c4_35
noncomputable def c4_37 : Code := cdL c4_36
noncomputable def c4_38 : Code := cdL c4_37
noncomputable def c4_39 : Code := cdR c4_37
noncomputable def c4_40 : Code := cdL c4_39
noncomputable def c4_41 : Code := cdR c4_39
noncomputable def c4_42 : Code := cdL c4_41
noncomputable def c4_43 : Code := cdL c4_42
noncomputable def c4_44 : Code := cdR c4_42
noncomputable def c4_45 : Code := cdR c4_41
noncomputable def c4_46 : Code := cdR c4_35
noncomputable def c4_47 : Code := cdR c4_24
noncomputable def c4_48 : Code := cdL c4_47
noncomputable def c4_49 : Code := cdR c4_47
noncomputable def c4_50 : Code := cdL c4_49
noncomputable def c4_51 : Code := cdL c4_50
noncomputable def c4_52 : Code := cdR c4_50
noncomputable def c4_53 : Code := cdL c4_52
noncomputable def c4_54 : Code := cdL c4_53
noncomputable def c4_55 : Code := cdR c4_53
noncomputable def c4_56 : Code := cdR c4_52
noncomputable def c4_57 : Code := cdR c4_49
noncomputable def c4_58 : Code := cdL c4_57
noncomputable def c4_59 : Code := cdL c4_58
noncomputable def c4_60 : Code := cdR c4_58
noncomputable def c4_61 : Code := cdL c4_60
noncomputable def c4_62 : Code := cdL c4_61
noncomputable def c4_63 : Code := cdL c4_62
noncomputable def c4_64 : Code := cdR c4_62
noncomputable def c4_65 : Code := cdL c4_64
noncomputable def c4_66 : Code := cdL c4_65
noncomputable def c4_67 : Code := cdR c4_65
noncomputable def c4_68 : Code := cdR c4_64
noncomputable def c4_69 : Code := cdL c4_68
noncomputable def c4_70 : Code := cdL c4_69
noncomputable def c4_71 : Code := cdL c4_70
noncomputable def c4_72 : Code := cdR c4_70
noncomputable def c4_73 : Code := cdL c4_72
noncomputable def c4_74 : Code := cdR c4_72
noncomputable def c4_75 : Code := cdL c4_74
noncomputable def c4_76 : Code := cdL c4_75
noncomputable def c4_77 : Code := cdR c4_75
noncomputable def c4_78 : Code := cdR c4_74
noncomputable def c4_79 : Code := cdR c4_68
noncomputable def c4_80 : Code := cdR c4_57
noncomputable def c4_81 : Code := cdL c4_80
noncomputable def c4_82 : Code := cdR c4_80
noncomputable def r4_1 : Array Oper := cdO c4_1
noncomputable def r4_4 : Array Oper := cdO c4_4
noncomputable def r4_7 : Array Oper := cdO c4_7
noncomputable def r4_11 : Array Oper := cdO c4_11
noncomputable def r4_14 : Array Oper := cdO c4_14
noncomputable def r4_17 : Array Oper := cdO c4_17
noncomputable def r4_21 : Array Oper := cdO c4_21
noncomputable def r4_23 : Array Oper := cdO c4_23
noncomputable def r4_26 : Array Oper := cdO c4_26
noncomputable def r4_30 : Array Oper := cdO c4_30
noncomputable def r4_38 : Array Oper := cdO c4_38
noncomputable def r4_40 : Array Oper := cdO c4_40
noncomputable def r4_43 : Array Oper := cdO c4_43
noncomputable def r4_46 : Array Oper := cdO c4_46
noncomputable def r4_48 : Array Oper := cdO c4_48
noncomputable def r4_51 : Array Oper := cdO c4_51
noncomputable def r4_54 : Array Oper := cdO c4_54
noncomputable def r4_59 : Array Oper := cdO c4_59
noncomputable def r4_63 : Array Oper := cdO c4_63
noncomputable def r4_71 : Array Oper := cdO c4_71
noncomputable def r4_73 : Array Oper := cdO c4_73
noncomputable def r4_76 : Array Oper := cdO c4_76
noncomputable def r4_79 : Array Oper := cdO c4_79
noncomputable def r4_81 : Array Oper := cdO c4_81
theorem c4_0e : c4_0 = .seq c4_1 c4_2 := by kernel_rfl
theorem c4_1e : c4_1 = .region 0 r4_1 false := by kernel_rfl
theorem c4_2e : c4_2 = .seq c4_3 c4_10 := by kernel_rfl
theorem c4_3e : c4_3 = .seq c4_4 c4_5 := by kernel_rfl
theorem c4_4e : c4_4 = .region 1 r4_4 false := by kernel_rfl
theorem c4_5e : c4_5 = .cond (cdC c4_5) c4_6 c4_9 := by kernel_rfl
theorem c4_6e : c4_6 = .seq c4_7 c4_8 := by kernel_rfl
theorem c4_7e : c4_7 = .region 2 r4_7 false := by kernel_rfl
theorem c4_8e : c4_8 = .ret := by kernel_rfl
theorem c4_9e : c4_9 = .skip := by kernel_rfl
theorem c4_10e : c4_10 = .seq c4_11 c4_12 := by kernel_rfl
theorem c4_11e : c4_11 = .region 3 r4_11 false := by kernel_rfl
theorem c4_12e : c4_12 = .seq c4_13 c4_20 := by kernel_rfl
theorem c4_13e : c4_13 = .seq c4_14 c4_15 := by kernel_rfl
theorem c4_14e : c4_14 = .region 4 r4_14 false := by kernel_rfl
theorem c4_15e : c4_15 = .cond (cdC c4_15) c4_16 c4_19 := by kernel_rfl
theorem c4_16e : c4_16 = .seq c4_17 c4_18 := by kernel_rfl
theorem c4_17e : c4_17 = .region 5 r4_17 false := by kernel_rfl
theorem c4_18e : c4_18 = .ret := by kernel_rfl
theorem c4_19e : c4_19 = .skip := by kernel_rfl
theorem c4_20e : c4_20 = .seq c4_21 c4_22 := by kernel_rfl
theorem c4_21e : c4_21 = .region 6 r4_21 false := by kernel_rfl
theorem c4_22e : c4_22 = .seq c4_23 c4_24 := by kernel_rfl
theorem c4_23e : c4_23 = .region 7 r4_23 false := by kernel_rfl
theorem c4_24e : c4_24 = .seq c4_25 c4_47 := by kernel_rfl
theorem c4_25e : c4_25 = .seq c4_26 c4_27 := by kernel_rfl
theorem c4_26e : c4_26 = .region 8 r4_26 false := by kernel_rfl
theorem c4_27e : c4_27 = .block 0 c4_28 := by kernel_rfl
theorem c4_28e : c4_28 = .loop c4_29 := by kernel_rfl
theorem c4_29e : c4_29 = .seq c4_30 c4_31 := by kernel_rfl
theorem c4_30e : c4_30 = .region 9 r4_30 false := by kernel_rfl
theorem c4_31e : c4_31 = .seq c4_32 c4_35 := by kernel_rfl
theorem c4_32e : c4_32 = .cond (cdC c4_32) c4_33 c4_34 := by kernel_rfl
theorem c4_33e : c4_33 = .skip := by kernel_rfl
theorem c4_34e : c4_34 = .exit 0 := by kernel_rfl
theorem c4_35e : c4_35 = .seq c4_36 c4_46 := by kernel_rfl
theorem c4_36e : c4_36 = .block 1 c4_37 := by kernel_rfl
theorem c4_37e : c4_37 = .seq c4_38 c4_39 := by kernel_rfl
theorem c4_38e : c4_38 = .region 10 r4_38 false := by kernel_rfl
theorem c4_39e : c4_39 = .seq c4_40 c4_41 := by kernel_rfl
theorem c4_40e : c4_40 = .region 11 r4_40 false := by kernel_rfl
theorem c4_41e : c4_41 = .cond (cdC c4_41) c4_42 c4_45 := by kernel_rfl
theorem c4_42e : c4_42 = .seq c4_43 c4_44 := by kernel_rfl
theorem c4_43e : c4_43 = .region 12 r4_43 false := by kernel_rfl
theorem c4_44e : c4_44 = .ret := by kernel_rfl
theorem c4_45e : c4_45 = .skip := by kernel_rfl
theorem c4_46e : c4_46 = .region 13 r4_46 false := by kernel_rfl
theorem c4_47e : c4_47 = .seq c4_48 c4_49 := by kernel_rfl
theorem c4_48e : c4_48 = .region 14 r4_48 false := by kernel_rfl
theorem c4_49e : c4_49 = .seq c4_50 c4_57 := by kernel_rfl
theorem c4_50e : c4_50 = .seq c4_51 c4_52 := by kernel_rfl
theorem c4_51e : c4_51 = .region 15 r4_51 false := by kernel_rfl
theorem c4_52e : c4_52 = .cond (cdC c4_52) c4_53 c4_56 := by kernel_rfl
theorem c4_53e : c4_53 = .seq c4_54 c4_55 := by kernel_rfl
theorem c4_54e : c4_54 = .region 16 r4_54 false := by kernel_rfl
theorem c4_55e : c4_55 = .ret := by kernel_rfl
theorem c4_56e : c4_56 = .skip := by kernel_rfl
theorem c4_57e : c4_57 = .seq c4_58 c4_80 := by kernel_rfl
theorem c4_58e : c4_58 = .seq c4_59 c4_60 := by kernel_rfl
theorem c4_59e : c4_59 = .region 17 r4_59 false := by kernel_rfl
theorem c4_60e : c4_60 = .block 2 c4_61 := by kernel_rfl
theorem c4_61e : c4_61 = .loop c4_62 := by kernel_rfl
theorem c4_62e : c4_62 = .seq c4_63 c4_64 := by kernel_rfl
theorem c4_63e : c4_63 = .region 18 r4_63 false := by kernel_rfl
theorem c4_64e : c4_64 = .seq c4_65 c4_68 := by kernel_rfl
theorem c4_65e : c4_65 = .cond (cdC c4_65) c4_66 c4_67 := by kernel_rfl
theorem c4_66e : c4_66 = .skip := by kernel_rfl
theorem c4_67e : c4_67 = .exit 2 := by kernel_rfl
theorem c4_68e : c4_68 = .seq c4_69 c4_79 := by kernel_rfl
theorem c4_69e : c4_69 = .block 3 c4_70 := by kernel_rfl
theorem c4_70e : c4_70 = .seq c4_71 c4_72 := by kernel_rfl
theorem c4_71e : c4_71 = .region 19 r4_71 false := by kernel_rfl
theorem c4_72e : c4_72 = .seq c4_73 c4_74 := by kernel_rfl
theorem c4_73e : c4_73 = .region 20 r4_73 false := by kernel_rfl
theorem c4_74e : c4_74 = .cond (cdC c4_74) c4_75 c4_78 := by kernel_rfl
theorem c4_75e : c4_75 = .seq c4_76 c4_77 := by kernel_rfl
theorem c4_76e : c4_76 = .region 21 r4_76 false := by kernel_rfl
theorem c4_77e : c4_77 = .ret := by kernel_rfl
theorem c4_78e : c4_78 = .skip := by kernel_rfl
theorem c4_79e : c4_79 = .region 22 r4_79 false := by kernel_rfl
theorem c4_80e : c4_80 = .seq c4_81 c4_82 := by kernel_rfl
theorem c4_81e : c4_81 = .region 23 r4_81 false := by kernel_rfl
theorem c4_82e : c4_82 = .ret := by kernel_rfl
noncomputable def tontinelaw10_NetDoubles.R (A_2 : Option Addr) (c_3 : Nat) : Pst Bool where
  ε := Unit
  v := fun r x => .bool r
  H := fun r x => []
  B := fun r x => []
noncomputable def tontinelaw10_NetDoubles.cx (A_2 : Option Addr) (c_3 : Nat) (w0 : World) (S0 : Fam) : Cx Bool := ⟨Try.prog, 4, Try.f4, 73, w0, S0, [], 0, tontinelaw10_NetDoubles.R A_2 c_3⟩
theorem tontinelaw10_NetDoubles_l1_ok (n : Nat) (x_1 : T_api_Letter) (n_4 : Int) (r_27 : Int × Int) (A_2 : Option Addr) (c_3 : Nat) (b_5 : Nat) (b_10 : Nat) (w0 : World) (S0 : Fam) :
    ∀ (k : Nat) (f_31 : (List T_api_Letter)) (f_34 : Int) (x_35 : Int) (A_32 : Option Addr) (c_33 : Nat), GoO (tontinelaw10_NetDoubles.cx A_2 c_3 w0 S0) [(1, .int .i64 ((wi64 ((n_4.tmod 300) + 300)).tmod 300)), (2, .pointer (some ⟨b_5, 0, none⟩)), (5, .pointer (some ⟨b_10, 0, none⟩)), (55, .int .i64 r_27.1), (56, .int .i64 x_35)] [⟨40, b_5, [.int .i64 x_1.Kind, .int .i64 x_1.From, .int .i64 x_1.To, .int .u64 x_1.Term, .int .u64 x_1.Index, .int .u64 x_1.Prev, .int .u64 x_1.Commit, .bool x_1.Ok, .slice A_2 x_1.Entries.length c_3, .string (bs x_1.Data)]⟩, ⟨41, b_10, [.slice A_32 f_31.length c_33, .int .i64 f_34]⟩] [Rd 0 kT_api_Entry A_2 c_3 x_1.Entries, Ow 42 kT_api_Letter A_32 c_33 f_31] [.code c4_62, .inLoop c4_62, .inBlock 2, .code c4_80] (tontinelaw10_NetDoubles.l1 n x_1 n_4 r_27 k f_31 f_34 x_35) := by
  intro k
  induction k with
  | zero => intros; rw [tontinelaw10_NetDoubles.l1.eq_1]; exact GoO.stop
  | succ k ih1 =>
    intro f_31 f_34 x_35 A_32 c_33
    rw [tontinelaw10_NetDoubles.l1.eq_2]
    refine GoO.seq' c4_62e ?_
    refine GoO.region' (is := [0]) c4_63e (by kernel_rfl) ?_
    refine GoO.exec (is := [0]) (hs := [.p]) (rest := []) (ks := [1, 2, 5, 55, 56, 57]) (env' := [(1, .int .i64 ((wi64 ((n_4.tmod 300) + 300)).tmod 300)), (2, .pointer (some ⟨b_5, 0, none⟩)), (5, .pointer (some ⟨b_10, 0, none⟩)), (55, .int .i64 r_27.1), (56, .int .i64 x_35), (57, .bool (decide (x_35 < r_27.1)))]) (H' := [⟨40, b_5, [.int .i64 x_1.Kind, .int .i64 x_1.From, .int .i64 x_1.To, .int .u64 x_1.Term, .int .u64 x_1.Index, .int .u64 x_1.Prev, .int .u64 x_1.Commit, .bool x_1.Ok, .slice A_2 x_1.Entries.length c_3, .string (bs x_1.Data)]⟩, ⟨41, b_10, [.slice A_32 f_31.length c_33, .int .i64 f_34]⟩]) (ps := []) (by kernel_rfl) trivial ?_
    refine GoO.regionEnd ?_
    refine GoO.seq' c4_64e ?_
    refine GoO.ite' c4_65e (by kernel_rfl) (fun h36 => ?_) (fun h36 => ?_)
    · refine GoO.skip' c4_66e ?_
      refine GoO.seq' c4_68e ?_
      refine GoO.block' c4_69e ?_
      refine GoO.seq' c4_70e ?_
      refine GoO.region' (is := [0, 1, 2, 3, 4, 5, 6, 7, 8]) c4_71e (by kernel_rfl) ?_
      refine GoO.exec (is := [0, 1]) (hs := [.p, .p]) (rest := [2, 3, 4, 5, 6, 7, 8]) (ks := [1, 2, 5, 55, 56, 59, 60]) (env' := [(1, .int .i64 ((wi64 ((n_4.tmod 300) + 300)).tmod 300)), (2, .pointer (some ⟨b_5, 0, none⟩)), (5, .pointer (some ⟨b_10, 0, none⟩)), (55, .int .i64 r_27.1), (56, .int .i64 x_35), (59, .pointer (some ⟨b_10, 0, none⟩)), (60, .int .i64 ((wi64 ((n_4.tmod 300) + 300)).tmod 300))]) (H' := [⟨40, b_5, [.int .i64 x_1.Kind, .int .i64 x_1.From, .int .i64 x_1.To, .int .u64 x_1.Term, .int .u64 x_1.Index, .int .u64 x_1.Prev, .int .u64 x_1.Commit, .bool x_1.Ok, .slice A_2 x_1.Entries.length c_3, .string (bs x_1.Data)]⟩, ⟨41, b_10, [.slice A_32 f_31.length c_33, .int .i64 f_34]⟩]) (ps := []) (by kernel_rfl) trivial ?_
      refine OpTo.go (GoO.call rfl (by kernel_rfl) (by kernel_rfl) (net_Net_Take_ok n (⟨f_31, f_34⟩ : T_net_Net) ((wi64 ((n_4.tmod 300) + 300)).tmod 300) b_10 A_32 c_33) [[0], [41], [42]] [(41, 1), (42, 2)] [(1, 1)] [(2, 1)] (hks := [0]) (bks := [0]) (by kernel_rfl) (by kernel_rfl) (by kernel_rfl) (.inl rfl) rfl rfl (by kernel_rfl) (by kernel_rfl) _ (fun _ _ => rfl) _ _ (fun _ _ => rfl) (fun _ _ => rfl) (fun _ _ => by kernel_rfl) (fun _ _ => by kernel_rfl) (fun r_37 x_47 => ?_))
      obtain ⟨A_38, c_39, A_40, c_41⟩ := x_47
      refine GoO.shape (env' := [(1, .int .i64 ((wi64 ((n_4.tmod 300) + 300)).tmod 300)), (2, .pointer (some ⟨b_5, 0, none⟩)), (5, .pointer (some ⟨b_10, 0, none⟩)), (55, .int .i64 r_27.1), (56, .int .i64 x_35), (59, .pointer (some ⟨b_10, 0, none⟩)), (60, .int .i64 ((wi64 ((n_4.tmod 300) + 300)).tmod 300)), (61, .tuple ⟨[.agg ⟨[.int .i64 r_37.1.Kind, .int .i64 r_37.1.From, .int .i64 r_37.1.To, .int .u64 r_37.1.Term, .int .u64 r_37.1.Index, .int .u64 r_37.1.Prev, .int .u64 r_37.1.Commit, .bool r_37.1.Ok, .slice A_38 r_37.1.Entries.length c_39, .string (bs r_37.1.Data)]⟩, .bool r_37.2.1]⟩)]) (H' := [⟨41, b_10, [.slice A_40 r_37.2.2.l.length c_41, .int .i64 r_37.2.2.lost]⟩, ⟨40, b_5, [.int .i64 x_1.Kind, .int .i64 x_1.From, .int .i64 x_1.To, .int .u64 x_1.Term, .int .u64 x_1.Index, .int .u64 x_1.Prev, .int .u64 x_1.Commit, .bool x_1.Ok, .slice A_2 x_1.Entries.length c_3, .string (bs x_1.Data)]⟩]) (B' := [Rd 0 kT_api_Entry A_38 c_39 r_37.1.Entries, Ow 42 kT_api_Letter A_40 c_41 r_37.2.2.l, Rd 0 kT_api_Entry A_2 c_3 x_1.Entries]) (ks := [1, 2, 5, 55, 56, 59, 60, 61]) (by kernel_rfl) (by kernel_rfl) (by kernel_rfl) ?_
      refine GoO.exec (is := [3, 4, 5]) (hs := [.p, .p, .p]) (rest := [6, 7, 8]) (ks := [1, 2, 5, 55, 56, 62, 63]) (env' := [(1, .int .i64 ((wi64 ((n_4.tmod 300) + 300)).tmod 300)), (2, .pointer (some ⟨b_5, 0, none⟩)), (5, .pointer (some ⟨b_10, 0, none⟩)), (55, .int .i64 r_27.1), (56, .int .i64 x_35), (62, .agg ⟨[.int .i64 r_37.1.Kind, .int .i64 r_37.1.From, .int .i64 r_37.1.To, .int .u64 r_37.1.Term, .int .u64 r_37.1.Index, .int .u64 r_37.1.Prev, .int .u64 r_37.1.Commit, .bool r_37.1.Ok, .slice A_38 r_37.1.Entries.length c_39, .string (bs r_37.1.Data)]⟩), (63, .bool r_37.2.1)]) (H' := [⟨41, b_10, [.slice A_40 r_37.2.2.l.length c_41, .int .i64 r_37.2.2.lost]⟩, ⟨40, b_5, [.int .i64 x_1.Kind, .int .i64 x_1.From, .int .i64 x_1.To, .int .u64 x_1.Term, .int .u64 x_1.Index, .int .u64 x_1.Prev, .int .u64 x_1.Commit, .bool x_1.Ok, .slice A_2 x_1.Entries.length c_3, .string (bs x_1.Data)]⟩]) (ps := []) (by kernel_rfl) trivial ?_
      refine OpTo.go (GoO.new rfl 43 (cs := [.int .i64 0, .int .i64 0, .int .i64 0, .int .u64 0, .int .u64 0, .int .u64 0, .int .u64 0, .bool false, .slice none ([] : List T_api_Entry).length 0, .string (bs [])]) (by kernel_rfl) _ (fun _ => rfl) (fun b_42 => ?_))
      refine GoO.exec (is := [7, 8]) (hs := [.b 0, .p]) (rest := []) (ks := [1, 2, 5, 9, 10, 55, 56]) (env' := [(1, .int .i64 ((wi64 ((n_4.tmod 300) + 300)).tmod 300)), (2, .pointer (some ⟨b_5, 0, none⟩)), (5, .pointer (some ⟨b_10, 0, none⟩)), (9, .pointer (some ⟨b_42, 0, none⟩)), (10, .bool r_37.2.1), (55, .int .i64 r_27.1), (56, .int .i64 x_35)]) (H' := [⟨43, b_42, [.int .i64 r_37.1.Kind, .int .i64 r_37.1.From, .int .i64 r_37.1.To, .int .u64 r_37.1.Term, .int .u64 r_37.1.Index, .int .u64 r_37.1.Prev, .int .u64 r_37.1.Commit, .bool r_37.1.Ok, .slice A_38 r_37.1.Entries.length c_39, .string (bs r_37.1.Data)]⟩, ⟨41, b_10, [.slice A_40 r_37.2.2.l.length c_41, .int .i64 r_37.2.2.lost]⟩, ⟨40, b_5, [.int .i64 x_1.Kind, .int .i64 x_1.From, .int .i64 x_1.To, .int .u64 x_1.Term, .int .u64 x_1.Index, .int .u64 x_1.Prev, .int .u64 x_1.Commit, .bool x_1.Ok, .slice A_2 x_1.Entries.length c_3, .string (bs x_1.Data)]⟩]) (ps := [b_42 = b_42]) (by kernel_rfl) (And.intro rfl trivial) ?_
      refine GoO.regionEnd ?_
      refine GoO.seq' c4_72e ?_
      refine GoO.region' (is := [0, 1, 2, 3, 4, 5, 6, 7]) c4_73e (by kernel_rfl) ?_
      refine GoO.exec (is := [0, 1, 2]) (hs := [.p, .p, .p]) (rest := [3, 4, 5, 6, 7]) (ks := [1, 2, 5, 9, 55, 56, 66]) (env' := [(1, .int .i64 ((wi64 ((n_4.tmod 300) + 300)).tmod 300)), (2, .pointer (some ⟨b_5, 0, none⟩)), (5, .pointer (some ⟨b_10, 0, none⟩)), (9, .pointer (some ⟨b_42, 0, none⟩)), (55, .int .i64 r_27.1), (56, .int .i64 x_35), (66, .bool (!r_37.2.1))]) (H' := [⟨43, b_42, [.int .i64 r_37.1.Kind, .int .i64 r_37.1.From, .int .i64 r_37.1.To, .int .u64 r_37.1.Term, .int .u64 r_37.1.Index, .int .u64 r_37.1.Prev, .int .u64 r_37.1.Commit, .bool r_37.1.Ok, .slice A_38 r_37.1.Entries.length c_39, .string (bs r_37.1.Data)]⟩, ⟨41, b_10, [.slice A_40 r_37.2.2.l.length c_41, .int .i64 r_37.2.2.lost]⟩, ⟨40, b_5, [.int .i64 x_1.Kind, .int .i64 x_1.From, .int .i64 x_1.To, .int .u64 x_1.Term, .int .u64 x_1.Index, .int .u64 x_1.Prev, .int .u64 x_1.Commit, .bool x_1.Ok, .slice A_2 x_1.Entries.length c_3, .string (bs x_1.Data)]⟩]) (ps := []) (by kernel_rfl) trivial ?_
      refine GoO.bsplit (t := 66) (by kernel_rfl) (fun h43 => ?_) (fun h43 => ?_)
      · refine GoO.exec (is := [3, 4, 5, 6, 7]) (hs := [.p, .p, .p, .p, .p]) (rest := []) (ks := [1, 2, 5, 55, 56, 71]) (env' := [(1, .int .i64 ((wi64 ((n_4.tmod 300) + 300)).tmod 300)), (2, .pointer (some ⟨b_5, 0, none⟩)), (5, .pointer (some ⟨b_10, 0, none⟩)), (55, .int .i64 r_27.1), (56, .int .i64 x_35), (71, .bool true)]) (H' := [⟨43, b_42, [.int .i64 r_37.1.Kind, .int .i64 r_37.1.From, .int .i64 r_37.1.To, .int .u64 r_37.1.Term, .int .u64 r_37.1.Index, .int .u64 r_37.1.Prev, .int .u64 r_37.1.Commit, .bool r_37.1.Ok, .slice A_38 r_37.1.Entries.length c_39, .string (bs r_37.1.Data)]⟩, ⟨41, b_10, [.slice A_40 r_37.2.2.l.length c_41, .int .i64 r_37.2.2.lost]⟩, ⟨40, b_5, [.int .i64 x_1.Kind, .int .i64 x_1.From, .int .i64 x_1.To, .int .u64 x_1.Term, .int .u64 x_1.Index, .int .u64 x_1.Prev, .int .u64 x_1.Commit, .bool x_1.Ok, .slice A_2 x_1.Entries.length c_3, .string (bs x_1.Data)]⟩]) (ps := []) (by kernel_rfl) trivial ?_
        refine GoO.regionEnd ?_
        refine GoO.condT c4_74e (by kernel_rfl) ?_
        refine GoO.seq' c4_75e ?_
        refine GoO.region' (is := [0]) c4_76e (by kernel_rfl) ?_
        refine GoO.exec (is := [0]) (hs := [.p]) (rest := []) (ks := [4]) (env' := [(4, .bool false)]) (H' := [⟨43, b_42, [.int .i64 r_37.1.Kind, .int .i64 r_37.1.From, .int .i64 r_37.1.To, .int .u64 r_37.1.Term, .int .u64 r_37.1.Index, .int .u64 r_37.1.Prev, .int .u64 r_37.1.Commit, .bool r_37.1.Ok, .slice A_38 r_37.1.Entries.length c_39, .string (bs r_37.1.Data)]⟩, ⟨41, b_10, [.slice A_40 r_37.2.2.l.length c_41, .int .i64 r_37.2.2.lost]⟩, ⟨40, b_5, [.int .i64 x_1.Kind, .int .i64 x_1.From, .int .i64 x_1.To, .int .u64 x_1.Term, .int .u64 x_1.Index, .int .u64 x_1.Prev, .int .u64 x_1.Commit, .bool x_1.Ok, .slice A_2 x_1.Entries.length c_3, .string (bs x_1.Data)]⟩]) (ps := []) (by kernel_rfl) trivial ?_
        refine GoO.regionEnd ?_
        exact GoO.ret' (h := c4_77e) (hs := []) (ps := []) (hk := []) (bk := []) Try.func4 () (by kernel_rfl) trivial (by kernel_rfl) (by kernel_rfl)
      · refine GoO.exec (is := [3, 4]) (hs := [.b 2, .b 0]) (rest := [5, 6, 7]) (ks := [1, 2, 5, 55, 56, 66, 67, 68]) (env' := [(1, .int .i64 ((wi64 ((n_4.tmod 300) + 300)).tmod 300)), (2, .pointer (some ⟨b_5, 0, none⟩)), (5, .pointer (some ⟨b_10, 0, none⟩)), (55, .int .i64 r_27.1), (56, .int .i64 x_35), (66, .bool false), (67, .agg ⟨[.int .i64 x_1.Kind, .int .i64 x_1.From, .int .i64 x_1.To, .int .u64 x_1.Term, .int .u64 x_1.Index, .int .u64 x_1.Prev, .int .u64 x_1.Commit, .bool x_1.Ok, .slice A_2 x_1.Entries.length c_3, .string (bs x_1.Data)]⟩), (68, .agg ⟨[.int .i64 r_37.1.Kind, .int .i64 r_37.1.From, .int .i64 r_37.1.To, .int .u64 r_37.1.Term, .int .u64 r_37.1.Index, .int .u64 r_37.1.Prev, .int .u64 r_37.1.Commit, .bool r_37.1.Ok, .slice A_38 r_37.1.Entries.length c_39, .string (bs r_37.1.Data)]⟩)]) (H' := [⟨43, b_42, [.int .i64 r_37.1.Kind, .int .i64 r_37.1.From, .int .i64 r_37.1.To, .int .u64 r_37.1.Term, .int .u64 r_37.1.Index, .int .u64 r_37.1.Prev, .int .u64 r_37.1.Commit, .bool r_37.1.Ok, .slice A_38 r_37.1.Entries.length c_39, .string (bs r_37.1.Data)]⟩, ⟨41, b_10, [.slice A_40 r_37.2.2.l.length c_41, .int .i64 r_37.2.2.lost]⟩, ⟨40, b_5, [.int .i64 x_1.Kind, .int .i64 x_1.From, .int .i64 x_1.To, .int .u64 x_1.Term, .int .u64 x_1.Index, .int .u64 x_1.Prev, .int .u64 x_1.Commit, .bool x_1.Ok, .slice A_2 x_1.Entries.length c_3, .string (bs x_1.Data)]⟩]) (ps := [b_5 = b_5, b_42 = b_42]) (by kernel_rfl) (And.intro rfl (And.intro rfl trivial)) ?_
        refine OpTo.go (GoO.call rfl (by kernel_rfl) (by kernel_rfl) (tontineref10_Same_ok n x_1 r_37.1 A_2 c_3 A_38 c_39) [[0]] [] [] [(0, 2), (0, 0)] (hks := [0, 1, 2]) (bks := [0, 1, 2]) (by kernel_rfl) (by kernel_rfl) (by kernel_rfl) (.inl rfl) rfl rfl (by kernel_rfl) (by kernel_rfl) _ (fun _ _ => rfl) _ _ (fun _ _ => rfl) (fun _ _ => rfl) (fun _ _ => by kernel_rfl) (fun _ _ => by kernel_rfl) (fun r_44 x_46 => ?_))
        refine GoO.shape (env' := [(1, .int .i64 ((wi64 ((n_4.tmod 300) + 300)).tmod 300)), (2, .pointer (some ⟨b_5, 0, none⟩)), (5, .pointer (some ⟨b_10, 0, none⟩)), (55, .int .i64 r_27.1), (56, .int .i64 x_35), (66, .bool false), (67, .agg ⟨[.int .i64 x_1.Kind, .int .i64 x_1.From, .int .i64 x_1.To, .int .u64 x_1.Term, .int .u64 x_1.Index, .int .u64 x_1.Prev, .int .u64 x_1.Commit, .bool x_1.Ok, .slice A_2 x_1.Entries.length c_3, .string (bs x_1.Data)]⟩), (68, .agg ⟨[.int .i64 r_37.1.Kind, .int .i64 r_37.1.From, .int .i64 r_37.1.To, .int .u64 r_37.1.Term, .int .u64 r_37.1.Index, .int .u64 r_37.1.Prev, .int .u64 r_37.1.Commit, .bool r_37.1.Ok, .slice A_38 r_37.1.Entries.length c_39, .string (bs r_37.1.Data)]⟩), (69, .bool r_44)]) (H' := [⟨43, b_42, [.int .i64 r_37.1.Kind, .int .i64 r_37.1.From, .int .i64 r_37.1.To, .int .u64 r_37.1.Term, .int .u64 r_37.1.Index, .int .u64 r_37.1.Prev, .int .u64 r_37.1.Commit, .bool r_37.1.Ok, .slice A_38 r_37.1.Entries.length c_39, .string (bs r_37.1.Data)]⟩, ⟨41, b_10, [.slice A_40 r_37.2.2.l.length c_41, .int .i64 r_37.2.2.lost]⟩, ⟨40, b_5, [.int .i64 x_1.Kind, .int .i64 x_1.From, .int .i64 x_1.To, .int .u64 x_1.Term, .int .u64 x_1.Index, .int .u64 x_1.Prev, .int .u64 x_1.Commit, .bool x_1.Ok, .slice A_2 x_1.Entries.length c_3, .string (bs x_1.Data)]⟩]) (B' := [Rd 0 kT_api_Entry A_38 c_39 r_37.1.Entries, Ow 42 kT_api_Letter A_40 c_41 r_37.2.2.l, Rd 0 kT_api_Entry A_2 c_3 x_1.Entries]) (ks := [1, 2, 5, 55, 56, 66, 67, 68, 69]) (by kernel_rfl) (by kernel_rfl) (by kernel_rfl) ?_
        refine GoO.exec (is := [6, 7]) (hs := [.p, .p]) (rest := []) (ks := [1, 2, 5, 55, 56, 71]) (env' := [(1, .int .i64 ((wi64 ((n_4.tmod 300) + 300)).tmod 300)), (2, .pointer (some ⟨b_5, 0, none⟩)), (5, .pointer (some ⟨b_10, 0, none⟩)), (55, .int .i64 r_27.1), (56, .int .i64 x_35), (71, .bool (!r_44))]) (H' := [⟨43, b_42, [.int .i64 r_37.1.Kind, .int .i64 r_37.1.From, .int .i64 r_37.1.To, .int .u64 r_37.1.Term, .int .u64 r_37.1.Index, .int .u64 r_37.1.Prev, .int .u64 r_37.1.Commit, .bool r_37.1.Ok, .slice A_38 r_37.1.Entries.length c_39, .string (bs r_37.1.Data)]⟩, ⟨41, b_10, [.slice A_40 r_37.2.2.l.length c_41, .int .i64 r_37.2.2.lost]⟩, ⟨40, b_5, [.int .i64 x_1.Kind, .int .i64 x_1.From, .int .i64 x_1.To, .int .u64 x_1.Term, .int .u64 x_1.Index, .int .u64 x_1.Prev, .int .u64 x_1.Commit, .bool x_1.Ok, .slice A_2 x_1.Entries.length c_3, .string (bs x_1.Data)]⟩]) (ps := []) (by kernel_rfl) trivial ?_
        refine GoO.regionEnd ?_
        refine GoO.ite' c4_74e (by kernel_rfl) (fun h45 => ?_) (fun h45 => ?_)
        · refine GoO.seq' c4_75e ?_
          refine GoO.region' (is := [0]) c4_76e (by kernel_rfl) ?_
          refine GoO.exec (is := [0]) (hs := [.p]) (rest := []) (ks := [4]) (env' := [(4, .bool false)]) (H' := [⟨43, b_42, [.int .i64 r_37.1.Kind, .int .i64 r_37.1.From, .int .i64 r_37.1.To, .int .u64 r_37.1.Term, .int .u64 r_37.1.Index, .int .u64 r_37.1.Prev, .int .u64 r_37.1.Commit, .bool r_37.1.Ok, .slice A_38 r_37.1.Entries.length c_39, .string (bs r_37.1.Data)]⟩, ⟨41, b_10, [.slice A_40 r_37.2.2.l.length c_41, .int .i64 r_37.2.2.lost]⟩, ⟨40, b_5, [.int .i64 x_1.Kind, .int .i64 x_1.From, .int .i64 x_1.To, .int .u64 x_1.Term, .int .u64 x_1.Index, .int .u64 x_1.Prev, .int .u64 x_1.Commit, .bool x_1.Ok, .slice A_2 x_1.Entries.length c_3, .string (bs x_1.Data)]⟩]) (ps := []) (by kernel_rfl) trivial ?_
          refine GoO.regionEnd ?_
          exact GoO.ret' (h := c4_77e) (hs := []) (ps := []) (hk := []) (bk := []) Try.func4 () (by kernel_rfl) trivial (by kernel_rfl) (by kernel_rfl)
        · refine GoO.skip' c4_78e ?_
          refine GoO.inBlock ?_
          refine GoO.region' (is := [0, 1]) c4_79e (by kernel_rfl) ?_
          refine GoO.exec (is := [0, 1]) (hs := [.p, .p]) (rest := []) (ks := [1, 2, 5, 55, 56]) (env' := [(1, .int .i64 ((wi64 ((n_4.tmod 300) + 300)).tmod 300)), (2, .pointer (some ⟨b_5, 0, none⟩)), (5, .pointer (some ⟨b_10, 0, none⟩)), (55, .int .i64 r_27.1), (56, .int .i64 (wi64 (x_35 + 1)))]) (H' := [⟨43, b_42, [.int .i64 r_37.1.Kind, .int .i64 r_37.1.From, .int .i64 r_37.1.To, .int .u64 r_37.1.Term, .int .u64 r_37.1.Index, .int .u64 r_37.1.Prev, .int .u64 r_37.1.Commit, .bool r_37.1.Ok, .slice A_38 r_37.1.Entries.length c_39, .string (bs r_37.1.Data)]⟩, ⟨41, b_10, [.slice A_40 r_37.2.2.l.length c_41, .int .i64 r_37.2.2.lost]⟩, ⟨40, b_5, [.int .i64 x_1.Kind, .int .i64 x_1.From, .int .i64 x_1.To, .int .u64 x_1.Term, .int .u64 x_1.Index, .int .u64 x_1.Prev, .int .u64 x_1.Commit, .bool x_1.Ok, .slice A_2 x_1.Entries.length c_3, .string (bs x_1.Data)]⟩]) (ps := []) (by kernel_rfl) trivial ?_
          refine GoO.regionEnd ?_
          refine GoO.inLoop ?_
          exact GoO.sub (ks := [1, 2, 5, 55, 56]) (hk := [2, 1]) (bk := [2, 1]) (by kernel_rfl) (by kernel_rfl) (by kernel_rfl) (ih1 r_37.2.2.l r_37.2.2.lost (wi64 (x_35 + 1)) A_40 c_41)
    · refine GoO.exit' c4_67e rfl ?_
      refine GoO.seq' c4_80e ?_
      refine GoO.region' (is := [0]) c4_81e (by kernel_rfl) ?_
      refine GoO.exec (is := [0]) (hs := [.p]) (rest := []) (ks := [4]) (env' := [(4, .bool true)]) (H' := [⟨40, b_5, [.int .i64 x_1.Kind, .int .i64 x_1.From, .int .i64 x_1.To, .int .u64 x_1.Term, .int .u64 x_1.Index, .int .u64 x_1.Prev, .int .u64 x_1.Commit, .bool x_1.Ok, .slice A_2 x_1.Entries.length c_3, .string (bs x_1.Data)]⟩, ⟨41, b_10, [.slice A_32 f_31.length c_33, .int .i64 f_34]⟩]) (ps := []) (by kernel_rfl) trivial ?_
      refine GoO.regionEnd ?_
      exact GoO.ret' (h := c4_82e) (hs := []) (ps := []) (hk := []) (bk := []) Try.func4 () (by kernel_rfl) trivial (by kernel_rfl) (by kernel_rfl)
theorem tontinelaw10_NetDoubles_j0_ok (n : Nat) (x_1 : T_api_Letter) (n_4 : Int) (f_16 : (List T_api_Letter)) (f_19 : Int) (r_27 : Int × Int) (A_2 : Option Addr) (c_3 : Nat) (b_5 : Nat) (b_10 : Nat) (A_17 : Option Addr) (c_18 : Nat) (w0 : World) (S0 : Fam) (b_29 : Bool) :
    GoO (tontinelaw10_NetDoubles.cx A_2 c_3 w0 S0) [(1, .int .i64 ((wi64 ((n_4.tmod 300) + 300)).tmod 300)), (2, .pointer (some ⟨b_5, 0, none⟩)), (5, .pointer (some ⟨b_10, 0, none⟩)), (7, .int .i64 r_27.1), (54, .bool b_29)] [⟨40, b_5, [.int .i64 x_1.Kind, .int .i64 x_1.From, .int .i64 x_1.To, .int .u64 x_1.Term, .int .u64 x_1.Index, .int .u64 x_1.Prev, .int .u64 x_1.Commit, .bool x_1.Ok, .slice A_2 x_1.Entries.length c_3, .string (bs x_1.Data)]⟩, ⟨41, b_10, [.slice A_17 f_16.length c_18, .int .i64 f_19]⟩] [Rd 0 kT_api_Entry A_2 c_3 x_1.Entries, Ow 42 kT_api_Letter A_17 c_18 f_16] [.code c4_52, .code c4_57] (tontinelaw10_NetDoubles.j0 n x_1 n_4 f_16 f_19 r_27 b_29) := by
  unfold tontinelaw10_NetDoubles.j0
  refine GoO.ite' c4_52e (by kernel_rfl) (fun h30 => ?_) (fun h30 => ?_)
  · refine GoO.seq' c4_53e ?_
    refine GoO.region' (is := [0]) c4_54e (by kernel_rfl) ?_
    refine GoO.exec (is := [0]) (hs := [.p]) (rest := []) (ks := [4]) (env' := [(4, .bool false)]) (H' := [⟨40, b_5, [.int .i64 x_1.Kind, .int .i64 x_1.From, .int .i64 x_1.To, .int .u64 x_1.Term, .int .u64 x_1.Index, .int .u64 x_1.Prev, .int .u64 x_1.Commit, .bool x_1.Ok, .slice A_2 x_1.Entries.length c_3, .string (bs x_1.Data)]⟩, ⟨41, b_10, [.slice A_17 f_16.length c_18, .int .i64 f_19]⟩]) (ps := []) (by kernel_rfl) trivial ?_
    refine GoO.regionEnd ?_
    exact GoO.ret' (h := c4_55e) (hs := []) (ps := []) (hk := []) (bk := []) Try.func4 () (by kernel_rfl) trivial (by kernel_rfl) (by kernel_rfl)
  · refine GoO.skip' c4_56e ?_
    refine GoO.seq' c4_57e ?_
    refine GoO.seq' c4_58e ?_
    refine GoO.region' (is := [0, 1]) c4_59e (by kernel_rfl) ?_
    refine GoO.exec (is := [0, 1]) (hs := [.p, .p]) (rest := []) (ks := [1, 2, 5, 55, 56]) (env' := [(1, .int .i64 ((wi64 ((n_4.tmod 300) + 300)).tmod 300)), (2, .pointer (some ⟨b_5, 0, none⟩)), (5, .pointer (some ⟨b_10, 0, none⟩)), (55, .int .i64 r_27.1), (56, .int .i64 0)]) (H' := [⟨40, b_5, [.int .i64 x_1.Kind, .int .i64 x_1.From, .int .i64 x_1.To, .int .u64 x_1.Term, .int .u64 x_1.Index, .int .u64 x_1.Prev, .int .u64 x_1.Commit, .bool x_1.Ok, .slice A_2 x_1.Entries.length c_3, .string (bs x_1.Data)]⟩, ⟨41, b_10, [.slice A_17 f_16.length c_18, .int .i64 f_19]⟩]) (ps := []) (by kernel_rfl) trivial ?_
    refine GoO.regionEnd ?_
    refine GoO.block' c4_60e ?_
    refine GoO.loop' c4_61e ?_
    exact GoO.sub (ks := [1, 2, 5, 55, 56]) (hk := [0, 1]) (bk := [0, 1]) (by kernel_rfl) (by kernel_rfl) (by kernel_rfl) (tontinelaw10_NetDoubles_l1_ok n x_1 n_4 r_27 A_2 c_3 b_5 b_10 w0 S0 n f_16 f_19 0 A_17 c_18)
theorem tontinelaw10_NetDoubles_l0_ok (n : Nat) (x_1 : T_api_Letter) (n_4 : Int) (A_2 : Option Addr) (c_3 : Nat) (b_5 : Nat) (b_10 : Nat) (w0 : World) (S0 : Fam) :
    ∀ (k : Nat) (f_16 : (List T_api_Letter)) (f_19 : Int) (x_20 : Int) (A_17 : Option Addr) (c_18 : Nat), GoO (tontinelaw10_NetDoubles.cx A_2 c_3 w0 S0) [(1, .int .i64 ((wi64 ((n_4.tmod 300) + 300)).tmod 300)), (2, .pointer (some ⟨b_5, 0, none⟩)), (5, .pointer (some ⟨b_10, 0, none⟩)), (25, .int .i64 ((wi64 ((n_4.tmod 300) + 300)).tmod 300)), (26, .int .i64 x_20)] [⟨40, b_5, [.int .i64 x_1.Kind, .int .i64 x_1.From, .int .i64 x_1.To, .int .u64 x_1.Term, .int .u64 x_1.Index, .int .u64 x_1.Prev, .int .u64 x_1.Commit, .bool x_1.Ok, .slice A_2 x_1.Entries.length c_3, .string (bs x_1.Data)]⟩, ⟨41, b_10, [.slice A_17 f_16.length c_18, .int .i64 f_19]⟩] [Rd 0 kT_api_Entry A_2 c_3 x_1.Entries, Ow 42 kT_api_Letter A_17 c_18 f_16] [.code c4_29, .inLoop c4_29, .inBlock 0, .code c4_47] (tontinelaw10_NetDoubles.l0 n x_1 n_4 k f_16 f_19 x_20) := by
  intro k
  induction k with
  | zero => intros; rw [tontinelaw10_NetDoubles.l0.eq_1]; exact GoO.stop
  | succ k ih0 =>
    intro f_16 f_19 x_20 A_17 c_18
    rw [tontinelaw10_NetDoubles.l0.eq_2]
    refine GoO.seq' c4_29e ?_
    refine GoO.region' (is := [0]) c4_30e (by kernel_rfl) ?_
    refine GoO.exec (is := [0]) (hs := [.p]) (rest := []) (ks := [1, 2, 5, 25, 26, 27]) (env' := [(1, .int .i64 ((wi64 ((n_4.tmod 300) + 300)).tmod 300)), (2, .pointer (some ⟨b_5, 0, none⟩)), (5, .pointer (some ⟨b_10, 0, none⟩)), (25, .int .i64 ((wi64 ((n_4.tmod 300) + 300)).tmod 300)), (26, .int .i64 x_20), (27, .bool (decide (x_20 < ((wi64 ((n_4.tmod 300) + 300)).tmod 300))))]) (H' := [⟨40, b_5, [.int .i64 x_1.Kind, .int .i64 x_1.From, .int .i64 x_1.To, .int .u64 x_1.Term, .int .u64 x_1.Index, .int .u64 x_1.Prev, .int .u64 x_1.Commit, .bool x_1.Ok, .slice A_2 x_1.Entries.length c_3, .string (bs x_1.Data)]⟩, ⟨41, b_10, [.slice A_17 f_16.length c_18, .int .i64 f_19]⟩]) (ps := []) (by kernel_rfl) trivial ?_
    refine GoO.regionEnd ?_
    refine GoO.seq' c4_31e ?_
    refine GoO.ite' c4_32e (by kernel_rfl) (fun h21 => ?_) (fun h21 => ?_)
    · refine GoO.skip' c4_33e ?_
      refine GoO.seq' c4_35e ?_
      refine GoO.block' c4_36e ?_
      refine GoO.seq' c4_37e ?_
      refine GoO.region' (is := [0, 1]) c4_38e (by kernel_rfl) ?_
      refine GoO.exec (is := [0, 1]) (hs := [.p, .p]) (rest := []) (ks := [1, 2, 5, 6, 25, 26]) (env' := [(1, .int .i64 ((wi64 ((n_4.tmod 300) + 300)).tmod 300)), (2, .pointer (some ⟨b_5, 0, none⟩)), (5, .pointer (some ⟨b_10, 0, none⟩)), (6, .int .i64 x_20), (25, .int .i64 ((wi64 ((n_4.tmod 300) + 300)).tmod 300)), (26, .int .i64 x_20)]) (H' := [⟨40, b_5, [.int .i64 x_1.Kind, .int .i64 x_1.From, .int .i64 x_1.To, .int .u64 x_1.Term, .int .u64 x_1.Index, .int .u64 x_1.Prev, .int .u64 x_1.Commit, .bool x_1.Ok, .slice A_2 x_1.Entries.length c_3, .string (bs x_1.Data)]⟩, ⟨41, b_10, [.slice A_17 f_16.length c_18, .int .i64 f_19]⟩]) (ps := []) (by kernel_rfl) trivial ?_
      refine GoO.regionEnd ?_
      refine GoO.seq' c4_39e ?_
      refine GoO.region' (is := [0, 1, 2, 3, 4, 5, 6]) c4_40e (by kernel_rfl) ?_
      refine GoO.exec (is := [0, 1]) (hs := [.p, .p]) (rest := [2, 3, 4, 5, 6]) (ks := [1, 2, 5, 6, 25, 26, 29, 30]) (env' := [(1, .int .i64 ((wi64 ((n_4.tmod 300) + 300)).tmod 300)), (2, .pointer (some ⟨b_5, 0, none⟩)), (5, .pointer (some ⟨b_10, 0, none⟩)), (6, .int .i64 x_20), (25, .int .i64 ((wi64 ((n_4.tmod 300) + 300)).tmod 300)), (26, .int .i64 x_20), (29, .pointer (some ⟨b_10, 0, none⟩)), (30, .int .i64 x_20)]) (H' := [⟨40, b_5, [.int .i64 x_1.Kind, .int .i64 x_1.From, .int .i64 x_1.To, .int .u64 x_1.Term, .int .u64 x_1.Index, .int .u64 x_1.Prev, .int .u64 x_1.Commit, .bool x_1.Ok, .slice A_2 x_1.Entries.length c_3, .string (bs x_1.Data)]⟩, ⟨41, b_10, [.slice A_17 f_16.length c_18, .int .i64 f_19]⟩]) (ps := []) (by kernel_rfl) trivial ?_
      refine OpTo.go (GoO.call rfl (by kernel_rfl) (by kernel_rfl) (net_Net_Double_ok n (⟨f_16, f_19⟩ : T_net_Net) x_20 b_10 A_17 c_18) [[0], [41], [42]] [(41, 1), (42, 2)] [(1, 1)] [(2, 1)] (hks := [0]) (bks := [0]) (by kernel_rfl) (by kernel_rfl) (by kernel_rfl) (.inl rfl) rfl rfl (by kernel_rfl) (by kernel_rfl) _ (fun _ _ => rfl) _ _ (fun _ _ => rfl) (fun _ _ => rfl) (fun _ _ => by kernel_rfl) (fun _ _ => by kernel_rfl) (fun r_22 x_26 => ?_))
      obtain ⟨A_23, c_24⟩ := x_26
      refine GoO.shape (env' := [(1, .int .i64 ((wi64 ((n_4.tmod 300) + 300)).tmod 300)), (2, .pointer (some ⟨b_5, 0, none⟩)), (5, .pointer (some ⟨b_10, 0, none⟩)), (6, .int .i64 x_20), (25, .int .i64 ((wi64 ((n_4.tmod 300) + 300)).tmod 300)), (26, .int .i64 x_20), (29, .pointer (some ⟨b_10, 0, none⟩)), (30, .int .i64 x_20), (31, .bool r_22.1)]) (H' := [⟨41, b_10, [.slice A_23 r_22.2.l.length c_24, .int .i64 r_22.2.lost]⟩, ⟨40, b_5, [.int .i64 x_1.Kind, .int .i64 x_1.From, .int .i64 x_1.To, .int .u64 x_1.Term, .int .u64 x_1.Index, .int .u64 x_1.Prev, .int .u64 x_1.Commit, .bool x_1.Ok, .slice A_2 x_1.Entries.length c_3, .string (bs x_1.Data)]⟩]) (B' := [Ow 42 kT_api_Letter A_23 c_24 r_22.2.l, Rd 0 kT_api_Entry A_2 c_3 x_1.Entries]) (ks := [1, 2, 5, 6, 25, 26, 29, 30, 31]) (by kernel_rfl) (by kernel_rfl) (by kernel_rfl) ?_
      refine GoO.exec (is := [3, 4, 5, 6]) (hs := [.p, .p, .p, .p]) (rest := []) (ks := [1, 2, 5, 25, 26, 35]) (env' := [(1, .int .i64 ((wi64 ((n_4.tmod 300) + 300)).tmod 300)), (2, .pointer (some ⟨b_5, 0, none⟩)), (5, .pointer (some ⟨b_10, 0, none⟩)), (25, .int .i64 ((wi64 ((n_4.tmod 300) + 300)).tmod 300)), (26, .int .i64 x_20), (35, .bool (!(r_22.1 == (decide ((wi64 (x_20 + 1)) < 256)))))]) (H' := [⟨41, b_10, [.slice A_23 r_22.2.l.length c_24, .int .i64 r_22.2.lost]⟩, ⟨40, b_5, [.int .i64 x_1.Kind, .int .i64 x_1.From, .int .i64 x_1.To, .int .u64 x_1.Term, .int .u64 x_1.Index, .int .u64 x_1.Prev, .int .u64 x_1.Commit, .bool x_1.Ok, .slice A_2 x_1.Entries.length c_3, .string (bs x_1.Data)]⟩]) (ps := []) (by kernel_rfl) trivial ?_
      refine GoO.regionEnd ?_
      refine GoO.ite' c4_41e (by kernel_rfl) (fun h25 => ?_) (fun h25 => ?_)
      · refine GoO.seq' c4_42e ?_
        refine GoO.region' (is := [0]) c4_43e (by kernel_rfl) ?_
        refine GoO.exec (is := [0]) (hs := [.p]) (rest := []) (ks := [4]) (env' := [(4, .bool false)]) (H' := [⟨41, b_10, [.slice A_23 r_22.2.l.length c_24, .int .i64 r_22.2.lost]⟩, ⟨40, b_5, [.int .i64 x_1.Kind, .int .i64 x_1.From, .int .i64 x_1.To, .int .u64 x_1.Term, .int .u64 x_1.Index, .int .u64 x_1.Prev, .int .u64 x_1.Commit, .bool x_1.Ok, .slice A_2 x_1.Entries.length c_3, .string (bs x_1.Data)]⟩]) (ps := []) (by kernel_rfl) trivial ?_
        refine GoO.regionEnd ?_
        exact GoO.ret' (h := c4_44e) (hs := []) (ps := []) (hk := []) (bk := []) Try.func4 () (by kernel_rfl) trivial (by kernel_rfl) (by kernel_rfl)
      · refine GoO.skip' c4_45e ?_
        refine GoO.inBlock ?_
        refine GoO.region' (is := [0, 1]) c4_46e (by kernel_rfl) ?_
        refine GoO.exec (is := [0, 1]) (hs := [.p, .p]) (rest := []) (ks := [1, 2, 5, 25, 26]) (env' := [(1, .int .i64 ((wi64 ((n_4.tmod 300) + 300)).tmod 300)), (2, .pointer (some ⟨b_5, 0, none⟩)), (5, .pointer (some ⟨b_10, 0, none⟩)), (25, .int .i64 ((wi64 ((n_4.tmod 300) + 300)).tmod 300)), (26, .int .i64 (wi64 (x_20 + 1)))]) (H' := [⟨41, b_10, [.slice A_23 r_22.2.l.length c_24, .int .i64 r_22.2.lost]⟩, ⟨40, b_5, [.int .i64 x_1.Kind, .int .i64 x_1.From, .int .i64 x_1.To, .int .u64 x_1.Term, .int .u64 x_1.Index, .int .u64 x_1.Prev, .int .u64 x_1.Commit, .bool x_1.Ok, .slice A_2 x_1.Entries.length c_3, .string (bs x_1.Data)]⟩]) (ps := []) (by kernel_rfl) trivial ?_
        refine GoO.regionEnd ?_
        refine GoO.inLoop ?_
        exact GoO.sub (ks := [1, 2, 5, 25, 26]) (hk := [1, 0]) (bk := [1, 0]) (by kernel_rfl) (by kernel_rfl) (by kernel_rfl) (ih0 r_22.2.l r_22.2.lost (wi64 (x_20 + 1)) A_23 c_24)
    · refine GoO.exit' c4_34e rfl ?_
      refine GoO.seq' c4_47e ?_
      refine GoO.region' (is := [0, 1, 2, 3, 4, 5, 6]) c4_48e (by kernel_rfl) ?_
      refine GoO.exec (is := [0]) (hs := [.p]) (rest := [1, 2, 3, 4, 5, 6]) (ks := [1, 2, 5, 38]) (env' := [(1, .int .i64 ((wi64 ((n_4.tmod 300) + 300)).tmod 300)), (2, .pointer (some ⟨b_5, 0, none⟩)), (5, .pointer (some ⟨b_10, 0, none⟩)), (38, .pointer (some ⟨b_10, 0, none⟩))]) (H' := [⟨40, b_5, [.int .i64 x_1.Kind, .int .i64 x_1.From, .int .i64 x_1.To, .int .u64 x_1.Term, .int .u64 x_1.Index, .int .u64 x_1.Prev, .int .u64 x_1.Commit, .bool x_1.Ok, .slice A_2 x_1.Entries.length c_3, .string (bs x_1.Data)]⟩, ⟨41, b_10, [.slice A_17 f_16.length c_18, .int .i64 f_19]⟩]) (ps := []) (by kernel_rfl) trivial ?_
      refine OpTo.go (GoO.call rfl (by kernel_rfl) (by kernel_rfl) (net_Net_Count_ok n (⟨f_16, f_19⟩ : T_net_Net) b_10 A_17 c_18) [[0], [41], [42]] [] [(1, 1)] [(2, 1)] (hks := [0, 1]) (bks := [0, 1]) (by kernel_rfl) (by kernel_rfl) (by kernel_rfl) (.inl rfl) rfl rfl (by kernel_rfl) (by kernel_rfl) _ (fun _ _ => rfl) _ _ (fun _ _ => rfl) (fun _ _ => rfl) (fun _ _ => by kernel_rfl) (fun _ _ => by kernel_rfl) (fun r_27 x_48 => ?_))
      refine GoO.shape (env' := [(1, .int .i64 ((wi64 ((n_4.tmod 300) + 300)).tmod 300)), (2, .pointer (some ⟨b_5, 0, none⟩)), (5, .pointer (some ⟨b_10, 0, none⟩)), (38, .pointer (some ⟨b_10, 0, none⟩)), (39, .tuple ⟨[.int .i64 r_27.1, .int .i64 r_27.2]⟩)]) (H' := [⟨40, b_5, [.int .i64 x_1.Kind, .int .i64 x_1.From, .int .i64 x_1.To, .int .u64 x_1.Term, .int .u64 x_1.Index, .int .u64 x_1.Prev, .int .u64 x_1.Commit, .bool x_1.Ok, .slice A_2 x_1.Entries.length c_3, .string (bs x_1.Data)]⟩, ⟨41, b_10, [.slice A_17 f_16.length c_18, .int .i64 f_19]⟩]) (B' := [Rd 0 kT_api_Entry A_2 c_3 x_1.Entries, Ow 42 kT_api_Letter A_17 c_18 f_16]) (ks := [1, 2, 5, 38, 39]) (by kernel_rfl) (by kernel_rfl) (by kernel_rfl) ?_
      refine GoO.exec (is := [2, 3, 4, 5, 6]) (hs := [.p, .p, .p, .p, .p]) (rest := []) (ks := [1, 2, 5, 7, 8]) (env' := [(1, .int .i64 ((wi64 ((n_4.tmod 300) + 300)).tmod 300)), (2, .pointer (some ⟨b_5, 0, none⟩)), (5, .pointer (some ⟨b_10, 0, none⟩)), (7, .int .i64 r_27.1), (8, .int .i64 r_27.2)]) (H' := [⟨40, b_5, [.int .i64 x_1.Kind, .int .i64 x_1.From, .int .i64 x_1.To, .int .u64 x_1.Term, .int .u64 x_1.Index, .int .u64 x_1.Prev, .int .u64 x_1.Commit, .bool x_1.Ok, .slice A_2 x_1.Entries.length c_3, .string (bs x_1.Data)]⟩, ⟨41, b_10, [.slice A_17 f_16.length c_18, .int .i64 f_19]⟩]) (ps := []) (by kernel_rfl) trivial ?_
      refine GoO.regionEnd ?_
      refine GoO.seq' c4_49e ?_
      refine GoO.seq' c4_50e ?_
      refine GoO.region' (is := [0, 1, 2, 3, 4, 5, 6, 7, 8, 9, 10, 11, 12]) c4_51e (by kernel_rfl) ?_
      refine GoO.exec (is := [0, 1, 2, 3, 4, 5]) (hs := [.p, .p, .p, .p, .p, .p]) (rest := [6, 7, 8, 9, 10, 11, 12]) (ks := [1, 2, 5, 7, 8, 47]) (env' := [(1, .int .i64 ((wi64 ((n_4.tmod 300) + 300)).tmod 300)), (2, .pointer (some ⟨b_5, 0, none⟩)), (5, .pointer (some ⟨b_10, 0, none⟩)), (7, .int .i64 r_27.1), (8, .int .i64 r_27.2), (47, .bool (r_27.1 != (if 256 < (wi64 (((wi64 ((n_4.tmod 300) + 300)).tmod 300) + 1)) then 256 else (wi64 (((wi64 ((n_4.tmod 300) + 300)).tmod 300) + 1)))))]) (H' := [⟨40, b_5, [.int .i64 x_1.Kind, .int .i64 x_1.From, .int .i64 x_1.To, .int .u64 x_1.Term, .int .u64 x_1.Index, .int .u64 x_1.Prev, .int .u64 x_1.Commit, .bool x_1.Ok, .slice A_2 x_1.Entries.length c_3, .string (bs x_1.Data)]⟩, ⟨41, b_10, [.slice A_17 f_16.length c_18, .int .i64 f_19]⟩]) (ps := []) (by kernel_rfl) trivial ?_
      refine GoO.bsplit (t := 47) (by kernel_rfl) (fun h28 => ?_) (fun h28 => ?_)
      · refine GoO.exec (is := [6, 7, 8, 9, 10, 11, 12]) (hs := [.p, .p, .p, .p, .p, .p, .p]) (rest := []) (ks := [1, 2, 5, 7, 54]) (env' := [(1, .int .i64 ((wi64 ((n_4.tmod 300) + 300)).tmod 300)), (2, .pointer (some ⟨b_5, 0, none⟩)), (5, .pointer (some ⟨b_10, 0, none⟩)), (7, .int .i64 r_27.1), (54, .bool true)]) (H' := [⟨40, b_5, [.int .i64 x_1.Kind, .int .i64 x_1.From, .int .i64 x_1.To, .int .u64 x_1.Term, .int .u64 x_1.Index, .int .u64 x_1.Prev, .int .u64 x_1.Commit, .bool x_1.Ok, .slice A_2 x_1.Entries.length c_3, .string (bs x_1.Data)]⟩, ⟨41, b_10, [.slice A_17 f_16.length c_18, .int .i64 f_19]⟩]) (ps := []) (by kernel_rfl) trivial ?_
        refine GoO.regionEnd ?_
        exact GoO.sub (ks := [1, 2, 5, 7, 54]) (hk := [0, 1]) (bk := [0, 1]) (by kernel_rfl) (by kernel_rfl) (by kernel_rfl) (tontinelaw10_NetDoubles_j0_ok n x_1 n_4 f_16 f_19 r_27 A_2 c_3 b_5 b_10 A_17 c_18 w0 S0 true)
      · refine GoO.exec (is := [6, 7, 8, 9, 10, 11, 12]) (hs := [.p, .p, .p, .p, .p, .p, .p]) (rest := []) (ks := [1, 2, 5, 7, 54]) (env' := [(1, .int .i64 ((wi64 ((n_4.tmod 300) + 300)).tmod 300)), (2, .pointer (some ⟨b_5, 0, none⟩)), (5, .pointer (some ⟨b_10, 0, none⟩)), (7, .int .i64 r_27.1), (54, .bool ((wi64 (r_27.1 + r_27.2)) != (wi64 (((wi64 ((n_4.tmod 300) + 300)).tmod 300) + 1))))]) (H' := [⟨40, b_5, [.int .i64 x_1.Kind, .int .i64 x_1.From, .int .i64 x_1.To, .int .u64 x_1.Term, .int .u64 x_1.Index, .int .u64 x_1.Prev, .int .u64 x_1.Commit, .bool x_1.Ok, .slice A_2 x_1.Entries.length c_3, .string (bs x_1.Data)]⟩, ⟨41, b_10, [.slice A_17 f_16.length c_18, .int .i64 f_19]⟩]) (ps := []) (by kernel_rfl) trivial ?_
        refine GoO.regionEnd ?_
        exact GoO.sub (ks := [1, 2, 5, 7, 54]) (hk := [0, 1]) (bk := [0, 1]) (by kernel_rfl) (by kernel_rfl) (by kernel_rfl) (tontinelaw10_NetDoubles_j0_ok n x_1 n_4 f_16 f_19 r_27 A_2 c_3 b_5 b_10 A_17 c_18 w0 S0 ((wi64 (r_27.1 + r_27.2)) != (wi64 (((wi64 ((n_4.tmod 300) + 300)).tmod 300) + 1))))
theorem tontinelaw10_NetDoubles_ok (n : Nat) (x_1 : T_api_Letter) (n_4 : Int) (A_2 : Option Addr) (c_3 : Nat) :
    Meets Try.prog 4 [.agg ⟨[.int .i64 x_1.Kind, .int .i64 x_1.From, .int .i64 x_1.To, .int .u64 x_1.Term, .int .u64 x_1.Index, .int .u64 x_1.Prev, .int .u64 x_1.Commit, .bool x_1.Ok, .slice A_2 x_1.Entries.length c_3, .string (bs x_1.Data)]⟩, .int .i64 n_4] 0 [] [] [Rd 0 kT_api_Entry A_2 c_3 x_1.Entries] (tontinelaw10_NetDoubles.f n x_1 n_4) (tontinelaw10_NetDoubles.R A_2 c_3) := by
  refine Meets.of (c := c4_0) (n := 73) Try.func4 (by kernel_rfl) (by kernel_rfl) (by kernel_rfl) fun w0 S0 => ?_
  unfold tontinelaw10_NetDoubles.f
  show GoO (tontinelaw10_NetDoubles.cx A_2 c_3 w0 S0) [(0, .agg ⟨[.int .i64 x_1.Kind, .int .i64 x_1.From, .int .i64 x_1.To, .int .u64 x_1.Term, .int .u64 x_1.Index, .int .u64 x_1.Prev, .int .u64 x_1.Commit, .bool x_1.Ok, .slice A_2 x_1.Entries.length c_3, .string (bs x_1.Data)]⟩), (1, .int .i64 n_4)] [] [Rd 0 kT_api_Entry A_2 c_3 x_1.Entries] [.code c4_0] _
  refine GoO.seq' c4_0e ?_
  refine GoO.region' (is := [0, 1]) c4_1e (by kernel_rfl) ?_
  refine OpTo.go (GoO.new rfl 40 (cs := [.int .i64 x_1.Kind, .int .i64 x_1.From, .int .i64 x_1.To, .int .u64 x_1.Term, .int .u64 x_1.Index, .int .u64 x_1.Prev, .int .u64 x_1.Commit, .bool x_1.Ok, .slice A_2 x_1.Entries.length c_3, .string (bs x_1.Data)]) (by kernel_rfl) _ (fun _ => rfl) (fun b_5 => ?_))
  refine GoO.exec (is := [1]) (hs := [.p]) (rest := []) (ks := [1, 2]) (env' := [(1, .int .i64 n_4), (2, .pointer (some ⟨b_5, 0, none⟩))]) (H' := [⟨40, b_5, [.int .i64 x_1.Kind, .int .i64 x_1.From, .int .i64 x_1.To, .int .u64 x_1.Term, .int .u64 x_1.Index, .int .u64 x_1.Prev, .int .u64 x_1.Commit, .bool x_1.Ok, .slice A_2 x_1.Entries.length c_3, .string (bs x_1.Data)]⟩]) (ps := []) (by kernel_rfl) trivial ?_
  refine GoO.regionEnd ?_
  refine GoO.seq' c4_2e ?_
  refine GoO.seq' c4_3e ?_
  refine GoO.region' (is := [0, 1]) c4_4e (by kernel_rfl) ?_
  refine OpTo.go (GoO.call rfl (by kernel_rfl) (by kernel_rfl) (tontinelaw10_begun_ok n) [[0]] [] [] [] (hks := [0]) (bks := [0]) (by kernel_rfl) (by kernel_rfl) (by kernel_rfl) (.inl rfl) rfl rfl (by kernel_rfl) (by kernel_rfl) _ (fun _ _ => rfl) _ _ (fun _ _ => rfl) (fun _ _ => rfl) (fun _ _ => by kernel_rfl) (fun _ _ => by kernel_rfl) (fun r_6 x_51 => ?_))
  refine GoO.shape (env' := [(1, .int .i64 n_4), (2, .pointer (some ⟨b_5, 0, none⟩)), (11, .bool r_6)]) (H' := [⟨40, b_5, [.int .i64 x_1.Kind, .int .i64 x_1.From, .int .i64 x_1.To, .int .u64 x_1.Term, .int .u64 x_1.Index, .int .u64 x_1.Prev, .int .u64 x_1.Commit, .bool x_1.Ok, .slice A_2 x_1.Entries.length c_3, .string (bs x_1.Data)]⟩]) (B' := [Rd 0 kT_api_Entry A_2 c_3 x_1.Entries]) (ks := [1, 2, 11]) (by kernel_rfl) (by kernel_rfl) (by kernel_rfl) ?_
  refine GoO.exec (is := [1]) (hs := [.p]) (rest := []) (ks := [1, 2, 12]) (env' := [(1, .int .i64 n_4), (2, .pointer (some ⟨b_5, 0, none⟩)), (12, .bool (!r_6))]) (H' := [⟨40, b_5, [.int .i64 x_1.Kind, .int .i64 x_1.From, .int .i64 x_1.To, .int .u64 x_1.Term, .int .u64 x_1.Index, .int .u64 x_1.Prev, .int .u64 x_1.Commit, .bool x_1.Ok, .slice A_2 x_1.Entries.length c_3, .string (bs x_1.Data)]⟩]) (ps := []) (by kernel_rfl) trivial ?_
  refine GoO.regionEnd ?_
  refine GoO.ite' c4_5e (by kernel_rfl) (fun h7 => ?_) (fun h7 => ?_)
  · refine GoO.seq' c4_6e ?_
    refine GoO.region' (is := [0]) c4_7e (by kernel_rfl) ?_
    refine GoO.exec (is := [0]) (hs := [.p]) (rest := []) (ks := [4]) (env' := [(4, .bool false)]) (H' := [⟨40, b_5, [.int .i64 x_1.Kind, .int .i64 x_1.From, .int .i64 x_1.To, .int .u64 x_1.Term, .int .u64 x_1.Index, .int .u64 x_1.Prev, .int .u64 x_1.Commit, .bool x_1.Ok, .slice A_2 x_1.Entries.length c_3, .string (bs x_1.Data)]⟩]) (ps := []) (by kernel_rfl) trivial ?_
    refine GoO.regionEnd ?_
    exact GoO.ret' (h := c4_8e) (hs := []) (ps := []) (hk := []) (bk := []) Try.func4 () (by kernel_rfl) trivial (by kernel_rfl) (by kernel_rfl)
  · refine GoO.skip' c4_9e ?_
    refine GoO.seq' c4_10e ?_
    refine GoO.region' (is := [0, 1, 2, 3, 4]) c4_11e (by kernel_rfl) ?_
    refine GoO.exec (is := [0, 1, 2, 3, 4]) (hs := [.p, .p, .p, .p, .p]) (rest := []) (ks := [1, 2]) (env' := [(1, .int .i64 ((wi64 ((n_4.tmod 300) + 300)).tmod 300)), (2, .pointer (some ⟨b_5, 0, none⟩))]) (H' := [⟨40, b_5, [.int .i64 x_1.Kind, .int .i64 x_1.From, .int .i64 x_1.To, .int .u64 x_1.Term, .int .u64 x_1.Index, .int .u64 x_1.Prev, .int .u64 x_1.Commit, .bool x_1.Ok, .slice A_2 x_1.Entries.length c_3, .string (bs x_1.Data)]⟩]) (ps := [(300 : Int) ≠ 0, (300 : Int) ≠ 0]) (by kernel_rfl) (And.intro (by decide) (And.intro (by decide) trivial)) ?_
    refine GoO.regionEnd ?_
    refine GoO.seq' c4_12e ?_
    refine GoO.seq' c4_13e ?_
    refine GoO.region' (is := [0, 1, 2, 3]) c4_14e (by kernel_rfl) ?_
    refine GoO.exec (is := [0, 1, 2, 3]) (hs := [.p, .b 0, .p, .p]) (rest := []) (ks := [1, 2, 20]) (env' := [(1, .int .i64 ((wi64 ((n_4.tmod 300) + 300)).tmod 300)), (2, .pointer (some ⟨b_5, 0, none⟩)), (20, .bool (decide ((x_1.Entries.length : Int) > 50)))]) (H' := [⟨40, b_5, [.int .i64 x_1.Kind, .int .i64 x_1.From, .int .i64 x_1.To, .int .u64 x_1.Term, .int .u64 x_1.Index, .int .u64 x_1.Prev, .int .u64 x_1.Commit, .bool x_1.Ok, .slice A_2 x_1.Entries.length c_3, .string (bs x_1.Data)]⟩]) (ps := [b_5 = b_5]) (by kernel_rfl) (And.intro rfl trivial) ?_
    refine GoO.regionEnd ?_
    refine GoO.ite' c4_15e (by kernel_rfl) (fun h8 => ?_) (fun h8 => ?_)
    · refine GoO.seq' c4_16e ?_
      refine GoO.region' (is := [0]) c4_17e (by kernel_rfl) ?_
      refine GoO.exec (is := [0]) (hs := [.p]) (rest := []) (ks := [4]) (env' := [(4, .bool true)]) (H' := [⟨40, b_5, [.int .i64 x_1.Kind, .int .i64 x_1.From, .int .i64 x_1.To, .int .u64 x_1.Term, .int .u64 x_1.Index, .int .u64 x_1.Prev, .int .u64 x_1.Commit, .bool x_1.Ok, .slice A_2 x_1.Entries.length c_3, .string (bs x_1.Data)]⟩]) (ps := []) (by kernel_rfl) trivial ?_
      refine GoO.regionEnd ?_
      exact GoO.ret' (h := c4_18e) (hs := []) (ps := []) (hk := []) (bk := []) Try.func4 () (by kernel_rfl) trivial (by kernel_rfl) (by kernel_rfl)
    · refine GoO.skip' c4_19e ?_
      refine GoO.seq' c4_20e ?_
      refine GoO.region' (is := [0, 1]) c4_21e (by kernel_rfl) ?_
      refine OpTo.go (GoO.call rfl (by kernel_rfl) (by kernel_rfl) (net_New_ok n) [[0]] [(41, 1), (42, 2)] [] [] (hks := [0]) (bks := [0]) (by kernel_rfl) (by kernel_rfl) (by kernel_rfl) (.inl rfl) rfl rfl (by kernel_rfl) (by kernel_rfl) _ (fun _ _ => rfl) _ _ (fun _ _ => rfl) (fun _ _ => rfl) (fun _ _ => by kernel_rfl) (fun _ _ => by kernel_rfl) (fun r_9 x_50 => ?_))
      obtain ⟨b_10, A_11, c_12⟩ := x_50
      refine GoO.shape (env' := [(1, .int .i64 ((wi64 ((n_4.tmod 300) + 300)).tmod 300)), (2, .pointer (some ⟨b_5, 0, none⟩)), (20, .bool (decide ((x_1.Entries.length : Int) > 50))), (21, .pointer (some ⟨b_10, 0, none⟩))]) (H' := [⟨41, b_10, [.slice A_11 r_9.l.length c_12, .int .i64 r_9.lost]⟩, ⟨40, b_5, [.int .i64 x_1.Kind, .int .i64 x_1.From, .int .i64 x_1.To, .int .u64 x_1.Term, .int .u64 x_1.Index, .int .u64 x_1.Prev, .int .u64 x_1.Commit, .bool x_1.Ok, .slice A_2 x_1.Entries.length c_3, .string (bs x_1.Data)]⟩]) (B' := [Ow 42 kT_api_Letter A_11 c_12 r_9.l, Rd 0 kT_api_Entry A_2 c_3 x_1.Entries]) (ks := [1, 2, 20, 21]) (by kernel_rfl) (by kernel_rfl) (by kernel_rfl) ?_
      refine GoO.exec (is := [1]) (hs := [.p]) (rest := []) (ks := [1, 2, 5]) (env' := [(1, .int .i64 ((wi64 ((n_4.tmod 300) + 300)).tmod 300)), (2, .pointer (some ⟨b_5, 0, none⟩)), (5, .pointer (some ⟨b_10, 0, none⟩))]) (H' := [⟨41, b_10, [.slice A_11 r_9.l.length c_12, .int .i64 r_9.lost]⟩, ⟨40, b_5, [.int .i64 x_1.Kind, .int .i64 x_1.From, .int .i64 x_1.To, .int .u64 x_1.Term, .int .u64 x_1.Index, .int .u64 x_1.Prev, .int .u64 x_1.Commit, .bool x_1.Ok, .slice A_2 x_1.Entries.length c_3, .string (bs x_1.Data)]⟩]) (ps := []) (by kernel_rfl) trivial ?_
      refine GoO.regionEnd ?_
      refine GoO.seq' c4_22e ?_
      refine GoO.region' (is := [0, 1, 2]) c4_23e (by kernel_rfl) ?_
      refine GoO.exec (is := [0, 1]) (hs := [.p, .b 1]) (rest := [2]) (ks := [1, 2, 5, 22, 23]) (env' := [(1, .int .i64 ((wi64 ((n_4.tmod 300) + 300)).tmod 300)), (2, .pointer (some ⟨b_5, 0, none⟩)), (5, .pointer (some ⟨b_10, 0, none⟩)), (22, .pointer (some ⟨b_10, 0, none⟩)), (23, .agg ⟨[.int .i64 x_1.Kind, .int .i64 x_1.From, .int .i64 x_1.To, .int .u64 x_1.Term, .int .u64 x_1.Index, .int .u64 x_1.Prev, .int .u64 x_1.Commit, .bool x_1.Ok, .slice A_2 x_1.Entries.length c_3, .string (bs x_1.Data)]⟩)]) (H' := [⟨41, b_10, [.slice A_11 r_9.l.length c_12, .int .i64 r_9.lost]⟩, ⟨40, b_5, [.int .i64 x_1.Kind, .int .i64 x_1.From, .int .i64 x_1.To, .int .u64 x_1.Term, .int .u64 x_1.Index, .int .u64 x_1.Prev, .int .u64 x_1.Commit, .bool x_1.Ok, .slice A_2 x_1.Entries.length c_3, .string (bs x_1.Data)]⟩]) (ps := [b_5 = b_5]) (by kernel_rfl) (And.intro rfl trivial) ?_
      refine OpTo.go (GoO.call rfl (by kernel_rfl) (by kernel_rfl) (net_Net_Send_ok n r_9 x_1 b_10 A_11 c_12 A_2 c_3) [[0], [41], [42]] [(41, 1), (42, 2)] [(1, 0)] [(2, 0), (0, 1)] (hks := [1]) (bks := [1]) (by kernel_rfl) (by kernel_rfl) (by kernel_rfl) (.inl rfl) rfl rfl (by kernel_rfl) (by kernel_rfl) _ (fun _ _ => rfl) _ _ (fun _ _ => rfl) (fun _ _ => rfl) (fun _ _ => by kernel_rfl) (fun _ _ => by kernel_rfl) (fun r_13 x_49 => ?_))
      obtain ⟨A_14, c_15⟩ := x_49
      refine GoO.shape (env' := [(1, .int .i64 ((wi64 ((n_4.tmod 300) + 300)).tmod 300)), (2, .pointer (some ⟨b_5, 0, none⟩)), (5, .pointer (some ⟨b_10, 0, none⟩)), (22, .pointer (some ⟨b_10, 0, none⟩)), (23, .agg ⟨[.int .i64 x_1.Kind, .int .i64 x_1.From, .int .i64 x_1.To, .int .u64 x_1.Term, .int .u64 x_1.Index, .int .u64 x_1.Prev, .int .u64 x_1.Commit, .bool x_1.Ok, .slice A_2 x_1.Entries.length c_3, .string (bs x_1.Data)]⟩), (24, .bool r_13.1)]) (H' := [⟨41, b_10, [.slice A_14 r_13.2.l.length c_15, .int .i64 r_13.2.lost]⟩, ⟨40, b_5, [.int .i64 x_1.Kind, .int .i64 x_1.From, .int .i64 x_1.To, .int .u64 x_1.Term, .int .u64 x_1.Index, .int .u64 x_1.Prev, .int .u64 x_1.Commit, .bool x_1.Ok, .slice A_2 x_1.Entries.length c_3, .string (bs x_1.Data)]⟩]) (B' := [Ow 42 kT_api_Letter A_14 c_15 r_13.2.l, Rd 0 kT_api_Entry A_2 c_3 x_1.Entries]) (ks := [1, 2, 5, 22, 23, 24]) (by kernel_rfl) (by kernel_rfl) (by kernel_rfl) ?_
      refine GoO.regionEnd ?_
      refine GoO.seq' c4_24e ?_
      refine GoO.seq' c4_25e ?_
      refine GoO.region' (is := [0, 1]) c4_26e (by kernel_rfl) ?_
      refine GoO.exec (is := [0, 1]) (hs := [.p, .p]) (rest := []) (ks := [1, 2, 5, 25, 26]) (env' := [(1, .int .i64 ((wi64 ((n_4.tmod 300) + 300)).tmod 300)), (2, .pointer (some ⟨b_5, 0, none⟩)), (5, .pointer (some ⟨b_10, 0, none⟩)), (25, .int .i64 ((wi64 ((n_4.tmod 300) + 300)).tmod 300)), (26, .int .i64 0)]) (H' := [⟨41, b_10, [.slice A_14 r_13.2.l.length c_15, .int .i64 r_13.2.lost]⟩, ⟨40, b_5, [.int .i64 x_1.Kind, .int .i64 x_1.From, .int .i64 x_1.To, .int .u64 x_1.Term, .int .u64 x_1.Index, .int .u64 x_1.Prev, .int .u64 x_1.Commit, .bool x_1.Ok, .slice A_2 x_1.Entries.length c_3, .string (bs x_1.Data)]⟩]) (ps := []) (by kernel_rfl) trivial ?_
      refine GoO.regionEnd ?_
      refine GoO.block' c4_27e ?_
      refine GoO.loop' c4_28e ?_
      exact GoO.sub (ks := [1, 2, 5, 25, 26]) (hk := [1, 0]) (bk := [1, 0]) (by kernel_rfl) (by kernel_rfl) (by kernel_rfl) (tontinelaw10_NetDoubles_l0_ok n x_1 n_4 A_2 c_3 b_5 b_10 w0 S0 n r_13.2.l r_13.2.lost 0 A_14 c_15)
end Go.GL
