import Derived.Test.YtmpockelhphkdaaKindsT1
import Derived.Test.YtmpockelhphkdaaProg
set_option linter.unusedVariables false
set_option linter.unusedSimpArgs false
set_option maxRecDepth 100000
namespace Go.GL
open Go Go.Proofs


/-! tontine/net.New -/
noncomputable def c15_0 : Code := bodyOf Try.f15
noncomputable def c15_1 : Code := cdL c15_0
noncomputable def c15_2 : Code := cdR c15_0
noncomputable def c15_3 : Code := cdL c15_2
noncomputable def c15_4 : Code := cdR c15_2
noncomputable def r15_1 : Array Oper := cdO c15_1
noncomputable def r15_3 : Array Oper := cdO c15_3
theorem c15_0e : c15_0 = .seq c15_1 c15_2 := by kernel_rfl
theorem c15_1e : c15_1 = .region 0 r15_1 false := by kernel_rfl
theorem c15_2e : c15_2 = .seq c15_3 c15_4 := by kernel_rfl
theorem c15_3e : c15_3 = .region 1 r15_3 false := by kernel_rfl
theorem c15_4e : c15_4 = .ret := by kernel_rfl
noncomputable def net_New.R : Pst T_net_Net where
  ε := Nat × Option Addr × Nat
  v := fun r x => .pointer (some ⟨x.1, 0, none⟩)
  H := fun r x => [⟨1, x.1, [.slice x.2.1 r.l.length x.2.2, .int .i64 r.lost]⟩]
  B := fun r x => [Ow 2 kT_api_Letter x.2.1 x.2.2 r.l]
noncomputable def net_New.cx (w0 : World) (S0 : Fam) : Cx T_net_Net := ⟨Try.prog, 15, Try.f15, 3, w0, S0, [], 0, net_New.R⟩
theorem net_New_ok (n : Nat) :
    Meets Try.prog 15 [] 0 [] [] [] (net_New.f n) (net_New.R) := by
  refine Meets.of (c := c15_0) (n := 3) Try.func15 (by kernel_rfl) (by kernel_rfl) (by kernel_rfl) fun w0 S0 => ?_
  unfold net_New.f
  show GoO (net_New.cx w0 S0) [] [] [] [.code c15_0] _
  refine GoO.seq' c15_0e ?_
  refine GoO.region' (is := [0]) c15_1e (by kernel_rfl) ?_
  refine GoO.exec (is := [0]) (hs := [.p]) (rest := []) (ks := []) (env' := []) (H' := []) (ps := []) (by kernel_rfl) trivial ?_
  refine GoO.regionEnd ?_
  refine GoO.seq' c15_2e ?_
  refine GoO.region' (is := [0, 1, 2]) c15_3e (by kernel_rfl) ?_
  refine GoO.exec (is := [0]) (hs := [.p]) (rest := [1, 2]) (ks := [1]) (env' := [(1, .agg ⟨[.slice none ([] : List T_api_Letter).length 0, .int .i64 0]⟩)]) (H' := []) (ps := []) (by kernel_rfl) trivial ?_
  refine OpTo.go (GoO.new rfl 40 (cs := [.slice none ([] : List T_api_Letter).length 0, .int .i64 0]) (by kernel_rfl) _ (fun _ => rfl) (fun b_1 => ?_))
  refine GoO.exec (is := [2]) (hs := [.p]) (rest := []) (ks := [0]) (env' := [(0, .pointer (some ⟨b_1, 0, none⟩))]) (H' := [⟨40, b_1, [.slice none ([] : List T_api_Letter).length 0, .int .i64 0]⟩]) (ps := []) (by kernel_rfl) trivial ?_
  refine GoO.regionEnd ?_
  refine GoO.nilOwn kT_api_Letter 2 ?_
  refine GoO.retagB (t := 40) (u := 1) (j := 0) (hk := []) (bk := [0]) rfl rfl rfl rfl rfl rfl (by kernel_rfl) (by kernel_rfl) ?_
  exact GoO.ret' (h := c15_4e) (hs := []) (ps := []) (hk := [0]) (bk := [0]) Try.func15 (⟨b_1, none, 0⟩ : Nat × Option Addr × Nat) (by kernel_rfl) trivial (by kernel_rfl) (by kernel_rfl)

/-! tontine/net.copied -/
noncomputable def c38_0 : Code := bodyOf Try.f38
noncomputable def c38_1 : Code := cdL c38_0
noncomputable def c38_2 : Code := cdR c38_0
noncomputable def c38_3 : Code := cdL c38_2
noncomputable def c38_4 : Code := cdR c38_2
noncomputable def c38_5 : Code := cdL c38_4
noncomputable def c38_6 : Code := cdR c38_4
noncomputable def r38_1 : Array Oper := cdO c38_1
noncomputable def r38_3 : Array Oper := cdO c38_3
noncomputable def r38_5 : Array Oper := cdO c38_5
theorem c38_0e : c38_0 = .seq c38_1 c38_2 := by kernel_rfl
theorem c38_1e : c38_1 = .region 0 r38_1 false := by kernel_rfl
theorem c38_2e : c38_2 = .seq c38_3 c38_4 := by kernel_rfl
theorem c38_3e : c38_3 = .region 1 r38_3 false := by kernel_rfl
theorem c38_4e : c38_4 = .seq c38_5 c38_6 := by kernel_rfl
theorem c38_5e : c38_5 = .region 2 r38_5 false := by kernel_rfl
theorem c38_6e : c38_6 = .ret := by kernel_rfl
noncomputable def net_copied.R (A_2 : Option Addr) (c_3 : Nat) : Pst T_api_Letter where
  ε := Option Addr × Nat
  v := fun r x => .agg ⟨[.int .i64 r.Kind, .int .i64 r.From, .int .i64 r.To, .int .u64 r.Term, .int .u64 r.Index, .int .u64 r.Prev, .int .u64 r.Commit, .bool r.Ok, .slice x.1 r.Entries.length x.2, .string (bs r.Data)]⟩
  H := fun r x => []
  B := fun r x => [Rd 0 kT_api_Entry x.1 x.2 r.Entries]
noncomputable def net_copied.cx (A_2 : Option Addr) (c_3 : Nat) (w0 : World) (S0 : Fam) : Cx T_api_Letter := ⟨Try.prog, 38, Try.f38, 8, w0, S0, [], 0, net_copied.R A_2 c_3⟩
theorem net_copied_ok (n : Nat) (x_1 : T_api_Letter) (A_2 : Option Addr) (c_3 : Nat) :
    Meets Try.prog 38 [.agg ⟨[.int .i64 x_1.Kind, .int .i64 x_1.From, .int .i64 x_1.To, .int .u64 x_1.Term, .int .u64 x_1.Index, .int .u64 x_1.Prev, .int .u64 x_1.Commit, .bool x_1.Ok, .slice A_2 x_1.Entries.length c_3, .string (bs x_1.Data)]⟩] 0 [] [] [Rd 0 kT_api_Entry A_2 c_3 x_1.Entries] (net_copied.f n x_1) (net_copied.R A_2 c_3) := by
  refine Meets.of (c := c38_0) (n := 8) Try.func38 (by kernel_rfl) (by kernel_rfl) (by kernel_rfl) fun w0 S0 => ?_
  unfold net_copied.f
  show GoO (net_copied.cx A_2 c_3 w0 S0) [(0, .agg ⟨[.int .i64 x_1.Kind, .int .i64 x_1.From, .int .i64 x_1.To, .int .u64 x_1.Term, .int .u64 x_1.Index, .int .u64 x_1.Prev, .int .u64 x_1.Commit, .bool x_1.Ok, .slice A_2 x_1.Entries.length c_3, .string (bs x_1.Data)]⟩)] [] [Rd 0 kT_api_Entry A_2 c_3 x_1.Entries] [.code c38_0] _
  refine GoO.seq' c38_0e ?_
  refine GoO.region' (is := [0, 1]) c38_1e (by kernel_rfl) ?_
  refine OpTo.go (GoO.new rfl 40 (cs := [.int .i64 x_1.Kind, .int .i64 x_1.From, .int .i64 x_1.To, .int .u64 x_1.Term, .int .u64 x_1.Index, .int .u64 x_1.Prev, .int .u64 x_1.Commit, .bool x_1.Ok, .slice A_2 x_1.Entries.length c_3, .string (bs x_1.Data)]) (by kernel_rfl) _ (fun _ => rfl) (fun b_4 => ?_))
  refine OpTo.go (GoO.new rfl 41 (cs := [.int .i64 0, .int .i64 0, .int .i64 0, .int .u64 0, .int .u64 0, .int .u64 0, .int .u64 0, .bool false, .slice none ([] : List T_api_Entry).length 0, .string (bs [])]) (by kernel_rfl) _ (fun _ => rfl) (fun b_5 => ?_))
  refine GoO.regionEnd ?_
  refine GoO.seq' c38_2e ?_
  refine GoO.region' (is := [0, 1, 2, 3, 4]) c38_3e (by kernel_rfl) ?_
  refine GoO.exec (is := [0, 1]) (hs := [.p, .b 1]) (rest := [2, 3, 4]) (ks := [1, 2, 4]) (env' := [(1, .pointer (some ⟨b_4, 0, none⟩)), (2, .pointer (some ⟨b_5, 0, none⟩)), (4, .slice A_2 x_1.Entries.length c_3)]) (H' := [⟨41, b_5, [.int .i64 0, .int .i64 0, .int .i64 0, .int .u64 0, .int .u64 0, .int .u64 0, .int .u64 0, .bool false, .slice none ([] : List T_api_Entry).length 0, .string (bs [])]⟩, ⟨40, b_4, [.int .i64 x_1.Kind, .int .i64 x_1.From, .int .i64 x_1.To, .int .u64 x_1.Term, .int .u64 x_1.Index, .int .u64 x_1.Prev, .int .u64 x_1.Commit, .bool x_1.Ok, .slice A_2 x_1.Entries.length c_3, .string (bs x_1.Data)]⟩]) (ps := [b_4 = b_4]) (by kernel_rfl) (And.intro rfl trivial) ?_
  refine GoO.nilOwn kT_api_Entry 42 ?_
  refine GoO.guard (fun h6 => ?_)
  refine OpTo.go (GoO.appW (e := 88) (K := kT_api_Entry) (A := none) (c := 0) (tg := 42) (bytes := 40) (zs := [.int .u64 0, .int .u64 0, .int .i64 0, .string (bs [])]) (xs := ([] : List T_api_Entry)) (ys := x_1.Entries) (xv := .slice A_2 x_1.Entries.length c_3) (j := 0) (bk := [1]) rfl (by kernel_rfl) (by kernel_rfl) (by kernel_rfl) (by kernel_rfl) rfl (by kernel_rfl) rfl (fun w S hB => SrcIs.row (Reads.rd w S (hB _ (List.mem_of_getElem? (i := 1) rfl)))) h6 rfl rfl rfl rfl _ (fun _ _ => rfl) (fun A_7 c_8 => ?_))
  refine GoO.exec (is := [3, 4]) (hs := [.p, .b 1]) (rest := []) (ks := [1, 2]) (env' := [(1, .pointer (some ⟨b_4, 0, none⟩)), (2, .pointer (some ⟨b_5, 0, none⟩))]) (H' := [⟨41, b_5, [.int .i64 0, .int .i64 0, .int .i64 0, .int .u64 0, .int .u64 0, .int .u64 0, .int .u64 0, .bool false, .slice none ([] : List T_api_Entry).length 0, .string (bs [])]⟩, ⟨40, b_4, [.int .i64 x_1.Kind, .int .i64 x_1.From, .int .i64 x_1.To, .int .u64 x_1.Term, .int .u64 x_1.Index, .int .u64 x_1.Prev, .int .u64 x_1.Commit, .bool x_1.Ok, .slice A_7 (([] : List T_api_Entry) ++ x_1.Entries).length c_8, .string (bs x_1.Data)]⟩]) (ps := [b_4 = b_4]) (by kernel_rfl) (And.intro rfl trivial) ?_
  refine GoO.regionEnd ?_
  refine GoO.seq' c38_4e ?_
  refine GoO.region' (is := [0, 1]) c38_5e (by kernel_rfl) ?_
  refine GoO.exec (is := [0, 1]) (hs := [.b 1, .b 0]) (rest := []) (ks := [2]) (env' := [(2, .pointer (some ⟨b_5, 0, none⟩))]) (H' := [⟨41, b_5, [.int .i64 x_1.Kind, .int .i64 x_1.From, .int .i64 x_1.To, .int .u64 x_1.Term, .int .u64 x_1.Index, .int .u64 x_1.Prev, .int .u64 x_1.Commit, .bool x_1.Ok, .slice A_7 (([] : List T_api_Entry) ++ x_1.Entries).length c_8, .string (bs x_1.Data)]⟩, ⟨40, b_4, [.int .i64 x_1.Kind, .int .i64 x_1.From, .int .i64 x_1.To, .int .u64 x_1.Term, .int .u64 x_1.Index, .int .u64 x_1.Prev, .int .u64 x_1.Commit, .bool x_1.Ok, .slice A_7 (([] : List T_api_Entry) ++ x_1.Entries).length c_8, .string (bs x_1.Data)]⟩]) (ps := [b_4 = b_4, b_5 = b_5]) (by kernel_rfl) (And.intro rfl (And.intro rfl trivial)) ?_
  refine GoO.regionEnd ?_
  refine GoO.retag (t := 42) (u := 0) (j := 0) (hk := [0, 1]) (bk := [1]) rfl rfl rfl rfl rfl rfl (by kernel_rfl) (by kernel_rfl) ?_
  refine GoO.own2rd (j := 0) rfl ?_
  exact GoO.ret' (h := c38_6e) (hs := [0]) (ps := [b_5 = b_5]) (hk := []) (bk := [0]) Try.func38 (⟨A_7, c_8⟩ : Option Addr × Nat) (by kernel_rfl) (And.intro rfl trivial) (by kernel_rfl) (by kernel_rfl)

/-! (*tontine/net.Net).Send -/
noncomputable def c16_0 : Code := bodyOf Try.f16
noncomputable def c16_1 : Code := cdL c16_0
noncomputable def c16_2 : Code := cdR c16_0
noncomputable def c16_3 : Code := cdL c16_2
noncomputable def c16_4 : Code := cdL c16_3
noncomputable def c16_5 : Code := cdR c16_3
noncomputable def c16_9 : Code := cdR c16_5
noncomputable def c16_10 : Code := cdR c16_2
noncomputable def c16_11 : Code := cdL c16_10
noncomputable def c16_12 : Code := cdL c16_11
noncomputable def c16_13 : Code := cdR c16_11
noncomputable def c16_14 : Code := cdL c16_13
noncomputable def c16_15 : Code := cdL c16_14
noncomputable def c16_16 : Code := cdR c16_14
noncomputable def c16_17 : Code := cdL c16_16
noncomputable def c16_18 : Code := cdR c16_16
noncomputable def c16_19 : Code := cdR c16_13
noncomputable def c16_20 : Code := cdR c16_10
noncomputable def c16_21 : Code := cdL c16_20
noncomputable def c16_22 : Code := cdR c16_20
noncomputable def c16_23 : Code := cdL c16_22
noncomputable def c16_24 : Code := cdR c16_22
noncomputable def c16_6 : Code := cdL c16_5
noncomputable def r16_1 : Array Oper := cdO c16_1
noncomputable def r16_4 : Array Oper := cdO c16_4
noncomputable def r16_12 : Array Oper := cdO c16_12
noncomputable def r16_15 : Array Oper := cdO c16_15
noncomputable def r16_17 : Array Oper := cdO c16_17
noncomputable def r16_21 : Array Oper := cdO c16_21
noncomputable def r16_23 : Array Oper := cdO c16_23
theorem c16_0e : c16_0 = .seq c16_1 c16_2 := by kernel_rfl
theorem c16_1e : c16_1 = .region 0 r16_1 false := by kernel_rfl
theorem c16_2e : c16_2 = .seq c16_3 c16_10 := by kernel_rfl
theorem c16_3e : c16_3 = .seq c16_4 c16_5 := by kernel_rfl
theorem c16_4e : c16_4 = .region 1 r16_4 false := by kernel_rfl
theorem c16_5e : c16_5 = .cond (cdC c16_5) c16_6 c16_9 := by kernel_rfl
theorem c16_9e : c16_9 = .skip := by kernel_rfl
theorem c16_10e : c16_10 = .seq c16_11 c16_20 := by kernel_rfl
theorem c16_11e : c16_11 = .seq c16_12 c16_13 := by kernel_rfl
theorem c16_12e : c16_12 = .region 3 r16_12 false := by kernel_rfl
theorem c16_13e : c16_13 = .cond (cdC c16_13) c16_14 c16_19 := by kernel_rfl
theorem c16_14e : c16_14 = .seq c16_15 c16_16 := by kernel_rfl
theorem c16_15e : c16_15 = .region 4 r16_15 false := by kernel_rfl
theorem c16_16e : c16_16 = .seq c16_17 c16_18 := by kernel_rfl
theorem c16_17e : c16_17 = .region 5 r16_17 false := by kernel_rfl
theorem c16_18e : c16_18 = .ret := by kernel_rfl
theorem c16_19e : c16_19 = .skip := by kernel_rfl
theorem c16_20e : c16_20 = .seq c16_21 c16_22 := by kernel_rfl
theorem c16_21e : c16_21 = .region 6 r16_21 true := by kernel_rfl
theorem c16_22e : c16_22 = .seq c16_23 c16_24 := by kernel_rfl
theorem c16_23e : c16_23 = .region 7 r16_23 false := by kernel_rfl
theorem c16_24e : c16_24 = .ret := by kernel_rfl
noncomputable def net_Net_Send.R (b_2 : Nat) (A_3 : Option Addr) (c_4 : Nat) (A_6 : Option Addr) (c_7 : Nat) : Pst (Bool × T_net_Net) where
  ε := Option Addr × Nat
  v := fun r x => .bool r.1
  H := fun r x => [⟨1, b_2, [.slice x.1 r.2.l.length x.2, .int .i64 r.2.lost]⟩]
  B := fun r x => [Ow 2 kT_api_Letter x.1 x.2 r.2.l]
noncomputable def net_Net_Send.cx (b_2 : Nat) (A_3 : Option Addr) (c_4 : Nat) (A_6 : Option Addr) (c_7 : Nat) (w0 : World) (S0 : Fam) : Cx (Bool × T_net_Net) := ⟨Try.prog, 16, Try.f16, 31, w0, S0, [1, 2], 2, net_Net_Send.R b_2 A_3 c_4 A_6 c_7⟩
theorem net_Net_Send_ok (n : Nat) (n_1 : T_net_Net) (x_5 : T_api_Letter) (b_2 : Nat) (A_3 : Option Addr) (c_4 : Nat) (A_6 : Option Addr) (c_7 : Nat) :
    Meets Try.prog 16 [.pointer (some ⟨b_2, 0, none⟩), .agg ⟨[.int .i64 x_5.Kind, .int .i64 x_5.From, .int .i64 x_5.To, .int .u64 x_5.Term, .int .u64 x_5.Index, .int .u64 x_5.Prev, .int .u64 x_5.Commit, .bool x_5.Ok, .slice A_6 x_5.Entries.length c_7, .string (bs x_5.Data)]⟩] 2 [1, 2] [⟨1, b_2, [.slice A_3 n_1.l.length c_4, .int .i64 n_1.lost]⟩] [Ow 2 kT_api_Letter A_3 c_4 n_1.l, Rd 0 kT_api_Entry A_6 c_7 x_5.Entries] (net_Net_Send.f n n_1 x_5) (net_Net_Send.R b_2 A_3 c_4 A_6 c_7) := by
  refine Meets.of (c := c16_0) (n := 31) Try.func16 (by kernel_rfl) (by kernel_rfl) (by kernel_rfl) fun w0 S0 => ?_
  unfold net_Net_Send.f
  show GoO (net_Net_Send.cx b_2 A_3 c_4 A_6 c_7 w0 S0) [(0, .pointer (some ⟨b_2, 0, none⟩)), (1, .agg ⟨[.int .i64 x_5.Kind, .int .i64 x_5.From, .int .i64 x_5.To, .int .u64 x_5.Term, .int .u64 x_5.Index, .int .u64 x_5.Prev, .int .u64 x_5.Commit, .bool x_5.Ok, .slice A_6 x_5.Entries.length c_7, .string (bs x_5.Data)]⟩)] [⟨1, b_2, [.slice A_3 n_1.l.length c_4, .int .i64 n_1.lost]⟩] [Ow 2 kT_api_Letter A_3 c_4 n_1.l, Rd 0 kT_api_Entry A_6 c_7 x_5.Entries] [.code c16_0] _
  refine GoO.seq' c16_0e ?_
  refine GoO.region' (is := [0, 1]) c16_1e (by kernel_rfl) ?_
  refine OpTo.go (GoO.new rfl 40 (cs := [.int .i64 x_5.Kind, .int .i64 x_5.From, .int .i64 x_5.To, .int .u64 x_5.Term, .int .u64 x_5.Index, .int .u64 x_5.Prev, .int .u64 x_5.Commit, .bool x_5.Ok, .slice A_6 x_5.Entries.length c_7, .string (bs x_5.Data)]) (by kernel_rfl) _ (fun _ => rfl) (fun b_8 => ?_))
  refine GoO.exec (is := [1]) (hs := [.p]) (rest := []) (ks := [0, 3]) (env' := [(0, .pointer (some ⟨b_2, 0, none⟩)), (3, .pointer (some ⟨b_8, 0, none⟩))]) (H' := [⟨40, b_8, [.int .i64 x_5.Kind, .int .i64 x_5.From, .int .i64 x_5.To, .int .u64 x_5.Term, .int .u64 x_5.Index, .int .u64 x_5.Prev, .int .u64 x_5.Commit, .bool x_5.Ok, .slice A_6 x_5.Entries.length c_7, .string (bs x_5.Data)]⟩, ⟨1, b_2, [.slice A_3 n_1.l.length c_4, .int .i64 n_1.lost]⟩]) (ps := []) (by kernel_rfl) trivial ?_
  refine GoO.regionEnd ?_
  refine GoO.seq' c16_2e ?_
  refine GoO.seq' c16_3e ?_
  refine GoO.region' (is := [0, 1]) c16_4e (by kernel_rfl) ?_
  refine GoO.exec (is := [0, 1]) (hs := [.p, .p]) (rest := []) (ks := [0, 3, 6]) (env' := [(0, .pointer (some ⟨b_2, 0, none⟩)), (3, .pointer (some ⟨b_8, 0, none⟩)), (6, .bool false)]) (H' := [⟨40, b_8, [.int .i64 x_5.Kind, .int .i64 x_5.From, .int .i64 x_5.To, .int .u64 x_5.Term, .int .u64 x_5.Index, .int .u64 x_5.Prev, .int .u64 x_5.Commit, .bool x_5.Ok, .slice A_6 x_5.Entries.length c_7, .string (bs x_5.Data)]⟩, ⟨1, b_2, [.slice A_3 n_1.l.length c_4, .int .i64 n_1.lost]⟩]) (ps := []) (by kernel_rfl) trivial ?_
  refine GoO.regionEnd ?_
  refine GoO.condF c16_5e (by kernel_rfl) ?_
  refine GoO.skip' c16_9e ?_
  refine GoO.seq' c16_10e ?_
  refine GoO.seq' c16_11e ?_
  refine GoO.region' (is := [0, 1, 2, 3, 4, 5]) c16_12e (by kernel_rfl) ?_
  refine GoO.exec (is := [0, 1, 2, 3, 4, 5]) (hs := [.p, .p, .p, .b 1, .p, .p]) (rest := []) (ks := [0, 3, 12]) (env' := [(0, .pointer (some ⟨b_2, 0, none⟩)), (3, .pointer (some ⟨b_8, 0, none⟩)), (12, .bool ((n_1.l.length : Int) == 256))]) (H' := [⟨40, b_8, [.int .i64 x_5.Kind, .int .i64 x_5.From, .int .i64 x_5.To, .int .u64 x_5.Term, .int .u64 x_5.Index, .int .u64 x_5.Prev, .int .u64 x_5.Commit, .bool x_5.Ok, .slice A_6 x_5.Entries.length c_7, .string (bs x_5.Data)]⟩, ⟨1, b_2, [.slice A_3 n_1.l.length c_4, .int .i64 n_1.lost]⟩]) (ps := [b_2 = b_2]) (by kernel_rfl) (And.intro rfl trivial) ?_
  refine GoO.regionEnd ?_
  refine GoO.ite' c16_13e (by kernel_rfl) (fun h9 => ?_) (fun h9 => ?_)
  · refine GoO.seq' c16_14e ?_
    refine GoO.region' (is := [0, 1, 2, 3, 4, 5, 6, 7]) c16_15e (by kernel_rfl) ?_
    refine GoO.exec (is := [0, 1, 2, 3, 4, 5, 6, 7]) (hs := [.p, .p, .p, .b 1, .p, .p, .p, .b 1]) (rest := []) (ks := []) (env' := []) (H' := [⟨40, b_8, [.int .i64 x_5.Kind, .int .i64 x_5.From, .int .i64 x_5.To, .int .u64 x_5.Term, .int .u64 x_5.Index, .int .u64 x_5.Prev, .int .u64 x_5.Commit, .bool x_5.Ok, .slice A_6 x_5.Entries.length c_7, .string (bs x_5.Data)]⟩, ⟨1, b_2, [.slice A_3 n_1.l.length c_4, .int .i64 (wi64 (n_1.lost + 1))]⟩]) (ps := [b_2 = b_2, b_2 = b_2]) (by kernel_rfl) (And.intro rfl (And.intro rfl trivial)) ?_
    refine GoO.regionEnd ?_
    refine GoO.seq' c16_16e ?_
    refine GoO.region' (is := [0]) c16_17e (by kernel_rfl) ?_
    refine GoO.exec (is := [0]) (hs := [.p]) (rest := []) (ks := [4]) (env' := [(4, .bool false)]) (H' := [⟨40, b_8, [.int .i64 x_5.Kind, .int .i64 x_5.From, .int .i64 x_5.To, .int .u64 x_5.Term, .int .u64 x_5.Index, .int .u64 x_5.Prev, .int .u64 x_5.Commit, .bool x_5.Ok, .slice A_6 x_5.Entries.length c_7, .string (bs x_5.Data)]⟩, ⟨1, b_2, [.slice A_3 n_1.l.length c_4, .int .i64 (wi64 (n_1.lost + 1))]⟩]) (ps := []) (by kernel_rfl) trivial ?_
    refine GoO.regionEnd ?_
    exact GoO.ret' (h := c16_18e) (hs := []) (ps := []) (hk := [1]) (bk := [0]) Try.func16 (⟨A_3, c_4⟩ : Option Addr × Nat) (by kernel_rfl) trivial (by kernel_rfl) (by kernel_rfl)
  · refine GoO.skip' c16_19e ?_
    refine GoO.seq' c16_20e ?_
    refine GoO.draw c16_21e (by kernel_rfl) [9, 10, 11] [⟨40, b_8, [.int .i64 x_5.Kind, .int .i64 x_5.From, .int .i64 x_5.To, .int .u64 x_5.Term, .int .u64 x_5.Index, .int .u64 x_5.Prev, .int .u64 x_5.Commit, .bool x_5.Ok, .slice A_6 x_5.Entries.length c_7, .string (bs x_5.Data)]⟩, ⟨1, b_2, [.slice A_3 n_1.l.length c_4, .int .i64 n_1.lost]⟩] [] (n := 12) (by kernel_rfl) ?_
    simp only [List.replicate]
    refine GoF.take [0, 1, 2, 3, 4, 5] [.p, .p, .p, .p, .b 1, .b 0] (ks := [20, 24, 25]) (fu := 6) (li := [true, true, true, true, true, true, false, false, false, false, false, false]) (env' := [(20, .pointer (some ⟨b_2, 0, none⟩)), (24, .slice A_3 n_1.l.length c_4), (25, .agg ⟨[.int .i64 x_5.Kind, .int .i64 x_5.From, .int .i64 x_5.To, .int .u64 x_5.Term, .int .u64 x_5.Index, .int .u64 x_5.Prev, .int .u64 x_5.Commit, .bool x_5.Ok, .slice A_6 x_5.Entries.length c_7, .string (bs x_5.Data)]⟩)]) (ps := [b_2 = b_2, b_8 = b_8]) (hk := [0, 1]) (bk := []) (by kernel_rfl) (And.intro rfl (And.intro rfl trivial)) rfl rfl ?_
    refine OpTo.goF (i := 6) (by kernel_rfl) (hk := [0, 1]) (bk := []) (GoO.call rfl (by kernel_rfl) (by kernel_rfl) (net_copied_ok n x_5 A_6 c_7) [[0]] [] [] [(0, 1)] (hks := [0, 1]) (bks := [0, 1]) (by kernel_rfl) (by kernel_rfl) (by kernel_rfl) (.inl rfl) rfl rfl (by kernel_rfl) (by kernel_rfl) _ (fun _ _ => rfl) _ _ (fun _ _ => rfl) (fun _ _ => rfl) (fun _ _ => by kernel_rfl) (fun _ _ => by kernel_rfl) (fun r_10 x_18 => ⟨rfl, rfl, ?_⟩))
    obtain ⟨A_11, c_12⟩ := x_18
    refine GoF.shape (env' := [(20, .pointer (some ⟨b_2, 0, none⟩)), (24, .slice A_3 n_1.l.length c_4), (25, .agg ⟨[.int .i64 x_5.Kind, .int .i64 x_5.From, .int .i64 x_5.To, .int .u64 x_5.Term, .int .u64 x_5.Index, .int .u64 x_5.Prev, .int .u64 x_5.Commit, .bool x_5.Ok, .slice A_6 x_5.Entries.length c_7, .string (bs x_5.Data)]⟩), (26, .agg ⟨[.int .i64 r_10.Kind, .int .i64 r_10.From, .int .i64 r_10.To, .int .u64 r_10.Term, .int .u64 r_10.Index, .int .u64 r_10.Prev, .int .u64 r_10.Commit, .bool r_10.Ok, .slice A_11 r_10.Entries.length c_12, .string (bs r_10.Data)]⟩)]) (H' := [⟨40, b_8, [.int .i64 x_5.Kind, .int .i64 x_5.From, .int .i64 x_5.To, .int .u64 x_5.Term, .int .u64 x_5.Index, .int .u64 x_5.Prev, .int .u64 x_5.Commit, .bool x_5.Ok, .slice A_6 x_5.Entries.length c_7, .string (bs x_5.Data)]⟩, ⟨1, b_2, [.slice A_3 n_1.l.length c_4, .int .i64 n_1.lost]⟩]) (B' := [Rd 0 kT_api_Entry A_11 c_12 r_10.Entries, Ow 2 kT_api_Letter A_3 c_4 n_1.l, Rd 0 kT_api_Entry A_6 c_7 x_5.Entries]) (ks := [20, 24, 25, 26]) (by kernel_rfl) (by kernel_rfl) (by kernel_rfl) ?_
    refine OpTo.goF (i := 7) (by kernel_rfl) (hk := [0, 1]) (bk := []) (GoO.lit (e := 29) (K := kT_api_Letter) rfl (by kernel_rfl) (by kernel_rfl) (cs := [.int .i64 r_10.Kind, .int .i64 r_10.From, .int .i64 r_10.To, .int .u64 r_10.Term, .int .u64 r_10.Index, .int .u64 r_10.Prev, .int .u64 r_10.Commit, .bool r_10.Ok, .slice A_11 r_10.Entries.length c_12, .string (bs r_10.Data)]) (by kernel_rfl) [r_10] (by kernel_rfl) (by kernel_rfl) (fun w S hB => ⟨[.int .i64 r_10.Kind, .int .i64 r_10.From, .int .i64 r_10.To, .int .u64 r_10.Term, .int .u64 r_10.Index, .int .u64 r_10.Prev, .int .u64 r_10.Commit, .bool r_10.Ok, .slice A_11 r_10.Entries.length c_12, .string (bs r_10.Data)], _, rfl, ⟨A_11, c_12, rfl, hB _ (List.mem_of_getElem? (i := 0) rfl)⟩, rfl⟩) 41 _ (fun _ _ => rfl) (fun A_13 c_14 => ⟨rfl, rfl, ?_⟩))
    refine GoF.guard (fun h15 => ?_)
    refine OpTo.goF (i := 8) (by kernel_rfl) (hk := [0, 1]) (bk := []) (GoO.appW (e := 29) (K := kT_api_Letter) (A := A_3) (c := c_4) (tg := 2) (bytes := 104) (zs := [.int .i64 0, .int .i64 0, .int .i64 0, .int .u64 0, .int .u64 0, .int .u64 0, .int .u64 0, .bool false, .slice none 0 0, .string (bs [])]) (xs := n_1.l) (ys := [r_10]) (xv := .slice A_13 [r_10].length c_14) (j := 2) (bk := [0, 1, 3]) rfl (by kernel_rfl) (by kernel_rfl) (by kernel_rfl) (by kernel_rfl) rfl (by kernel_rfl) rfl (fun w S hB => SrcIs.row (Reads.own w S (hB _ (List.mem_of_getElem? (i := 0) rfl)))) h15 rfl rfl rfl rfl _ (fun _ _ => rfl) (fun A_16 c_17 => ⟨rfl, rfl, ?_⟩))
    refine GoF.fin1 (i := 9) (hint := .p) (ps := []) (hk := []) (bk := []) (by kernel_rfl) rfl trivial (.inl rfl) ?_
    refine GoF.fin1 (i := 10) (hint := .p) (ps := []) (hk := []) (bk := []) (by kernel_rfl) rfl trivial (.inl rfl) ?_
    refine GoF.fin1 (i := 11) (hint := .b 1) (ps := [b_2 = b_2]) (hk := []) (bk := []) (by kernel_rfl) rfl (And.intro rfl trivial) (.inl rfl) ?_
    refine GoF.done (by kernel_rfl) ?_
    refine GoO.seq' c16_22e ?_
    refine GoO.region' (is := [0]) c16_23e (by kernel_rfl) ?_
    refine GoO.exec (is := [0]) (hs := [.p]) (rest := []) (ks := [4]) (env' := [(4, .bool true)]) (H' := [⟨40, b_8, [.int .i64 x_5.Kind, .int .i64 x_5.From, .int .i64 x_5.To, .int .u64 x_5.Term, .int .u64 x_5.Index, .int .u64 x_5.Prev, .int .u64 x_5.Commit, .bool x_5.Ok, .slice A_6 x_5.Entries.length c_7, .string (bs x_5.Data)]⟩, ⟨1, b_2, [.slice A_16 (n_1.l ++ [r_10]).length c_17, .int .i64 n_1.lost]⟩]) (ps := []) (by kernel_rfl) trivial ?_
    refine GoO.regionEnd ?_
    exact GoO.ret' (h := c16_24e) (hs := []) (ps := []) (hk := [1]) (bk := [0]) Try.func16 (⟨A_16, c_17⟩ : Option Addr × Nat) (by kernel_rfl) trivial (by kernel_rfl) (by kernel_rfl)

/-! (*tontine/net.Net).place -/
noncomputable def c39_0 : Code := bodyOf Try.f39
noncomputable def c39_1 : Code := cdL c39_0
noncomputable def c39_2 : Code := cdR c39_0
noncomputable def c39_3 : Code := cdL c39_2
noncomputable def c39_4 : Code := cdL c39_3
noncomputable def c39_5 : Code := cdR c39_3
noncomputable def c39_6 : Code := cdL c39_5
noncomputable def c39_7 : Code := cdL c39_6
noncomputable def c39_8 : Code := cdR c39_6
noncomputable def c39_9 : Code := cdR c39_5
noncomputable def c39_10 : Code := cdR c39_2
noncomputable def c39_11 : Code := cdL c39_10
noncomputable def c39_12 : Code := cdR c39_10
noncomputable def c39_13 : Code := cdL c39_12
noncomputable def c39_14 : Code := cdL c39_13
noncomputable def c39_15 : Code := cdR c39_13
noncomputable def c39_16 : Code := cdL c39_15
noncomputable def c39_17 : Code := cdR c39_15
noncomputable def c39_18 : Code := cdR c39_12
noncomputable def c39_19 : Code := cdL c39_18
noncomputable def c39_20 : Code := cdR c39_18
noncomputable def r39_1 : Array Oper := cdO c39_1
noncomputable def r39_4 : Array Oper := cdO c39_4
noncomputable def r39_7 : Array Oper := cdO c39_7
noncomputable def r39_11 : Array Oper := cdO c39_11
noncomputable def r39_14 : Array Oper := cdO c39_14
noncomputable def r39_16 : Array Oper := cdO c39_16
noncomputable def r39_19 : Array Oper := cdO c39_19
theorem c39_0e : c39_0 = .seq c39_1 c39_2 := by kernel_rfl
theorem c39_1e : c39_1 = .region 0 r39_1 false := by kernel_rfl
theorem c39_2e : c39_2 = .seq c39_3 c39_10 := by kernel_rfl
theorem c39_3e : c39_3 = .seq c39_4 c39_5 := by kernel_rfl
theorem c39_4e : c39_4 = .region 1 r39_4 false := by kernel_rfl
theorem c39_5e : c39_5 = .cond (cdC c39_5) c39_6 c39_9 := by kernel_rfl
theorem c39_6e : c39_6 = .seq c39_7 c39_8 := by kernel_rfl
theorem c39_7e : c39_7 = .region 2 r39_7 false := by kernel_rfl
theorem c39_8e : c39_8 = .ret := by kernel_rfl
theorem c39_9e : c39_9 = .skip := by kernel_rfl
theorem c39_10e : c39_10 = .seq c39_11 c39_12 := by kernel_rfl
theorem c39_11e : c39_11 = .region 3 r39_11 false := by kernel_rfl
theorem c39_12e : c39_12 = .seq c39_13 c39_18 := by kernel_rfl
theorem c39_13e : c39_13 = .seq c39_14 c39_15 := by kernel_rfl
theorem c39_14e : c39_14 = .region 4 r39_14 false := by kernel_rfl
theorem c39_15e : c39_15 = .cond (cdC c39_15) c39_16 c39_17 := by kernel_rfl
theorem c39_16e : c39_16 = .region 5 r39_16 false := by kernel_rfl
theorem c39_17e : c39_17 = .skip := by kernel_rfl
theorem c39_18e : c39_18 = .seq c39_19 c39_20 := by kernel_rfl
theorem c39_19e : c39_19 = .region 6 r39_19 false := by kernel_rfl
theorem c39_20e : c39_20 = .ret := by kernel_rfl
noncomputable def net_Net_place.R (b_2 : Nat) (A_3 : Option Addr) (c_4 : Nat) : Pst Int where
  ε := Unit
  v := fun r x => .int .i64 r
  H := fun r x => []
  B := fun r x => []
noncomputable def net_Net_place.cx (b_2 : Nat) (A_3 : Option Addr) (c_4 : Nat) (w0 : World) (S0 : Fam) : Cx Int := ⟨Try.prog, 39, Try.f39, 33, w0, S0, [], 2, net_Net_place.R b_2 A_3 c_4⟩
theorem net_Net_place_ok (n : Nat) (n_1 : T_net_Net) (i_5 : Int) (b_2 : Nat) (A_3 : Option Addr) (c_4 : Nat) :
    Meets Try.prog 39 [.pointer (some ⟨b_2, 0, none⟩), .int .i64 i_5] 2 [] [⟨1, b_2, [.slice A_3 n_1.l.length c_4, .int .i64 n_1.lost]⟩] [Ow 2 kT_api_Letter A_3 c_4 n_1.l] (net_Net_place.f n n_1 i_5) (net_Net_place.R b_2 A_3 c_4) := by
  refine Meets.of (c := c39_0) (n := 33) Try.func39 (by kernel_rfl) (by kernel_rfl) (by kernel_rfl) fun w0 S0 => ?_
  unfold net_Net_place.f
  show GoO (net_Net_place.cx b_2 A_3 c_4 w0 S0) [(0, .pointer (some ⟨b_2, 0, none⟩)), (1, .int .i64 i_5)] [⟨1, b_2, [.slice A_3 n_1.l.length c_4, .int .i64 n_1.lost]⟩] [Ow 2 kT_api_Letter A_3 c_4 n_1.l] [.code c39_0] _
  refine GoO.seq' c39_0e ?_
  refine GoO.region' (is := [0]) c39_1e (by kernel_rfl) ?_
  refine GoO.exec (is := [0]) (hs := [.p]) (rest := []) (ks := [0, 1]) (env' := [(0, .pointer (some ⟨b_2, 0, none⟩)), (1, .int .i64 i_5)]) (H' := [⟨1, b_2, [.slice A_3 n_1.l.length c_4, .int .i64 n_1.lost]⟩]) (ps := []) (by kernel_rfl) trivial ?_
  refine GoO.regionEnd ?_
  refine GoO.seq' c39_2e ?_
  refine GoO.seq' c39_3e ?_
  refine GoO.region' (is := [0, 1, 2, 3, 4, 5, 6, 7, 8, 9]) c39_4e (by kernel_rfl) ?_
  refine GoO.exec (is := [0, 1, 2, 3, 4, 5, 6, 7, 8, 9]) (hs := [.p, .p, .p, .p, .p, .p, .b 0, .p, .p, .p]) (rest := []) (ks := [0, 1, 15]) (env' := [(0, .pointer (some ⟨b_2, 0, none⟩)), (1, .int .i64 i_5), (15, .bool ((n_1.l.length : Int) == 0))]) (H' := [⟨1, b_2, [.slice A_3 n_1.l.length c_4, .int .i64 n_1.lost]⟩]) (ps := [b_2 = b_2]) (by kernel_rfl) (And.intro rfl trivial) ?_
  refine GoO.regionEnd ?_
  refine GoO.ite' c39_5e (by kernel_rfl) (fun h6 => ?_) (fun h6 => ?_)
  · refine GoO.seq' c39_6e ?_
    refine GoO.region' (is := [0]) c39_7e (by kernel_rfl) ?_
    refine GoO.exec (is := [0]) (hs := [.p]) (rest := []) (ks := [4]) (env' := [(4, .int .i64 (-1))]) (H' := [⟨1, b_2, [.slice A_3 n_1.l.length c_4, .int .i64 n_1.lost]⟩]) (ps := []) (by kernel_rfl) trivial ?_
    refine GoO.regionEnd ?_
    exact GoO.ret' (h := c39_8e) (hs := []) (ps := []) (hk := []) (bk := []) Try.func39 () (by kernel_rfl) trivial (by kernel_rfl) (by kernel_rfl)
  · refine GoO.skip' c39_9e ?_
    refine GoO.seq' c39_10e ?_
    refine GoO.region' (is := [0, 1, 2, 3, 4, 5, 6, 7]) c39_11e (by kernel_rfl) ?_
    refine GoO.guard (fun h7 => ?_)
    refine GoO.exec (is := [0, 1, 2, 3, 4, 5, 6, 7]) (hs := [.p, .p, .p, .p, .b 0, .p, .p, .p]) (rest := []) (ks := [0, 5]) (env' := [(0, .pointer (some ⟨b_2, 0, none⟩)), (5, .int .i64 (i_5.tmod (n_1.l.length : Int)))]) (H' := [⟨1, b_2, [.slice A_3 n_1.l.length c_4, .int .i64 n_1.lost]⟩]) (ps := [b_2 = b_2, (n_1.l.length : Int) ≠ 0]) (by kernel_rfl) (And.intro rfl (And.intro h7 trivial)) ?_
    refine GoO.regionEnd ?_
    refine GoO.seq' c39_12e ?_
    refine GoO.seq' c39_13e ?_
    refine GoO.region' (is := [0, 1]) c39_14e (by kernel_rfl) ?_
    refine GoO.exec (is := [0, 1]) (hs := [.p, .p]) (rest := []) (ks := [0, 5, 24]) (env' := [(0, .pointer (some ⟨b_2, 0, none⟩)), (5, .int .i64 (i_5.tmod (n_1.l.length : Int))), (24, .bool (decide ((i_5.tmod (n_1.l.length : Int)) < 0)))]) (H' := [⟨1, b_2, [.slice A_3 n_1.l.length c_4, .int .i64 n_1.lost]⟩]) (ps := []) (by kernel_rfl) trivial ?_
    refine GoO.regionEnd ?_
    refine GoO.ite' c39_15e (by kernel_rfl) (fun h8 => ?_) (fun h8 => ?_)
    · refine GoO.region' (is := [0, 1, 2, 3, 4, 5, 6, 7]) c39_16e (by kernel_rfl) ?_
      refine GoO.exec (is := [0, 1, 2, 3, 4, 5, 6, 7]) (hs := [.p, .p, .p, .p, .b 0, .p, .p, .p]) (rest := []) (ks := [5]) (env' := [(5, .int .i64 (wi64 ((i_5.tmod (n_1.l.length : Int)) + (n_1.l.length : Int))))]) (H' := [⟨1, b_2, [.slice A_3 n_1.l.length c_4, .int .i64 n_1.lost]⟩]) (ps := [b_2 = b_2]) (by kernel_rfl) (And.intro rfl trivial) ?_
      refine GoO.regionEnd ?_
      refine GoO.seq' c39_18e ?_
      refine GoO.region' (is := [0, 1]) c39_19e (by kernel_rfl) ?_
      refine GoO.exec (is := [0, 1]) (hs := [.p, .p]) (rest := []) (ks := [4]) (env' := [(4, .int .i64 (wi64 ((i_5.tmod (n_1.l.length : Int)) + (n_1.l.length : Int))))]) (H' := [⟨1, b_2, [.slice A_3 n_1.l.length c_4, .int .i64 n_1.lost]⟩]) (ps := []) (by kernel_rfl) trivial ?_
      refine GoO.regionEnd ?_
      exact GoO.ret' (h := c39_20e) (hs := []) (ps := []) (hk := []) (bk := []) Try.func39 () (by kernel_rfl) trivial (by kernel_rfl) (by kernel_rfl)
    · refine GoO.skip' c39_17e ?_
      refine GoO.seq' c39_18e ?_
      refine GoO.region' (is := [0, 1]) c39_19e (by kernel_rfl) ?_
      refine GoO.exec (is := [0, 1]) (hs := [.p, .p]) (rest := []) (ks := [4]) (env' := [(4, .int .i64 (i_5.tmod (n_1.l.length : Int)))]) (H' := [⟨1, b_2, [.slice A_3 n_1.l.length c_4, .int .i64 n_1.lost]⟩]) (ps := []) (by kernel_rfl) trivial ?_
      refine GoO.regionEnd ?_
      exact GoO.ret' (h := c39_20e) (hs := []) (ps := []) (hk := []) (bk := []) Try.func39 () (by kernel_rfl) trivial (by kernel_rfl) (by kernel_rfl)

/-! (*tontine/net.Net).Take -/
noncomputable def c17_0 : Code := bodyOf Try.f17
noncomputable def c17_1 : Code := cdL c17_0
noncomputable def c17_2 : Code := cdR c17_0
noncomputable def c17_3 : Code := cdL c17_2
noncomputable def c17_4 : Code := cdR c17_2
noncomputable def c17_5 : Code := cdL c17_4
noncomputable def c17_6 : Code := cdL c17_5
noncomputable def c17_7 : Code := cdR c17_5
noncomputable def c17_8 : Code := cdL c17_7
noncomputable def c17_9 : Code := cdL c17_8
noncomputable def c17_10 : Code := cdR c17_8
noncomputable def c17_11 : Code := cdR c17_7
noncomputable def c17_12 : Code := cdR c17_4
noncomputable def c17_13 : Code := cdL c17_12
noncomputable def c17_14 : Code := cdR c17_12
noncomputable def c17_15 : Code := cdL c17_14
noncomputable def c17_16 : Code := cdR c17_14
noncomputable def c17_17 : Code := cdL c17_16
noncomputable def c17_18 : Code := cdR c17_16
noncomputable def r17_1 : Array Oper := cdO c17_1
noncomputable def r17_3 : Array Oper := cdO c17_3
noncomputable def r17_6 : Array Oper := cdO c17_6
noncomputable def r17_9 : Array Oper := cdO c17_9
noncomputable def r17_13 : Array Oper := cdO c17_13
noncomputable def r17_15 : Array Oper := cdO c17_15
noncomputable def r17_17 : Array Oper := cdO c17_17
theorem c17_0e : c17_0 = .seq c17_1 c17_2 := by kernel_rfl
theorem c17_1e : c17_1 = .region 0 r17_1 false := by kernel_rfl
theorem c17_2e : c17_2 = .seq c17_3 c17_4 := by kernel_rfl
theorem c17_3e : c17_3 = .region 1 r17_3 false := by kernel_rfl
theorem c17_4e : c17_4 = .seq c17_5 c17_12 := by kernel_rfl
theorem c17_5e : c17_5 = .seq c17_6 c17_7 := by kernel_rfl
theorem c17_6e : c17_6 = .region 2 r17_6 false := by kernel_rfl
theorem c17_7e : c17_7 = .cond (cdC c17_7) c17_8 c17_11 := by kernel_rfl
theorem c17_8e : c17_8 = .seq c17_9 c17_10 := by kernel_rfl
theorem c17_9e : c17_9 = .region 3 r17_9 false := by kernel_rfl
theorem c17_10e : c17_10 = .ret := by kernel_rfl
theorem c17_11e : c17_11 = .skip := by kernel_rfl
theorem c17_12e : c17_12 = .seq c17_13 c17_14 := by kernel_rfl
theorem c17_13e : c17_13 = .region 4 r17_13 false := by kernel_rfl
theorem c17_14e : c17_14 = .seq c17_15 c17_16 := by kernel_rfl
theorem c17_15e : c17_15 = .region 5 r17_15 true := by kernel_rfl
theorem c17_16e : c17_16 = .seq c17_17 c17_18 := by kernel_rfl
theorem c17_17e : c17_17 = .region 6 r17_17 false := by kernel_rfl
theorem c17_18e : c17_18 = .ret := by kernel_rfl
noncomputable def net_Net_Take.R (b_2 : Nat) (A_3 : Option Addr) (c_4 : Nat) : Pst (T_api_Letter × Bool × T_net_Net) where
  ε := Option Addr × Nat × Option Addr × Nat
  v := fun r x => .tuple ⟨[.agg ⟨[.int .i64 r.1.Kind, .int .i64 r.1.From, .int .i64 r.1.To, .int .u64 r.1.Term, .int .u64 r.1.Index, .int .u64 r.1.Prev, .int .u64 r.1.Commit, .bool r.1.Ok, .slice x.1 r.1.Entries.length x.2.1, .string (bs r.1.Data)]⟩, .bool r.2.1]⟩
  H := fun r x => [⟨1, b_2, [.slice x.2.2.1 r.2.2.l.length x.2.2.2, .int .i64 r.2.2.lost]⟩]
  B := fun r x => [Rd 0 kT_api_Entry x.1 x.2.1 r.1.Entries, Ow 2 kT_api_Letter x.2.2.1 x.2.2.2 r.2.2.l]
noncomputable def net_Net_Take.cx (b_2 : Nat) (A_3 : Option Addr) (c_4 : Nat) (w0 : World) (S0 : Fam) : Cx (T_api_Letter × Bool × T_net_Net) := ⟨Try.prog, 17, Try.f17, 40, w0, S0, [1, 2], 2, net_Net_Take.R b_2 A_3 c_4⟩
theorem net_Net_Take_ok (n : Nat) (n_1 : T_net_Net) (i_5 : Int) (b_2 : Nat) (A_3 : Option Addr) (c_4 : Nat) :
    Meets Try.prog 17 [.pointer (some ⟨b_2, 0, none⟩), .int .i64 i_5] 2 [1, 2] [⟨1, b_2, [.slice A_3 n_1.l.length c_4, .int .i64 n_1.lost]⟩] [Ow 2 kT_api_Letter A_3 c_4 n_1.l] (net_Net_Take.f n n_1 i_5) (net_Net_Take.R b_2 A_3 c_4) := by
  refine Meets.of (c := c17_0) (n := 40) Try.func17 (by kernel_rfl) (by kernel_rfl) (by kernel_rfl) fun w0 S0 => ?_
  unfold net_Net_Take.f
  show GoO (net_Net_Take.cx b_2 A_3 c_4 w0 S0) [(0, .pointer (some ⟨b_2, 0, none⟩)), (1, .int .i64 i_5)] [⟨1, b_2, [.slice A_3 n_1.l.length c_4, .int .i64 n_1.lost]⟩] [Ow 2 kT_api_Letter A_3 c_4 n_1.l] [.code c17_0] _
  refine GoO.seq' c17_0e ?_
  refine GoO.region' (is := [0, 1]) c17_1e (by kernel_rfl) ?_
  refine OpTo.go (GoO.new rfl 40 (cs := [.int .i64 0, .int .i64 0, .int .i64 0, .int .u64 0, .int .u64 0, .int .u64 0, .int .u64 0, .bool false, .slice none ([] : List T_api_Entry).length 0, .string (bs [])]) (by kernel_rfl) _ (fun _ => rfl) (fun b_6 => ?_))
  refine GoO.exec (is := [1]) (hs := [.p]) (rest := []) (ks := [0, 1, 4]) (env' := [(0, .pointer (some ⟨b_2, 0, none⟩)), (1, .int .i64 i_5), (4, .pointer (some ⟨b_6, 0, none⟩))]) (H' := [⟨40, b_6, [.int .i64 0, .int .i64 0, .int .i64 0, .int .u64 0, .int .u64 0, .int .u64 0, .int .u64 0, .bool false, .slice none ([] : List T_api_Entry).length 0, .string (bs [])]⟩, ⟨1, b_2, [.slice A_3 n_1.l.length c_4, .int .i64 n_1.lost]⟩]) (ps := []) (by kernel_rfl) trivial ?_
  refine GoO.regionEnd ?_
  refine GoO.seq' c17_2e ?_
  refine GoO.region' (is := [0, 1, 2, 3]) c17_3e (by kernel_rfl) ?_
  refine GoO.exec (is := [0, 1]) (hs := [.p, .p]) (rest := [2, 3]) (ks := [0, 4, 8, 9]) (env' := [(0, .pointer (some ⟨b_2, 0, none⟩)), (4, .pointer (some ⟨b_6, 0, none⟩)), (8, .pointer (some ⟨b_2, 0, none⟩)), (9, .int .i64 i_5)]) (H' := [⟨40, b_6, [.int .i64 0, .int .i64 0, .int .i64 0, .int .u64 0, .int .u64 0, .int .u64 0, .int .u64 0, .bool false, .slice none ([] : List T_api_Entry).length 0, .string (bs [])]⟩, ⟨1, b_2, [.slice A_3 n_1.l.length c_4, .int .i64 n_1.lost]⟩]) (ps := []) (by kernel_rfl) trivial ?_
  refine OpTo.go (GoO.call rfl (by kernel_rfl) (by kernel_rfl) (net_Net_place_ok n n_1 i_5 b_2 A_3 c_4) [[0], [1], [2]] [] [(1, 1)] [(2, 0)] (hks := [0, 1]) (bks := [0]) (by kernel_rfl) (by kernel_rfl) (by kernel_rfl) (.inl rfl) rfl rfl (by kernel_rfl) (by kernel_rfl) _ (fun _ _ => rfl) _ _ (fun _ _ => rfl) (fun _ _ => rfl) (fun _ _ => by kernel_rfl) (fun _ _ => by kernel_rfl) (fun r_7 x_20 => ?_))
  refine GoO.shape (env' := [(0, .pointer (some ⟨b_2, 0, none⟩)), (4, .pointer (some ⟨b_6, 0, none⟩)), (8, .pointer (some ⟨b_2, 0, none⟩)), (9, .int .i64 i_5), (10, .int .i64 r_7)]) (H' := [⟨40, b_6, [.int .i64 0, .int .i64 0, .int .i64 0, .int .u64 0, .int .u64 0, .int .u64 0, .int .u64 0, .bool false, .slice none ([] : List T_api_Entry).length 0, .string (bs [])]⟩, ⟨1, b_2, [.slice A_3 n_1.l.length c_4, .int .i64 n_1.lost]⟩]) (B' := [Ow 2 kT_api_Letter A_3 c_4 n_1.l]) (ks := [0, 4, 8, 9, 10]) (by kernel_rfl) (by kernel_rfl) (by kernel_rfl) ?_
  refine GoO.exec (is := [3]) (hs := [.p]) (rest := []) (ks := [0, 4, 6]) (env' := [(0, .pointer (some ⟨b_2, 0, none⟩)), (4, .pointer (some ⟨b_6, 0, none⟩)), (6, .int .i64 r_7)]) (H' := [⟨40, b_6, [.int .i64 0, .int .i64 0, .int .i64 0, .int .u64 0, .int .u64 0, .int .u64 0, .int .u64 0, .bool false, .slice none ([] : List T_api_Entry).length 0, .string (bs [])]⟩, ⟨1, b_2, [.slice A_3 n_1.l.length c_4, .int .i64 n_1.lost]⟩]) (ps := []) (by kernel_rfl) trivial ?_
  refine GoO.regionEnd ?_
  refine GoO.seq' c17_4e ?_
  refine GoO.seq' c17_5e ?_
  refine GoO.region' (is := [0, 1]) c17_6e (by kernel_rfl) ?_
  refine GoO.exec (is := [0, 1]) (hs := [.p, .p]) (rest := []) (ks := [0, 4, 6, 12]) (env' := [(0, .pointer (some ⟨b_2, 0, none⟩)), (4, .pointer (some ⟨b_6, 0, none⟩)), (6, .int .i64 r_7), (12, .bool (decide (r_7 < 0)))]) (H' := [⟨40, b_6, [.int .i64 0, .int .i64 0, .int .i64 0, .int .u64 0, .int .u64 0, .int .u64 0, .int .u64 0, .bool false, .slice none ([] : List T_api_Entry).length 0, .string (bs [])]⟩, ⟨1, b_2, [.slice A_3 n_1.l.length c_4, .int .i64 n_1.lost]⟩]) (ps := []) (by kernel_rfl) trivial ?_
  refine GoO.regionEnd ?_
  refine GoO.ite' c17_7e (by kernel_rfl) (fun h8 => ?_) (fun h8 => ?_)
  · refine GoO.seq' c17_8e ?_
    refine GoO.region' (is := [0, 1, 2]) c17_9e (by kernel_rfl) ?_
    refine GoO.exec (is := [0, 1, 2]) (hs := [.p, .b 0, .p]) (rest := []) (ks := [4, 5]) (env' := [(4, .pointer (some ⟨b_6, 0, none⟩)), (5, .bool false)]) (H' := [⟨40, b_6, [.int .i64 0, .int .i64 0, .int .i64 0, .int .u64 0, .int .u64 0, .int .u64 0, .int .u64 0, .bool false, .slice none ([] : List T_api_Entry).length 0, .string (bs [])]⟩, ⟨1, b_2, [.slice A_3 n_1.l.length c_4, .int .i64 n_1.lost]⟩]) (ps := [b_6 = b_6]) (by kernel_rfl) (And.intro rfl trivial) ?_
    refine GoO.regionEnd ?_
    refine GoO.nilRd kT_api_Entry ?_
    exact GoO.ret' (h := c17_10e) (hs := [0]) (ps := [b_6 = b_6]) (hk := [1]) (bk := [0, 1]) Try.func17 (⟨none, 0, A_3, c_4⟩ : Option Addr × Nat × Option Addr × Nat) (by kernel_rfl) (And.intro rfl trivial) (by kernel_rfl) (by kernel_rfl)
  · refine GoO.skip' c17_11e ?_
    refine GoO.seq' c17_12e ?_
    refine GoO.region' (is := [0, 1, 2, 3, 4, 5, 6, 7, 8]) c17_13e (by kernel_rfl) ?_
    refine GoO.exec (is := [0, 1, 2, 3, 4]) (hs := [.p, .p, .p, .b 1, .p]) (rest := [5, 6, 7, 8]) (ks := [0, 4, 6, 17, 18]) (env' := [(0, .pointer (some ⟨b_2, 0, none⟩)), (4, .pointer (some ⟨b_6, 0, none⟩)), (6, .int .i64 r_7), (17, .slice A_3 n_1.l.length c_4), (18, .int .i64 r_7)]) (H' := [⟨40, b_6, [.int .i64 0, .int .i64 0, .int .i64 0, .int .u64 0, .int .u64 0, .int .u64 0, .int .u64 0, .bool false, .slice none ([] : List T_api_Entry).length 0, .string (bs [])]⟩, ⟨1, b_2, [.slice A_3 n_1.l.length c_4, .int .i64 n_1.lost]⟩]) (ps := [b_2 = b_2]) (by kernel_rfl) (And.intro rfl trivial) ?_
    refine GoO.guard (fun h9 => ?_)
    refine OpTo.go (GoO.idx (kk := .i64) (e := 29) (K := kT_api_Letter) (A := A_3) (c := c_4) (xs := n_1.l) (iv := r_7) (j := 0) rfl (by kernel_rfl) (by kernel_rfl) (by kernel_rfl) (by kernel_rfl) rfl Reads.own rfl h9.1 h9.2 (by decide) rfl ?_)
    refine OpTo.go (GoO.ldE' (K := kT_api_Letter) (A := A_3) (c := c_4) (xs := n_1.l) (iN := r_7.toNat) (off := 0) (j := 0) rfl (by kernel_rfl) rfl Reads.own (by first | exact idx_lt h9.1 h9.2 | (simp only [List.length_set]; exact idx_lt h9.1 h9.2)) (by decide) (oT_api_Letter _) (v := fun e => .agg ⟨[.int .i64 ((rdL n_1.l r_7).Kind), .int .i64 ((rdL n_1.l r_7).From), .int .i64 ((rdL n_1.l r_7).To), .int .u64 ((rdL n_1.l r_7).Term), .int .u64 ((rdL n_1.l r_7).Index), .int .u64 ((rdL n_1.l r_7).Prev), .int .u64 ((rdL n_1.l r_7).Commit), .bool ((rdL n_1.l r_7).Ok), .slice e.1 ((rdL n_1.l r_7).Entries).length e.2, .string (bs ((rdL n_1.l r_7).Data))]⟩) (fun _ => by kernel_rfl) _ (fun _ => rfl) ?_)
    rintro ⟨A_10, c_11⟩
    refine OpTo.go (GoO.new rfl 41 (cs := [.int .i64 0, .int .i64 0, .int .i64 0, .int .u64 0, .int .u64 0, .int .u64 0, .int .u64 0, .bool false, .slice none ([] : List T_api_Entry).length 0, .string (bs [])]) (by kernel_rfl) _ (fun _ => rfl) (fun b_12 => ?_))
    refine GoO.exec (is := [8]) (hs := [.b 0]) (rest := []) (ks := [0, 4, 6, 7]) (env' := [(0, .pointer (some ⟨b_2, 0, none⟩)), (4, .pointer (some ⟨b_6, 0, none⟩)), (6, .int .i64 r_7), (7, .pointer (some ⟨b_12, 0, none⟩))]) (H' := [⟨41, b_12, [.int .i64 ((rdL n_1.l r_7).Kind), .int .i64 ((rdL n_1.l r_7).From), .int .i64 ((rdL n_1.l r_7).To), .int .u64 ((rdL n_1.l r_7).Term), .int .u64 ((rdL n_1.l r_7).Index), .int .u64 ((rdL n_1.l r_7).Prev), .int .u64 ((rdL n_1.l r_7).Commit), .bool ((rdL n_1.l r_7).Ok), .slice A_10 ((rdL n_1.l r_7).Entries).length c_11, .string (bs ((rdL n_1.l r_7).Data))]⟩, ⟨40, b_6, [.int .i64 0, .int .i64 0, .int .i64 0, .int .u64 0, .int .u64 0, .int .u64 0, .int .u64 0, .bool false, .slice none ([] : List T_api_Entry).length 0, .string (bs [])]⟩, ⟨1, b_2, [.slice A_3 n_1.l.length c_4, .int .i64 n_1.lost]⟩]) (ps := [b_12 = b_12]) (by kernel_rfl) (And.intro rfl trivial) ?_
    refine GoO.regionEnd ?_
    refine GoO.seq' c17_14e ?_
    refine GoO.draw c17_15e (by kernel_rfl) [16, 17, 18] [⟨1, b_2, [.slice A_3 n_1.l.length c_4, .int .i64 n_1.lost]⟩] [] (n := 19) (by kernel_rfl) ?_
    simp only [List.replicate]
    refine GoF.take [0, 1, 2, 3, 4, 5, 6, 8, 9, 10, 11, 12, 13] [.p, .p, .p, .p, .b 0, .p, .p, .p, .p, .p, .b 0, .p, .p] (ks := [4, 7, 21, 25, 26, 27, 32, 34]) (fu := 6) (li := [true, true, true, true, true, true, true, false, true, true, true, true, true, true, false, false, false, false, false]) (env' := [(4, .pointer (some ⟨b_6, 0, none⟩)), (7, .pointer (some ⟨b_12, 0, none⟩)), (21, .pointer (some ⟨b_2, 0, none⟩)), (25, .slice A_3 n_1.l.length c_4), (26, .int .i64 r_7), (27, .int .i64 r_7), (32, .slice A_3 n_1.l.length c_4), (34, .int .i64 (wi64 (r_7 + 1)))]) (ps := [b_2 = b_2, b_2 = b_2]) (hk := [2]) (bk := []) (by kernel_rfl) (And.intro rfl (And.intro rfl trivial)) rfl rfl ?_
    refine GoF.guard (fun h13 => ?_)
    refine GoF.cut1 (i := 7) (hk := [2]) (bk := []) (e := 29) (K := kT_api_Letter) (A := A_3) (c := c_4) (xs := n_1.l) (h := r_7) (tg := 2) (j := 1) (by kernel_rfl) rfl rfl rfl (by kernel_rfl) (by kernel_rfl) (by kernel_rfl) rfl rfl (by kernel_rfl) (by kernel_rfl) h13.1 h13.2 rfl ?_
    refine GoF.guard (fun h16 => ?_)
    refine GoF.slc1 (i := 14) (hk := [2]) (bk := []) (e := 29) (K := kT_api_Letter) (A := A_3) (c := c_4) (xs := n_1.l) (j := 1) (l := (wi64 (r_7 + 1))) (h := (n_1.l.length : Int)) (by kernel_rfl) rfl rfl rfl (by kernel_rfl) (by kernel_rfl) (by kernel_rfl) rfl Reads.own rfl (by kernel_rfl) (by kernel_rfl) h16.1 h16.2.1 h16.2.2 _ (fun _ _ => rfl) (fun A_14 c_15 => ?_)
    refine GoF.guard (fun h17 => ?_)
    refine OpTo.goF (i := 15) (by kernel_rfl) (hk := [2]) (bk := []) (GoO.appC (e := 29) (K := kT_api_Letter) (A := A_3) (c0 := c_4) (m := r_7.toNat) (tg := 2) (bytes := 104) (zs := [.int .i64 0, .int .i64 0, .int .i64 0, .int .u64 0, .int .u64 0, .int .u64 0, .int .u64 0, .bool false, .slice none 0 0, .string (bs [])]) (xs := n_1.l) (ys := (n_1.l.take (n_1.l.length : Int).toNat).drop (wi64 (r_7 + 1)).toNat) (xv := .slice A_14 ((n_1.l.take (n_1.l.length : Int).toNat).drop (wi64 (r_7 + 1)).toNat).length c_15) (j := 2) (bk := [1]) rfl (by kernel_rfl) (by kernel_rfl) (by kernel_rfl) (by kernel_rfl) rfl (by kernel_rfl) rfl (by omega) (fun w S hB => SrcIs.row (Reads.rd w S (hB _ (List.mem_of_getElem? (i := 0) rfl)))) h17 rfl rfl rfl rfl _ (fun _ _ => rfl) (fun A_18 c_19 => ⟨rfl, rfl, ?_⟩))
    refine GoF.fin1 (i := 16) (hint := .p) (ps := []) (hk := []) (bk := []) (by kernel_rfl) rfl trivial (.inl rfl) ?_
    refine GoF.fin1 (i := 17) (hint := .p) (ps := []) (hk := []) (bk := []) (by kernel_rfl) rfl trivial (.inl rfl) ?_
    refine GoF.fin1 (i := 18) (hint := .b 2) (ps := [b_2 = b_2]) (hk := []) (bk := []) (by kernel_rfl) rfl (And.intro rfl trivial) (.inl rfl) ?_
    refine GoF.done (by kernel_rfl) ?_
    refine GoO.seq' c17_16e ?_
    refine GoO.region' (is := [0, 1, 2]) c17_17e (by kernel_rfl) ?_
    refine GoO.exec (is := [0, 1, 2]) (hs := [.b 0, .b 1, .p]) (rest := []) (ks := [4, 5]) (env' := [(4, .pointer (some ⟨b_6, 0, none⟩)), (5, .bool true)]) (H' := [⟨41, b_12, [.int .i64 ((rdL n_1.l r_7).Kind), .int .i64 ((rdL n_1.l r_7).From), .int .i64 ((rdL n_1.l r_7).To), .int .u64 ((rdL n_1.l r_7).Term), .int .u64 ((rdL n_1.l r_7).Index), .int .u64 ((rdL n_1.l r_7).Prev), .int .u64 ((rdL n_1.l r_7).Commit), .bool ((rdL n_1.l r_7).Ok), .slice A_10 ((rdL n_1.l r_7).Entries).length c_11, .string (bs ((rdL n_1.l r_7).Data))]⟩, ⟨40, b_6, [.int .i64 ((rdL n_1.l r_7).Kind), .int .i64 ((rdL n_1.l r_7).From), .int .i64 ((rdL n_1.l r_7).To), .int .u64 ((rdL n_1.l r_7).Term), .int .u64 ((rdL n_1.l r_7).Index), .int .u64 ((rdL n_1.l r_7).Prev), .int .u64 ((rdL n_1.l r_7).Commit), .bool ((rdL n_1.l r_7).Ok), .slice A_10 ((rdL n_1.l r_7).Entries).length c_11, .string (bs ((rdL n_1.l r_7).Data))]⟩, ⟨1, b_2, [.slice A_18 (n_1.l.take r_7.toNat ++ ((n_1.l.take (n_1.l.length : Int).toNat).drop (wi64 (r_7 + 1)).toNat)).length c_19, .int .i64 n_1.lost]⟩]) (ps := [b_12 = b_12, b_6 = b_6]) (by kernel_rfl) (And.intro rfl (And.intro rfl trivial)) ?_
    refine GoO.regionEnd ?_
    exact GoO.ret' (h := c17_18e) (hs := [1]) (ps := [b_6 = b_6]) (hk := [2]) (bk := [1, 0]) Try.func17 (⟨A_10, c_11, A_18, c_19⟩ : Option Addr × Nat × Option Addr × Nat) (by kernel_rfl) (And.intro rfl trivial) (by kernel_rfl) (by kernel_rfl)

/-! (*tontine/net.Net).Count -/
noncomputable def c19_0 : Code := bodyOf Try.f19
noncomputable def c19_1 : Code := cdL c19_0
noncomputable def c19_2 : Code := cdR c19_0
noncomputable def c19_3 : Code := cdL c19_2
noncomputable def c19_4 : Code := cdL c19_3
noncomputable def c19_5 : Code := cdR c19_3
noncomputable def c19_9 : Code := cdR c19_5
noncomputable def c19_10 : Code := cdR c19_2
noncomputable def c19_11 : Code := cdL c19_10
noncomputable def c19_12 : Code := cdR c19_10
noncomputable def c19_6 : Code := cdL c19_5
noncomputable def r19_1 : Array Oper := cdO c19_1
noncomputable def r19_4 : Array Oper := cdO c19_4
noncomputable def r19_11 : Array Oper := cdO c19_11
theorem c19_0e : c19_0 = .seq c19_1 c19_2 := by kernel_rfl
theorem c19_1e : c19_1 = .region 0 r19_1 false := by kernel_rfl
theorem c19_2e : c19_2 = .seq c19_3 c19_10 := by kernel_rfl
theorem c19_3e : c19_3 = .seq c19_4 c19_5 := by kernel_rfl
theorem c19_4e : c19_4 = .region 1 r19_4 false := by kernel_rfl
theorem c19_5e : c19_5 = .cond (cdC c19_5) c19_6 c19_9 := by kernel_rfl
theorem c19_9e : c19_9 = .skip := by kernel_rfl
theorem c19_10e : c19_10 = .seq c19_11 c19_12 := by kernel_rfl
theorem c19_11e : c19_11 = .region 3 r19_11 true := by kernel_rfl
theorem c19_12e : c19_12 = .ret := by kernel_rfl
noncomputable def net_Net_Count.R (b_2 : Nat) (A_3 : Option Addr) (c_4 : Nat) : Pst (Int × Int) where
  ε := Unit
  v := fun r x => .tuple ⟨[.int .i64 r.1, .int .i64 r.2]⟩
  H := fun r x => []
  B := fun r x => []
noncomputable def net_Net_Count.cx (b_2 : Nat) (A_3 : Option Addr) (c_4 : Nat) (w0 : World) (S0 : Fam) : Cx (Int × Int) := ⟨Try.prog, 19, Try.f19, 15, w0, S0, [], 2, net_Net_Count.R b_2 A_3 c_4⟩
theorem net_Net_Count_ok (n : Nat) (n_1 : T_net_Net) (b_2 : Nat) (A_3 : Option Addr) (c_4 : Nat) :
    Meets Try.prog 19 [.pointer (some ⟨b_2, 0, none⟩)] 2 [] [⟨1, b_2, [.slice A_3 n_1.l.length c_4, .int .i64 n_1.lost]⟩] [Ow 2 kT_api_Letter A_3 c_4 n_1.l] (net_Net_Count.f n n_1) (net_Net_Count.R b_2 A_3 c_4) := by
  refine Meets.of (c := c19_0) (n := 15) Try.func19 (by kernel_rfl) (by kernel_rfl) (by kernel_rfl) fun w0 S0 => ?_
  unfold net_Net_Count.f
  show GoO (net_Net_Count.cx b_2 A_3 c_4 w0 S0) [(0, .pointer (some ⟨b_2, 0, none⟩))] [⟨1, b_2, [.slice A_3 n_1.l.length c_4, .int .i64 n_1.lost]⟩] [Ow 2 kT_api_Letter A_3 c_4 n_1.l] [.code c19_0] _
  refine GoO.seq' c19_0e ?_
  refine GoO.region' (is := [0, 1]) c19_1e (by kernel_rfl) ?_
  refine GoO.exec (is := [0, 1]) (hs := [.p, .p]) (rest := []) (ks := [0]) (env' := [(0, .pointer (some ⟨b_2, 0, none⟩))]) (H' := [⟨1, b_2, [.slice A_3 n_1.l.length c_4, .int .i64 n_1.lost]⟩]) (ps := []) (by kernel_rfl) trivial ?_
  refine GoO.regionEnd ?_
  refine GoO.seq' c19_2e ?_
  refine GoO.seq' c19_3e ?_
  refine GoO.region' (is := [0, 1]) c19_4e (by kernel_rfl) ?_
  refine GoO.exec (is := [0, 1]) (hs := [.p, .p]) (rest := []) (ks := [0, 5]) (env' := [(0, .pointer (some ⟨b_2, 0, none⟩)), (5, .bool false)]) (H' := [⟨1, b_2, [.slice A_3 n_1.l.length c_4, .int .i64 n_1.lost]⟩]) (ps := []) (by kernel_rfl) trivial ?_
  refine GoO.regionEnd ?_
  refine GoO.condF c19_5e (by kernel_rfl) ?_
  refine GoO.skip' c19_9e ?_
  refine GoO.seq' c19_10e ?_
  refine GoO.draw c19_11e (by kernel_rfl) [10] [⟨1, b_2, [.slice A_3 n_1.l.length c_4, .int .i64 n_1.lost]⟩] [] (n := 11) (by kernel_rfl) ?_
  simp only [List.replicate]
  refine GoF.take [0, 1, 2, 3, 4, 5, 6, 7, 8, 9] [.p, .p, .p, .b 0, .p, .p, .p, .p, .b 0, .p] (ks := [2, 14]) (fu := 1) (li := [true, true, true, true, true, true, true, true, true, true, false]) (env' := [(2, .int .i64 (n_1.l.length : Int)), (14, .int .i64 n_1.lost)]) (ps := [b_2 = b_2, b_2 = b_2]) (hk := [0]) (bk := []) (by kernel_rfl) (And.intro rfl (And.intro rfl trivial)) rfl rfl ?_
  refine GoF.fin1 (i := 10) (hint := .p) (ps := []) (hk := []) (bk := []) (by kernel_rfl) rfl trivial (.inl rfl) ?_
  refine GoF.done (by kernel_rfl) ?_
  exact GoO.ret' (h := c19_12e) (hs := []) (ps := []) (hk := []) (bk := []) Try.func19 () (by kernel_rfl) trivial (by kernel_rfl) (by kernel_rfl)

/-! tontine/tontinelaw10.begun -/
noncomputable def c14_0 : Code := bodyOf Try.f14
noncomputable def c14_1 : Code := cdL c14_0
noncomputable def c14_2 : Code := cdR c14_0
noncomputable def c14_3 : Code := cdL c14_2
noncomputable def c14_4 : Code := cdR c14_2
noncomputable def c14_5 : Code := cdL c14_4
noncomputable def c14_6 : Code := cdR c14_4
noncomputable def c14_7 : Code := cdL c14_6
noncomputable def c14_8 : Code := cdR c14_6
noncomputable def c14_9 : Code := cdL c14_8
noncomputable def c14_10 : Code := cdR c14_8
noncomputable def c14_11 : Code := cdL c14_10
noncomputable def c14_12 : Code := cdR c14_10
noncomputable def r14_1 : Array Oper := cdO c14_1
noncomputable def r14_3 : Array Oper := cdO c14_3
noncomputable def r14_5 : Array Oper := cdO c14_5
noncomputable def r14_7 : Array Oper := cdO c14_7
noncomputable def r14_9 : Array Oper := cdO c14_9
noncomputable def r14_11 : Array Oper := cdO c14_11
theorem c14_0e : c14_0 = .seq c14_1 c14_2 := by kernel_rfl
theorem c14_1e : c14_1 = .region 0 r14_1 false := by kernel_rfl
theorem c14_2e : c14_2 = .seq c14_3 c14_4 := by kernel_rfl
theorem c14_3e : c14_3 = .region 1 r14_3 false := by kernel_rfl
theorem c14_4e : c14_4 = .seq c14_5 c14_6 := by kernel_rfl
theorem c14_5e : c14_5 = .region 2 r14_5 false := by kernel_rfl
theorem c14_6e : c14_6 = .seq c14_7 c14_8 := by kernel_rfl
theorem c14_7e : c14_7 = .region 3 r14_7 false := by kernel_rfl
theorem c14_8e : c14_8 = .seq c14_9 c14_10 := by kernel_rfl
theorem c14_9e : c14_9 = .region 4 r14_9 false := by kernel_rfl
theorem c14_10e : c14_10 = .seq c14_11 c14_12 := by kernel_rfl
theorem c14_11e : c14_11 = .region 5 r14_11 false := by kernel_rfl
theorem c14_12e : c14_12 = .ret := by kernel_rfl
noncomputable def tontinelaw10_begun.R : Pst Bool where
  ε := Unit
  v := fun r x => .bool r
  H := fun r x => []
  B := fun r x => []
noncomputable def tontinelaw10_begun.cx (w0 : World) (S0 : Fam) : Cx Bool := ⟨Try.prog, 14, Try.f14, 45, w0, S0, [], 0, tontinelaw10_begun.R⟩
theorem tontinelaw10_begun_ok (n : Nat) :
    Meets Try.prog 14 [] 0 [] [] [] (tontinelaw10_begun.f n) (tontinelaw10_begun.R) := by
  refine Meets.of (c := c14_0) (n := 45) Try.func14 (by kernel_rfl) (by kernel_rfl) (by kernel_rfl) fun w0 S0 => ?_
  unfold tontinelaw10_begun.f
  show GoO (tontinelaw10_begun.cx w0 S0) [] [] [] [.code c14_0] _
  refine GoO.seq' c14_0e ?_
  refine GoO.region' (is := [0]) c14_1e (by kernel_rfl) ?_
  refine GoO.exec (is := [0]) (hs := [.p]) (rest := []) (ks := []) (env' := []) (H' := []) (ps := []) (by kernel_rfl) trivial ?_
  refine GoO.regionEnd ?_
  refine GoO.seq' c14_2e ?_
  refine GoO.region' (is := [0, 1]) c14_3e (by kernel_rfl) ?_
  refine OpTo.go (GoO.call rfl (by kernel_rfl) (by kernel_rfl) (net_New_ok n) [[0]] [(40, 1), (41, 2)] [] [] (hks := []) (bks := []) (by kernel_rfl) (by kernel_rfl) (by kernel_rfl) (.inl rfl) rfl rfl (by kernel_rfl) (by kernel_rfl) _ (fun _ _ => rfl) _ _ (fun _ _ => rfl) (fun _ _ => rfl) (fun _ _ => by kernel_rfl) (fun _ _ => by kernel_rfl) (fun r_1 x_27 => ?_))
  obtain ⟨b_2, A_3, c_4⟩ := x_27
  refine GoO.shape (env' := [(8, .pointer (some ⟨b_2, 0, none⟩))]) (H' := [⟨40, b_2, [.slice A_3 r_1.l.length c_4, .int .i64 r_1.lost]⟩]) (B' := [Ow 41 kT_api_Letter A_3 c_4 r_1.l]) (ks := [8]) (by kernel_rfl) (by kernel_rfl) (by kernel_rfl) ?_
  refine GoO.exec (is := [1]) (hs := [.p]) (rest := []) (ks := [1]) (env' := [(1, .pointer (some ⟨b_2, 0, none⟩))]) (H' := [⟨40, b_2, [.slice A_3 r_1.l.length c_4, .int .i64 r_1.lost]⟩]) (ps := []) (by kernel_rfl) trivial ?_
  refine GoO.regionEnd ?_
  refine GoO.seq' c14_4e ?_
  refine GoO.region' (is := [0, 1, 2, 3, 4, 5, 6, 7]) c14_5e (by kernel_rfl) ?_
  refine GoO.exec (is := [0, 1]) (hs := [.p, .p]) (rest := [2, 3, 4, 5, 6, 7]) (ks := [1, 9, 10]) (env' := [(1, .pointer (some ⟨b_2, 0, none⟩)), (9, .pointer (some ⟨b_2, 0, none⟩)), (10, .agg ⟨[.int .i64 1, .int .i64 0, .int .i64 0, .int .u64 0, .int .u64 0, .int .u64 0, .int .u64 0, .bool false, .slice none ([] : List T_api_Entry).length 0, .string (bs [])]⟩)]) (H' := [⟨40, b_2, [.slice A_3 r_1.l.length c_4, .int .i64 r_1.lost]⟩]) (ps := []) (by kernel_rfl) trivial ?_
  refine GoO.nilRd kT_api_Entry ?_
  refine OpTo.go (GoO.call rfl (by kernel_rfl) (by kernel_rfl) (net_Net_Send_ok n r_1 (⟨1, 0, 0, 0, 0, 0, 0, false, [], []⟩ : T_api_Letter) b_2 A_3 c_4 none 0) [[0], [40], [41]] [(40, 1), (41, 2)] [(1, 0)] [(2, 1), (0, 0)] (hks := []) (bks := [0]) (by kernel_rfl) (by kernel_rfl) (by kernel_rfl) (.inl rfl) rfl rfl (by kernel_rfl) (by kernel_rfl) _ (fun _ _ => rfl) _ _ (fun _ _ => rfl) (fun _ _ => rfl) (fun _ _ => by kernel_rfl) (fun _ _ => by kernel_rfl) (fun r_5 x_26 => ?_))
  obtain ⟨A_6, c_7⟩ := x_26
  refine GoO.shape (env' := [(1, .pointer (some ⟨b_2, 0, none⟩)), (9, .pointer (some ⟨b_2, 0, none⟩)), (10, .agg ⟨[.int .i64 1, .int .i64 0, .int .i64 0, .int .u64 0, .int .u64 0, .int .u64 0, .int .u64 0, .bool false, .slice none ([] : List T_api_Entry).length 0, .string (bs [])]⟩), (11, .bool r_5.1)]) (H' := [⟨40, b_2, [.slice A_6 r_5.2.l.length c_7, .int .i64 r_5.2.lost]⟩]) (B' := [Ow 41 kT_api_Letter A_6 c_7 r_5.2.l, Rd 0 kT_api_Entry none 0 ([] : List T_api_Entry)]) (ks := [1, 9, 10, 11]) (by kernel_rfl) (by kernel_rfl) (by kernel_rfl) ?_
  refine GoO.exec (is := [3, 4]) (hs := [.p, .p]) (rest := [5, 6, 7]) (ks := [1, 11, 12, 13]) (env' := [(1, .pointer (some ⟨b_2, 0, none⟩)), (11, .bool r_5.1), (12, .pointer (some ⟨b_2, 0, none⟩)), (13, .agg ⟨[.int .i64 2, .int .i64 0, .int .i64 0, .int .u64 0, .int .u64 0, .int .u64 0, .int .u64 0, .bool false, .slice none ([] : List T_api_Entry).length 0, .string (bs [])]⟩)]) (H' := [⟨40, b_2, [.slice A_6 r_5.2.l.length c_7, .int .i64 r_5.2.lost]⟩]) (ps := []) (by kernel_rfl) trivial ?_
  refine GoO.nilRd kT_api_Entry ?_
  refine OpTo.go (GoO.call rfl (by kernel_rfl) (by kernel_rfl) (net_Net_Send_ok n r_5.2 (⟨2, 0, 0, 0, 0, 0, 0, false, [], []⟩ : T_api_Letter) b_2 A_6 c_7 none 0) [[0], [40], [41]] [(40, 1), (41, 2)] [(1, 0)] [(2, 1), (0, 0)] (hks := []) (bks := [0, 2]) (by kernel_rfl) (by kernel_rfl) (by kernel_rfl) (.inl rfl) rfl rfl (by kernel_rfl) (by kernel_rfl) _ (fun _ _ => rfl) _ _ (fun _ _ => rfl) (fun _ _ => rfl) (fun _ _ => by kernel_rfl) (fun _ _ => by kernel_rfl) (fun r_8 x_25 => ?_))
  obtain ⟨A_9, c_10⟩ := x_25
  refine GoO.shape (env' := [(1, .pointer (some ⟨b_2, 0, none⟩)), (11, .bool r_5.1), (12, .pointer (some ⟨b_2, 0, none⟩)), (13, .agg ⟨[.int .i64 2, .int .i64 0, .int .i64 0, .int .u64 0, .int .u64 0, .int .u64 0, .int .u64 0, .bool false, .slice none ([] : List T_api_Entry).length 0, .string (bs [])]⟩), (14, .bool r_8.1)]) (H' := [⟨40, b_2, [.slice A_9 r_8.2.l.length c_10, .int .i64 r_8.2.lost]⟩]) (B' := [Ow 41 kT_api_Letter A_9 c_10 r_8.2.l, Rd 0 kT_api_Entry none 0 ([] : List T_api_Entry), Rd 0 kT_api_Entry none 0 ([] : List T_api_Entry)]) (ks := [1, 11, 12, 13, 14]) (by kernel_rfl) (by kernel_rfl) (by kernel_rfl) ?_
  refine GoO.exec (is := [6, 7]) (hs := [.p, .p]) (rest := []) (ks := [1, 2, 3]) (env' := [(1, .pointer (some ⟨b_2, 0, none⟩)), (2, .bool r_5.1), (3, .bool r_8.1)]) (H' := [⟨40, b_2, [.slice A_9 r_8.2.l.length c_10, .int .i64 r_8.2.lost]⟩]) (ps := []) (by kernel_rfl) trivial ?_
  refine GoO.regionEnd ?_
  refine GoO.seq' c14_6e ?_
  refine GoO.region' (is := [0, 1, 2, 3, 4, 5, 6, 7]) c14_7e (by kernel_rfl) ?_
  refine GoO.exec (is := [0]) (hs := [.p]) (rest := [1, 2, 3, 4, 5, 6, 7]) (ks := [1, 2, 3, 16]) (env' := [(1, .pointer (some ⟨b_2, 0, none⟩)), (2, .bool r_5.1), (3, .bool r_8.1), (16, .pointer (some ⟨b_2, 0, none⟩))]) (H' := [⟨40, b_2, [.slice A_9 r_8.2.l.length c_10, .int .i64 r_8.2.lost]⟩]) (ps := []) (by kernel_rfl) trivial ?_
  refine OpTo.go (GoO.call rfl (by kernel_rfl) (by kernel_rfl) (net_Net_Take_ok n r_8.2 3 b_2 A_9 c_10) [[0], [40], [41]] [(40, 1), (41, 2)] [(1, 0)] [(2, 0)] (hks := []) (bks := [1, 2]) (by kernel_rfl) (by kernel_rfl) (by kernel_rfl) (.inl rfl) rfl rfl (by kernel_rfl) (by kernel_rfl) _ (fun _ _ => rfl) _ _ (fun _ _ => rfl) (fun _ _ => rfl) (fun _ _ => by kernel_rfl) (fun _ _ => by kernel_rfl) (fun r_11 x_24 => ?_))
  obtain ⟨A_12, c_13, A_14, c_15⟩ := x_24
  refine GoO.shape (env' := [(1, .pointer (some ⟨b_2, 0, none⟩)), (2, .bool r_5.1), (3, .bool r_8.1), (16, .pointer (some ⟨b_2, 0, none⟩)), (17, .tuple ⟨[.agg ⟨[.int .i64 r_11.1.Kind, .int .i64 r_11.1.From, .int .i64 r_11.1.To, .int .u64 r_11.1.Term, .int .u64 r_11.1.Index, .int .u64 r_11.1.Prev, .int .u64 r_11.1.Commit, .bool r_11.1.Ok, .slice A_12 r_11.1.Entries.length c_13, .string (bs r_11.1.Data)]⟩, .bool r_11.2.1]⟩)]) (H' := [⟨40, b_2, [.slice A_14 r_11.2.2.l.length c_15, .int .i64 r_11.2.2.lost]⟩]) (B' := [Rd 0 kT_api_Entry A_12 c_13 r_11.1.Entries, Ow 41 kT_api_Letter A_14 c_15 r_11.2.2.l, Rd 0 kT_api_Entry none 0 ([] : List T_api_Entry), Rd 0 kT_api_Entry none 0 ([] : List T_api_Entry)]) (ks := [1, 2, 3, 16, 17]) (by kernel_rfl) (by kernel_rfl) (by kernel_rfl) ?_
  refine GoO.exec (is := [2, 3, 4]) (hs := [.p, .p, .p]) (rest := [5, 6, 7]) (ks := [1, 2, 3, 18, 19]) (env' := [(1, .pointer (some ⟨b_2, 0, none⟩)), (2, .bool r_5.1), (3, .bool r_8.1), (18, .agg ⟨[.int .i64 r_11.1.Kind, .int .i64 r_11.1.From, .int .i64 r_11.1.To, .int .u64 r_11.1.Term, .int .u64 r_11.1.Index, .int .u64 r_11.1.Prev, .int .u64 r_11.1.Commit, .bool r_11.1.Ok, .slice A_12 r_11.1.Entries.length c_13, .string (bs r_11.1.Data)]⟩), (19, .bool r_11.2.1)]) (H' := [⟨40, b_2, [.slice A_14 r_11.2.2.l.length c_15, .int .i64 r_11.2.2.lost]⟩]) (ps := []) (by kernel_rfl) trivial ?_
  refine OpTo.go (GoO.new rfl 42 (cs := [.int .i64 0, .int .i64 0, .int .i64 0, .int .u64 0, .int .u64 0, .int .u64 0, .int .u64 0, .bool false, .slice none ([] : List T_api_Entry).length 0, .string (bs [])]) (by kernel_rfl) _ (fun _ => rfl) (fun b_16 => ?_))
  refine GoO.exec (is := [6, 7]) (hs := [.b 0, .p]) (rest := []) (ks := [1, 2, 3, 4, 5]) (env' := [(1, .pointer (some ⟨b_2, 0, none⟩)), (2, .bool r_5.1), (3, .bool r_8.1), (4, .pointer (some ⟨b_16, 0, none⟩)), (5, .bool r_11.2.1)]) (H' := [⟨42, b_16, [.int .i64 r_11.1.Kind, .int .i64 r_11.1.From, .int .i64 r_11.1.To, .int .u64 r_11.1.Term, .int .u64 r_11.1.Index, .int .u64 r_11.1.Prev, .int .u64 r_11.1.Commit, .bool r_11.1.Ok, .slice A_12 r_11.1.Entries.length c_13, .string (bs r_11.1.Data)]⟩, ⟨40, b_2, [.slice A_14 r_11.2.2.l.length c_15, .int .i64 r_11.2.2.lost]⟩]) (ps := [b_16 = b_16]) (by kernel_rfl) (And.intro rfl trivial) ?_
  refine GoO.regionEnd ?_
  refine GoO.seq' c14_8e ?_
  refine GoO.region' (is := [0, 1, 2, 3, 4, 5, 6]) c14_9e (by kernel_rfl) ?_
  refine GoO.exec (is := [0]) (hs := [.p]) (rest := [1, 2, 3, 4, 5, 6]) (ks := [2, 3, 4, 5, 21]) (env' := [(2, .bool r_5.1), (3, .bool r_8.1), (4, .pointer (some ⟨b_16, 0, none⟩)), (5, .bool r_11.2.1), (21, .pointer (some ⟨b_2, 0, none⟩))]) (H' := [⟨42, b_16, [.int .i64 r_11.1.Kind, .int .i64 r_11.1.From, .int .i64 r_11.1.To, .int .u64 r_11.1.Term, .int .u64 r_11.1.Index, .int .u64 r_11.1.Prev, .int .u64 r_11.1.Commit, .bool r_11.1.Ok, .slice A_12 r_11.1.Entries.length c_13, .string (bs r_11.1.Data)]⟩, ⟨40, b_2, [.slice A_14 r_11.2.2.l.length c_15, .int .i64 r_11.2.2.lost]⟩]) (ps := []) (by kernel_rfl) trivial ?_
  refine OpTo.go (GoO.call rfl (by kernel_rfl) (by kernel_rfl) (net_Net_Count_ok n r_11.2.2 b_2 A_14 c_15) [[0], [40], [41]] [] [(1, 1)] [(2, 1)] (hks := [0, 1]) (bks := [0, 1, 2, 3]) (by kernel_rfl) (by kernel_rfl) (by kernel_rfl) (.inl rfl) rfl rfl (by kernel_rfl) (by kernel_rfl) _ (fun _ _ => rfl) _ _ (fun _ _ => rfl) (fun _ _ => rfl) (fun _ _ => by kernel_rfl) (fun _ _ => by kernel_rfl) (fun r_17 x_23 => ?_))
  refine GoO.shape (env' := [(2, .bool r_5.1), (3, .bool r_8.1), (4, .pointer (some ⟨b_16, 0, none⟩)), (5, .bool r_11.2.1), (21, .pointer (some ⟨b_2, 0, none⟩)), (22, .tuple ⟨[.int .i64 r_17.1, .int .i64 r_17.2]⟩)]) (H' := [⟨42, b_16, [.int .i64 r_11.1.Kind, .int .i64 r_11.1.From, .int .i64 r_11.1.To, .int .u64 r_11.1.Term, .int .u64 r_11.1.Index, .int .u64 r_11.1.Prev, .int .u64 r_11.1.Commit, .bool r_11.1.Ok, .slice A_12 r_11.1.Entries.length c_13, .string (bs r_11.1.Data)]⟩, ⟨40, b_2, [.slice A_14 r_11.2.2.l.length c_15, .int .i64 r_11.2.2.lost]⟩]) (B' := [Rd 0 kT_api_Entry A_12 c_13 r_11.1.Entries, Ow 41 kT_api_Letter A_14 c_15 r_11.2.2.l, Rd 0 kT_api_Entry none 0 ([] : List T_api_Entry), Rd 0 kT_api_Entry none 0 ([] : List T_api_Entry)]) (ks := [2, 3, 4, 5, 21, 22]) (by kernel_rfl) (by kernel_rfl) (by kernel_rfl) ?_
  refine GoO.exec (is := [2, 3, 4, 5, 6]) (hs := [.p, .p, .p, .p, .p]) (rest := []) (ks := [2, 3, 4, 5, 6, 7]) (env' := [(2, .bool r_5.1), (3, .bool r_8.1), (4, .pointer (some ⟨b_16, 0, none⟩)), (5, .bool r_11.2.1), (6, .int .i64 r_17.1), (7, .int .i64 r_17.2)]) (H' := [⟨42, b_16, [.int .i64 r_11.1.Kind, .int .i64 r_11.1.From, .int .i64 r_11.1.To, .int .u64 r_11.1.Term, .int .u64 r_11.1.Index, .int .u64 r_11.1.Prev, .int .u64 r_11.1.Commit, .bool r_11.1.Ok, .slice A_12 r_11.1.Entries.length c_13, .string (bs r_11.1.Data)]⟩, ⟨40, b_2, [.slice A_14 r_11.2.2.l.length c_15, .int .i64 r_11.2.2.lost]⟩]) (ps := []) (by kernel_rfl) trivial ?_
  refine GoO.regionEnd ?_
  refine GoO.seq' c14_10e ?_
  refine GoO.region' (is := [0, 1, 2, 3, 4, 5, 6, 7, 8, 9, 10, 11, 12, 13, 14, 15, 16, 17, 18, 19, 20]) c14_11e (by kernel_rfl) ?_
  refine GoO.exec (is := [0, 1]) (hs := [.p, .p]) (rest := [2, 3, 4, 5, 6, 7, 8, 9, 10, 11, 12, 13, 14, 15, 16, 17, 18, 19, 20]) (ks := [3, 4, 5, 6, 7, 26]) (env' := [(3, .bool r_8.1), (4, .pointer (some ⟨b_16, 0, none⟩)), (5, .bool r_11.2.1), (6, .int .i64 r_17.1), (7, .int .i64 r_17.2), (26, .bool r_5.1)]) (H' := [⟨42, b_16, [.int .i64 r_11.1.Kind, .int .i64 r_11.1.From, .int .i64 r_11.1.To, .int .u64 r_11.1.Term, .int .u64 r_11.1.Index, .int .u64 r_11.1.Prev, .int .u64 r_11.1.Commit, .bool r_11.1.Ok, .slice A_12 r_11.1.Entries.length c_13, .string (bs r_11.1.Data)]⟩, ⟨40, b_2, [.slice A_14 r_11.2.2.l.length c_15, .int .i64 r_11.2.2.lost]⟩]) (ps := []) (by kernel_rfl) trivial ?_
  refine GoO.bsplit (t := 26) (by kernel_rfl) (fun h18 => ?_) (fun h18 => ?_)
  · refine GoO.exec (is := [2, 3, 4]) (hs := [.p, .p, .p]) (rest := [5, 6, 7, 8, 9, 10, 11, 12, 13, 14, 15, 16, 17, 18, 19, 20]) (ks := [4, 5, 6, 7, 29]) (env' := [(4, .pointer (some ⟨b_16, 0, none⟩)), (5, .bool r_11.2.1), (6, .int .i64 r_17.1), (7, .int .i64 r_17.2), (29, .bool r_8.1)]) (H' := [⟨42, b_16, [.int .i64 r_11.1.Kind, .int .i64 r_11.1.From, .int .i64 r_11.1.To, .int .u64 r_11.1.Term, .int .u64 r_11.1.Index, .int .u64 r_11.1.Prev, .int .u64 r_11.1.Commit, .bool r_11.1.Ok, .slice A_12 r_11.1.Entries.length c_13, .string (bs r_11.1.Data)]⟩, ⟨40, b_2, [.slice A_14 r_11.2.2.l.length c_15, .int .i64 r_11.2.2.lost]⟩]) (ps := []) (by kernel_rfl) trivial ?_
    refine GoO.bsplit (t := 29) (by kernel_rfl) (fun h19 => ?_) (fun h19 => ?_)
    · refine GoO.exec (is := [5, 6, 7]) (hs := [.p, .p, .p]) (rest := [8, 9, 10, 11, 12, 13, 14, 15, 16, 17, 18, 19, 20]) (ks := [4, 6, 7, 32]) (env' := [(4, .pointer (some ⟨b_16, 0, none⟩)), (6, .int .i64 r_17.1), (7, .int .i64 r_17.2), (32, .bool r_11.2.1)]) (H' := [⟨42, b_16, [.int .i64 r_11.1.Kind, .int .i64 r_11.1.From, .int .i64 r_11.1.To, .int .u64 r_11.1.Term, .int .u64 r_11.1.Index, .int .u64 r_11.1.Prev, .int .u64 r_11.1.Commit, .bool r_11.1.Ok, .slice A_12 r_11.1.Entries.length c_13, .string (bs r_11.1.Data)]⟩, ⟨40, b_2, [.slice A_14 r_11.2.2.l.length c_15, .int .i64 r_11.2.2.lost]⟩]) (ps := []) (by kernel_rfl) trivial ?_
      refine GoO.bsplit (t := 32) (by kernel_rfl) (fun h20 => ?_) (fun h20 => ?_)
      · refine GoO.exec (is := [8, 9, 10, 11, 12]) (hs := [.p, .b 0, .p, .p, .p]) (rest := [13, 14, 15, 16, 17, 18, 19, 20]) (ks := [6, 7, 37]) (env' := [(6, .int .i64 r_17.1), (7, .int .i64 r_17.2), (37, .bool (r_11.1.Kind == 2))]) (H' := [⟨42, b_16, [.int .i64 r_11.1.Kind, .int .i64 r_11.1.From, .int .i64 r_11.1.To, .int .u64 r_11.1.Term, .int .u64 r_11.1.Index, .int .u64 r_11.1.Prev, .int .u64 r_11.1.Commit, .bool r_11.1.Ok, .slice A_12 r_11.1.Entries.length c_13, .string (bs r_11.1.Data)]⟩, ⟨40, b_2, [.slice A_14 r_11.2.2.l.length c_15, .int .i64 r_11.2.2.lost]⟩]) (ps := [b_16 = b_16]) (by kernel_rfl) (And.intro rfl trivial) ?_
        refine GoO.bsplit (t := 37) (by kernel_rfl) (fun h21 => ?_) (fun h21 => ?_)
        · refine GoO.exec (is := [13, 14, 15, 16]) (hs := [.p, .p, .p, .p]) (rest := [17, 18, 19, 20]) (ks := [7, 41]) (env' := [(7, .int .i64 r_17.2), (41, .bool (r_17.1 == 1))]) (H' := [⟨42, b_16, [.int .i64 r_11.1.Kind, .int .i64 r_11.1.From, .int .i64 r_11.1.To, .int .u64 r_11.1.Term, .int .u64 r_11.1.Index, .int .u64 r_11.1.Prev, .int .u64 r_11.1.Commit, .bool r_11.1.Ok, .slice A_12 r_11.1.Entries.length c_13, .string (bs r_11.1.Data)]⟩, ⟨40, b_2, [.slice A_14 r_11.2.2.l.length c_15, .int .i64 r_11.2.2.lost]⟩]) (ps := []) (by kernel_rfl) trivial ?_
          refine GoO.bsplit (t := 41) (by kernel_rfl) (fun h22 => ?_) (fun h22 => ?_)
          · refine GoO.exec (is := [17, 18, 19, 20]) (hs := [.p, .p, .p, .p]) (rest := []) (ks := [0]) (env' := [(0, .bool (r_17.2 == 0))]) (H' := [⟨42, b_16, [.int .i64 r_11.1.Kind, .int .i64 r_11.1.From, .int .i64 r_11.1.To, .int .u64 r_11.1.Term, .int .u64 r_11.1.Index, .int .u64 r_11.1.Prev, .int .u64 r_11.1.Commit, .bool r_11.1.Ok, .slice A_12 r_11.1.Entries.length c_13, .string (bs r_11.1.Data)]⟩, ⟨40, b_2, [.slice A_14 r_11.2.2.l.length c_15, .int .i64 r_11.2.2.lost]⟩]) (ps := []) (by kernel_rfl) trivial ?_
            refine GoO.regionEnd ?_
            exact GoO.ret' (h := c14_12e) (hs := []) (ps := []) (hk := []) (bk := []) Try.func14 () (by kernel_rfl) trivial (by kernel_rfl) (by kernel_rfl)
          · refine GoO.exec (is := [17, 18, 19, 20]) (hs := [.p, .p, .p, .p]) (rest := []) (ks := [0]) (env' := [(0, .bool false)]) (H' := [⟨42, b_16, [.int .i64 r_11.1.Kind, .int .i64 r_11.1.From, .int .i64 r_11.1.To, .int .u64 r_11.1.Term, .int .u64 r_11.1.Index, .int .u64 r_11.1.Prev, .int .u64 r_11.1.Commit, .bool r_11.1.Ok, .slice A_12 r_11.1.Entries.length c_13, .string (bs r_11.1.Data)]⟩, ⟨40, b_2, [.slice A_14 r_11.2.2.l.length c_15, .int .i64 r_11.2.2.lost]⟩]) (ps := []) (by kernel_rfl) trivial ?_
            refine GoO.regionEnd ?_
            exact GoO.ret' (h := c14_12e) (hs := []) (ps := []) (hk := []) (bk := []) Try.func14 () (by kernel_rfl) trivial (by kernel_rfl) (by kernel_rfl)
        · refine GoO.exec (is := [13, 14, 15, 16, 17, 18, 19, 20]) (hs := [.p, .p, .p, .p, .p, .p, .p, .p]) (rest := []) (ks := [0]) (env' := [(0, .bool false)]) (H' := [⟨42, b_16, [.int .i64 r_11.1.Kind, .int .i64 r_11.1.From, .int .i64 r_11.1.To, .int .u64 r_11.1.Term, .int .u64 r_11.1.Index, .int .u64 r_11.1.Prev, .int .u64 r_11.1.Commit, .bool r_11.1.Ok, .slice A_12 r_11.1.Entries.length c_13, .string (bs r_11.1.Data)]⟩, ⟨40, b_2, [.slice A_14 r_11.2.2.l.length c_15, .int .i64 r_11.2.2.lost]⟩]) (ps := []) (by kernel_rfl) trivial ?_
          refine GoO.regionEnd ?_
          exact GoO.ret' (h := c14_12e) (hs := []) (ps := []) (hk := []) (bk := []) Try.func14 () (by kernel_rfl) trivial (by kernel_rfl) (by kernel_rfl)
      · refine GoO.exec (is := [8, 9, 10, 11, 12, 13, 14, 15, 16, 17, 18, 19, 20]) (hs := [.p, .p, .p, .p, .p, .p, .p, .p, .p, .p, .p, .p, .p]) (rest := []) (ks := [0]) (env' := [(0, .bool false)]) (H' := [⟨42, b_16, [.int .i64 r_11.1.Kind, .int .i64 r_11.1.From, .int .i64 r_11.1.To, .int .u64 r_11.1.Term, .int .u64 r_11.1.Index, .int .u64 r_11.1.Prev, .int .u64 r_11.1.Commit, .bool r_11.1.Ok, .slice A_12 r_11.1.Entries.length c_13, .string (bs r_11.1.Data)]⟩, ⟨40, b_2, [.slice A_14 r_11.2.2.l.length c_15, .int .i64 r_11.2.2.lost]⟩]) (ps := []) (by kernel_rfl) trivial ?_
        refine GoO.regionEnd ?_
        exact GoO.ret' (h := c14_12e) (hs := []) (ps := []) (hk := []) (bk := []) Try.func14 () (by kernel_rfl) trivial (by kernel_rfl) (by kernel_rfl)
    · refine GoO.exec (is := [5, 6, 7, 8, 9, 10, 11, 12, 13, 14, 15, 16, 17, 18, 19, 20]) (hs := [.p, .p, .p, .p, .p, .p, .p, .p, .p, .p, .p, .p, .p, .p, .p, .p]) (rest := []) (ks := [0]) (env' := [(0, .bool false)]) (H' := [⟨42, b_16, [.int .i64 r_11.1.Kind, .int .i64 r_11.1.From, .int .i64 r_11.1.To, .int .u64 r_11.1.Term, .int .u64 r_11.1.Index, .int .u64 r_11.1.Prev, .int .u64 r_11.1.Commit, .bool r_11.1.Ok, .slice A_12 r_11.1.Entries.length c_13, .string (bs r_11.1.Data)]⟩, ⟨40, b_2, [.slice A_14 r_11.2.2.l.length c_15, .int .i64 r_11.2.2.lost]⟩]) (ps := []) (by kernel_rfl) trivial ?_
      refine GoO.regionEnd ?_
      exact GoO.ret' (h := c14_12e) (hs := []) (ps := []) (hk := []) (bk := []) Try.func14 () (by kernel_rfl) trivial (by kernel_rfl) (by kernel_rfl)
  · refine GoO.exec (is := [2, 3, 4, 5, 6, 7, 8, 9, 10, 11, 12, 13, 14, 15, 16, 17, 18, 19, 20]) (hs := [.p, .p, .p, .p, .p, .p, .p, .p, .p, .p, .p, .p, .p, .p, .p, .p, .p, .p, .p]) (rest := []) (ks := [0]) (env' := [(0, .bool false)]) (H' := [⟨42, b_16, [.int .i64 r_11.1.Kind, .int .i64 r_11.1.From, .int .i64 r_11.1.To, .int .u64 r_11.1.Term, .int .u64 r_11.1.Index, .int .u64 r_11.1.Prev, .int .u64 r_11.1.Commit, .bool r_11.1.Ok, .slice A_12 r_11.1.Entries.length c_13, .string (bs r_11.1.Data)]⟩, ⟨40, b_2, [.slice A_14 r_11.2.2.l.length c_15, .int .i64 r_11.2.2.lost]⟩]) (ps := []) (by kernel_rfl) trivial ?_
    refine GoO.regionEnd ?_
    exact GoO.ret' (h := c14_12e) (hs := []) (ps := []) (hk := []) (bk := []) Try.func14 () (by kernel_rfl) trivial (by kernel_rfl) (by kernel_rfl)

/-! (*tontine/net.Net).place -/
noncomputable def c39n0_0 : Code := bodyOf Try.f39
noncomputable def c39n0_1 : Code := cdL c39n0_0
noncomputable def c39n0_2 : Code := cdR c39n0_0
noncomputable def c39n0_3 : Code := cdL c39n0_2
noncomputable def c39n0_4 : Code := cdL c39n0_3
noncomputable def c39n0_5 : Code := cdR c39n0_3
noncomputable def c39n0_6 : Code := cdL c39n0_5
noncomputable def c39n0_7 : Code := cdL c39n0_6
noncomputable def c39n0_8 : Code := cdR c39n0_6
noncomputable def c39n0_10 : Code := cdR c39n0_2
noncomputable def c39n0_9 : Code := cdR c39n0_5
noncomputable def r39n0_1 : Array Oper := cdO c39n0_1
noncomputable def r39n0_4 : Array Oper := cdO c39n0_4
noncomputable def r39n0_7 : Array Oper := cdO c39n0_7
theorem c39n0_0e : c39n0_0 = .seq c39n0_1 c39n0_2 := by kernel_rfl
theorem c39n0_1e : c39n0_1 = .region 0 r39n0_1 false := by kernel_rfl
theorem c39n0_2e : c39n0_2 = .seq c39n0_3 c39n0_10 := by kernel_rfl
theorem c39n0_3e : c39n0_3 = .seq c39n0_4 c39n0_5 := by kernel_rfl
theorem c39n0_4e : c39n0_4 = .region 1 r39n0_4 false := by kernel_rfl
theorem c39n0_5e : c39n0_5 = .cond (cdC c39n0_5) c39n0_6 c39n0_9 := by kernel_rfl
theorem c39n0_6e : c39n0_6 = .seq c39n0_7 c39n0_8 := by kernel_rfl
theorem c39n0_7e : c39n0_7 = .region 2 r39n0_7 false := by kernel_rfl
theorem c39n0_8e : c39n0_8 = .ret := by kernel_rfl
theorem c39n0_9e : c39n0_9 = .skip := by kernel_rfl
noncomputable def net_Net_place_n0.R : Pst Int where
  ε := Unit
  v := fun r x => .int .i64 r
  H := fun r x => []
  B := fun r x => []
noncomputable def net_Net_place_n0.cx (w0 : World) (S0 : Fam) : Cx Int := ⟨Try.prog, 39, Try.f39, 33, w0, S0, [], 0, net_Net_place_n0.R⟩
theorem net_Net_place_n0_ok (n : Nat) (i_1 : Int) :
    Meets Try.prog 39 [.pointer none, .int .i64 i_1] 0 [] [] [] (net_Net_place_n0.f n i_1) (net_Net_place_n0.R) := by
  refine Meets.of (c := c39n0_0) (n := 33) Try.func39 (by kernel_rfl) (by kernel_rfl) (by kernel_rfl) fun w0 S0 => ?_
  unfold net_Net_place_n0.f
  show GoO (net_Net_place_n0.cx w0 S0) [(0, .pointer none), (1, .int .i64 i_1)] [] [] [.code c39n0_0] _
  refine GoO.seq' c39n0_0e ?_
  refine GoO.region' (is := [0]) c39n0_1e (by kernel_rfl) ?_
  refine GoO.exec (is := [0]) (hs := [.p]) (rest := []) (ks := [0, 1]) (env' := [(0, .pointer none), (1, .int .i64 i_1)]) (H' := []) (ps := []) (by kernel_rfl) trivial ?_
  refine GoO.regionEnd ?_
  refine GoO.seq' c39n0_2e ?_
  refine GoO.seq' c39n0_3e ?_
  refine GoO.region' (is := [0, 1, 2, 3, 4, 5, 6, 7, 8, 9]) c39n0_4e (by kernel_rfl) ?_
  refine GoO.exec (is := [0, 1, 2, 3, 4, 5, 6, 7, 8, 9]) (hs := [.p, .p, .p, .p, .p, .p, .p, .p, .p, .p]) (rest := []) (ks := [0, 1, 15]) (env' := [(0, .pointer none), (1, .int .i64 i_1), (15, .bool true)]) (H' := []) (ps := []) (by kernel_rfl) trivial ?_
  refine GoO.regionEnd ?_
  refine GoO.condT c39n0_5e (by kernel_rfl) ?_
  refine GoO.seq' c39n0_6e ?_
  refine GoO.region' (is := [0]) c39n0_7e (by kernel_rfl) ?_
  refine GoO.exec (is := [0]) (hs := [.p]) (rest := []) (ks := [4]) (env' := [(4, .int .i64 (-1))]) (H' := []) (ps := []) (by kernel_rfl) trivial ?_
  refine GoO.regionEnd ?_
  exact GoO.ret' (h := c39n0_8e) (hs := []) (ps := []) (hk := []) (bk := []) Try.func39 () (by kernel_rfl) trivial (by kernel_rfl) (by kernel_rfl)

/-! (*tontine/net.Net).Take -/
noncomputable def c17n0_0 : Code := bodyOf Try.f17
noncomputable def c17n0_1 : Code := cdL c17n0_0
noncomputable def c17n0_2 : Code := cdR c17n0_0
noncomputable def c17n0_3 : Code := cdL c17n0_2
noncomputable def c17n0_4 : Code := cdR c17n0_2
noncomputable def c17n0_5 : Code := cdL c17n0_4
noncomputable def c17n0_6 : Code := cdL c17n0_5
noncomputable def c17n0_7 : Code := cdR c17n0_5
noncomputable def c17n0_8 : Code := cdL c17n0_7
noncomputable def c17n0_9 : Code := cdL c17n0_8
noncomputable def c17n0_10 : Code := cdR c17n0_8
noncomputable def c17n0_11 : Code := cdR c17n0_7
noncomputable def c17n0_12 : Code := cdR c17n0_4
noncomputable def c17n0_13 : Code := cdL c17n0_12
noncomputable def c17n0_14 : Code := cdR c17n0_12
noncomputable def r17n0_1 : Array Oper := cdO c17n0_1
noncomputable def r17n0_3 : Array Oper := cdO c17n0_3
noncomputable def r17n0_6 : Array Oper := cdO c17n0_6
noncomputable def r17n0_9 : Array Oper := cdO c17n0_9
noncomputable def r17n0_13 : Array Oper := cdO c17n0_13
theorem c17n0_0e : c17n0_0 = .seq c17n0_1 c17n0_2 := by kernel_rfl
theorem c17n0_1e : c17n0_1 = .region 0 r17n0_1 false := by kernel_rfl
theorem c17n0_2e : c17n0_2 = .seq c17n0_3 c17n0_4 := by kernel_rfl
theorem c17n0_3e : c17n0_3 = .region 1 r17n0_3 false := by kernel_rfl
theorem c17n0_4e : c17n0_4 = .seq c17n0_5 c17n0_12 := by kernel_rfl
theorem c17n0_5e : c17n0_5 = .seq c17n0_6 c17n0_7 := by kernel_rfl
theorem c17n0_6e : c17n0_6 = .region 2 r17n0_6 false := by kernel_rfl
theorem c17n0_7e : c17n0_7 = .cond (cdC c17n0_7) c17n0_8 c17n0_11 := by kernel_rfl
theorem c17n0_8e : c17n0_8 = .seq c17n0_9 c17n0_10 := by kernel_rfl
theorem c17n0_9e : c17n0_9 = .region 3 r17n0_9 false := by kernel_rfl
theorem c17n0_10e : c17n0_10 = .ret := by kernel_rfl
theorem c17n0_11e : c17n0_11 = .skip := by kernel_rfl
theorem c17n0_12e : c17n0_12 = .seq c17n0_13 c17n0_14 := by kernel_rfl
theorem c17n0_13e : c17n0_13 = .region 4 r17n0_13 false := by kernel_rfl
noncomputable def net_Net_Take_n0.R : Pst (T_api_Letter × Bool) where
  ε := Option Addr × Nat
  v := fun r x => .tuple ⟨[.agg ⟨[.int .i64 r.1.Kind, .int .i64 r.1.From, .int .i64 r.1.To, .int .u64 r.1.Term, .int .u64 r.1.Index, .int .u64 r.1.Prev, .int .u64 r.1.Commit, .bool r.1.Ok, .slice x.1 r.1.Entries.length x.2, .string (bs r.1.Data)]⟩, .bool r.2]⟩
  H := fun r x => []
  B := fun r x => [Rd 0 kT_api_Entry x.1 x.2 r.1.Entries]
noncomputable def net_Net_Take_n0.cx (w0 : World) (S0 : Fam) : Cx (T_api_Letter × Bool) := ⟨Try.prog, 17, Try.f17, 40, w0, S0, [], 0, net_Net_Take_n0.R⟩
theorem net_Net_Take_n0_ok (n : Nat) (i_1 : Int) :
    Meets Try.prog 17 [.pointer none, .int .i64 i_1] 0 [] [] [] (net_Net_Take_n0.f n i_1) (net_Net_Take_n0.R) := by
  refine Meets.of (c := c17n0_0) (n := 40) Try.func17 (by kernel_rfl) (by kernel_rfl) (by kernel_rfl) fun w0 S0 => ?_
  unfold net_Net_Take_n0.f
  show GoO (net_Net_Take_n0.cx w0 S0) [(0, .pointer none), (1, .int .i64 i_1)] [] [] [.code c17n0_0] _
  refine GoO.seq' c17n0_0e ?_
  refine GoO.region' (is := [0, 1]) c17n0_1e (by kernel_rfl) ?_
  refine OpTo.go (GoO.new rfl 40 (cs := [.int .i64 0, .int .i64 0, .int .i64 0, .int .u64 0, .int .u64 0, .int .u64 0, .int .u64 0, .bool false, .slice none ([] : List T_api_Entry).length 0, .string (bs [])]) (by kernel_rfl) _ (fun _ => rfl) (fun b_2 => ?_))
  refine GoO.exec (is := [1]) (hs := [.p]) (rest := []) (ks := [0, 1, 4]) (env' := [(0, .pointer none), (1, .int .i64 i_1), (4, .pointer (some ⟨b_2, 0, none⟩))]) (H' := [⟨40, b_2, [.int .i64 0, .int .i64 0, .int .i64 0, .int .u64 0, .int .u64 0, .int .u64 0, .int .u64 0, .bool false, .slice none ([] : List T_api_Entry).length 0, .string (bs [])]⟩]) (ps := []) (by kernel_rfl) trivial ?_
  refine GoO.regionEnd ?_
  refine GoO.seq' c17n0_2e ?_
  refine GoO.region' (is := [0, 1, 2, 3]) c17n0_3e (by kernel_rfl) ?_
  refine GoO.exec (is := [0, 1]) (hs := [.p, .p]) (rest := [2, 3]) (ks := [0, 4, 8, 9]) (env' := [(0, .pointer none), (4, .pointer (some ⟨b_2, 0, none⟩)), (8, .pointer none), (9, .int .i64 i_1)]) (H' := [⟨40, b_2, [.int .i64 0, .int .i64 0, .int .i64 0, .int .u64 0, .int .u64 0, .int .u64 0, .int .u64 0, .bool false, .slice none ([] : List T_api_Entry).length 0, .string (bs [])]⟩]) (ps := []) (by kernel_rfl) trivial ?_
  refine OpTo.go (GoO.call rfl (by kernel_rfl) (by kernel_rfl) (net_Net_place_n0_ok n i_1) [[0]] [] [] [] (hks := [0]) (bks := []) (by kernel_rfl) (by kernel_rfl) (by kernel_rfl) (.inl rfl) rfl rfl (by kernel_rfl) (by kernel_rfl) _ (fun _ _ => rfl) _ _ (fun _ _ => rfl) (fun _ _ => rfl) (fun _ _ => by kernel_rfl) (fun _ _ => by kernel_rfl) (fun r_3 x_5 => ?_))
  refine GoO.shape (env' := [(0, .pointer none), (4, .pointer (some ⟨b_2, 0, none⟩)), (8, .pointer none), (9, .int .i64 i_1), (10, .int .i64 r_3)]) (H' := [⟨40, b_2, [.int .i64 0, .int .i64 0, .int .i64 0, .int .u64 0, .int .u64 0, .int .u64 0, .int .u64 0, .bool false, .slice none ([] : List T_api_Entry).length 0, .string (bs [])]⟩]) (B' := []) (ks := [0, 4, 8, 9, 10]) (by kernel_rfl) (by kernel_rfl) (by kernel_rfl) ?_
  refine GoO.exec (is := [3]) (hs := [.p]) (rest := []) (ks := [0, 4, 6]) (env' := [(0, .pointer none), (4, .pointer (some ⟨b_2, 0, none⟩)), (6, .int .i64 r_3)]) (H' := [⟨40, b_2, [.int .i64 0, .int .i64 0, .int .i64 0, .int .u64 0, .int .u64 0, .int .u64 0, .int .u64 0, .bool false, .slice none ([] : List T_api_Entry).length 0, .string (bs [])]⟩]) (ps := []) (by kernel_rfl) trivial ?_
  refine GoO.regionEnd ?_
  refine GoO.seq' c17n0_4e ?_
  refine GoO.seq' c17n0_5e ?_
  refine GoO.region' (is := [0, 1]) c17n0_6e (by kernel_rfl) ?_
  refine GoO.exec (is := [0, 1]) (hs := [.p, .p]) (rest := []) (ks := [0, 4, 6, 12]) (env' := [(0, .pointer none), (4, .pointer (some ⟨b_2, 0, none⟩)), (6, .int .i64 r_3), (12, .bool (decide (r_3 < 0)))]) (H' := [⟨40, b_2, [.int .i64 0, .int .i64 0, .int .i64 0, .int .u64 0, .int .u64 0, .int .u64 0, .int .u64 0, .bool false, .slice none ([] : List T_api_Entry).length 0, .string (bs [])]⟩]) (ps := []) (by kernel_rfl) trivial ?_
  refine GoO.regionEnd ?_
  refine GoO.ite' c17n0_7e (by kernel_rfl) (fun h4 => ?_) (fun h4 => ?_)
  · refine GoO.seq' c17n0_8e ?_
    refine GoO.region' (is := [0, 1, 2]) c17n0_9e (by kernel_rfl) ?_
    refine GoO.exec (is := [0, 1, 2]) (hs := [.p, .b 0, .p]) (rest := []) (ks := [4, 5]) (env' := [(4, .pointer (some ⟨b_2, 0, none⟩)), (5, .bool false)]) (H' := [⟨40, b_2, [.int .i64 0, .int .i64 0, .int .i64 0, .int .u64 0, .int .u64 0, .int .u64 0, .int .u64 0, .bool false, .slice none ([] : List T_api_Entry).length 0, .string (bs [])]⟩]) (ps := [b_2 = b_2]) (by kernel_rfl) (And.intro rfl trivial) ?_
    refine GoO.regionEnd ?_
    refine GoO.nilRd kT_api_Entry ?_
    exact GoO.ret' (h := c17n0_10e) (hs := [0]) (ps := [b_2 = b_2]) (hk := []) (bk := [0]) Try.func17 (⟨none, 0⟩ : Option Addr × Nat) (by kernel_rfl) (And.intro rfl trivial) (by kernel_rfl) (by kernel_rfl)
  · refine GoO.skip' c17n0_11e ?_
    refine GoO.seq' c17n0_12e ?_
    refine GoO.region' (is := [0, 1, 2, 3, 4, 5, 6, 7, 8]) c17n0_13e (by kernel_rfl) ?_
    refine GoO.exec (is := [0]) (hs := [.p]) (rest := [1, 2, 3, 4, 5, 6, 7, 8]) (ks := [0, 4, 6, 14]) (env' := [(0, .pointer none), (4, .pointer (some ⟨b_2, 0, none⟩)), (6, .int .i64 r_3), (14, .pointer none)]) (H' := [⟨40, b_2, [.int .i64 0, .int .i64 0, .int .i64 0, .int .u64 0, .int .u64 0, .int .u64 0, .int .u64 0, .bool false, .slice none ([] : List T_api_Entry).length 0, .string (bs [])]⟩]) (ps := []) (by kernel_rfl) trivial ?_
    exact GoO.stop

/-! (*tontine/net.Net).Count -/
noncomputable def c19n0_0 : Code := bodyOf Try.f19
noncomputable def c19n0_1 : Code := cdL c19n0_0
noncomputable def c19n0_2 : Code := cdR c19n0_0
noncomputable def c19n0_3 : Code := cdL c19n0_2
noncomputable def c19n0_4 : Code := cdL c19n0_3
noncomputable def c19n0_5 : Code := cdR c19n0_3
noncomputable def c19n0_6 : Code := cdL c19n0_5
noncomputable def c19n0_7 : Code := cdL c19n0_6
noncomputable def c19n0_8 : Code := cdR c19n0_6
noncomputable def c19n0_10 : Code := cdR c19n0_2
noncomputable def c19n0_9 : Code := cdR c19n0_5
noncomputable def r19n0_1 : Array Oper := cdO c19n0_1
noncomputable def r19n0_4 : Array Oper := cdO c19n0_4
noncomputable def r19n0_7 : Array Oper := cdO c19n0_7
theorem c19n0_0e : c19n0_0 = .seq c19n0_1 c19n0_2 := by kernel_rfl
theorem c19n0_1e : c19n0_1 = .region 0 r19n0_1 false := by kernel_rfl
theorem c19n0_2e : c19n0_2 = .seq c19n0_3 c19n0_10 := by kernel_rfl
theorem c19n0_3e : c19n0_3 = .seq c19n0_4 c19n0_5 := by kernel_rfl
theorem c19n0_4e : c19n0_4 = .region 1 r19n0_4 false := by kernel_rfl
theorem c19n0_5e : c19n0_5 = .cond (cdC c19n0_5) c19n0_6 c19n0_9 := by kernel_rfl
theorem c19n0_6e : c19n0_6 = .seq c19n0_7 c19n0_8 := by kernel_rfl
theorem c19n0_7e : c19n0_7 = .region 2 r19n0_7 false := by kernel_rfl
theorem c19n0_8e : c19n0_8 = .ret := by kernel_rfl
theorem c19n0_9e : c19n0_9 = .skip := by kernel_rfl
noncomputable def net_Net_Count_n0.R : Pst (Int × Int) where
  ε := Unit
  v := fun r x => .tuple ⟨[.int .i64 r.1, .int .i64 r.2]⟩
  H := fun r x => []
  B := fun r x => []
noncomputable def net_Net_Count_n0.cx (w0 : World) (S0 : Fam) : Cx (Int × Int) := ⟨Try.prog, 19, Try.f19, 15, w0, S0, [], 0, net_Net_Count_n0.R⟩
theorem net_Net_Count_n0_ok (n : Nat) :
    Meets Try.prog 19 [.pointer none] 0 [] [] [] (net_Net_Count_n0.f n) (net_Net_Count_n0.R) := by
  refine Meets.of (c := c19n0_0) (n := 15) Try.func19 (by kernel_rfl) (by kernel_rfl) (by kernel_rfl) fun w0 S0 => ?_
  unfold net_Net_Count_n0.f
  show GoO (net_Net_Count_n0.cx w0 S0) [(0, .pointer none)] [] [] [.code c19n0_0] _
  refine GoO.seq' c19n0_0e ?_
  refine GoO.region' (is := [0, 1]) c19n0_1e (by kernel_rfl) ?_
  refine GoO.exec (is := [0, 1]) (hs := [.p, .p]) (rest := []) (ks := [0]) (env' := [(0, .pointer none)]) (H' := []) (ps := []) (by kernel_rfl) trivial ?_
  refine GoO.regionEnd ?_
  refine GoO.seq' c19n0_2e ?_
  refine GoO.seq' c19n0_3e ?_
  refine GoO.region' (is := [0, 1]) c19n0_4e (by kernel_rfl) ?_
  refine GoO.exec (is := [0, 1]) (hs := [.p, .p]) (rest := []) (ks := [0, 5]) (env' := [(0, .pointer none), (5, .bool true)]) (H' := []) (ps := []) (by kernel_rfl) trivial ?_
  refine GoO.regionEnd ?_
  refine GoO.condT c19n0_5e (by kernel_rfl) ?_
  refine GoO.seq' c19n0_6e ?_
  refine GoO.region' (is := [0, 1]) c19n0_7e (by kernel_rfl) ?_
  refine GoO.exec (is := [0, 1]) (hs := [.p, .p]) (rest := []) (ks := [2, 3]) (env' := [(2, .int .i64 0), (3, .int .i64 0)]) (H' := []) (ps := []) (by kernel_rfl) trivial ?_
  refine GoO.regionEnd ?_
  exact GoO.ret' (h := c19n0_8e) (hs := []) (ps := []) (hk := []) (bk := []) Try.func19 () (by kernel_rfl) trivial (by kernel_rfl) (by kernel_rfl)

/-! (*tontine/net.Net).Send -/
noncomputable def c16n0_0 : Code := bodyOf Try.f16
noncomputable def c16n0_1 : Code := cdL c16n0_0
noncomputable def c16n0_2 : Code := cdR c16n0_0
noncomputable def c16n0_3 : Code := cdL c16n0_2
noncomputable def c16n0_4 : Code := cdL c16n0_3
noncomputable def c16n0_5 : Code := cdR c16n0_3
noncomputable def c16n0_6 : Code := cdL c16n0_5
noncomputable def c16n0_7 : Code := cdL c16n0_6
noncomputable def c16n0_8 : Code := cdR c16n0_6
noncomputable def c16n0_10 : Code := cdR c16n0_2
noncomputable def c16n0_9 : Code := cdR c16n0_5
noncomputable def r16n0_1 : Array Oper := cdO c16n0_1
noncomputable def r16n0_4 : Array Oper := cdO c16n0_4
noncomputable def r16n0_7 : Array Oper := cdO c16n0_7
theorem c16n0_0e : c16n0_0 = .seq c16n0_1 c16n0_2 := by kernel_rfl
theorem c16n0_1e : c16n0_1 = .region 0 r16n0_1 false := by kernel_rfl
theorem c16n0_2e : c16n0_2 = .seq c16n0_3 c16n0_10 := by kernel_rfl
theorem c16n0_3e : c16n0_3 = .seq c16n0_4 c16n0_5 := by kernel_rfl
theorem c16n0_4e : c16n0_4 = .region 1 r16n0_4 false := by kernel_rfl
theorem c16n0_5e : c16n0_5 = .cond (cdC c16n0_5) c16n0_6 c16n0_9 := by kernel_rfl
theorem c16n0_6e : c16n0_6 = .seq c16n0_7 c16n0_8 := by kernel_rfl
theorem c16n0_7e : c16n0_7 = .region 2 r16n0_7 false := by kernel_rfl
theorem c16n0_8e : c16n0_8 = .ret := by kernel_rfl
theorem c16n0_9e : c16n0_9 = .skip := by kernel_rfl
noncomputable def net_Net_Send_n0.R (A_2 : Option Addr) (c_3 : Nat) : Pst Bool where
  ε := Unit
  v := fun r x => .bool r
  H := fun r x => []
  B := fun r x => []
noncomputable def net_Net_Send_n0.cx (A_2 : Option Addr) (c_3 : Nat) (w0 : World) (S0 : Fam) : Cx Bool := ⟨Try.prog, 16, Try.f16, 31, w0, S0, [], 0, net_Net_Send_n0.R A_2 c_3⟩
theorem net_Net_Send_n0_ok (n : Nat) (x_1 : T_api_Letter) (A_2 : Option Addr) (c_3 : Nat) :
    Meets Try.prog 16 [.pointer none, .agg ⟨[.int .i64 x_1.Kind, .int .i64 x_1.From, .int .i64 x_1.To, .int .u64 x_1.Term, .int .u64 x_1.Index, .int .u64 x_1.Prev, .int .u64 x_1.Commit, .bool x_1.Ok, .slice A_2 x_1.Entries.length c_3, .string (bs x_1.Data)]⟩] 0 [] [] [Rd 0 kT_api_Entry A_2 c_3 x_1.Entries] (net_Net_Send_n0.f n x_1) (net_Net_Send_n0.R A_2 c_3) := by
  refine Meets.of (c := c16n0_0) (n := 31) Try.func16 (by kernel_rfl) (by kernel_rfl) (by kernel_rfl) fun w0 S0 => ?_
  unfold net_Net_Send_n0.f
  show GoO (net_Net_Send_n0.cx A_2 c_3 w0 S0) [(0, .pointer none), (1, .agg ⟨[.int .i64 x_1.Kind, .int .i64 x_1.From, .int .i64 x_1.To, .int .u64 x_1.Term, .int .u64 x_1.Index, .int .u64 x_1.Prev, .int .u64 x_1.Commit, .bool x_1.Ok, .slice A_2 x_1.Entries.length c_3, .string (bs x_1.Data)]⟩)] [] [Rd 0 kT_api_Entry A_2 c_3 x_1.Entries] [.code c16n0_0] _
  refine GoO.seq' c16n0_0e ?_
  refine GoO.region' (is := [0, 1]) c16n0_1e (by kernel_rfl) ?_
  refine OpTo.go (GoO.new rfl 40 (cs := [.int .i64 x_1.Kind, .int .i64 x_1.From, .int .i64 x_1.To, .int .u64 x_1.Term, .int .u64 x_1.Index, .int .u64 x_1.Prev, .int .u64 x_1.Commit, .bool x_1.Ok, .slice A_2 x_1.Entries.length c_3, .string (bs x_1.Data)]) (by kernel_rfl) _ (fun _ => rfl) (fun b_4 => ?_))
  refine GoO.exec (is := [1]) (hs := [.p]) (rest := []) (ks := [0, 3]) (env' := [(0, .pointer none), (3, .pointer (some ⟨b_4, 0, none⟩))]) (H' := [⟨40, b_4, [.int .i64 x_1.Kind, .int .i64 x_1.From, .int .i64 x_1.To, .int .u64 x_1.Term, .int .u64 x_1.Index, .int .u64 x_1.Prev, .int .u64 x_1.Commit, .bool x_1.Ok, .slice A_2 x_1.Entries.length c_3, .string (bs x_1.Data)]⟩]) (ps := []) (by kernel_rfl) trivial ?_
  refine GoO.regionEnd ?_
  refine GoO.seq' c16n0_2e ?_
  refine GoO.seq' c16n0_3e ?_
  refine GoO.region' (is := [0, 1]) c16n0_4e (by kernel_rfl) ?_
  refine GoO.exec (is := [0, 1]) (hs := [.p, .p]) (rest := []) (ks := [0, 3, 6]) (env' := [(0, .pointer none), (3, .pointer (some ⟨b_4, 0, none⟩)), (6, .bool true)]) (H' := [⟨40, b_4, [.int .i64 x_1.Kind, .int .i64 x_1.From, .int .i64 x_1.To, .int .u64 x_1.Term, .int .u64 x_1.Index, .int .u64 x_1.Prev, .int .u64 x_1.Commit, .bool x_1.Ok, .slice A_2 x_1.Entries.length c_3, .string (bs x_1.Data)]⟩]) (ps := []) (by kernel_rfl) trivial ?_
  refine GoO.regionEnd ?_
  refine GoO.condT c16n0_5e (by kernel_rfl) ?_
  refine GoO.seq' c16n0_6e ?_
  refine GoO.region' (is := [0]) c16n0_7e (by kernel_rfl) ?_
  refine GoO.exec (is := [0]) (hs := [.p]) (rest := []) (ks := [4]) (env' := [(4, .bool false)]) (H' := [⟨40, b_4, [.int .i64 x_1.Kind, .int .i64 x_1.From, .int .i64 x_1.To, .int .u64 x_1.Term, .int .u64 x_1.Index, .int .u64 x_1.Prev, .int .u64 x_1.Commit, .bool x_1.Ok, .slice A_2 x_1.Entries.length c_3, .string (bs x_1.Data)]⟩]) (ps := []) (by kernel_rfl) trivial ?_
  refine GoO.regionEnd ?_
  exact GoO.ret' (h := c16n0_8e) (hs := []) (ps := []) (hk := []) (bk := []) Try.func16 () (by kernel_rfl) trivial (by kernel_rfl) (by kernel_rfl)

/-! (*tontine/net.Net).Lose -/
noncomputable def c34n0_0 : Code := bodyOf Try.f34
noncomputable def c34n0_1 : Code := cdL c34n0_0
noncomputable def c34n0_2 : Code := cdR c34n0_0
noncomputable def c34n0_3 : Code := cdL c34n0_2
noncomputable def c34n0_4 : Code := cdR c34n0_2
noncomputable def c34n0_5 : Code := cdL c34n0_4
noncomputable def c34n0_6 : Code := cdL c34n0_5
noncomputable def c34n0_7 : Code := cdR c34n0_5
noncomputable def c34n0_8 : Code := cdL c34n0_7
noncomputable def c34n0_9 : Code := cdR c34n0_7
noncomputable def c34n0_10 : Code := cdR c34n0_4
noncomputable def c34n0_11 : Code := cdL c34n0_10
noncomputable def c34n0_12 : Code := cdR c34n0_10
noncomputable def r34n0_1 : Array Oper := cdO c34n0_1
noncomputable def r34n0_3 : Array Oper := cdO c34n0_3
noncomputable def r34n0_6 : Array Oper := cdO c34n0_6
noncomputable def r34n0_8 : Array Oper := cdO c34n0_8
noncomputable def r34n0_11 : Array Oper := cdO c34n0_11
theorem c34n0_0e : c34n0_0 = .seq c34n0_1 c34n0_2 := by kernel_rfl
theorem c34n0_1e : c34n0_1 = .region 0 r34n0_1 false := by kernel_rfl
theorem c34n0_2e : c34n0_2 = .seq c34n0_3 c34n0_4 := by kernel_rfl
theorem c34n0_3e : c34n0_3 = .region 1 r34n0_3 false := by kernel_rfl
theorem c34n0_4e : c34n0_4 = .seq c34n0_5 c34n0_10 := by kernel_rfl
theorem c34n0_5e : c34n0_5 = .seq c34n0_6 c34n0_7 := by kernel_rfl
theorem c34n0_6e : c34n0_6 = .region 2 r34n0_6 false := by kernel_rfl
theorem c34n0_7e : c34n0_7 = .cond (cdC c34n0_7) c34n0_8 c34n0_9 := by kernel_rfl
theorem c34n0_8e : c34n0_8 = .region 3 r34n0_8 false := by kernel_rfl
theorem c34n0_9e : c34n0_9 = .skip := by kernel_rfl
theorem c34n0_10e : c34n0_10 = .seq c34n0_11 c34n0_12 := by kernel_rfl
theorem c34n0_11e : c34n0_11 = .region 4 r34n0_11 false := by kernel_rfl
theorem c34n0_12e : c34n0_12 = .ret := by kernel_rfl
noncomputable def net_Net_Lose_n0.R : Pst Bool where
  ε := Unit
  v := fun r x => .bool r
  H := fun r x => []
  B := fun r x => []
noncomputable def net_Net_Lose_n0.cx (w0 : World) (S0 : Fam) : Cx Bool := ⟨Try.prog, 34, Try.f34, 22, w0, S0, [], 0, net_Net_Lose_n0.R⟩
theorem net_Net_Lose_n0_ok (n : Nat) (i_1 : Int) :
    Meets Try.prog 34 [.pointer none, .int .i64 i_1] 0 [] [] [] (net_Net_Lose_n0.f n i_1) (net_Net_Lose_n0.R) := by
  refine Meets.of (c := c34n0_0) (n := 22) Try.func34 (by kernel_rfl) (by kernel_rfl) (by kernel_rfl) fun w0 S0 => ?_
  unfold net_Net_Lose_n0.f
  show GoO (net_Net_Lose_n0.cx w0 S0) [(0, .pointer none), (1, .int .i64 i_1)] [] [] [.code c34n0_0] _
  refine GoO.seq' c34n0_0e ?_
  refine GoO.region' (is := [0]) c34n0_1e (by kernel_rfl) ?_
  refine GoO.exec (is := [0]) (hs := [.p]) (rest := []) (ks := [0, 1]) (env' := [(0, .pointer none), (1, .int .i64 i_1)]) (H' := []) (ps := []) (by kernel_rfl) trivial ?_
  refine GoO.regionEnd ?_
  refine GoO.seq' c34n0_2e ?_
  refine GoO.region' (is := [0, 1, 2, 3, 4, 5, 6, 7, 8]) c34n0_3e (by kernel_rfl) ?_
  refine GoO.exec (is := [0, 1]) (hs := [.p, .p]) (rest := [2, 3, 4, 5, 6, 7, 8]) (ks := [0, 8, 9]) (env' := [(0, .pointer none), (8, .pointer none), (9, .int .i64 i_1)]) (H' := []) (ps := []) (by kernel_rfl) trivial ?_
  refine OpTo.go (GoO.call rfl (by kernel_rfl) (by kernel_rfl) (net_Net_Take_n0_ok n i_1) [[0]] [] [] [] (hks := []) (bks := []) (by kernel_rfl) (by kernel_rfl) (by kernel_rfl) (.inl rfl) rfl rfl (by kernel_rfl) (by kernel_rfl) _ (fun _ _ => rfl) _ _ (fun _ _ => rfl) (fun _ _ => rfl) (fun _ _ => by kernel_rfl) (fun _ _ => by kernel_rfl) (fun r_2 x_7 => ?_))
  obtain ⟨A_3, c_4⟩ := x_7
  refine GoO.shape (env' := [(0, .pointer none), (8, .pointer none), (9, .int .i64 i_1), (10, .tuple ⟨[.agg ⟨[.int .i64 r_2.1.Kind, .int .i64 r_2.1.From, .int .i64 r_2.1.To, .int .u64 r_2.1.Term, .int .u64 r_2.1.Index, .int .u64 r_2.1.Prev, .int .u64 r_2.1.Commit, .bool r_2.1.Ok, .slice A_3 r_2.1.Entries.length c_4, .string (bs r_2.1.Data)]⟩, .bool r_2.2]⟩)]) (H' := []) (B' := [Rd 0 kT_api_Entry A_3 c_4 r_2.1.Entries]) (ks := [0, 8, 9, 10]) (by kernel_rfl) (by kernel_rfl) (by kernel_rfl) ?_
  refine GoO.exec (is := [3, 4, 5]) (hs := [.p, .p, .p]) (rest := [6, 7, 8]) (ks := [0, 11, 12]) (env' := [(0, .pointer none), (11, .agg ⟨[.int .i64 r_2.1.Kind, .int .i64 r_2.1.From, .int .i64 r_2.1.To, .int .u64 r_2.1.Term, .int .u64 r_2.1.Index, .int .u64 r_2.1.Prev, .int .u64 r_2.1.Commit, .bool r_2.1.Ok, .slice A_3 r_2.1.Entries.length c_4, .string (bs r_2.1.Data)]⟩), (12, .bool r_2.2)]) (H' := []) (ps := []) (by kernel_rfl) trivial ?_
  refine OpTo.go (GoO.new rfl 40 (cs := [.int .i64 0, .int .i64 0, .int .i64 0, .int .u64 0, .int .u64 0, .int .u64 0, .int .u64 0, .bool false, .slice none ([] : List T_api_Entry).length 0, .string (bs [])]) (by kernel_rfl) _ (fun _ => rfl) (fun b_5 => ?_))
  refine GoO.exec (is := [7, 8]) (hs := [.b 0, .p]) (rest := []) (ks := [0, 6]) (env' := [(0, .pointer none), (6, .bool r_2.2)]) (H' := [⟨40, b_5, [.int .i64 r_2.1.Kind, .int .i64 r_2.1.From, .int .i64 r_2.1.To, .int .u64 r_2.1.Term, .int .u64 r_2.1.Index, .int .u64 r_2.1.Prev, .int .u64 r_2.1.Commit, .bool r_2.1.Ok, .slice A_3 r_2.1.Entries.length c_4, .string (bs r_2.1.Data)]⟩]) (ps := [b_5 = b_5]) (by kernel_rfl) (And.intro rfl trivial) ?_
  refine GoO.regionEnd ?_
  refine GoO.seq' c34n0_4e ?_
  refine GoO.seq' c34n0_5e ?_
  refine GoO.region' (is := [0]) c34n0_6e (by kernel_rfl) ?_
  refine GoO.exec (is := [0]) (hs := [.p]) (rest := []) (ks := [0, 6, 13]) (env' := [(0, .pointer none), (6, .bool r_2.2), (13, .bool r_2.2)]) (H' := [⟨40, b_5, [.int .i64 r_2.1.Kind, .int .i64 r_2.1.From, .int .i64 r_2.1.To, .int .u64 r_2.1.Term, .int .u64 r_2.1.Index, .int .u64 r_2.1.Prev, .int .u64 r_2.1.Commit, .bool r_2.1.Ok, .slice A_3 r_2.1.Entries.length c_4, .string (bs r_2.1.Data)]⟩]) (ps := []) (by kernel_rfl) trivial ?_
  refine GoO.regionEnd ?_
  refine GoO.ite' c34n0_7e (by kernel_rfl) (fun h6 => ?_) (fun h6 => ?_)
  · refine GoO.region' (is := [0, 1, 2, 3, 4, 5, 6, 7]) c34n0_8e (by kernel_rfl) ?_
    refine GoO.exec (is := [0]) (hs := [.p]) (rest := [1, 2, 3, 4, 5, 6, 7]) (ks := [6, 14]) (env' := [(6, .bool r_2.2), (14, .pointer none)]) (H' := [⟨40, b_5, [.int .i64 r_2.1.Kind, .int .i64 r_2.1.From, .int .i64 r_2.1.To, .int .u64 r_2.1.Term, .int .u64 r_2.1.Index, .int .u64 r_2.1.Prev, .int .u64 r_2.1.Commit, .bool r_2.1.Ok, .slice A_3 r_2.1.Entries.length c_4, .string (bs r_2.1.Data)]⟩]) (ps := []) (by kernel_rfl) trivial ?_
    exact GoO.stop
  · refine GoO.skip' c34n0_9e ?_
    refine GoO.seq' c34n0_10e ?_
    refine GoO.region' (is := [0, 1]) c34n0_11e (by kernel_rfl) ?_
    refine GoO.exec (is := [0, 1]) (hs := [.p, .p]) (rest := []) (ks := [4]) (env' := [(4, .bool r_2.2)]) (H' := [⟨40, b_5, [.int .i64 r_2.1.Kind, .int .i64 r_2.1.From, .int .i64 r_2.1.To, .int .u64 r_2.1.Term, .int .u64 r_2.1.Index, .int .u64 r_2.1.Prev, .int .u64 r_2.1.Commit, .bool r_2.1.Ok, .slice A_3 r_2.1.Entries.length c_4, .string (bs r_2.1.Data)]⟩]) (ps := []) (by kernel_rfl) trivial ?_
    refine GoO.regionEnd ?_
    exact GoO.ret' (h := c34n0_12e) (hs := []) (ps := []) (hk := []) (bk := []) Try.func34 () (by kernel_rfl) trivial (by kernel_rfl) (by kernel_rfl)

/-! (*tontine/net.Net).Double -/
noncomputable def c18n0_0 : Code := bodyOf Try.f18
noncomputable def c18n0_1 : Code := cdL c18n0_0
noncomputable def c18n0_2 : Code := cdR c18n0_0
noncomputable def c18n0_3 : Code := cdL c18n0_2
noncomputable def c18n0_4 : Code := cdR c18n0_2
noncomputable def c18n0_5 : Code := cdL c18n0_4
noncomputable def c18n0_6 : Code := cdL c18n0_5
noncomputable def c18n0_7 : Code := cdR c18n0_5
noncomputable def c18n0_8 : Code := cdL c18n0_7
noncomputable def c18n0_9 : Code := cdL c18n0_8
noncomputable def c18n0_10 : Code := cdR c18n0_8
noncomputable def c18n0_11 : Code := cdR c18n0_7
noncomputable def c18n0_12 : Code := cdR c18n0_4
noncomputable def c18n0_13 : Code := cdL c18n0_12
noncomputable def c18n0_14 : Code := cdR c18n0_12
noncomputable def r18n0_1 : Array Oper := cdO c18n0_1
noncomputable def r18n0_3 : Array Oper := cdO c18n0_3
noncomputable def r18n0_6 : Array Oper := cdO c18n0_6
noncomputable def r18n0_9 : Array Oper := cdO c18n0_9
noncomputable def r18n0_13 : Array Oper := cdO c18n0_13
theorem c18n0_0e : c18n0_0 = .seq c18n0_1 c18n0_2 := by kernel_rfl
theorem c18n0_1e : c18n0_1 = .region 0 r18n0_1 false := by kernel_rfl
theorem c18n0_2e : c18n0_2 = .seq c18n0_3 c18n0_4 := by kernel_rfl
theorem c18n0_3e : c18n0_3 = .region 1 r18n0_3 false := by kernel_rfl
theorem c18n0_4e : c18n0_4 = .seq c18n0_5 c18n0_12 := by kernel_rfl
theorem c18n0_5e : c18n0_5 = .seq c18n0_6 c18n0_7 := by kernel_rfl
theorem c18n0_6e : c18n0_6 = .region 2 r18n0_6 false := by kernel_rfl
theorem c18n0_7e : c18n0_7 = .cond (cdC c18n0_7) c18n0_8 c18n0_11 := by kernel_rfl
theorem c18n0_8e : c18n0_8 = .seq c18n0_9 c18n0_10 := by kernel_rfl
theorem c18n0_9e : c18n0_9 = .region 3 r18n0_9 false := by kernel_rfl
theorem c18n0_10e : c18n0_10 = .ret := by kernel_rfl
theorem c18n0_11e : c18n0_11 = .skip := by kernel_rfl
theorem c18n0_12e : c18n0_12 = .seq c18n0_13 c18n0_14 := by kernel_rfl
theorem c18n0_13e : c18n0_13 = .region 4 r18n0_13 false := by kernel_rfl
theorem c18n0_14e : c18n0_14 = .ret := by kernel_rfl
noncomputable def net_Net_Double_n0.R : Pst Bool where
  ε := Unit
  v := fun r x => .bool r
  H := fun r x => []
  B := fun r x => []
noncomputable def net_Net_Double_n0.cx (w0 : World) (S0 : Fam) : Cx Bool := ⟨Try.prog, 18, Try.f18, 20, w0, S0, [], 0, net_Net_Double_n0.R⟩
theorem net_Net_Double_n0_ok (n : Nat) (i_1 : Int) :
    Meets Try.prog 18 [.pointer none, .int .i64 i_1] 0 [] [] [] (net_Net_Double_n0.f n i_1) (net_Net_Double_n0.R) := by
  refine Meets.of (c := c18n0_0) (n := 20) Try.func18 (by kernel_rfl) (by kernel_rfl) (by kernel_rfl) fun w0 S0 => ?_
  unfold net_Net_Double_n0.f
  show GoO (net_Net_Double_n0.cx w0 S0) [(0, .pointer none), (1, .int .i64 i_1)] [] [] [.code c18n0_0] _
  refine GoO.seq' c18n0_0e ?_
  refine GoO.region' (is := [0]) c18n0_1e (by kernel_rfl) ?_
  refine GoO.exec (is := [0]) (hs := [.p]) (rest := []) (ks := [0, 1]) (env' := [(0, .pointer none), (1, .int .i64 i_1)]) (H' := []) (ps := []) (by kernel_rfl) trivial ?_
  refine GoO.regionEnd ?_
  refine GoO.seq' c18n0_2e ?_
  refine GoO.region' (is := [0, 1, 2, 3]) c18n0_3e (by kernel_rfl) ?_
  refine GoO.exec (is := [0, 1]) (hs := [.p, .p]) (rest := [2, 3]) (ks := [0, 6, 7]) (env' := [(0, .pointer none), (6, .pointer none), (7, .int .i64 i_1)]) (H' := []) (ps := []) (by kernel_rfl) trivial ?_
  refine OpTo.go (GoO.call rfl (by kernel_rfl) (by kernel_rfl) (net_Net_place_n0_ok n i_1) [[0]] [] [] [] (hks := []) (bks := []) (by kernel_rfl) (by kernel_rfl) (by kernel_rfl) (.inl rfl) rfl rfl (by kernel_rfl) (by kernel_rfl) _ (fun _ _ => rfl) _ _ (fun _ _ => rfl) (fun _ _ => rfl) (fun _ _ => by kernel_rfl) (fun _ _ => by kernel_rfl) (fun r_2 x_4 => ?_))
  refine GoO.shape (env' := [(0, .pointer none), (6, .pointer none), (7, .int .i64 i_1), (8, .int .i64 r_2)]) (H' := []) (B' := []) (ks := [0, 6, 7, 8]) (by kernel_rfl) (by kernel_rfl) (by kernel_rfl) ?_
  refine GoO.exec (is := [3]) (hs := [.p]) (rest := []) (ks := [0, 5]) (env' := [(0, .pointer none), (5, .int .i64 r_2)]) (H' := []) (ps := []) (by kernel_rfl) trivial ?_
  refine GoO.regionEnd ?_
  refine GoO.seq' c18n0_4e ?_
  refine GoO.seq' c18n0_5e ?_
  refine GoO.region' (is := [0, 1]) c18n0_6e (by kernel_rfl) ?_
  refine GoO.exec (is := [0, 1]) (hs := [.p, .p]) (rest := []) (ks := [0, 5, 10]) (env' := [(0, .pointer none), (5, .int .i64 r_2), (10, .bool (decide (r_2 < 0)))]) (H' := []) (ps := []) (by kernel_rfl) trivial ?_
  refine GoO.regionEnd ?_
  refine GoO.ite' c18n0_7e (by kernel_rfl) (fun h3 => ?_) (fun h3 => ?_)
  · refine GoO.seq' c18n0_8e ?_
    refine GoO.region' (is := [0]) c18n0_9e (by kernel_rfl) ?_
    refine GoO.exec (is := [0]) (hs := [.p]) (rest := []) (ks := [4]) (env' := [(4, .bool false)]) (H' := []) (ps := []) (by kernel_rfl) trivial ?_
    refine GoO.regionEnd ?_
    exact GoO.ret' (h := c18n0_10e) (hs := []) (ps := []) (hk := []) (bk := []) Try.func18 () (by kernel_rfl) trivial (by kernel_rfl) (by kernel_rfl)
  · refine GoO.skip' c18n0_11e ?_
    refine GoO.seq' c18n0_12e ?_
    refine GoO.region' (is := [0, 1, 2, 3, 4, 5, 6, 7, 8, 9]) c18n0_13e (by kernel_rfl) ?_
    refine GoO.exec (is := [0, 1]) (hs := [.p, .p]) (rest := [2, 3, 4, 5, 6, 7, 8, 9]) (ks := [5, 11, 12]) (env' := [(5, .int .i64 r_2), (11, .pointer none), (12, .pointer none)]) (H' := []) (ps := []) (by kernel_rfl) trivial ?_
    exact GoO.stop

/-! (*tontine/net.Net).All -/
noncomputable def c37n0_0 : Code := bodyOf Try.f37
noncomputable def c37n0_1 : Code := cdL c37n0_0
noncomputable def c37n0_2 : Code := cdR c37n0_0
noncomputable def c37n0_3 : Code := cdL c37n0_2
noncomputable def c37n0_4 : Code := cdL c37n0_3
noncomputable def c37n0_5 : Code := cdR c37n0_3
noncomputable def c37n0_6 : Code := cdL c37n0_5
noncomputable def c37n0_7 : Code := cdL c37n0_6
noncomputable def c37n0_8 : Code := cdR c37n0_6
noncomputable def c37n0_10 : Code := cdR c37n0_2
noncomputable def c37n0_9 : Code := cdR c37n0_5
noncomputable def r37n0_1 : Array Oper := cdO c37n0_1
noncomputable def r37n0_4 : Array Oper := cdO c37n0_4
noncomputable def r37n0_7 : Array Oper := cdO c37n0_7
theorem c37n0_0e : c37n0_0 = .seq c37n0_1 c37n0_2 := by kernel_rfl
theorem c37n0_1e : c37n0_1 = .region 0 r37n0_1 false := by kernel_rfl
theorem c37n0_2e : c37n0_2 = .seq c37n0_3 c37n0_10 := by kernel_rfl
theorem c37n0_3e : c37n0_3 = .seq c37n0_4 c37n0_5 := by kernel_rfl
theorem c37n0_4e : c37n0_4 = .region 1 r37n0_4 false := by kernel_rfl
theorem c37n0_5e : c37n0_5 = .cond (cdC c37n0_5) c37n0_6 c37n0_9 := by kernel_rfl
theorem c37n0_6e : c37n0_6 = .seq c37n0_7 c37n0_8 := by kernel_rfl
theorem c37n0_7e : c37n0_7 = .region 2 r37n0_7 false := by kernel_rfl
theorem c37n0_8e : c37n0_8 = .ret := by kernel_rfl
theorem c37n0_9e : c37n0_9 = .skip := by kernel_rfl
noncomputable def net_Net_All_n0.R : Pst (List T_api_Letter) where
  ε := Option Addr × Nat
  v := fun r x => .slice x.1 r.length x.2
  H := fun r x => []
  B := fun r x => [Ow 1 kT_api_Letter x.1 x.2 r]
noncomputable def net_Net_All_n0.cx (w0 : World) (S0 : Fam) : Cx (List T_api_Letter) := ⟨Try.prog, 37, Try.f37, 24, w0, S0, [], 0, net_Net_All_n0.R⟩
theorem net_Net_All_n0_ok (n : Nat) :
    Meets Try.prog 37 [.pointer none] 0 [] [] [] (net_Net_All_n0.f n) (net_Net_All_n0.R) := by
  refine Meets.of (c := c37n0_0) (n := 24) Try.func37 (by kernel_rfl) (by kernel_rfl) (by kernel_rfl) fun w0 S0 => ?_
  unfold net_Net_All_n0.f
  show GoO (net_Net_All_n0.cx w0 S0) [(0, .pointer none)] [] [] [.code c37n0_0] _
  refine GoO.seq' c37n0_0e ?_
  refine GoO.region' (is := [0]) c37n0_1e (by kernel_rfl) ?_
  refine GoO.exec (is := [0]) (hs := [.p]) (rest := []) (ks := [0]) (env' := [(0, .pointer none)]) (H' := []) (ps := []) (by kernel_rfl) trivial ?_
  refine GoO.regionEnd ?_
  refine GoO.seq' c37n0_2e ?_
  refine GoO.seq' c37n0_3e ?_
  refine GoO.region' (is := [0, 1]) c37n0_4e (by kernel_rfl) ?_
  refine GoO.exec (is := [0, 1]) (hs := [.p, .p]) (rest := []) (ks := [0, 7]) (env' := [(0, .pointer none), (7, .bool true)]) (H' := []) (ps := []) (by kernel_rfl) trivial ?_
  refine GoO.regionEnd ?_
  refine GoO.condT c37n0_5e (by kernel_rfl) ?_
  refine GoO.seq' c37n0_6e ?_
  refine GoO.region' (is := [0]) c37n0_7e (by kernel_rfl) ?_
  refine GoO.exec (is := [0]) (hs := [.p]) (rest := []) (ks := [2]) (env' := [(2, .slice none ([] : List T_api_Letter).length 0)]) (H' := []) (ps := []) (by kernel_rfl) trivial ?_
  refine GoO.regionEnd ?_
  refine GoO.nilOwn kT_api_Letter 1 ?_
  exact GoO.ret' (h := c37n0_8e) (hs := []) (ps := []) (hk := []) (bk := [0]) Try.func37 (⟨none, 0⟩ : Option Addr × Nat) (by kernel_rfl) trivial (by kernel_rfl) (by kernel_rfl)

/-! tontine/net.copied -/
noncomputable def c38np_0 : Code := bodyOf Try.f38
noncomputable def c38np_1 : Code := cdL c38np_0
noncomputable def c38np_2 : Code := cdR c38np_0
noncomputable def c38np_3 : Code := cdL c38np_2
noncomputable def c38np_4 : Code := cdR c38np_2
noncomputable def c38np_5 : Code := cdL c38np_4
noncomputable def c38np_6 : Code := cdR c38np_4
noncomputable def r38np_1 : Array Oper := cdO c38np_1
noncomputable def r38np_3 : Array Oper := cdO c38np_3
noncomputable def r38np_5 : Array Oper := cdO c38np_5
theorem c38np_0e : c38np_0 = .seq c38np_1 c38np_2 := by kernel_rfl
theorem c38np_1e : c38np_1 = .region 0 r38np_1 false := by kernel_rfl
theorem c38np_2e : c38np_2 = .seq c38np_3 c38np_4 := by kernel_rfl
theorem c38np_3e : c38np_3 = .region 1 r38np_3 false := by kernel_rfl
theorem c38np_4e : c38np_4 = .seq c38np_5 c38np_6 := by kernel_rfl
theorem c38np_5e : c38np_5 = .region 2 r38np_5 false := by kernel_rfl
theorem c38np_6e : c38np_6 = .ret := by kernel_rfl
noncomputable def net_copied_vp.R (A_2 : Option Addr) (c_3 : Nat) : Pst T_api_Letter where
  ε := Option Addr × Nat
  v := fun r x => .agg ⟨[.int .i64 r.Kind, .int .i64 r.From, .int .i64 r.To, .int .u64 r.Term, .int .u64 r.Index, .int .u64 r.Prev, .int .u64 r.Commit, .bool r.Ok, .slice x.1 r.Entries.length x.2, .string (bs r.Data)]⟩
  H := fun r x => []
  B := fun r x => [Rd 0 kT_api_Entry x.1 x.2 r.Entries]
noncomputable def net_copied_vp.cx (A_2 : Option Addr) (c_3 : Nat) (w0 : World) (S0 : Fam) : Cx T_api_Letter := ⟨Try.prog, 38, Try.f38, 8, w0, S0, [], 1, net_copied_vp.R A_2 c_3⟩
theorem net_copied_vp_ok (n : Nat) (x_1 : T_api_Letter) (A_2 : Option Addr) (c_3 : Nat) :
    Meets Try.prog 38 [.agg ⟨[.int .i64 x_1.Kind, .int .i64 x_1.From, .int .i64 x_1.To, .int .u64 x_1.Term, .int .u64 x_1.Index, .int .u64 x_1.Prev, .int .u64 x_1.Commit, .bool x_1.Ok, .slice A_2 x_1.Entries.length c_3, .string (bs x_1.Data)]⟩] 1 [] [] [Rd 1 kT_api_Entry A_2 c_3 x_1.Entries] (net_copied_vp.f n x_1) (net_copied_vp.R A_2 c_3) := by
  refine Meets.of (c := c38np_0) (n := 8) Try.func38 (by kernel_rfl) (by kernel_rfl) (by kernel_rfl) fun w0 S0 => ?_
  unfold net_copied_vp.f
  show GoO (net_copied_vp.cx A_2 c_3 w0 S0) [(0, .agg ⟨[.int .i64 x_1.Kind, .int .i64 x_1.From, .int .i64 x_1.To, .int .u64 x_1.Term, .int .u64 x_1.Index, .int .u64 x_1.Prev, .int .u64 x_1.Commit, .bool x_1.Ok, .slice A_2 x_1.Entries.length c_3, .string (bs x_1.Data)]⟩)] [] [Rd 1 kT_api_Entry A_2 c_3 x_1.Entries] [.code c38np_0] _
  refine GoO.seq' c38np_0e ?_
  refine GoO.region' (is := [0, 1]) c38np_1e (by kernel_rfl) ?_
  refine OpTo.go (GoO.new rfl 40 (cs := [.int .i64 x_1.Kind, .int .i64 x_1.From, .int .i64 x_1.To, .int .u64 x_1.Term, .int .u64 x_1.Index, .int .u64 x_1.Prev, .int .u64 x_1.Commit, .bool x_1.Ok, .slice A_2 x_1.Entries.length c_3, .string (bs x_1.Data)]) (by kernel_rfl) _ (fun _ => rfl) (fun b_4 => ?_))
  refine OpTo.go (GoO.new rfl 41 (cs := [.int .i64 0, .int .i64 0, .int .i64 0, .int .u64 0, .int .u64 0, .int .u64 0, .int .u64 0, .bool false, .slice none ([] : List T_api_Entry).length 0, .string (bs [])]) (by kernel_rfl) _ (fun _ => rfl) (fun b_5 => ?_))
  refine GoO.regionEnd ?_
  refine GoO.seq' c38np_2e ?_
  refine GoO.region' (is := [0, 1, 2, 3, 4]) c38np_3e (by kernel_rfl) ?_
  refine GoO.exec (is := [0, 1]) (hs := [.p, .b 1]) (rest := [2, 3, 4]) (ks := [1, 2, 4]) (env' := [(1, .pointer (some ⟨b_4, 0, none⟩)), (2, .pointer (some ⟨b_5, 0, none⟩)), (4, .slice A_2 x_1.Entries.length c_3)]) (H' := [⟨41, b_5, [.int .i64 0, .int .i64 0, .int .i64 0, .int .u64 0, .int .u64 0, .int .u64 0, .int .u64 0, .bool false, .slice none ([] : List T_api_Entry).length 0, .string (bs [])]⟩, ⟨40, b_4, [.int .i64 x_1.Kind, .int .i64 x_1.From, .int .i64 x_1.To, .int .u64 x_1.Term, .int .u64 x_1.Index, .int .u64 x_1.Prev, .int .u64 x_1.Commit, .bool x_1.Ok, .slice A_2 x_1.Entries.length c_3, .string (bs x_1.Data)]⟩]) (ps := [b_4 = b_4]) (by kernel_rfl) (And.intro rfl trivial) ?_
  refine GoO.nilOwn kT_api_Entry 42 ?_
  refine GoO.guard (fun h6 => ?_)
  refine OpTo.go (GoO.appW (e := 88) (K := kT_api_Entry) (A := none) (c := 0) (tg := 42) (bytes := 40) (zs := [.int .u64 0, .int .u64 0, .int .i64 0, .string (bs [])]) (xs := ([] : List T_api_Entry)) (ys := x_1.Entries) (xv := .slice A_2 x_1.Entries.length c_3) (j := 0) (bk := [1]) rfl (by kernel_rfl) (by kernel_rfl) (by kernel_rfl) (by kernel_rfl) rfl (by kernel_rfl) rfl (fun w S hB => SrcIs.row (Reads.rd w S (hB _ (List.mem_of_getElem? (i := 1) rfl)))) h6 rfl rfl rfl rfl _ (fun _ _ => rfl) (fun A_7 c_8 => ?_))
  refine GoO.exec (is := [3, 4]) (hs := [.p, .b 1]) (rest := []) (ks := [1, 2]) (env' := [(1, .pointer (some ⟨b_4, 0, none⟩)), (2, .pointer (some ⟨b_5, 0, none⟩))]) (H' := [⟨41, b_5, [.int .i64 0, .int .i64 0, .int .i64 0, .int .u64 0, .int .u64 0, .int .u64 0, .int .u64 0, .bool false, .slice none ([] : List T_api_Entry).length 0, .string (bs [])]⟩, ⟨40, b_4, [.int .i64 x_1.Kind, .int .i64 x_1.From, .int .i64 x_1.To, .int .u64 x_1.Term, .int .u64 x_1.Index, .int .u64 x_1.Prev, .int .u64 x_1.Commit, .bool x_1.Ok, .slice A_7 (([] : List T_api_Entry) ++ x_1.Entries).length c_8, .string (bs x_1.Data)]⟩]) (ps := [b_4 = b_4]) (by kernel_rfl) (And.intro rfl trivial) ?_
  refine GoO.regionEnd ?_
  refine GoO.seq' c38np_4e ?_
  refine GoO.region' (is := [0, 1]) c38np_5e (by kernel_rfl) ?_
  refine GoO.exec (is := [0, 1]) (hs := [.b 1, .b 0]) (rest := []) (ks := [2]) (env' := [(2, .pointer (some ⟨b_5, 0, none⟩))]) (H' := [⟨41, b_5, [.int .i64 x_1.Kind, .int .i64 x_1.From, .int .i64 x_1.To, .int .u64 x_1.Term, .int .u64 x_1.Index, .int .u64 x_1.Prev, .int .u64 x_1.Commit, .bool x_1.Ok, .slice A_7 (([] : List T_api_Entry) ++ x_1.Entries).length c_8, .string (bs x_1.Data)]⟩, ⟨40, b_4, [.int .i64 x_1.Kind, .int .i64 x_1.From, .int .i64 x_1.To, .int .u64 x_1.Term, .int .u64 x_1.Index, .int .u64 x_1.Prev, .int .u64 x_1.Commit, .bool x_1.Ok, .slice A_7 (([] : List T_api_Entry) ++ x_1.Entries).length c_8, .string (bs x_1.Data)]⟩]) (ps := [b_4 = b_4, b_5 = b_5]) (by kernel_rfl) (And.intro rfl (And.intro rfl trivial)) ?_
  refine GoO.regionEnd ?_
  refine GoO.retag (t := 42) (u := 0) (j := 0) (hk := [0, 1]) (bk := [1]) rfl rfl rfl rfl rfl rfl (by kernel_rfl) (by kernel_rfl) ?_
  refine GoO.own2rd (j := 0) rfl ?_
  exact GoO.ret' (h := c38np_6e) (hs := [0]) (ps := [b_5 = b_5]) (hk := []) (bk := [0]) Try.func38 (⟨A_7, c_8⟩ : Option Addr × Nat) (by kernel_rfl) (And.intro rfl trivial) (by kernel_rfl) (by kernel_rfl)

/-! (*tontine/net.Net).Send -/
noncomputable def c16np_0 : Code := bodyOf Try.f16
noncomputable def c16np_1 : Code := cdL c16np_0
noncomputable def c16np_2 : Code := cdR c16np_0
noncomputable def c16np_3 : Code := cdL c16np_2
noncomputable def c16np_4 : Code := cdL c16np_3
noncomputable def c16np_5 : Code := cdR c16np_3
noncomputable def c16np_9 : Code := cdR c16np_5
noncomputable def c16np_10 : Code := cdR c16np_2
noncomputable def c16np_11 : Code := cdL c16np_10
noncomputable def c16np_12 : Code := cdL c16np_11
noncomputable def c16np_13 : Code := cdR c16np_11
noncomputable def c16np_14 : Code := cdL c16np_13
noncomputable def c16np_15 : Code := cdL c16np_14
noncomputable def c16np_16 : Code := cdR c16np_14
noncomputable def c16np_17 : Code := cdL c16np_16
noncomputable def c16np_18 : Code := cdR c16np_16
noncomputable def c16np_19 : Code := cdR c16np_13
noncomputable def c16np_20 : Code := cdR c16np_10
noncomputable def c16np_21 : Code := cdL c16np_20
noncomputable def c16np_22 : Code := cdR c16np_20
noncomputable def c16np_23 : Code := cdL c16np_22
noncomputable def c16np_24 : Code := cdR c16np_22
noncomputable def c16np_6 : Code := cdL c16np_5
noncomputable def r16np_1 : Array Oper := cdO c16np_1
noncomputable def r16np_4 : Array Oper := cdO c16np_4
noncomputable def r16np_12 : Array Oper := cdO c16np_12
noncomputable def r16np_15 : Array Oper := cdO c16np_15
noncomputable def r16np_17 : Array Oper := cdO c16np_17
noncomputable def r16np_21 : Array Oper := cdO c16np_21
noncomputable def r16np_23 : Array Oper := cdO c16np_23
theorem c16np_0e : c16np_0 = .seq c16np_1 c16np_2 := by kernel_rfl
theorem c16np_1e : c16np_1 = .region 0 r16np_1 false := by kernel_rfl
theorem c16np_2e : c16np_2 = .seq c16np_3 c16np_10 := by kernel_rfl
theorem c16np_3e : c16np_3 = .seq c16np_4 c16np_5 := by kernel_rfl
theorem c16np_4e : c16np_4 = .region 1 r16np_4 false := by kernel_rfl
theorem c16np_5e : c16np_5 = .cond (cdC c16np_5) c16np_6 c16np_9 := by kernel_rfl
theorem c16np_9e : c16np_9 = .skip := by kernel_rfl
theorem c16np_10e : c16np_10 = .seq c16np_11 c16np_20 := by kernel_rfl
theorem c16np_11e : c16np_11 = .seq c16np_12 c16np_13 := by kernel_rfl
theorem c16np_12e : c16np_12 = .region 3 r16np_12 false := by kernel_rfl
theorem c16np_13e : c16np_13 = .cond (cdC c16np_13) c16np_14 c16np_19 := by kernel_rfl
theorem c16np_14e : c16np_14 = .seq c16np_15 c16np_16 := by kernel_rfl
theorem c16np_15e : c16np_15 = .region 4 r16np_15 false := by kernel_rfl
theorem c16np_16e : c16np_16 = .seq c16np_17 c16np_18 := by kernel_rfl
theorem c16np_17e : c16np_17 = .region 5 r16np_17 false := by kernel_rfl
theorem c16np_18e : c16np_18 = .ret := by kernel_rfl
theorem c16np_19e : c16np_19 = .skip := by kernel_rfl
theorem c16np_20e : c16np_20 = .seq c16np_21 c16np_22 := by kernel_rfl
theorem c16np_21e : c16np_21 = .region 6 r16np_21 true := by kernel_rfl
theorem c16np_22e : c16np_22 = .seq c16np_23 c16np_24 := by kernel_rfl
theorem c16np_23e : c16np_23 = .region 7 r16np_23 false := by kernel_rfl
theorem c16np_24e : c16np_24 = .ret := by kernel_rfl
noncomputable def net_Net_Send_vp.R (b_2 : Nat) (A_3 : Option Addr) (c_4 : Nat) (A_6 : Option Addr) (c_7 : Nat) : Pst (Bool × T_net_Net) where
  ε := Option Addr × Nat
  v := fun r x => .bool r.1
  H := fun r x => [⟨1, b_2, [.slice x.1 r.2.l.length x.2, .int .i64 r.2.lost]⟩]
  B := fun r x => [Ow 2 kT_api_Letter x.1 x.2 r.2.l]
noncomputable def net_Net_Send_vp.cx (b_2 : Nat) (A_3 : Option Addr) (c_4 : Nat) (A_6 : Option Addr) (c_7 : Nat) (w0 : World) (S0 : Fam) : Cx (Bool × T_net_Net) := ⟨Try.prog, 16, Try.f16, 31, w0, S0, [1, 2], 3, net_Net_Send_vp.R b_2 A_3 c_4 A_6 c_7⟩
theorem net_Net_Send_vp_ok (n : Nat) (n_1 : T_net_Net) (x_5 : T_api_Letter) (b_2 : Nat) (A_3 : Option Addr) (c_4 : Nat) (A_6 : Option Addr) (c_7 : Nat) :
    Meets Try.prog 16 [.pointer (some ⟨b_2, 0, none⟩), .agg ⟨[.int .i64 x_5.Kind, .int .i64 x_5.From, .int .i64 x_5.To, .int .u64 x_5.Term, .int .u64 x_5.Index, .int .u64 x_5.Prev, .int .u64 x_5.Commit, .bool x_5.Ok, .slice A_6 x_5.Entries.length c_7, .string (bs x_5.Data)]⟩] 3 [1, 2] [⟨1, b_2, [.slice A_3 n_1.l.length c_4, .int .i64 n_1.lost]⟩] [Ow 2 kT_api_Letter A_3 c_4 n_1.l, Rd 3 kT_api_Entry A_6 c_7 x_5.Entries] (net_Net_Send_vp.f n n_1 x_5) (net_Net_Send_vp.R b_2 A_3 c_4 A_6 c_7) := by
  refine Meets.of (c := c16np_0) (n := 31) Try.func16 (by kernel_rfl) (by kernel_rfl) (by kernel_rfl) fun w0 S0 => ?_
  unfold net_Net_Send_vp.f
  show GoO (net_Net_Send_vp.cx b_2 A_3 c_4 A_6 c_7 w0 S0) [(0, .pointer (some ⟨b_2, 0, none⟩)), (1, .agg ⟨[.int .i64 x_5.Kind, .int .i64 x_5.From, .int .i64 x_5.To, .int .u64 x_5.Term, .int .u64 x_5.Index, .int .u64 x_5.Prev, .int .u64 x_5.Commit, .bool x_5.Ok, .slice A_6 x_5.Entries.length c_7, .string (bs x_5.Data)]⟩)] [⟨1, b_2, [.slice A_3 n_1.l.length c_4, .int .i64 n_1.lost]⟩] [Ow 2 kT_api_Letter A_3 c_4 n_1.l, Rd 3 kT_api_Entry A_6 c_7 x_5.Entries] [.code c16np_0] _
  refine GoO.seq' c16np_0e ?_
  refine GoO.region' (is := [0, 1]) c16np_1e (by kernel_rfl) ?_
  refine OpTo.go (GoO.new rfl 40 (cs := [.int .i64 x_5.Kind, .int .i64 x_5.From, .int .i64 x_5.To, .int .u64 x_5.Term, .int .u64 x_5.Index, .int .u64 x_5.Prev, .int .u64 x_5.Commit, .bool x_5.Ok, .slice A_6 x_5.Entries.length c_7, .string (bs x_5.Data)]) (by kernel_rfl) _ (fun _ => rfl) (fun b_8 => ?_))
  refine GoO.exec (is := [1]) (hs := [.p]) (rest := []) (ks := [0, 3]) (env' := [(0, .pointer (some ⟨b_2, 0, none⟩)), (3, .pointer (some ⟨b_8, 0, none⟩))]) (H' := [⟨40, b_8, [.int .i64 x_5.Kind, .int .i64 x_5.From, .int .i64 x_5.To, .int .u64 x_5.Term, .int .u64 x_5.Index, .int .u64 x_5.Prev, .int .u64 x_5.Commit, .bool x_5.Ok, .slice A_6 x_5.Entries.length c_7, .string (bs x_5.Data)]⟩, ⟨1, b_2, [.slice A_3 n_1.l.length c_4, .int .i64 n_1.lost]⟩]) (ps := []) (by kernel_rfl) trivial ?_
  refine GoO.regionEnd ?_
  refine GoO.seq' c16np_2e ?_
  refine GoO.seq' c16np_3e ?_
  refine GoO.region' (is := [0, 1]) c16np_4e (by kernel_rfl) ?_
  refine GoO.exec (is := [0, 1]) (hs := [.p, .p]) (rest := []) (ks := [0, 3, 6]) (env' := [(0, .pointer (some ⟨b_2, 0, none⟩)), (3, .pointer (some ⟨b_8, 0, none⟩)), (6, .bool false)]) (H' := [⟨40, b_8, [.int .i64 x_5.Kind, .int .i64 x_5.From, .int .i64 x_5.To, .int .u64 x_5.Term, .int .u64 x_5.Index, .int .u64 x_5.Prev, .int .u64 x_5.Commit, .bool x_5.Ok, .slice A_6 x_5.Entries.length c_7, .string (bs x_5.Data)]⟩, ⟨1, b_2, [.slice A_3 n_1.l.length c_4, .int .i64 n_1.lost]⟩]) (ps := []) (by kernel_rfl) trivial ?_
  refine GoO.regionEnd ?_
  refine GoO.condF c16np_5e (by kernel_rfl) ?_
  refine GoO.skip' c16np_9e ?_
  refine GoO.seq' c16np_10e ?_
  refine GoO.seq' c16np_11e ?_
  refine GoO.region' (is := [0, 1, 2, 3, 4, 5]) c16np_12e (by kernel_rfl) ?_
  refine GoO.exec (is := [0, 1, 2, 3, 4, 5]) (hs := [.p, .p, .p, .b 1, .p, .p]) (rest := []) (ks := [0, 3, 12]) (env' := [(0, .pointer (some ⟨b_2, 0, none⟩)), (3, .pointer (some ⟨b_8, 0, none⟩)), (12, .bool ((n_1.l.length : Int) == 256))]) (H' := [⟨40, b_8, [.int .i64 x_5.Kind, .int .i64 x_5.From, .int .i64 x_5.To, .int .u64 x_5.Term, .int .u64 x_5.Index, .int .u64 x_5.Prev, .int .u64 x_5.Commit, .bool x_5.Ok, .slice A_6 x_5.Entries.length c_7, .string (bs x_5.Data)]⟩, ⟨1, b_2, [.slice A_3 n_1.l.length c_4, .int .i64 n_1.lost]⟩]) (ps := [b_2 = b_2]) (by kernel_rfl) (And.intro rfl trivial) ?_
  refine GoO.regionEnd ?_
  refine GoO.ite' c16np_13e (by kernel_rfl) (fun h9 => ?_) (fun h9 => ?_)
  · refine GoO.seq' c16np_14e ?_
    refine GoO.region' (is := [0, 1, 2, 3, 4, 5, 6, 7]) c16np_15e (by kernel_rfl) ?_
    refine GoO.exec (is := [0, 1, 2, 3, 4, 5, 6, 7]) (hs := [.p, .p, .p, .b 1, .p, .p, .p, .b 1]) (rest := []) (ks := []) (env' := []) (H' := [⟨40, b_8, [.int .i64 x_5.Kind, .int .i64 x_5.From, .int .i64 x_5.To, .int .u64 x_5.Term, .int .u64 x_5.Index, .int .u64 x_5.Prev, .int .u64 x_5.Commit, .bool x_5.Ok, .slice A_6 x_5.Entries.length c_7, .string (bs x_5.Data)]⟩, ⟨1, b_2, [.slice A_3 n_1.l.length c_4, .int .i64 (wi64 (n_1.lost + 1))]⟩]) (ps := [b_2 = b_2, b_2 = b_2]) (by kernel_rfl) (And.intro rfl (And.intro rfl trivial)) ?_
    refine GoO.regionEnd ?_
    refine GoO.seq' c16np_16e ?_
    refine GoO.region' (is := [0]) c16np_17e (by kernel_rfl) ?_
    refine GoO.exec (is := [0]) (hs := [.p]) (rest := []) (ks := [4]) (env' := [(4, .bool false)]) (H' := [⟨40, b_8, [.int .i64 x_5.Kind, .int .i64 x_5.From, .int .i64 x_5.To, .int .u64 x_5.Term, .int .u64 x_5.Index, .int .u64 x_5.Prev, .int .u64 x_5.Commit, .bool x_5.Ok, .slice A_6 x_5.Entries.length c_7, .string (bs x_5.Data)]⟩, ⟨1, b_2, [.slice A_3 n_1.l.length c_4, .int .i64 (wi64 (n_1.lost + 1))]⟩]) (ps := []) (by kernel_rfl) trivial ?_
    refine GoO.regionEnd ?_
    exact GoO.ret' (h := c16np_18e) (hs := []) (ps := []) (hk := [1]) (bk := [0]) Try.func16 (⟨A_3, c_4⟩ : Option Addr × Nat) (by kernel_rfl) trivial (by kernel_rfl) (by kernel_rfl)
  · refine GoO.skip' c16np_19e ?_
    refine GoO.seq' c16np_20e ?_
    refine GoO.draw c16np_21e (by kernel_rfl) [9, 10, 11] [⟨40, b_8, [.int .i64 x_5.Kind, .int .i64 x_5.From, .int .i64 x_5.To, .int .u64 x_5.Term, .int .u64 x_5.Index, .int .u64 x_5.Prev, .int .u64 x_5.Commit, .bool x_5.Ok, .slice A_6 x_5.Entries.length c_7, .string (bs x_5.Data)]⟩, ⟨1, b_2, [.slice A_3 n_1.l.length c_4, .int .i64 n_1.lost]⟩] [] (n := 12) (by kernel_rfl) ?_
    simp only [List.replicate]
    refine GoF.take [0, 1, 2, 3, 4, 5] [.p, .p, .p, .p, .b 1, .b 0] (ks := [20, 24, 25]) (fu := 6) (li := [true, true, true, true, true, true, false, false, false, false, false, false]) (env' := [(20, .pointer (some ⟨b_2, 0, none⟩)), (24, .slice A_3 n_1.l.length c_4), (25, .agg ⟨[.int .i64 x_5.Kind, .int .i64 x_5.From, .int .i64 x_5.To, .int .u64 x_5.Term, .int .u64 x_5.Index, .int .u64 x_5.Prev, .int .u64 x_5.Commit, .bool x_5.Ok, .slice A_6 x_5.Entries.length c_7, .string (bs x_5.Data)]⟩)]) (ps := [b_2 = b_2, b_8 = b_8]) (hk := [0, 1]) (bk := []) (by kernel_rfl) (And.intro rfl (And.intro rfl trivial)) rfl rfl ?_
    refine OpTo.goF (i := 6) (by kernel_rfl) (hk := [0, 1]) (bk := []) (GoO.call rfl (by kernel_rfl) (by kernel_rfl) (net_copied_vp_ok n x_5 A_6 c_7) [[0], [3]] [] [] [(1, 1)] (hks := [0, 1]) (bks := [0, 1]) (by kernel_rfl) (by kernel_rfl) (by kernel_rfl) (.inl rfl) rfl rfl (by kernel_rfl) (by kernel_rfl) _ (fun _ _ => rfl) _ _ (fun _ _ => rfl) (fun _ _ => rfl) (fun _ _ => by kernel_rfl) (fun _ _ => by kernel_rfl) (fun r_10 x_18 => ⟨rfl, rfl, ?_⟩))
    obtain ⟨A_11, c_12⟩ := x_18
    refine GoF.shape (env' := [(20, .pointer (some ⟨b_2, 0, none⟩)), (24, .slice A_3 n_1.l.length c_4), (25, .agg ⟨[.int .i64 x_5.Kind, .int .i64 x_5.From, .int .i64 x_5.To, .int .u64 x_5.Term, .int .u64 x_5.Index, .int .u64 x_5.Prev, .int .u64 x_5.Commit, .bool x_5.Ok, .slice A_6 x_5.Entries.length c_7, .string (bs x_5.Data)]⟩), (26, .agg ⟨[.int .i64 r_10.Kind, .int .i64 r_10.From, .int .i64 r_10.To, .int .u64 r_10.Term, .int .u64 r_10.Index, .int .u64 r_10.Prev, .int .u64 r_10.Commit, .bool r_10.Ok, .slice A_11 r_10.Entries.length c_12, .string (bs r_10.Data)]⟩)]) (H' := [⟨40, b_8, [.int .i64 x_5.Kind, .int .i64 x_5.From, .int .i64 x_5.To, .int .u64 x_5.Term, .int .u64 x_5.Index, .int .u64 x_5.Prev, .int .u64 x_5.Commit, .bool x_5.Ok, .slice A_6 x_5.Entries.length c_7, .string (bs x_5.Data)]⟩, ⟨1, b_2, [.slice A_3 n_1.l.length c_4, .int .i64 n_1.lost]⟩]) (B' := [Rd 0 kT_api_Entry A_11 c_12 r_10.Entries, Ow 2 kT_api_Letter A_3 c_4 n_1.l, Rd 3 kT_api_Entry A_6 c_7 x_5.Entries]) (ks := [20, 24, 25, 26]) (by kernel_rfl) (by kernel_rfl) (by kernel_rfl) ?_
    refine OpTo.goF (i := 7) (by kernel_rfl) (hk := [0, 1]) (bk := []) (GoO.lit (e := 29) (K := kT_api_Letter) rfl (by kernel_rfl) (by kernel_rfl) (cs := [.int .i64 r_10.Kind, .int .i64 r_10.From, .int .i64 r_10.To, .int .u64 r_10.Term, .int .u64 r_10.Index, .int .u64 r_10.Prev, .int .u64 r_10.Commit, .bool r_10.Ok, .slice A_11 r_10.Entries.length c_12, .string (bs r_10.Data)]) (by kernel_rfl) [r_10] (by kernel_rfl) (by kernel_rfl) (fun w S hB => ⟨[.int .i64 r_10.Kind, .int .i64 r_10.From, .int .i64 r_10.To, .int .u64 r_10.Term, .int .u64 r_10.Index, .int .u64 r_10.Prev, .int .u64 r_10.Commit, .bool r_10.Ok, .slice A_11 r_10.Entries.length c_12, .string (bs r_10.Data)], _, rfl, ⟨A_11, c_12, rfl, hB _ (List.mem_of_getElem? (i := 0) rfl)⟩, rfl⟩) 41 _ (fun _ _ => rfl) (fun A_13 c_14 => ⟨rfl, rfl, ?_⟩))
    refine GoF.guard (fun h15 => ?_)
    refine OpTo.goF (i := 8) (by kernel_rfl) (hk := [0, 1]) (bk := []) (GoO.appW (e := 29) (K := kT_api_Letter) (A := A_3) (c := c_4) (tg := 2) (bytes := 104) (zs := [.int .i64 0, .int .i64 0, .int .i64 0, .int .u64 0, .int .u64 0, .int .u64 0, .int .u64 0, .bool false, .slice none 0 0, .string (bs [])]) (xs := n_1.l) (ys := [r_10]) (xv := .slice A_13 [r_10].length c_14) (j := 2) (bk := [0, 1, 3]) rfl (by kernel_rfl) (by kernel_rfl) (by kernel_rfl) (by kernel_rfl) rfl (by kernel_rfl) rfl (fun w S hB => SrcIs.row (Reads.own w S (hB _ (List.mem_of_getElem? (i := 0) rfl)))) h15 rfl rfl rfl rfl _ (fun _ _ => rfl) (fun A_16 c_17 => ⟨rfl, rfl, ?_⟩))
    refine GoF.fin1 (i := 9) (hint := .p) (ps := []) (hk := []) (bk := []) (by kernel_rfl) rfl trivial (.inl rfl) ?_
    refine GoF.fin1 (i := 10) (hint := .p) (ps := []) (hk := []) (bk := []) (by kernel_rfl) rfl trivial (.inl rfl) ?_
    refine GoF.fin1 (i := 11) (hint := .b 1) (ps := [b_2 = b_2]) (hk := []) (bk := []) (by kernel_rfl) rfl (And.intro rfl trivial) (.inl rfl) ?_
    refine GoF.done (by kernel_rfl) ?_
    refine GoO.seq' c16np_22e ?_
    refine GoO.region' (is := [0]) c16np_23e (by kernel_rfl) ?_
    refine GoO.exec (is := [0]) (hs := [.p]) (rest := []) (ks := [4]) (env' := [(4, .bool true)]) (H' := [⟨40, b_8, [.int .i64 x_5.Kind, .int .i64 x_5.From, .int .i64 x_5.To, .int .u64 x_5.Term, .int .u64 x_5.Index, .int .u64 x_5.Prev, .int .u64 x_5.Commit, .bool x_5.Ok, .slice A_6 x_5.Entries.length c_7, .string (bs x_5.Data)]⟩, ⟨1, b_2, [.slice A_16 (n_1.l ++ [r_10]).length c_17, .int .i64 n_1.lost]⟩]) (ps := []) (by kernel_rfl) trivial ?_
    refine GoO.regionEnd ?_
    exact GoO.ret' (h := c16np_24e) (hs := []) (ps := []) (hk := [1]) (bk := [0]) Try.func16 (⟨A_16, c_17⟩ : Option Addr × Nat) (by kernel_rfl) trivial (by kernel_rfl) (by kernel_rfl)

/-! (*tontine/net.Net).Double -/
noncomputable def c18_0 : Code := bodyOf Try.f18
noncomputable def c18_1 : Code := cdL c18_0
noncomputable def c18_2 : Code := cdR c18_0
noncomputable def c18_3 : Code := cdL c18_2
noncomputable def c18_4 : Code := cdR c18_2
noncomputable def c18_5 : Code := cdL c18_4
noncomputable def c18_6 : Code := cdL c18_5
noncomputable def c18_7 : Code := cdR c18_5
noncomputable def c18_8 : Code := cdL c18_7
noncomputable def c18_9 : Code := cdL c18_8
noncomputable def c18_10 : Code := cdR c18_8
noncomputable def c18_11 : Code := cdR c18_7
noncomputable def c18_12 : Code := cdR c18_4
noncomputable def c18_13 : Code := cdL c18_12
noncomputable def c18_14 : Code := cdR c18_12
noncomputable def r18_1 : Array Oper := cdO c18_1
noncomputable def r18_3 : Array Oper := cdO c18_3
noncomputable def r18_6 : Array Oper := cdO c18_6
noncomputable def r18_9 : Array Oper := cdO c18_9
noncomputable def r18_13 : Array Oper := cdO c18_13
theorem c18_0e : c18_0 = .seq c18_1 c18_2 := by kernel_rfl
theorem c18_1e : c18_1 = .region 0 r18_1 false := by kernel_rfl
theorem c18_2e : c18_2 = .seq c18_3 c18_4 := by kernel_rfl
theorem c18_3e : c18_3 = .region 1 r18_3 false := by kernel_rfl
theorem c18_4e : c18_4 = .seq c18_5 c18_12 := by kernel_rfl
theorem c18_5e : c18_5 = .seq c18_6 c18_7 := by kernel_rfl
theorem c18_6e : c18_6 = .region 2 r18_6 false := by kernel_rfl
theorem c18_7e : c18_7 = .cond (cdC c18_7) c18_8 c18_11 := by kernel_rfl
theorem c18_8e : c18_8 = .seq c18_9 c18_10 := by kernel_rfl
theorem c18_9e : c18_9 = .region 3 r18_9 false := by kernel_rfl
theorem c18_10e : c18_10 = .ret := by kernel_rfl
theorem c18_11e : c18_11 = .skip := by kernel_rfl
theorem c18_12e : c18_12 = .seq c18_13 c18_14 := by kernel_rfl
theorem c18_13e : c18_13 = .region 4 r18_13 false := by kernel_rfl
theorem c18_14e : c18_14 = .ret := by kernel_rfl
noncomputable def net_Net_Double.R (b_2 : Nat) (A_3 : Option Addr) (c_4 : Nat) : Pst (Bool × T_net_Net) where
  ε := Option Addr × Nat
  v := fun r x => .bool r.1
  H := fun r x => [⟨1, b_2, [.slice x.1 r.2.l.length x.2, .int .i64 r.2.lost]⟩]
  B := fun r x => [Ow 2 kT_api_Letter x.1 x.2 r.2.l]
noncomputable def net_Net_Double.cx (b_2 : Nat) (A_3 : Option Addr) (c_4 : Nat) (w0 : World) (S0 : Fam) : Cx (Bool × T_net_Net) := ⟨Try.prog, 18, Try.f18, 20, w0, S0, [1, 2], 2, net_Net_Double.R b_2 A_3 c_4⟩
theorem net_Net_Double_ok (n : Nat) (n_1 : T_net_Net) (i_5 : Int) (b_2 : Nat) (A_3 : Option Addr) (c_4 : Nat) :
    Meets Try.prog 18 [.pointer (some ⟨b_2, 0, none⟩), .int .i64 i_5] 2 [1, 2] [⟨1, b_2, [.slice A_3 n_1.l.length c_4, .int .i64 n_1.lost]⟩] [Ow 2 kT_api_Letter A_3 c_4 n_1.l] (net_Net_Double.f n n_1 i_5) (net_Net_Double.R b_2 A_3 c_4) := by
  refine Meets.of (c := c18_0) (n := 20) Try.func18 (by kernel_rfl) (by kernel_rfl) (by kernel_rfl) fun w0 S0 => ?_
  unfold net_Net_Double.f
  show GoO (net_Net_Double.cx b_2 A_3 c_4 w0 S0) [(0, .pointer (some ⟨b_2, 0, none⟩)), (1, .int .i64 i_5)] [⟨1, b_2, [.slice A_3 n_1.l.length c_4, .int .i64 n_1.lost]⟩] [Ow 2 kT_api_Letter A_3 c_4 n_1.l] [.code c18_0] _
  refine GoO.seq' c18_0e ?_
  refine GoO.region' (is := [0]) c18_1e (by kernel_rfl) ?_
  refine GoO.exec (is := [0]) (hs := [.p]) (rest := []) (ks := [0, 1]) (env' := [(0, .pointer (some ⟨b_2, 0, none⟩)), (1, .int .i64 i_5)]) (H' := [⟨1, b_2, [.slice A_3 n_1.l.length c_4, .int .i64 n_1.lost]⟩]) (ps := []) (by kernel_rfl) trivial ?_
  refine GoO.regionEnd ?_
  refine GoO.seq' c18_2e ?_
  refine GoO.region' (is := [0, 1, 2, 3]) c18_3e (by kernel_rfl) ?_
  refine GoO.exec (is := [0, 1]) (hs := [.p, .p]) (rest := [2, 3]) (ks := [0, 6, 7]) (env' := [(0, .pointer (some ⟨b_2, 0, none⟩)), (6, .pointer (some ⟨b_2, 0, none⟩)), (7, .int .i64 i_5)]) (H' := [⟨1, b_2, [.slice A_3 n_1.l.length c_4, .int .i64 n_1.lost]⟩]) (ps := []) (by kernel_rfl) trivial ?_
  refine OpTo.go (GoO.call rfl (by kernel_rfl) (by kernel_rfl) (net_Net_place_ok n n_1 i_5 b_2 A_3 c_4) [[0], [1], [2]] [] [(1, 0)] [(2, 0)] (hks := [0]) (bks := [0]) (by kernel_rfl) (by kernel_rfl) (by kernel_rfl) (.inl rfl) rfl rfl (by kernel_rfl) (by kernel_rfl) _ (fun _ _ => rfl) _ _ (fun _ _ => rfl) (fun _ _ => rfl) (fun _ _ => by kernel_rfl) (fun _ _ => by kernel_rfl) (fun r_6 x_15 => ?_))
  refine GoO.shape (env' := [(0, .pointer (some ⟨b_2, 0, none⟩)), (6, .pointer (some ⟨b_2, 0, none⟩)), (7, .int .i64 i_5), (8, .int .i64 r_6)]) (H' := [⟨1, b_2, [.slice A_3 n_1.l.length c_4, .int .i64 n_1.lost]⟩]) (B' := [Ow 2 kT_api_Letter A_3 c_4 n_1.l]) (ks := [0, 6, 7, 8]) (by kernel_rfl) (by kernel_rfl) (by kernel_rfl) ?_
  refine GoO.exec (is := [3]) (hs := [.p]) (rest := []) (ks := [0, 5]) (env' := [(0, .pointer (some ⟨b_2, 0, none⟩)), (5, .int .i64 r_6)]) (H' := [⟨1, b_2, [.slice A_3 n_1.l.length c_4, .int .i64 n_1.lost]⟩]) (ps := []) (by kernel_rfl) trivial ?_
  refine GoO.regionEnd ?_
  refine GoO.seq' c18_4e ?_
  refine GoO.seq' c18_5e ?_
  refine GoO.region' (is := [0, 1]) c18_6e (by kernel_rfl) ?_
  refine GoO.exec (is := [0, 1]) (hs := [.p, .p]) (rest := []) (ks := [0, 5, 10]) (env' := [(0, .pointer (some ⟨b_2, 0, none⟩)), (5, .int .i64 r_6), (10, .bool (decide (r_6 < 0)))]) (H' := [⟨1, b_2, [.slice A_3 n_1.l.length c_4, .int .i64 n_1.lost]⟩]) (ps := []) (by kernel_rfl) trivial ?_
  refine GoO.regionEnd ?_
  refine GoO.ite' c18_7e (by kernel_rfl) (fun h7 => ?_) (fun h7 => ?_)
  · refine GoO.seq' c18_8e ?_
    refine GoO.region' (is := [0]) c18_9e (by kernel_rfl) ?_
    refine GoO.exec (is := [0]) (hs := [.p]) (rest := []) (ks := [4]) (env' := [(4, .bool false)]) (H' := [⟨1, b_2, [.slice A_3 n_1.l.length c_4, .int .i64 n_1.lost]⟩]) (ps := []) (by kernel_rfl) trivial ?_
    refine GoO.regionEnd ?_
    exact GoO.ret' (h := c18_10e) (hs := []) (ps := []) (hk := [0]) (bk := [0]) Try.func18 (⟨A_3, c_4⟩ : Option Addr × Nat) (by kernel_rfl) trivial (by kernel_rfl) (by kernel_rfl)
  · refine GoO.skip' c18_11e ?_
    refine GoO.seq' c18_12e ?_
    refine GoO.region' (is := [0, 1, 2, 3, 4, 5, 6, 7, 8, 9]) c18_13e (by kernel_rfl) ?_
    refine GoO.exec (is := [0, 1, 2, 3, 4, 5]) (hs := [.p, .p, .p, .p, .b 0, .p]) (rest := [6, 7, 8, 9]) (ks := [11, 15, 16]) (env' := [(11, .pointer (some ⟨b_2, 0, none⟩)), (15, .slice A_3 n_1.l.length c_4), (16, .int .i64 r_6)]) (H' := [⟨1, b_2, [.slice A_3 n_1.l.length c_4, .int .i64 n_1.lost]⟩]) (ps := [b_2 = b_2]) (by kernel_rfl) (And.intro rfl trivial) ?_
    refine GoO.guard (fun h8 => ?_)
    refine OpTo.go (GoO.idx (kk := .i64) (e := 29) (K := kT_api_Letter) (A := A_3) (c := c_4) (xs := n_1.l) (iv := r_6) (j := 0) rfl (by kernel_rfl) (by kernel_rfl) (by kernel_rfl) (by kernel_rfl) rfl Reads.own rfl h8.1 h8.2 (by decide) rfl ?_)
    refine OpTo.go (GoO.ldE' (K := kT_api_Letter) (A := A_3) (c := c_4) (xs := n_1.l) (iN := r_6.toNat) (off := 0) (j := 0) rfl (by kernel_rfl) rfl Reads.own (by first | exact idx_lt h8.1 h8.2 | (simp only [List.length_set]; exact idx_lt h8.1 h8.2)) (by decide) (oT_api_Letter _) (v := fun e => .agg ⟨[.int .i64 ((rdL n_1.l r_6).Kind), .int .i64 ((rdL n_1.l r_6).From), .int .i64 ((rdL n_1.l r_6).To), .int .u64 ((rdL n_1.l r_6).Term), .int .u64 ((rdL n_1.l r_6).Index), .int .u64 ((rdL n_1.l r_6).Prev), .int .u64 ((rdL n_1.l r_6).Commit), .bool ((rdL n_1.l r_6).Ok), .slice e.1 ((rdL n_1.l r_6).Entries).length e.2, .string (bs ((rdL n_1.l r_6).Data))]⟩) (fun _ => by kernel_rfl) _ (fun _ => rfl) ?_)
    rintro ⟨A_9, c_10⟩
    refine OpTo.go (GoO.call rfl (by kernel_rfl) (by kernel_rfl) (net_Net_Send_ok n n_1 (rdL n_1.l r_6) b_2 A_3 c_4 A_9 c_10) [[0], [1], [2]] [(1, 1), (2, 2)] [(1, 0)] [(2, 1), (0, 0)] (hks := []) (bks := [0]) (by kernel_rfl) (by kernel_rfl) (by kernel_rfl) (.inl rfl) rfl rfl (by kernel_rfl) (by kernel_rfl) _ (fun _ _ => rfl) _ _ (fun _ _ => rfl) (fun _ _ => rfl) (fun _ _ => by kernel_rfl) (fun _ _ => by kernel_rfl) (fun r_11 x_14 => ?_))
    obtain ⟨A_12, c_13⟩ := x_14
    refine GoO.shape (env' := [(11, .pointer (some ⟨b_2, 0, none⟩)), (16, .int .i64 r_6), (18, .agg ⟨[.int .i64 ((rdL n_1.l r_6).Kind), .int .i64 ((rdL n_1.l r_6).From), .int .i64 ((rdL n_1.l r_6).To), .int .u64 ((rdL n_1.l r_6).Term), .int .u64 ((rdL n_1.l r_6).Index), .int .u64 ((rdL n_1.l r_6).Prev), .int .u64 ((rdL n_1.l r_6).Commit), .bool ((rdL n_1.l r_6).Ok), .slice A_9 ((rdL n_1.l r_6).Entries).length c_10, .string (bs ((rdL n_1.l r_6).Data))]⟩), (19, .bool r_11.1)]) (H' := [⟨1, b_2, [.slice A_12 r_11.2.l.length c_13, .int .i64 r_11.2.lost]⟩]) (B' := [Ow 2 kT_api_Letter A_12 c_13 r_11.2.l, Rd 0 kT_api_Entry A_9 c_10 ((rdL n_1.l r_6).Entries)]) (ks := [11, 16, 18, 19]) (by kernel_rfl) (by kernel_rfl) (by kernel_rfl) ?_
    refine GoO.exec (is := [9]) (hs := [.p]) (rest := []) (ks := [4]) (env' := [(4, .bool r_11.1)]) (H' := [⟨1, b_2, [.slice A_12 r_11.2.l.length c_13, .int .i64 r_11.2.lost]⟩]) (ps := []) (by kernel_rfl) trivial ?_
    refine GoO.regionEnd ?_
    exact GoO.ret' (h := c18_14e) (hs := []) (ps := []) (hk := [0]) (bk := [0]) Try.func18 (⟨A_12, c_13⟩ : Option Addr × Nat) (by kernel_rfl) trivial (by kernel_rfl) (by kernel_rfl)

/-! tontine/net.copied -/
noncomputable def c38no_0 : Code := bodyOf Try.f38
noncomputable def c38no_1 : Code := cdL c38no_0
noncomputable def c38no_2 : Code := cdR c38no_0
noncomputable def c38no_3 : Code := cdL c38no_2
noncomputable def c38no_4 : Code := cdR c38no_2
noncomputable def c38no_5 : Code := cdL c38no_4
noncomputable def c38no_6 : Code := cdR c38no_4
noncomputable def r38no_1 : Array Oper := cdO c38no_1
noncomputable def r38no_3 : Array Oper := cdO c38no_3
noncomputable def r38no_5 : Array Oper := cdO c38no_5
theorem c38no_0e : c38no_0 = .seq c38no_1 c38no_2 := by kernel_rfl
theorem c38no_1e : c38no_1 = .region 0 r38no_1 false := by kernel_rfl
theorem c38no_2e : c38no_2 = .seq c38no_3 c38no_4 := by kernel_rfl
theorem c38no_3e : c38no_3 = .region 1 r38no_3 false := by kernel_rfl
theorem c38no_4e : c38no_4 = .seq c38no_5 c38no_6 := by kernel_rfl
theorem c38no_5e : c38no_5 = .region 2 r38no_5 false := by kernel_rfl
theorem c38no_6e : c38no_6 = .ret := by kernel_rfl
noncomputable def net_copied_vo.R (A_2 : Option Addr) (c_3 : Nat) : Pst T_api_Letter where
  ε := Option Addr × Nat
  v := fun r x => .agg ⟨[.int .i64 r.Kind, .int .i64 r.From, .int .i64 r.To, .int .u64 r.Term, .int .u64 r.Index, .int .u64 r.Prev, .int .u64 r.Commit, .bool r.Ok, .slice x.1 r.Entries.length x.2, .string (bs r.Data)]⟩
  H := fun r x => []
  B := fun r x => [Ow 1 kT_api_Entry x.1 x.2 r.Entries]
noncomputable def net_copied_vo.cx (A_2 : Option Addr) (c_3 : Nat) (w0 : World) (S0 : Fam) : Cx T_api_Letter := ⟨Try.prog, 38, Try.f38, 8, w0, S0, [], 0, net_copied_vo.R A_2 c_3⟩
theorem net_copied_vo_ok (n : Nat) (x_1 : T_api_Letter) (A_2 : Option Addr) (c_3 : Nat) :
    Meets Try.prog 38 [.agg ⟨[.int .i64 x_1.Kind, .int .i64 x_1.From, .int .i64 x_1.To, .int .u64 x_1.Term, .int .u64 x_1.Index, .int .u64 x_1.Prev, .int .u64 x_1.Commit, .bool x_1.Ok, .slice A_2 x_1.Entries.length c_3, .string (bs x_1.Data)]⟩] 0 [] [] [Rd 0 kT_api_Entry A_2 c_3 x_1.Entries] (net_copied_vo.f n x_1) (net_copied_vo.R A_2 c_3) := by
  refine Meets.of (c := c38no_0) (n := 8) Try.func38 (by kernel_rfl) (by kernel_rfl) (by kernel_rfl) fun w0 S0 => ?_
  unfold net_copied_vo.f
  show GoO (net_copied_vo.cx A_2 c_3 w0 S0) [(0, .agg ⟨[.int .i64 x_1.Kind, .int .i64 x_1.From, .int .i64 x_1.To, .int .u64 x_1.Term, .int .u64 x_1.Index, .int .u64 x_1.Prev, .int .u64 x_1.Commit, .bool x_1.Ok, .slice A_2 x_1.Entries.length c_3, .string (bs x_1.Data)]⟩)] [] [Rd 0 kT_api_Entry A_2 c_3 x_1.Entries] [.code c38no_0] _
  refine GoO.seq' c38no_0e ?_
  refine GoO.region' (is := [0, 1]) c38no_1e (by kernel_rfl) ?_
  refine OpTo.go (GoO.new rfl 40 (cs := [.int .i64 x_1.Kind, .int .i64 x_1.From, .int .i64 x_1.To, .int .u64 x_1.Term, .int .u64 x_1.Index, .int .u64 x_1.Prev, .int .u64 x_1.Commit, .bool x_1.Ok, .slice A_2 x_1.Entries.length c_3, .string (bs x_1.Data)]) (by kernel_rfl) _ (fun _ => rfl) (fun b_4 => ?_))
  refine OpTo.go (GoO.new rfl 41 (cs := [.int .i64 0, .int .i64 0, .int .i64 0, .int .u64 0, .int .u64 0, .int .u64 0, .int .u64 0, .bool false, .slice none ([] : List T_api_Entry).length 0, .string (bs [])]) (by kernel_rfl) _ (fun _ => rfl) (fun b_5 => ?_))
  refine GoO.regionEnd ?_
  refine GoO.seq' c38no_2e ?_
  refine GoO.region' (is := [0, 1, 2, 3, 4]) c38no_3e (by kernel_rfl) ?_
  refine GoO.exec (is := [0, 1]) (hs := [.p, .b 1]) (rest := [2, 3, 4]) (ks := [1, 2, 4]) (env' := [(1, .pointer (some ⟨b_4, 0, none⟩)), (2, .pointer (some ⟨b_5, 0, none⟩)), (4, .slice A_2 x_1.Entries.length c_3)]) (H' := [⟨41, b_5, [.int .i64 0, .int .i64 0, .int .i64 0, .int .u64 0, .int .u64 0, .int .u64 0, .int .u64 0, .bool false, .slice none ([] : List T_api_Entry).length 0, .string (bs [])]⟩, ⟨40, b_4, [.int .i64 x_1.Kind, .int .i64 x_1.From, .int .i64 x_1.To, .int .u64 x_1.Term, .int .u64 x_1.Index, .int .u64 x_1.Prev, .int .u64 x_1.Commit, .bool x_1.Ok, .slice A_2 x_1.Entries.length c_3, .string (bs x_1.Data)]⟩]) (ps := [b_4 = b_4]) (by kernel_rfl) (And.intro rfl trivial) ?_
  refine GoO.nilOwn kT_api_Entry 42 ?_
  refine GoO.guard (fun h6 => ?_)
  refine OpTo.go (GoO.appW (e := 88) (K := kT_api_Entry) (A := none) (c := 0) (tg := 42) (bytes := 40) (zs := [.int .u64 0, .int .u64 0, .int .i64 0, .string (bs [])]) (xs := ([] : List T_api_Entry)) (ys := x_1.Entries) (xv := .slice A_2 x_1.Entries.length c_3) (j := 0) (bk := [1]) rfl (by kernel_rfl) (by kernel_rfl) (by kernel_rfl) (by kernel_rfl) rfl (by kernel_rfl) rfl (fun w S hB => SrcIs.row (Reads.rd w S (hB _ (List.mem_of_getElem? (i := 1) rfl)))) h6 rfl rfl rfl rfl _ (fun _ _ => rfl) (fun A_7 c_8 => ?_))
  refine GoO.exec (is := [3, 4]) (hs := [.p, .b 1]) (rest := []) (ks := [1, 2]) (env' := [(1, .pointer (some ⟨b_4, 0, none⟩)), (2, .pointer (some ⟨b_5, 0, none⟩))]) (H' := [⟨41, b_5, [.int .i64 0, .int .i64 0, .int .i64 0, .int .u64 0, .int .u64 0, .int .u64 0, .int .u64 0, .bool false, .slice none ([] : List T_api_Entry).length 0, .string (bs [])]⟩, ⟨40, b_4, [.int .i64 x_1.Kind, .int .i64 x_1.From, .int .i64 x_1.To, .int .u64 x_1.Term, .int .u64 x_1.Index, .int .u64 x_1.Prev, .int .u64 x_1.Commit, .bool x_1.Ok, .slice A_7 (([] : List T_api_Entry) ++ x_1.Entries).length c_8, .string (bs x_1.Data)]⟩]) (ps := [b_4 = b_4]) (by kernel_rfl) (And.intro rfl trivial) ?_
  refine GoO.regionEnd ?_
  refine GoO.seq' c38no_4e ?_
  refine GoO.region' (is := [0, 1]) c38no_5e (by kernel_rfl) ?_
  refine GoO.exec (is := [0, 1]) (hs := [.b 1, .b 0]) (rest := []) (ks := [2]) (env' := [(2, .pointer (some ⟨b_5, 0, none⟩))]) (H' := [⟨41, b_5, [.int .i64 x_1.Kind, .int .i64 x_1.From, .int .i64 x_1.To, .int .u64 x_1.Term, .int .u64 x_1.Index, .int .u64 x_1.Prev, .int .u64 x_1.Commit, .bool x_1.Ok, .slice A_7 (([] : List T_api_Entry) ++ x_1.Entries).length c_8, .string (bs x_1.Data)]⟩, ⟨40, b_4, [.int .i64 x_1.Kind, .int .i64 x_1.From, .int .i64 x_1.To, .int .u64 x_1.Term, .int .u64 x_1.Index, .int .u64 x_1.Prev, .int .u64 x_1.Commit, .bool x_1.Ok, .slice A_7 (([] : List T_api_Entry) ++ x_1.Entries).length c_8, .string (bs x_1.Data)]⟩]) (ps := [b_4 = b_4, b_5 = b_5]) (by kernel_rfl) (And.intro rfl (And.intro rfl trivial)) ?_
  refine GoO.regionEnd ?_
  refine GoO.retag (t := 42) (u := 1) (j := 0) (hk := [0, 1]) (bk := [1]) rfl rfl rfl rfl rfl rfl (by kernel_rfl) (by kernel_rfl) ?_
  exact GoO.ret' (h := c38no_6e) (hs := [0]) (ps := [b_5 = b_5]) (hk := []) (bk := [0]) Try.func38 (⟨A_7, c_8⟩ : Option Addr × Nat) (by kernel_rfl) (And.intro rfl trivial) (by kernel_rfl) (by kernel_rfl)

/-! (*tontine/net.Net).All -/
noncomputable def c37no_0 : Code := bodyOf Try.f37
noncomputable def c37no_1 : Code := cdL c37no_0
noncomputable def c37no_2 : Code := cdR c37no_0
noncomputable def c37no_3 : Code := cdL c37no_2
noncomputable def c37no_4 : Code := cdL c37no_3
noncomputable def c37no_5 : Code := cdR c37no_3
noncomputable def c37no_9 : Code := cdR c37no_5
noncomputable def c37no_10 : Code := cdR c37no_2
noncomputable def c37no_11 : Code := cdL c37no_10
noncomputable def c37no_12 : Code := cdR c37no_10
noncomputable def c37no_13 : Code := cdL c37no_12
noncomputable def c37no_14 : Code := cdL c37no_13
noncomputable def c37no_15 : Code := cdR c37no_13
noncomputable def c37no_16 : Code := cdL c37no_15
noncomputable def c37no_17 : Code := cdL c37no_16
noncomputable def c37no_18 : Code := cdL c37no_17
noncomputable def c37no_19 : Code := cdR c37no_17
noncomputable def c37no_20 : Code := cdL c37no_19
noncomputable def c37no_21 : Code := cdL c37no_20
noncomputable def c37no_22 : Code := cdR c37no_20
noncomputable def c37no_23 : Code := cdR c37no_19
noncomputable def c37no_24 : Code := cdL c37no_23
noncomputable def c37no_25 : Code := cdL c37no_24
noncomputable def c37no_26 : Code := cdL c37no_25
noncomputable def c37no_27 : Code := cdR c37no_25
noncomputable def c37no_28 : Code := cdR c37no_23
noncomputable def c37no_29 : Code := cdR c37no_12
noncomputable def c37no_30 : Code := cdL c37no_29
noncomputable def c37no_31 : Code := cdR c37no_29
noncomputable def c37no_6 : Code := cdL c37no_5
noncomputable def r37no_1 : Array Oper := cdO c37no_1
noncomputable def r37no_4 : Array Oper := cdO c37no_4
noncomputable def r37no_11 : Array Oper := cdO c37no_11
noncomputable def r37no_14 : Array Oper := cdO c37no_14
noncomputable def r37no_18 : Array Oper := cdO c37no_18
noncomputable def r37no_26 : Array Oper := cdO c37no_26
noncomputable def r37no_27 : Array Oper := cdO c37no_27
noncomputable def r37no_28 : Array Oper := cdO c37no_28
noncomputable def r37no_30 : Array Oper := cdO c37no_30
theorem c37no_0e : c37no_0 = .seq c37no_1 c37no_2 := by kernel_rfl
theorem c37no_1e : c37no_1 = .region 0 r37no_1 false := by kernel_rfl
theorem c37no_2e : c37no_2 = .seq c37no_3 c37no_10 := by kernel_rfl
theorem c37no_3e : c37no_3 = .seq c37no_4 c37no_5 := by kernel_rfl
theorem c37no_4e : c37no_4 = .region 1 r37no_4 false := by kernel_rfl
theorem c37no_5e : c37no_5 = .cond (cdC c37no_5) c37no_6 c37no_9 := by kernel_rfl
theorem c37no_9e : c37no_9 = .skip := by kernel_rfl
theorem c37no_10e : c37no_10 = .seq c37no_11 c37no_12 := by kernel_rfl
theorem c37no_11e : c37no_11 = .region 3 r37no_11 false := by kernel_rfl
theorem c37no_12e : c37no_12 = .seq c37no_13 c37no_29 := by kernel_rfl
theorem c37no_13e : c37no_13 = .seq c37no_14 c37no_15 := by kernel_rfl
theorem c37no_14e : c37no_14 = .region 4 r37no_14 false := by kernel_rfl
theorem c37no_15e : c37no_15 = .block 0 c37no_16 := by kernel_rfl
theorem c37no_16e : c37no_16 = .loop c37no_17 := by kernel_rfl
theorem c37no_17e : c37no_17 = .seq c37no_18 c37no_19 := by kernel_rfl
theorem c37no_18e : c37no_18 = .region 5 r37no_18 false := by kernel_rfl
theorem c37no_19e : c37no_19 = .seq c37no_20 c37no_23 := by kernel_rfl
theorem c37no_20e : c37no_20 = .cond (cdC c37no_20) c37no_21 c37no_22 := by kernel_rfl
theorem c37no_21e : c37no_21 = .skip := by kernel_rfl
theorem c37no_22e : c37no_22 = .exit 0 := by kernel_rfl
theorem c37no_23e : c37no_23 = .seq c37no_24 c37no_28 := by kernel_rfl
theorem c37no_24e : c37no_24 = .block 1 c37no_25 := by kernel_rfl
theorem c37no_25e : c37no_25 = .seq c37no_26 c37no_27 := by kernel_rfl
theorem c37no_26e : c37no_26 = .region 6 r37no_26 false := by kernel_rfl
theorem c37no_27e : c37no_27 = .region 7 r37no_27 false := by kernel_rfl
theorem c37no_28e : c37no_28 = .region 8 r37no_28 false := by kernel_rfl
theorem c37no_29e : c37no_29 = .seq c37no_30 c37no_31 := by kernel_rfl
theorem c37no_30e : c37no_30 = .region 9 r37no_30 false := by kernel_rfl
theorem c37no_31e : c37no_31 = .ret := by kernel_rfl
noncomputable def net_Net_All_vo.R (b_2 : Nat) (A_3 : Option Addr) (c_4 : Nat) : Pst (List T_api_Letter) where
  ε := Option Addr × Nat
  v := fun r x => .slice x.1 r.length x.2
  H := fun r x => []
  B := fun r x => [Dw 3 dT_api_Letter x.1 x.2 0 r]
noncomputable def net_Net_All_vo.cx (b_2 : Nat) (A_3 : Option Addr) (c_4 : Nat) (w0 : World) (S0 : Fam) : Cx (List T_api_Letter) := ⟨Try.prog, 37, Try.f37, 24, w0, S0, [], 2, net_Net_All_vo.R b_2 A_3 c_4⟩
theorem net_Net_All_vo_l0_ok (n : Nat) (n_1 : T_net_Net) (b_2 : Nat) (A_3 : Option Addr) (c_4 : Nat) (w0 : World) (S0 : Fam) :
    ∀ (k : Nat) (l_5 : (List T_api_Letter)) (x_8 : Int) (A_6 : Option Addr) (c_7 : Nat), GoO (net_Net_All_vo.cx b_2 A_3 c_4 w0 S0) [(3, .slice A_6 l_5.length c_7), (11, .slice A_3 n_1.l.length c_4), (12, .int .i64 (n_1.l.length : Int)), (13, .int .i64 x_8)] [⟨1, b_2, [.slice A_3 n_1.l.length c_4, .int .i64 n_1.lost]⟩] [Dw 43 dT_api_Letter A_6 c_7 0 l_5, Ow 2 kT_api_Letter A_3 c_4 n_1.l] [.code c37no_17, .inLoop c37no_17, .inBlock 0, .code c37no_29] (net_Net_All_vo.l0 n n_1 k l_5 x_8) := by
  intro k
  induction k with
  | zero => intros; rw [net_Net_All_vo.l0.eq_1]; exact GoO.stop
  | succ k ih0 =>
    intro l_5 x_8 A_6 c_7
    rw [net_Net_All_vo.l0.eq_2]
    refine GoO.seq' c37no_17e ?_
    refine GoO.region' (is := [0]) c37no_18e (by kernel_rfl) ?_
    refine GoO.exec (is := [0]) (hs := [.p]) (rest := []) (ks := [3, 11, 12, 13, 14]) (env' := [(3, .slice A_6 l_5.length c_7), (11, .slice A_3 n_1.l.length c_4), (12, .int .i64 (n_1.l.length : Int)), (13, .int .i64 x_8), (14, .bool (decide (x_8 < (n_1.l.length : Int))))]) (H' := [⟨1, b_2, [.slice A_3 n_1.l.length c_4, .int .i64 n_1.lost]⟩]) (ps := []) (by kernel_rfl) trivial ?_
    refine GoO.regionEnd ?_
    refine GoO.seq' c37no_19e ?_
    refine GoO.ite' c37no_20e (by kernel_rfl) (fun h9 => ?_) (fun h9 => ?_)
    · refine GoO.skip' c37no_21e ?_
      refine GoO.seq' c37no_23e ?_
      refine GoO.block' c37no_24e ?_
      refine GoO.seq' c37no_25e ?_
      refine GoO.region' (is := [0, 1, 2, 3]) c37no_26e (by kernel_rfl) ?_
      refine GoO.guard (fun h10 => ?_)
      refine OpTo.go (GoO.idx (kk := .i64) (e := 29) (K := kT_api_Letter) (A := A_3) (c := c_4) (xs := n_1.l) (iv := x_8) (j := 1) rfl (by kernel_rfl) (by kernel_rfl) (by kernel_rfl) (by kernel_rfl) rfl Reads.own rfl h10.1 h10.2 (by decide) rfl ?_)
      refine OpTo.go (GoO.ldE' (K := kT_api_Letter) (A := A_3) (c := c_4) (xs := n_1.l) (iN := x_8.toNat) (off := 0) (j := 1) rfl (by kernel_rfl) rfl Reads.own (by first | exact idx_lt h10.1 h10.2 | (simp only [List.length_set]; exact idx_lt h10.1 h10.2)) (by decide) (oT_api_Letter _) (v := fun e => .agg ⟨[.int .i64 ((rdL n_1.l x_8).Kind), .int .i64 ((rdL n_1.l x_8).From), .int .i64 ((rdL n_1.l x_8).To), .int .u64 ((rdL n_1.l x_8).Term), .int .u64 ((rdL n_1.l x_8).Index), .int .u64 ((rdL n_1.l x_8).Prev), .int .u64 ((rdL n_1.l x_8).Commit), .bool ((rdL n_1.l x_8).Ok), .slice e.1 ((rdL n_1.l x_8).Entries).length e.2, .string (bs ((rdL n_1.l x_8).Data))]⟩) (fun _ => by kernel_rfl) _ (fun _ => rfl) ?_)
      rintro ⟨A_11, c_12⟩
      refine OpTo.go (GoO.new rfl 40 (cs := [.int .i64 0, .int .i64 0, .int .i64 0, .int .u64 0, .int .u64 0, .int .u64 0, .int .u64 0, .bool false, .slice none ([] : List T_api_Entry).length 0, .string (bs [])]) (by kernel_rfl) _ (fun _ => rfl) (fun b_13 => ?_))
      refine GoO.exec (is := [3]) (hs := [.b 0]) (rest := []) (ks := [3, 5, 11, 12, 13]) (env' := [(3, .slice A_6 l_5.length c_7), (5, .pointer (some ⟨b_13, 0, none⟩)), (11, .slice A_3 n_1.l.length c_4), (12, .int .i64 (n_1.l.length : Int)), (13, .int .i64 x_8)]) (H' := [⟨40, b_13, [.int .i64 ((rdL n_1.l x_8).Kind), .int .i64 ((rdL n_1.l x_8).From), .int .i64 ((rdL n_1.l x_8).To), .int .u64 ((rdL n_1.l x_8).Term), .int .u64 ((rdL n_1.l x_8).Index), .int .u64 ((rdL n_1.l x_8).Prev), .int .u64 ((rdL n_1.l x_8).Commit), .bool ((rdL n_1.l x_8).Ok), .slice A_11 ((rdL n_1.l x_8).Entries).length c_12, .string (bs ((rdL n_1.l x_8).Data))]⟩, ⟨1, b_2, [.slice A_3 n_1.l.length c_4, .int .i64 n_1.lost]⟩]) (ps := [b_13 = b_13]) (by kernel_rfl) (And.intro rfl trivial) ?_
      refine GoO.regionEnd ?_
      refine GoO.region' (is := [0, 1, 2, 3, 4, 5]) c37no_27e (by kernel_rfl) ?_
      refine GoO.exec (is := [0, 1]) (hs := [.p, .b 0]) (rest := [2, 3, 4, 5]) (ks := [11, 12, 13, 17, 18]) (env' := [(11, .slice A_3 n_1.l.length c_4), (12, .int .i64 (n_1.l.length : Int)), (13, .int .i64 x_8), (17, .slice A_6 l_5.length c_7), (18, .agg ⟨[.int .i64 ((rdL n_1.l x_8).Kind), .int .i64 ((rdL n_1.l x_8).From), .int .i64 ((rdL n_1.l x_8).To), .int .u64 ((rdL n_1.l x_8).Term), .int .u64 ((rdL n_1.l x_8).Index), .int .u64 ((rdL n_1.l x_8).Prev), .int .u64 ((rdL n_1.l x_8).Commit), .bool ((rdL n_1.l x_8).Ok), .slice A_11 ((rdL n_1.l x_8).Entries).length c_12, .string (bs ((rdL n_1.l x_8).Data))]⟩)]) (H' := [⟨40, b_13, [.int .i64 ((rdL n_1.l x_8).Kind), .int .i64 ((rdL n_1.l x_8).From), .int .i64 ((rdL n_1.l x_8).To), .int .u64 ((rdL n_1.l x_8).Term), .int .u64 ((rdL n_1.l x_8).Index), .int .u64 ((rdL n_1.l x_8).Prev), .int .u64 ((rdL n_1.l x_8).Commit), .bool ((rdL n_1.l x_8).Ok), .slice A_11 ((rdL n_1.l x_8).Entries).length c_12, .string (bs ((rdL n_1.l x_8).Data))]⟩, ⟨1, b_2, [.slice A_3 n_1.l.length c_4, .int .i64 n_1.lost]⟩]) (ps := [b_13 = b_13]) (by kernel_rfl) (And.intro rfl trivial) ?_
      refine OpTo.go (GoO.call rfl (by kernel_rfl) (by kernel_rfl) (net_copied_vo_ok n (rdL n_1.l x_8) A_11 c_12) [[0]] [(41, 1)] [] [(0, 0)] (hks := [0, 1]) (bks := [0, 1, 2]) (by kernel_rfl) (by kernel_rfl) (by kernel_rfl) (.inl rfl) rfl rfl (by kernel_rfl) (by kernel_rfl) _ (fun _ _ => rfl) _ _ (fun _ _ => rfl) (fun _ _ => rfl) (fun _ _ => by kernel_rfl) (fun _ _ => by kernel_rfl) (fun r_14 x_22 => ?_))
      obtain ⟨A_15, c_16⟩ := x_22
      refine GoO.shape (env' := [(11, .slice A_3 n_1.l.length c_4), (12, .int .i64 (n_1.l.length : Int)), (13, .int .i64 x_8), (17, .slice A_6 l_5.length c_7), (18, .agg ⟨[.int .i64 ((rdL n_1.l x_8).Kind), .int .i64 ((rdL n_1.l x_8).From), .int .i64 ((rdL n_1.l x_8).To), .int .u64 ((rdL n_1.l x_8).Term), .int .u64 ((rdL n_1.l x_8).Index), .int .u64 ((rdL n_1.l x_8).Prev), .int .u64 ((rdL n_1.l x_8).Commit), .bool ((rdL n_1.l x_8).Ok), .slice A_11 ((rdL n_1.l x_8).Entries).length c_12, .string (bs ((rdL n_1.l x_8).Data))]⟩), (19, .agg ⟨[.int .i64 r_14.Kind, .int .i64 r_14.From, .int .i64 r_14.To, .int .u64 r_14.Term, .int .u64 r_14.Index, .int .u64 r_14.Prev, .int .u64 r_14.Commit, .bool r_14.Ok, .slice A_15 r_14.Entries.length c_16, .string (bs r_14.Data)]⟩)]) (H' := [⟨40, b_13, [.int .i64 ((rdL n_1.l x_8).Kind), .int .i64 ((rdL n_1.l x_8).From), .int .i64 ((rdL n_1.l x_8).To), .int .u64 ((rdL n_1.l x_8).Term), .int .u64 ((rdL n_1.l x_8).Index), .int .u64 ((rdL n_1.l x_8).Prev), .int .u64 ((rdL n_1.l x_8).Commit), .bool ((rdL n_1.l x_8).Ok), .slice A_11 ((rdL n_1.l x_8).Entries).length c_12, .string (bs ((rdL n_1.l x_8).Data))]⟩, ⟨1, b_2, [.slice A_3 n_1.l.length c_4, .int .i64 n_1.lost]⟩]) (B' := [Ow 41 kT_api_Entry A_15 c_16 r_14.Entries, Rd 0 kT_api_Entry A_11 c_12 ((rdL n_1.l x_8).Entries), Dw 43 dT_api_Letter A_6 c_7 0 l_5, Ow 2 kT_api_Letter A_3 c_4 n_1.l]) (ks := [11, 12, 13, 17, 18, 19]) (by kernel_rfl) (by kernel_rfl) (by kernel_rfl) ?_
      refine OpTo.go (GoO.lit (e := 29) (K := dT_api_Letter.sh) rfl (by kernel_rfl) (by kernel_rfl) (cs := [.int .i64 r_14.Kind, .int .i64 r_14.From, .int .i64 r_14.To, .int .u64 r_14.Term, .int .u64 r_14.Index, .int .u64 r_14.Prev, .int .u64 r_14.Commit, .bool r_14.Ok, .slice A_15 r_14.Entries.length c_16, .string (bs r_14.Data)]) (by kernel_rfl) [(r_14, A_15, c_16)] (by kernel_rfl) (by kernel_rfl) (fun w S hB => ⟨[.int .i64 r_14.Kind, .int .i64 r_14.From, .int .i64 r_14.To, .int .u64 r_14.Term, .int .u64 r_14.Index, .int .u64 r_14.Prev, .int .u64 r_14.Commit, .bool r_14.Ok, .slice A_15 r_14.Entries.length c_16, .string (bs r_14.Data)], _, rfl, rfl, rfl⟩) 42 _ (fun _ _ => rfl) (fun A_17 c_18 => ?_))
      refine GoO.pendD (D := dT_api_Letter) (A := A_6) (c := c_7) (A2 := A_15) (c2 := c_16) (t := 43) (u := 41) (xs := l_5) (x := r_14) (j := 3) (j2 := 1) (hk := [0, 1]) (bk := [0, 2, 4]) rfl rfl rfl rfl rfl rfl rfl rfl rfl (by kernel_rfl) (by kernel_rfl) rfl ?_
      refine GoO.guard (fun h19 => ?_)
      refine OpTo.go (GoO.appP (D := dT_api_Letter) (e := 29) (A := A_6) (c := c_7) (A3 := A_17) (c3 := c_18) (tg := 43) (tg3 := 42) (bytes := 104) (zs := [.int .i64 0, .int .i64 0, .int .i64 0, .int .u64 0, .int .u64 0, .int .u64 0, .int .u64 0, .bool false, .slice none 0 0, .string (bs [])]) (xs := l_5) (p := (r_14, A_15, c_16)) (j := 0) (j3 := 1) (bk := [2, 3]) rfl (by kernel_rfl) (by kernel_rfl) (by kernel_rfl) (by kernel_rfl) rfl (by kernel_rfl) rfl rfl h19 rfl rfl rfl rfl _ (fun _ _ => rfl) (fun A_20 c_21 => ?_))
      refine GoO.exec (is := [5]) (hs := [.p]) (rest := []) (ks := [3, 11, 12, 13]) (env' := [(3, .slice A_20 (l_5 ++ [r_14]).length c_21), (11, .slice A_3 n_1.l.length c_4), (12, .int .i64 (n_1.l.length : Int)), (13, .int .i64 x_8)]) (H' := [⟨40, b_13, [.int .i64 ((rdL n_1.l x_8).Kind), .int .i64 ((rdL n_1.l x_8).From), .int .i64 ((rdL n_1.l x_8).To), .int .u64 ((rdL n_1.l x_8).Term), .int .u64 ((rdL n_1.l x_8).Index), .int .u64 ((rdL n_1.l x_8).Prev), .int .u64 ((rdL n_1.l x_8).Commit), .bool ((rdL n_1.l x_8).Ok), .slice A_11 ((rdL n_1.l x_8).Entries).length c_12, .string (bs ((rdL n_1.l x_8).Data))]⟩, ⟨1, b_2, [.slice A_3 n_1.l.length c_4, .int .i64 n_1.lost]⟩]) (ps := []) (by kernel_rfl) trivial ?_
      refine GoO.regionEnd ?_
      refine GoO.inBlock ?_
      refine GoO.region' (is := [0, 1]) c37no_28e (by kernel_rfl) ?_
      refine GoO.exec (is := [0, 1]) (hs := [.p, .p]) (rest := []) (ks := [3, 11, 12, 13]) (env' := [(3, .slice A_20 (l_5 ++ [r_14]).length c_21), (11, .slice A_3 n_1.l.length c_4), (12, .int .i64 (n_1.l.length : Int)), (13, .int .i64 (wi64 (x_8 + 1)))]) (H' := [⟨40, b_13, [.int .i64 ((rdL n_1.l x_8).Kind), .int .i64 ((rdL n_1.l x_8).From), .int .i64 ((rdL n_1.l x_8).To), .int .u64 ((rdL n_1.l x_8).Term), .int .u64 ((rdL n_1.l x_8).Index), .int .u64 ((rdL n_1.l x_8).Prev), .int .u64 ((rdL n_1.l x_8).Commit), .bool ((rdL n_1.l x_8).Ok), .slice A_11 ((rdL n_1.l x_8).Entries).length c_12, .string (bs ((rdL n_1.l x_8).Data))]⟩, ⟨1, b_2, [.slice A_3 n_1.l.length c_4, .int .i64 n_1.lost]⟩]) (ps := []) (by kernel_rfl) trivial ?_
      refine GoO.regionEnd ?_
      refine GoO.inLoop ?_
      exact GoO.sub (ks := [3, 11, 12, 13]) (hk := [1]) (bk := [0, 2]) (by kernel_rfl) (by kernel_rfl) (by kernel_rfl) (ih0 (l_5 ++ [r_14]) (wi64 (x_8 + 1)) A_20 c_21)
    · refine GoO.exit' c37no_22e rfl ?_
      refine GoO.seq' c37no_29e ?_
      refine GoO.region' (is := [0, 1]) c37no_30e (by kernel_rfl) ?_
      refine GoO.exec (is := [0, 1]) (hs := [.p, .p]) (rest := []) (ks := [2]) (env' := [(2, .slice A_6 l_5.length c_7)]) (H' := [⟨1, b_2, [.slice A_3 n_1.l.length c_4, .int .i64 n_1.lost]⟩]) (ps := []) (by kernel_rfl) trivial ?_
      refine GoO.regionEnd ?_
      refine GoO.retag (t := 43) (u := 3) (j := 0) (hk := [0]) (bk := [1]) rfl rfl rfl rfl rfl rfl (by kernel_rfl) (by kernel_rfl) ?_
      exact GoO.ret' (h := c37no_31e) (hs := []) (ps := []) (hk := []) (bk := [0]) Try.func37 (⟨A_6, c_7⟩ : Option Addr × Nat) (by kernel_rfl) trivial (by kernel_rfl) (by kernel_rfl)
theorem net_Net_All_vo_ok (n : Nat) (n_1 : T_net_Net) (b_2 : Nat) (A_3 : Option Addr) (c_4 : Nat) :
    Meets Try.prog 37 [.pointer (some ⟨b_2, 0, none⟩)] 2 [] [⟨1, b_2, [.slice A_3 n_1.l.length c_4, .int .i64 n_1.lost]⟩] [Ow 2 kT_api_Letter A_3 c_4 n_1.l] (net_Net_All_vo.f n n_1) (net_Net_All_vo.R b_2 A_3 c_4) := by
  refine Meets.of (c := c37no_0) (n := 24) Try.func37 (by kernel_rfl) (by kernel_rfl) (by kernel_rfl) fun w0 S0 => ?_
  unfold net_Net_All_vo.f
  show GoO (net_Net_All_vo.cx b_2 A_3 c_4 w0 S0) [(0, .pointer (some ⟨b_2, 0, none⟩))] [⟨1, b_2, [.slice A_3 n_1.l.length c_4, .int .i64 n_1.lost]⟩] [Ow 2 kT_api_Letter A_3 c_4 n_1.l] [.code c37no_0] _
  refine GoO.seq' c37no_0e ?_
  refine GoO.region' (is := [0]) c37no_1e (by kernel_rfl) ?_
  refine GoO.exec (is := [0]) (hs := [.p]) (rest := []) (ks := [0]) (env' := [(0, .pointer (some ⟨b_2, 0, none⟩))]) (H' := [⟨1, b_2, [.slice A_3 n_1.l.length c_4, .int .i64 n_1.lost]⟩]) (ps := []) (by kernel_rfl) trivial ?_
  refine GoO.regionEnd ?_
  refine GoO.seq' c37no_2e ?_
  refine GoO.seq' c37no_3e ?_
  refine GoO.region' (is := [0, 1]) c37no_4e (by kernel_rfl) ?_
  refine GoO.exec (is := [0, 1]) (hs := [.p, .p]) (rest := []) (ks := [0, 7]) (env' := [(0, .pointer (some ⟨b_2, 0, none⟩)), (7, .bool false)]) (H' := [⟨1, b_2, [.slice A_3 n_1.l.length c_4, .int .i64 n_1.lost]⟩]) (ps := []) (by kernel_rfl) trivial ?_
  refine GoO.regionEnd ?_
  refine GoO.condF c37no_5e (by kernel_rfl) ?_
  refine GoO.skip' c37no_9e ?_
  refine GoO.seq' c37no_10e ?_
  refine GoO.region' (is := [0]) c37no_11e (by kernel_rfl) ?_
  refine GoO.exec (is := [0]) (hs := [.p]) (rest := []) (ks := [0, 3]) (env' := [(0, .pointer (some ⟨b_2, 0, none⟩)), (3, .slice none ([] : List T_api_Letter).length 0)]) (H' := [⟨1, b_2, [.slice A_3 n_1.l.length c_4, .int .i64 n_1.lost]⟩]) (ps := []) (by kernel_rfl) trivial ?_
  refine GoO.regionEnd ?_
  refine GoO.seq' c37no_12e ?_
  refine GoO.seq' c37no_13e ?_
  refine GoO.region' (is := [0, 1, 2, 3, 4, 5]) c37no_14e (by kernel_rfl) ?_
  refine GoO.exec (is := [0, 1, 2, 3, 4, 5]) (hs := [.p, .p, .p, .b 0, .p, .p]) (rest := []) (ks := [3, 11, 12, 13]) (env' := [(3, .slice none ([] : List T_api_Letter).length 0), (11, .slice A_3 n_1.l.length c_4), (12, .int .i64 (n_1.l.length : Int)), (13, .int .i64 0)]) (H' := [⟨1, b_2, [.slice A_3 n_1.l.length c_4, .int .i64 n_1.lost]⟩]) (ps := [b_2 = b_2]) (by kernel_rfl) (And.intro rfl trivial) ?_
  refine GoO.regionEnd ?_
  refine GoO.block' c37no_15e ?_
  refine GoO.loop' c37no_16e ?_
  refine GoO.nilDw dT_api_Letter 43 ?_
  exact GoO.sub (ks := [3, 11, 12, 13]) (hk := [0]) (bk := [0, 1]) (by kernel_rfl) (by kernel_rfl) (by kernel_rfl) (net_Net_All_vo_l0_ok n n_1 b_2 A_3 c_4 w0 S0 n ([] : List T_api_Letter) 0 none 0)

/-! tontine/tontineref07.Same -/
noncomputable def c40_0 : Code := bodyOf Try.f40
noncomputable def c40_1 : Code := cdL c40_0
noncomputable def c40_2 : Code := cdR c40_0
noncomputable def c40_3 : Code := cdL c40_2
noncomputable def c40_4 : Code := cdL c40_3
noncomputable def c40_5 : Code := cdR c40_3
noncomputable def c40_6 : Code := cdL c40_5
noncomputable def c40_7 : Code := cdL c40_6
noncomputable def c40_8 : Code := cdR c40_6
noncomputable def c40_9 : Code := cdR c40_5
noncomputable def c40_10 : Code := cdR c40_2
noncomputable def c40_11 : Code := cdL c40_10
noncomputable def c40_12 : Code := cdL c40_11
noncomputable def c40_13 : Code := cdR c40_11
noncomputable def c40_14 : Code := cdL c40_13
noncomputable def c40_15 : Code := cdL c40_14
noncomputable def c40_16 : Code := cdL c40_15
noncomputable def c40_17 : Code := cdL c40_16
noncomputable def c40_18 : Code := cdR c40_16
noncomputable def c40_19 : Code := cdL c40_18
noncomputable def c40_20 : Code := cdR c40_18
noncomputable def c40_21 : Code := cdR c40_15
noncomputable def c40_22 : Code := cdL c40_21
noncomputable def c40_23 : Code := cdL c40_22
noncomputable def c40_24 : Code := cdL c40_23
noncomputable def c40_25 : Code := cdR c40_23
noncomputable def c40_26 : Code := cdL c40_25
noncomputable def c40_27 : Code := cdL c40_26
noncomputable def c40_28 : Code := cdR c40_26
noncomputable def c40_29 : Code := cdR c40_25
noncomputable def c40_30 : Code := cdR c40_21
noncomputable def c40_31 : Code := cdR c40_10
noncomputable def c40_32 : Code := cdL c40_31
noncomputable def c40_33 : Code := cdR c40_31
noncomputable def r40_1 : Array Oper := cdO c40_1
noncomputable def r40_4 : Array Oper := cdO c40_4
noncomputable def r40_7 : Array Oper := cdO c40_7
noncomputable def r40_12 : Array Oper := cdO c40_12
noncomputable def r40_17 : Array Oper := cdO c40_17
noncomputable def r40_24 : Array Oper := cdO c40_24
noncomputable def r40_27 : Array Oper := cdO c40_27
noncomputable def r40_30 : Array Oper := cdO c40_30
noncomputable def r40_32 : Array Oper := cdO c40_32
theorem c40_0e : c40_0 = .seq c40_1 c40_2 := by kernel_rfl
theorem c40_1e : c40_1 = .region 0 r40_1 false := by kernel_rfl
theorem c40_2e : c40_2 = .seq c40_3 c40_10 := by kernel_rfl
theorem c40_3e : c40_3 = .seq c40_4 c40_5 := by kernel_rfl
theorem c40_4e : c40_4 = .region 1 r40_4 false := by kernel_rfl
theorem c40_5e : c40_5 = .cond (cdC c40_5) c40_6 c40_9 := by kernel_rfl
theorem c40_6e : c40_6 = .seq c40_7 c40_8 := by kernel_rfl
theorem c40_7e : c40_7 = .region 2 r40_7 false := by kernel_rfl
theorem c40_8e : c40_8 = .ret := by kernel_rfl
theorem c40_9e : c40_9 = .skip := by kernel_rfl
theorem c40_10e : c40_10 = .seq c40_11 c40_31 := by kernel_rfl
theorem c40_11e : c40_11 = .seq c40_12 c40_13 := by kernel_rfl
theorem c40_12e : c40_12 = .region 3 r40_12 false := by kernel_rfl
theorem c40_13e : c40_13 = .block 0 c40_14 := by kernel_rfl
theorem c40_14e : c40_14 = .loop c40_15 := by kernel_rfl
theorem c40_15e : c40_15 = .seq c40_16 c40_21 := by kernel_rfl
theorem c40_16e : c40_16 = .seq c40_17 c40_18 := by kernel_rfl
theorem c40_17e : c40_17 = .region 4 r40_17 false := by kernel_rfl
theorem c40_18e : c40_18 = .cond (cdC c40_18) c40_19 c40_20 := by kernel_rfl
theorem c40_19e : c40_19 = .skip := by kernel_rfl
theorem c40_20e : c40_20 = .exit 0 := by kernel_rfl
theorem c40_21e : c40_21 = .seq c40_22 c40_30 := by kernel_rfl
theorem c40_22e : c40_22 = .block 1 c40_23 := by kernel_rfl
theorem c40_23e : c40_23 = .seq c40_24 c40_25 := by kernel_rfl
theorem c40_24e : c40_24 = .region 6 r40_24 true := by kernel_rfl
theorem c40_25e : c40_25 = .cond (cdC c40_25) c40_26 c40_29 := by kernel_rfl
theorem c40_26e : c40_26 = .seq c40_27 c40_28 := by kernel_rfl
theorem c40_27e : c40_27 = .region 7 r40_27 false := by kernel_rfl
theorem c40_28e : c40_28 = .ret := by kernel_rfl
theorem c40_29e : c40_29 = .skip := by kernel_rfl
theorem c40_30e : c40_30 = .region 5 r40_30 false := by kernel_rfl
theorem c40_31e : c40_31 = .seq c40_32 c40_33 := by kernel_rfl
theorem c40_32e : c40_32 = .region 8 r40_32 false := by kernel_rfl
theorem c40_33e : c40_33 = .ret := by kernel_rfl
noncomputable def tontineref07_Same.R (A_2 : Option Addr) (c_3 : Nat) (A_5 : Option Addr) (c_6 : Nat) : Pst Bool where
  ε := Unit
  v := fun r x => .bool r
  H := fun r x => []
  B := fun r x => []
noncomputable def tontineref07_Same.cx (A_2 : Option Addr) (c_3 : Nat) (A_5 : Option Addr) (c_6 : Nat) (w0 : World) (S0 : Fam) : Cx Bool := ⟨Try.prog, 40, Try.f40, 26, w0, S0, [], 0, tontineref07_Same.R A_2 c_3 A_5 c_6⟩
theorem tontineref07_Same_l0_ok (n : Nat) (a_1 : (List T_api_Entry)) (b_4 : (List T_api_Entry)) (A_2 : Option Addr) (c_3 : Nat) (A_5 : Option Addr) (c_6 : Nat) (w0 : World) (S0 : Fam) :
    ∀ (k : Nat) (i_8 : Int), GoO (tontineref07_Same.cx A_2 c_3 A_5 c_6 w0 S0) [(0, .slice A_2 a_1.length c_3), (1, .slice A_5 b_4.length c_6), (5, .int .i64 i_8)] [] [Rd 0 kT_api_Entry A_2 c_3 a_1, Rd 0 kT_api_Entry A_5 c_6 b_4] [.code c40_15, .inLoop c40_15, .inBlock 0, .code c40_31] (tontineref07_Same.l0 n a_1 b_4 k i_8) := by
  intro k
  induction k with
  | zero => intros; rw [tontineref07_Same.l0.eq_1]; exact GoO.stop
  | succ k ih0 =>
    intro i_8
    rw [tontineref07_Same.l0.eq_2]
    refine GoO.seq' c40_15e ?_
    refine GoO.seq' c40_16e ?_
    refine GoO.region' (is := [0, 1, 2, 3]) c40_17e (by kernel_rfl) ?_
    refine GoO.exec (is := [0, 1, 2, 3]) (hs := [.p, .p, .p, .p]) (rest := []) (ks := [0, 1, 5, 14]) (env' := [(0, .slice A_2 a_1.length c_3), (1, .slice A_5 b_4.length c_6), (5, .int .i64 i_8), (14, .bool (decide (i_8 < (a_1.length : Int))))]) (H' := []) (ps := []) (by kernel_rfl) trivial ?_
    refine GoO.regionEnd ?_
    refine GoO.ite' c40_18e (by kernel_rfl) (fun h9 => ?_) (fun h9 => ?_)
    · refine GoO.skip' c40_19e ?_
      refine GoO.seq' c40_21e ?_
      refine GoO.block' c40_22e ?_
      refine GoO.seq' c40_23e ?_
      refine GoO.draw c40_24e (by kernel_rfl) [] [] [Rd 0 kT_api_Entry A_2 c_3 a_1, Rd 0 kT_api_Entry A_5 c_6 b_4] (n := 9) (by kernel_rfl) ?_
      simp only [List.replicate]
      refine GoF.take [0, 1, 4, 5] [.p, .p, .p, .p] (ks := [0, 1, 5, 17, 18, 21, 22]) (fu := 5) (li := [true, true, false, false, true, true, false, false, false]) (env' := [(0, .slice A_2 a_1.length c_3), (1, .slice A_5 b_4.length c_6), (5, .int .i64 i_8), (17, .slice A_2 a_1.length c_3), (18, .int .i64 i_8), (21, .slice A_5 b_4.length c_6), (22, .int .i64 i_8)]) (ps := []) (hk := []) (bk := [0, 1]) (by kernel_rfl) trivial rfl rfl ?_
      refine GoF.guard (fun h10 => ?_)
      refine GoF.idx (i := 2) (hk := []) (bk := [0, 1]) (kk := .i64) (e := 88) (K := kT_api_Entry) (A := A_2) (c := c_3) (xs := a_1) (iv := i_8) (j := 0) (by kernel_rfl) rfl rfl rfl (by kernel_rfl) (by kernel_rfl) (by kernel_rfl) (by kernel_rfl) rfl Reads.rd rfl h10.1 h10.2 (by decide) rfl ?_
      refine GoF.ldE (i := 3) (hk := []) (bk := [0, 1]) (K := kT_api_Entry) (A := A_2) (c := c_3) (xs := a_1) (iN := i_8.toNat) (off := 0) (j := 0) (v := .agg ⟨[.int .u64 ((rdL a_1 i_8).Term), .int .u64 ((rdL a_1 i_8).Index), .int .i64 ((rdL a_1 i_8).Kind), .string (bs ((rdL a_1 i_8).Data))]⟩) (by kernel_rfl) rfl rfl rfl (hK := rfl) (by kernel_rfl) rfl Reads.rd (by first | exact idx_lt h10.1 h10.2 | (simp only [List.length_set]; exact idx_lt h10.1 h10.2)) (by decide) (by kernel_rfl) rfl ?_
      refine GoF.guard (fun h11 => ?_)
      refine GoF.idx (i := 6) (hk := []) (bk := [0, 1]) (kk := .i64) (e := 88) (K := kT_api_Entry) (A := A_5) (c := c_6) (xs := b_4) (iv := i_8) (j := 1) (by kernel_rfl) rfl rfl rfl (by kernel_rfl) (by kernel_rfl) (by kernel_rfl) (by kernel_rfl) rfl Reads.rd rfl h11.1 h11.2 (by decide) rfl ?_
      refine GoF.ldE (i := 7) (hk := []) (bk := [0, 1]) (K := kT_api_Entry) (A := A_5) (c := c_6) (xs := b_4) (iN := i_8.toNat) (off := 0) (j := 1) (v := .agg ⟨[.int .u64 ((rdL b_4 i_8).Term), .int .u64 ((rdL b_4 i_8).Index), .int .i64 ((rdL b_4 i_8).Kind), .string (bs ((rdL b_4 i_8).Data))]⟩) (by kernel_rfl) rfl rfl rfl (hK := rfl) (by kernel_rfl) rfl Reads.rd (by first | exact idx_lt h11.1 h11.2 | (simp only [List.length_set]; exact idx_lt h11.1 h11.2)) (by decide) (by kernel_rfl) rfl ?_
      refine GoF.take [8] [.p] (ks := [0, 1, 5, 25]) (fu := 0) (li := [true, true, true, true, true, true, true, true, true]) (env' := [(0, .slice A_2 a_1.length c_3), (1, .slice A_5 b_4.length c_6), (5, .int .i64 i_8), (25, .bool (!((((rdL a_1 i_8).Term) == ((rdL b_4 i_8).Term)) && ((((rdL a_1 i_8).Index) == ((rdL b_4 i_8).Index)) && ((((rdL a_1 i_8).Kind) == ((rdL b_4 i_8).Kind)) && ((((rdL a_1 i_8).Data) == ((rdL b_4 i_8).Data)) && true))))))]) (ps := []) (hk := []) (bk := [0, 1]) (by kernel_rfl) trivial rfl rfl ?_
      refine GoF.done (by kernel_rfl) ?_
      refine GoO.ite' c40_25e (by kernel_rfl) (fun h12 => ?_) (fun h12 => ?_)
      · refine GoO.seq' c40_26e ?_
        refine GoO.region' (is := [0]) c40_27e (by kernel_rfl) ?_
        refine GoO.exec (is := [0]) (hs := [.p]) (rest := []) (ks := [4]) (env' := [(4, .bool false)]) (H' := []) (ps := []) (by kernel_rfl) trivial ?_
        refine GoO.regionEnd ?_
        exact GoO.ret' (h := c40_28e) (hs := []) (ps := []) (hk := []) (bk := []) Try.func40 () (by kernel_rfl) trivial (by kernel_rfl) (by kernel_rfl)
      · refine GoO.skip' c40_29e ?_
        refine GoO.inBlock ?_
        refine GoO.region' (is := [0, 1, 2]) c40_30e (by kernel_rfl) ?_
        refine GoO.exec (is := [0, 1, 2]) (hs := [.p, .p, .p]) (rest := []) (ks := [0, 1, 5]) (env' := [(0, .slice A_2 a_1.length c_3), (1, .slice A_5 b_4.length c_6), (5, .int .i64 (wi64 (i_8 + 1)))]) (H' := []) (ps := []) (by kernel_rfl) trivial ?_
        refine GoO.regionEnd ?_
        refine GoO.inLoop ?_
        exact GoO.sub (ks := [0, 1, 5]) (hk := []) (bk := [0, 1]) (by kernel_rfl) (by kernel_rfl) (by kernel_rfl) (ih0 (wi64 (i_8 + 1)))
    · refine GoO.exit' c40_20e rfl ?_
      refine GoO.seq' c40_31e ?_
      refine GoO.region' (is := [0]) c40_32e (by kernel_rfl) ?_
      refine GoO.exec (is := [0]) (hs := [.p]) (rest := []) (ks := [4]) (env' := [(4, .bool true)]) (H' := []) (ps := []) (by kernel_rfl) trivial ?_
      refine GoO.regionEnd ?_
      exact GoO.ret' (h := c40_33e) (hs := []) (ps := []) (hk := []) (bk := []) Try.func40 () (by kernel_rfl) trivial (by kernel_rfl) (by kernel_rfl)
theorem tontineref07_Same_ok (n : Nat) (a_1 : (List T_api_Entry)) (b_4 : (List T_api_Entry)) (A_2 : Option Addr) (c_3 : Nat) (A_5 : Option Addr) (c_6 : Nat) :
    Meets Try.prog 40 [.slice A_2 a_1.length c_3, .slice A_5 b_4.length c_6] 0 [] [] [Rd 0 kT_api_Entry A_2 c_3 a_1, Rd 0 kT_api_Entry A_5 c_6 b_4] (tontineref07_Same.f n a_1 b_4) (tontineref07_Same.R A_2 c_3 A_5 c_6) := by
  refine Meets.of (c := c40_0) (n := 26) Try.func40 (by kernel_rfl) (by kernel_rfl) (by kernel_rfl) fun w0 S0 => ?_
  unfold tontineref07_Same.f
  show GoO (tontineref07_Same.cx A_2 c_3 A_5 c_6 w0 S0) [(0, .slice A_2 a_1.length c_3), (1, .slice A_5 b_4.length c_6)] [] [Rd 0 kT_api_Entry A_2 c_3 a_1, Rd 0 kT_api_Entry A_5 c_6 b_4] [.code c40_0] _
  refine GoO.seq' c40_0e ?_
  refine GoO.region' (is := [0]) c40_1e (by kernel_rfl) ?_
  refine GoO.exec (is := [0]) (hs := [.p]) (rest := []) (ks := [0, 1]) (env' := [(0, .slice A_2 a_1.length c_3), (1, .slice A_5 b_4.length c_6)]) (H' := []) (ps := []) (by kernel_rfl) trivial ?_
  refine GoO.regionEnd ?_
  refine GoO.seq' c40_2e ?_
  refine GoO.seq' c40_3e ?_
  refine GoO.region' (is := [0, 1, 2, 3, 4]) c40_4e (by kernel_rfl) ?_
  refine GoO.exec (is := [0, 1, 2, 3, 4]) (hs := [.p, .p, .p, .p, .p]) (rest := []) (ks := [0, 1, 10]) (env' := [(0, .slice A_2 a_1.length c_3), (1, .slice A_5 b_4.length c_6), (10, .bool ((a_1.length : Int) != (b_4.length : Int)))]) (H' := []) (ps := []) (by kernel_rfl) trivial ?_
  refine GoO.regionEnd ?_
  refine GoO.ite' c40_5e (by kernel_rfl) (fun h7 => ?_) (fun h7 => ?_)
  · refine GoO.seq' c40_6e ?_
    refine GoO.region' (is := [0]) c40_7e (by kernel_rfl) ?_
    refine GoO.exec (is := [0]) (hs := [.p]) (rest := []) (ks := [4]) (env' := [(4, .bool false)]) (H' := []) (ps := []) (by kernel_rfl) trivial ?_
    refine GoO.regionEnd ?_
    exact GoO.ret' (h := c40_8e) (hs := []) (ps := []) (hk := []) (bk := []) Try.func40 () (by kernel_rfl) trivial (by kernel_rfl) (by kernel_rfl)
  · refine GoO.skip' c40_9e ?_
    refine GoO.seq' c40_10e ?_
    refine GoO.seq' c40_11e ?_
    refine GoO.region' (is := [0]) c40_12e (by kernel_rfl) ?_
    refine GoO.exec (is := [0]) (hs := [.p]) (rest := []) (ks := [0, 1, 5]) (env' := [(0, .slice A_2 a_1.length c_3), (1, .slice A_5 b_4.length c_6), (5, .int .i64 0)]) (H' := []) (ps := []) (by kernel_rfl) trivial ?_
    refine GoO.regionEnd ?_
    refine GoO.block' c40_13e ?_
    refine GoO.loop' c40_14e ?_
    exact GoO.sub (ks := [0, 1, 5]) (hk := []) (bk := [0, 1]) (by kernel_rfl) (by kernel_rfl) (by kernel_rfl) (tontineref07_Same_l0_ok n a_1 b_4 A_2 c_3 A_5 c_6 w0 S0 n 0)

/-! tontine/tontineref10.Same -/
noncomputable def c20_0 : Code := bodyOf Try.f20
noncomputable def c20_1 : Code := cdL c20_0
noncomputable def c20_2 : Code := cdR c20_0
noncomputable def c20_3 : Code := cdL c20_2
noncomputable def c20_4 : Code := cdR c20_2
noncomputable def r20_1 : Array Oper := cdO c20_1
noncomputable def r20_3 : Array Oper := cdO c20_3
theorem c20_0e : c20_0 = .seq c20_1 c20_2 := by kernel_rfl
theorem c20_1e : c20_1 = .region 0 r20_1 false := by kernel_rfl
theorem c20_2e : c20_2 = .seq c20_3 c20_4 := by kernel_rfl
theorem c20_3e : c20_3 = .region 1 r20_3 false := by kernel_rfl
theorem c20_4e : c20_4 = .ret := by kernel_rfl
noncomputable def tontineref10_Same.R (A_2 : Option Addr) (c_3 : Nat) (A_5 : Option Addr) (c_6 : Nat) : Pst Bool where
  ε := Unit
  v := fun r x => .bool r
  H := fun r x => []
  B := fun r x => []
noncomputable def tontineref10_Same.cx (A_2 : Option Addr) (c_3 : Nat) (A_5 : Option Addr) (c_6 : Nat) (w0 : World) (S0 : Fam) : Cx Bool := ⟨Try.prog, 20, Try.f20, 73, w0, S0, [], 0, tontineref10_Same.R A_2 c_3 A_5 c_6⟩
theorem tontineref10_Same_ok (n : Nat) (a_1 : T_api_Letter) (b_4 : T_api_Letter) (A_2 : Option Addr) (c_3 : Nat) (A_5 : Option Addr) (c_6 : Nat) :
    Meets Try.prog 20 [.agg ⟨[.int .i64 a_1.Kind, .int .i64 a_1.From, .int .i64 a_1.To, .int .u64 a_1.Term, .int .u64 a_1.Index, .int .u64 a_1.Prev, .int .u64 a_1.Commit, .bool a_1.Ok, .slice A_2 a_1.Entries.length c_3, .string (bs a_1.Data)]⟩, .agg ⟨[.int .i64 b_4.Kind, .int .i64 b_4.From, .int .i64 b_4.To, .int .u64 b_4.Term, .int .u64 b_4.Index, .int .u64 b_4.Prev, .int .u64 b_4.Commit, .bool b_4.Ok, .slice A_5 b_4.Entries.length c_6, .string (bs b_4.Data)]⟩] 0 [] [] [Rd 0 kT_api_Entry A_2 c_3 a_1.Entries, Rd 0 kT_api_Entry A_5 c_6 b_4.Entries] (tontineref10_Same.f n a_1 b_4) (tontineref10_Same.R A_2 c_3 A_5 c_6) := by
  refine Meets.of (c := c20_0) (n := 73) Try.func20 (by kernel_rfl) (by kernel_rfl) (by kernel_rfl) fun w0 S0 => ?_
  unfold tontineref10_Same.f
  show GoO (tontineref10_Same.cx A_2 c_3 A_5 c_6 w0 S0) [(0, .agg ⟨[.int .i64 a_1.Kind, .int .i64 a_1.From, .int .i64 a_1.To, .int .u64 a_1.Term, .int .u64 a_1.Index, .int .u64 a_1.Prev, .int .u64 a_1.Commit, .bool a_1.Ok, .slice A_2 a_1.Entries.length c_3, .string (bs a_1.Data)]⟩), (1, .agg ⟨[.int .i64 b_4.Kind, .int .i64 b_4.From, .int .i64 b_4.To, .int .u64 b_4.Term, .int .u64 b_4.Index, .int .u64 b_4.Prev, .int .u64 b_4.Commit, .bool b_4.Ok, .slice A_5 b_4.Entries.length c_6, .string (bs b_4.Data)]⟩)] [] [Rd 0 kT_api_Entry A_2 c_3 a_1.Entries, Rd 0 kT_api_Entry A_5 c_6 b_4.Entries] [.code c20_0] _
  refine GoO.seq' c20_0e ?_
  refine GoO.region' (is := [0, 1, 2]) c20_1e (by kernel_rfl) ?_
  refine OpTo.go (GoO.new rfl 40 (cs := [.int .i64 a_1.Kind, .int .i64 a_1.From, .int .i64 a_1.To, .int .u64 a_1.Term, .int .u64 a_1.Index, .int .u64 a_1.Prev, .int .u64 a_1.Commit, .bool a_1.Ok, .slice A_2 a_1.Entries.length c_3, .string (bs a_1.Data)]) (by kernel_rfl) _ (fun _ => rfl) (fun b_7 => ?_))
  refine OpTo.go (GoO.new rfl 41 (cs := [.int .i64 b_4.Kind, .int .i64 b_4.From, .int .i64 b_4.To, .int .u64 b_4.Term, .int .u64 b_4.Index, .int .u64 b_4.Prev, .int .u64 b_4.Commit, .bool b_4.Ok, .slice A_5 b_4.Entries.length c_6, .string (bs b_4.Data)]) (by kernel_rfl) _ (fun _ => rfl) (fun b_8 => ?_))
  refine GoO.exec (is := [2]) (hs := [.p]) (rest := []) (ks := [2, 3]) (env' := [(2, .pointer (some ⟨b_7, 0, none⟩)), (3, .pointer (some ⟨b_8, 0, none⟩))]) (H' := [⟨41, b_8, [.int .i64 b_4.Kind, .int .i64 b_4.From, .int .i64 b_4.To, .int .u64 b_4.Term, .int .u64 b_4.Index, .int .u64 b_4.Prev, .int .u64 b_4.Commit, .bool b_4.Ok, .slice A_5 b_4.Entries.length c_6, .string (bs b_4.Data)]⟩, ⟨40, b_7, [.int .i64 a_1.Kind, .int .i64 a_1.From, .int .i64 a_1.To, .int .u64 a_1.Term, .int .u64 a_1.Index, .int .u64 a_1.Prev, .int .u64 a_1.Commit, .bool a_1.Ok, .slice A_2 a_1.Entries.length c_3, .string (bs a_1.Data)]⟩]) (ps := []) (by kernel_rfl) trivial ?_
  refine GoO.regionEnd ?_
  refine GoO.seq' c20_2e ?_
  refine GoO.region' (is := [0, 1, 2, 3, 4, 5, 6, 7, 8, 9, 10, 11, 12, 13, 14, 15, 16, 17, 18, 19, 20, 21, 22, 23, 24, 25, 26, 27, 28, 29, 30, 31, 32, 33, 34, 35, 36, 37, 38, 39, 40, 41, 42, 43, 44, 45, 46, 47, 48, 49, 50, 51, 52, 53, 54, 55, 56, 57, 58, 59, 60, 61, 62, 63, 64, 65, 66, 67, 68]) c20_3e (by kernel_rfl) ?_
  refine GoO.exec (is := [0, 1, 2, 3, 4, 5]) (hs := [.p, .b 1, .p, .b 0, .p, .p]) (rest := [6, 7, 8, 9, 10, 11, 12, 13, 14, 15, 16, 17, 18, 19, 20, 21, 22, 23, 24, 25, 26, 27, 28, 29, 30, 31, 32, 33, 34, 35, 36, 37, 38, 39, 40, 41, 42, 43, 44, 45, 46, 47, 48, 49, 50, 51, 52, 53, 54, 55, 56, 57, 58, 59, 60, 61, 62, 63, 64, 65, 66, 67, 68]) (ks := [2, 3, 10]) (env' := [(2, .pointer (some ⟨b_7, 0, none⟩)), (3, .pointer (some ⟨b_8, 0, none⟩)), (10, .bool (a_1.Kind == b_4.Kind))]) (H' := [⟨41, b_8, [.int .i64 b_4.Kind, .int .i64 b_4.From, .int .i64 b_4.To, .int .u64 b_4.Term, .int .u64 b_4.Index, .int .u64 b_4.Prev, .int .u64 b_4.Commit, .bool b_4.Ok, .slice A_5 b_4.Entries.length c_6, .string (bs b_4.Data)]⟩, ⟨40, b_7, [.int .i64 a_1.Kind, .int .i64 a_1.From, .int .i64 a_1.To, .int .u64 a_1.Term, .int .u64 a_1.Index, .int .u64 a_1.Prev, .int .u64 a_1.Commit, .bool a_1.Ok, .slice A_2 a_1.Entries.length c_3, .string (bs a_1.Data)]⟩]) (ps := [b_7 = b_7, b_8 = b_8]) (by kernel_rfl) (And.intro rfl (And.intro rfl trivial)) ?_
  refine GoO.bsplit (t := 10) (by kernel_rfl) (fun h9 => ?_) (fun h9 => ?_)
  · refine GoO.exec (is := [6, 7, 8, 9, 10, 11, 12]) (hs := [.p, .b 1, .p, .b 0, .p, .p, .p]) (rest := [13, 14, 15, 16, 17, 18, 19, 20, 21, 22, 23, 24, 25, 26, 27, 28, 29, 30, 31, 32, 33, 34, 35, 36, 37, 38, 39, 40, 41, 42, 43, 44, 45, 46, 47, 48, 49, 50, 51, 52, 53, 54, 55, 56, 57, 58, 59, 60, 61, 62, 63, 64, 65, 66, 67, 68]) (ks := [2, 3, 17]) (env' := [(2, .pointer (some ⟨b_7, 0, none⟩)), (3, .pointer (some ⟨b_8, 0, none⟩)), (17, .bool (a_1.From == b_4.From))]) (H' := [⟨41, b_8, [.int .i64 b_4.Kind, .int .i64 b_4.From, .int .i64 b_4.To, .int .u64 b_4.Term, .int .u64 b_4.Index, .int .u64 b_4.Prev, .int .u64 b_4.Commit, .bool b_4.Ok, .slice A_5 b_4.Entries.length c_6, .string (bs b_4.Data)]⟩, ⟨40, b_7, [.int .i64 a_1.Kind, .int .i64 a_1.From, .int .i64 a_1.To, .int .u64 a_1.Term, .int .u64 a_1.Index, .int .u64 a_1.Prev, .int .u64 a_1.Commit, .bool a_1.Ok, .slice A_2 a_1.Entries.length c_3, .string (bs a_1.Data)]⟩]) (ps := [b_7 = b_7, b_8 = b_8]) (by kernel_rfl) (And.intro rfl (And.intro rfl trivial)) ?_
    refine GoO.bsplit (t := 17) (by kernel_rfl) (fun h10 => ?_) (fun h10 => ?_)
    · refine GoO.exec (is := [13, 14, 15, 16, 17, 18, 19]) (hs := [.p, .b 1, .p, .b 0, .p, .p, .p]) (rest := [20, 21, 22, 23, 24, 25, 26, 27, 28, 29, 30, 31, 32, 33, 34, 35, 36, 37, 38, 39, 40, 41, 42, 43, 44, 45, 46, 47, 48, 49, 50, 51, 52, 53, 54, 55, 56, 57, 58, 59, 60, 61, 62, 63, 64, 65, 66, 67, 68]) (ks := [2, 3, 24]) (env' := [(2, .pointer (some ⟨b_7, 0, none⟩)), (3, .pointer (some ⟨b_8, 0, none⟩)), (24, .bool (a_1.To == b_4.To))]) (H' := [⟨41, b_8, [.int .i64 b_4.Kind, .int .i64 b_4.From, .int .i64 b_4.To, .int .u64 b_4.Term, .int .u64 b_4.Index, .int .u64 b_4.Prev, .int .u64 b_4.Commit, .bool b_4.Ok, .slice A_5 b_4.Entries.length c_6, .string (bs b_4.Data)]⟩, ⟨40, b_7, [.int .i64 a_1.Kind, .int .i64 a_1.From, .int .i64 a_1.To, .int .u64 a_1.Term, .int .u64 a_1.Index, .int .u64 a_1.Prev, .int .u64 a_1.Commit, .bool a_1.Ok, .slice A_2 a_1.Entries.length c_3, .string (bs a_1.Data)]⟩]) (ps := [b_7 = b_7, b_8 = b_8]) (by kernel_rfl) (And.intro rfl (And.intro rfl trivial)) ?_
      refine GoO.bsplit (t := 24) (by kernel_rfl) (fun h11 => ?_) (fun h11 => ?_)
      · refine GoO.exec (is := [20, 21, 22, 23, 24, 25, 26]) (hs := [.p, .b 1, .p, .b 0, .p, .p, .p]) (rest := [27, 28, 29, 30, 31, 32, 33, 34, 35, 36, 37, 38, 39, 40, 41, 42, 43, 44, 45, 46, 47, 48, 49, 50, 51, 52, 53, 54, 55, 56, 57, 58, 59, 60, 61, 62, 63, 64, 65, 66, 67, 68]) (ks := [2, 3, 31]) (env' := [(2, .pointer (some ⟨b_7, 0, none⟩)), (3, .pointer (some ⟨b_8, 0, none⟩)), (31, .bool (a_1.Term == b_4.Term))]) (H' := [⟨41, b_8, [.int .i64 b_4.Kind, .int .i64 b_4.From, .int .i64 b_4.To, .int .u64 b_4.Term, .int .u64 b_4.Index, .int .u64 b_4.Prev, .int .u64 b_4.Commit, .bool b_4.Ok, .slice A_5 b_4.Entries.length c_6, .string (bs b_4.Data)]⟩, ⟨40, b_7, [.int .i64 a_1.Kind, .int .i64 a_1.From, .int .i64 a_1.To, .int .u64 a_1.Term, .int .u64 a_1.Index, .int .u64 a_1.Prev, .int .u64 a_1.Commit, .bool a_1.Ok, .slice A_2 a_1.Entries.length c_3, .string (bs a_1.Data)]⟩]) (ps := [b_7 = b_7, b_8 = b_8]) (by kernel_rfl) (And.intro rfl (And.intro rfl trivial)) ?_
        refine GoO.bsplit (t := 31) (by kernel_rfl) (fun h12 => ?_) (fun h12 => ?_)
        · refine GoO.exec (is := [27, 28, 29, 30, 31, 32, 33]) (hs := [.p, .b 1, .p, .b 0, .p, .p, .p]) (rest := [34, 35, 36, 37, 38, 39, 40, 41, 42, 43, 44, 45, 46, 47, 48, 49, 50, 51, 52, 53, 54, 55, 56, 57, 58, 59, 60, 61, 62, 63, 64, 65, 66, 67, 68]) (ks := [2, 3, 38]) (env' := [(2, .pointer (some ⟨b_7, 0, none⟩)), (3, .pointer (some ⟨b_8, 0, none⟩)), (38, .bool (a_1.Index == b_4.Index))]) (H' := [⟨41, b_8, [.int .i64 b_4.Kind, .int .i64 b_4.From, .int .i64 b_4.To, .int .u64 b_4.Term, .int .u64 b_4.Index, .int .u64 b_4.Prev, .int .u64 b_4.Commit, .bool b_4.Ok, .slice A_5 b_4.Entries.length c_6, .string (bs b_4.Data)]⟩, ⟨40, b_7, [.int .i64 a_1.Kind, .int .i64 a_1.From, .int .i64 a_1.To, .int .u64 a_1.Term, .int .u64 a_1.Index, .int .u64 a_1.Prev, .int .u64 a_1.Commit, .bool a_1.Ok, .slice A_2 a_1.Entries.length c_3, .string (bs a_1.Data)]⟩]) (ps := [b_7 = b_7, b_8 = b_8]) (by kernel_rfl) (And.intro rfl (And.intro rfl trivial)) ?_
          refine GoO.bsplit (t := 38) (by kernel_rfl) (fun h13 => ?_) (fun h13 => ?_)
          · refine GoO.exec (is := [34, 35, 36, 37, 38, 39, 40]) (hs := [.p, .b 1, .p, .b 0, .p, .p, .p]) (rest := [41, 42, 43, 44, 45, 46, 47, 48, 49, 50, 51, 52, 53, 54, 55, 56, 57, 58, 59, 60, 61, 62, 63, 64, 65, 66, 67, 68]) (ks := [2, 3, 45]) (env' := [(2, .pointer (some ⟨b_7, 0, none⟩)), (3, .pointer (some ⟨b_8, 0, none⟩)), (45, .bool (a_1.Prev == b_4.Prev))]) (H' := [⟨41, b_8, [.int .i64 b_4.Kind, .int .i64 b_4.From, .int .i64 b_4.To, .int .u64 b_4.Term, .int .u64 b_4.Index, .int .u64 b_4.Prev, .int .u64 b_4.Commit, .bool b_4.Ok, .slice A_5 b_4.Entries.length c_6, .string (bs b_4.Data)]⟩, ⟨40, b_7, [.int .i64 a_1.Kind, .int .i64 a_1.From, .int .i64 a_1.To, .int .u64 a_1.Term, .int .u64 a_1.Index, .int .u64 a_1.Prev, .int .u64 a_1.Commit, .bool a_1.Ok, .slice A_2 a_1.Entries.length c_3, .string (bs a_1.Data)]⟩]) (ps := [b_7 = b_7, b_8 = b_8]) (by kernel_rfl) (And.intro rfl (And.intro rfl trivial)) ?_
            refine GoO.bsplit (t := 45) (by kernel_rfl) (fun h14 => ?_) (fun h14 => ?_)
            · refine GoO.exec (is := [41, 42, 43, 44, 45, 46, 47]) (hs := [.p, .b 1, .p, .b 0, .p, .p, .p]) (rest := [48, 49, 50, 51, 52, 53, 54, 55, 56, 57, 58, 59, 60, 61, 62, 63, 64, 65, 66, 67, 68]) (ks := [2, 3, 52]) (env' := [(2, .pointer (some ⟨b_7, 0, none⟩)), (3, .pointer (some ⟨b_8, 0, none⟩)), (52, .bool (a_1.Commit == b_4.Commit))]) (H' := [⟨41, b_8, [.int .i64 b_4.Kind, .int .i64 b_4.From, .int .i64 b_4.To, .int .u64 b_4.Term, .int .u64 b_4.Index, .int .u64 b_4.Prev, .int .u64 b_4.Commit, .bool b_4.Ok, .slice A_5 b_4.Entries.length c_6, .string (bs b_4.Data)]⟩, ⟨40, b_7, [.int .i64 a_1.Kind, .int .i64 a_1.From, .int .i64 a_1.To, .int .u64 a_1.Term, .int .u64 a_1.Index, .int .u64 a_1.Prev, .int .u64 a_1.Commit, .bool a_1.Ok, .slice A_2 a_1.Entries.length c_3, .string (bs a_1.Data)]⟩]) (ps := [b_7 = b_7, b_8 = b_8]) (by kernel_rfl) (And.intro rfl (And.intro rfl trivial)) ?_
              refine GoO.bsplit (t := 52) (by kernel_rfl) (fun h15 => ?_) (fun h15 => ?_)
              · refine GoO.exec (is := [48, 49, 50, 51, 52, 53, 54]) (hs := [.p, .b 1, .p, .b 0, .p, .p, .p]) (rest := [55, 56, 57, 58, 59, 60, 61, 62, 63, 64, 65, 66, 67, 68]) (ks := [2, 3, 59]) (env' := [(2, .pointer (some ⟨b_7, 0, none⟩)), (3, .pointer (some ⟨b_8, 0, none⟩)), (59, .bool (a_1.Ok == b_4.Ok))]) (H' := [⟨41, b_8, [.int .i64 b_4.Kind, .int .i64 b_4.From, .int .i64 b_4.To, .int .u64 b_4.Term, .int .u64 b_4.Index, .int .u64 b_4.Prev, .int .u64 b_4.Commit, .bool b_4.Ok, .slice A_5 b_4.Entries.length c_6, .string (bs b_4.Data)]⟩, ⟨40, b_7, [.int .i64 a_1.Kind, .int .i64 a_1.From, .int .i64 a_1.To, .int .u64 a_1.Term, .int .u64 a_1.Index, .int .u64 a_1.Prev, .int .u64 a_1.Commit, .bool a_1.Ok, .slice A_2 a_1.Entries.length c_3, .string (bs a_1.Data)]⟩]) (ps := [b_7 = b_7, b_8 = b_8]) (by kernel_rfl) (And.intro rfl (And.intro rfl trivial)) ?_
                refine GoO.bsplit (t := 59) (by kernel_rfl) (fun h16 => ?_) (fun h16 => ?_)
                · refine GoO.exec (is := [55, 56, 57, 58, 59, 60, 61]) (hs := [.p, .b 1, .p, .b 0, .p, .p, .p]) (rest := [62, 63, 64, 65, 66, 67, 68]) (ks := [2, 3, 66]) (env' := [(2, .pointer (some ⟨b_7, 0, none⟩)), (3, .pointer (some ⟨b_8, 0, none⟩)), (66, .bool (a_1.Data == b_4.Data))]) (H' := [⟨41, b_8, [.int .i64 b_4.Kind, .int .i64 b_4.From, .int .i64 b_4.To, .int .u64 b_4.Term, .int .u64 b_4.Index, .int .u64 b_4.Prev, .int .u64 b_4.Commit, .bool b_4.Ok, .slice A_5 b_4.Entries.length c_6, .string (bs b_4.Data)]⟩, ⟨40, b_7, [.int .i64 a_1.Kind, .int .i64 a_1.From, .int .i64 a_1.To, .int .u64 a_1.Term, .int .u64 a_1.Index, .int .u64 a_1.Prev, .int .u64 a_1.Commit, .bool a_1.Ok, .slice A_2 a_1.Entries.length c_3, .string (bs a_1.Data)]⟩]) (ps := [b_7 = b_7, b_8 = b_8]) (by kernel_rfl) (And.intro rfl (And.intro rfl trivial)) ?_
                  refine GoO.bsplit (t := 66) (by kernel_rfl) (fun h17 => ?_) (fun h17 => ?_)
                  · refine GoO.exec (is := [62, 63, 64, 65]) (hs := [.p, .b 1, .p, .b 0]) (rest := [66, 67, 68]) (ks := [66, 68, 70]) (env' := [(66, .bool true), (68, .slice A_2 a_1.Entries.length c_3), (70, .slice A_5 b_4.Entries.length c_6)]) (H' := [⟨41, b_8, [.int .i64 b_4.Kind, .int .i64 b_4.From, .int .i64 b_4.To, .int .u64 b_4.Term, .int .u64 b_4.Index, .int .u64 b_4.Prev, .int .u64 b_4.Commit, .bool b_4.Ok, .slice A_5 b_4.Entries.length c_6, .string (bs b_4.Data)]⟩, ⟨40, b_7, [.int .i64 a_1.Kind, .int .i64 a_1.From, .int .i64 a_1.To, .int .u64 a_1.Term, .int .u64 a_1.Index, .int .u64 a_1.Prev, .int .u64 a_1.Commit, .bool a_1.Ok, .slice A_2 a_1.Entries.length c_3, .string (bs a_1.Data)]⟩]) (ps := [b_7 = b_7, b_8 = b_8]) (by kernel_rfl) (And.intro rfl (And.intro rfl trivial)) ?_
                    refine OpTo.go (GoO.call rfl (by kernel_rfl) (by kernel_rfl) (tontineref07_Same_ok n a_1.Entries b_4.Entries A_2 c_3 A_5 c_6) [[0]] [] [] [(0, 0), (0, 1)] (hks := [0, 1]) (bks := [0, 1]) (by kernel_rfl) (by kernel_rfl) (by kernel_rfl) (.inl rfl) rfl rfl (by kernel_rfl) (by kernel_rfl) _ (fun _ _ => rfl) _ _ (fun _ _ => rfl) (fun _ _ => rfl) (fun _ _ => by kernel_rfl) (fun _ _ => by kernel_rfl) (fun r_18 x_19 => ?_))
                    refine GoO.shape (env' := [(66, .bool true), (68, .slice A_2 a_1.Entries.length c_3), (70, .slice A_5 b_4.Entries.length c_6), (71, .bool r_18)]) (H' := [⟨41, b_8, [.int .i64 b_4.Kind, .int .i64 b_4.From, .int .i64 b_4.To, .int .u64 b_4.Term, .int .u64 b_4.Index, .int .u64 b_4.Prev, .int .u64 b_4.Commit, .bool b_4.Ok, .slice A_5 b_4.Entries.length c_6, .string (bs b_4.Data)]⟩, ⟨40, b_7, [.int .i64 a_1.Kind, .int .i64 a_1.From, .int .i64 a_1.To, .int .u64 a_1.Term, .int .u64 a_1.Index, .int .u64 a_1.Prev, .int .u64 a_1.Commit, .bool a_1.Ok, .slice A_2 a_1.Entries.length c_3, .string (bs a_1.Data)]⟩]) (B' := [Rd 0 kT_api_Entry A_2 c_3 a_1.Entries, Rd 0 kT_api_Entry A_5 c_6 b_4.Entries]) (ks := [66, 68, 70, 71]) (by kernel_rfl) (by kernel_rfl) (by kernel_rfl) ?_
                    refine GoO.exec (is := [67, 68]) (hs := [.p, .p]) (rest := []) (ks := [4]) (env' := [(4, .bool r_18)]) (H' := [⟨41, b_8, [.int .i64 b_4.Kind, .int .i64 b_4.From, .int .i64 b_4.To, .int .u64 b_4.Term, .int .u64 b_4.Index, .int .u64 b_4.Prev, .int .u64 b_4.Commit, .bool b_4.Ok, .slice A_5 b_4.Entries.length c_6, .string (bs b_4.Data)]⟩, ⟨40, b_7, [.int .i64 a_1.Kind, .int .i64 a_1.From, .int .i64 a_1.To, .int .u64 a_1.Term, .int .u64 a_1.Index, .int .u64 a_1.Prev, .int .u64 a_1.Commit, .bool a_1.Ok, .slice A_2 a_1.Entries.length c_3, .string (bs a_1.Data)]⟩]) (ps := []) (by kernel_rfl) trivial ?_
                    refine GoO.regionEnd ?_
                    exact GoO.ret' (h := c20_4e) (hs := []) (ps := []) (hk := []) (bk := []) Try.func20 () (by kernel_rfl) trivial (by kernel_rfl) (by kernel_rfl)
                  · refine GoO.exec (is := [62, 63, 64, 65, 66, 67, 68]) (hs := [.p, .p, .p, .p, .p, .p, .p]) (rest := []) (ks := [4]) (env' := [(4, .bool false)]) (H' := [⟨41, b_8, [.int .i64 b_4.Kind, .int .i64 b_4.From, .int .i64 b_4.To, .int .u64 b_4.Term, .int .u64 b_4.Index, .int .u64 b_4.Prev, .int .u64 b_4.Commit, .bool b_4.Ok, .slice A_5 b_4.Entries.length c_6, .string (bs b_4.Data)]⟩, ⟨40, b_7, [.int .i64 a_1.Kind, .int .i64 a_1.From, .int .i64 a_1.To, .int .u64 a_1.Term, .int .u64 a_1.Index, .int .u64 a_1.Prev, .int .u64 a_1.Commit, .bool a_1.Ok, .slice A_2 a_1.Entries.length c_3, .string (bs a_1.Data)]⟩]) (ps := []) (by kernel_rfl) trivial ?_
                    refine GoO.regionEnd ?_
                    exact GoO.ret' (h := c20_4e) (hs := []) (ps := []) (hk := []) (bk := []) Try.func20 () (by kernel_rfl) trivial (by kernel_rfl) (by kernel_rfl)
                · refine GoO.exec (is := [55, 56, 57, 58, 59, 60, 61, 62, 63, 64, 65, 66, 67, 68]) (hs := [.p, .p, .p, .p, .p, .p, .p, .p, .p, .p, .p, .p, .p, .p]) (rest := []) (ks := [4]) (env' := [(4, .bool false)]) (H' := [⟨41, b_8, [.int .i64 b_4.Kind, .int .i64 b_4.From, .int .i64 b_4.To, .int .u64 b_4.Term, .int .u64 b_4.Index, .int .u64 b_4.Prev, .int .u64 b_4.Commit, .bool b_4.Ok, .slice A_5 b_4.Entries.length c_6, .string (bs b_4.Data)]⟩, ⟨40, b_7, [.int .i64 a_1.Kind, .int .i64 a_1.From, .int .i64 a_1.To, .int .u64 a_1.Term, .int .u64 a_1.Index, .int .u64 a_1.Prev, .int .u64 a_1.Commit, .bool a_1.Ok, .slice A_2 a_1.Entries.length c_3, .string (bs a_1.Data)]⟩]) (ps := []) (by kernel_rfl) trivial ?_
                  refine GoO.regionEnd ?_
                  exact GoO.ret' (h := c20_4e) (hs := []) (ps := []) (hk := []) (bk := []) Try.func20 () (by kernel_rfl) trivial (by kernel_rfl) (by kernel_rfl)
              · refine GoO.exec (is := [48, 49, 50, 51, 52, 53, 54, 55, 56, 57, 58, 59, 60, 61, 62, 63, 64, 65, 66, 67, 68]) (hs := [.p, .p, .p, .p, .p, .p, .p, .p, .p, .p, .p, .p, .p, .p, .p, .p, .p, .p, .p, .p, .p]) (rest := []) (ks := [4]) (env' := [(4, .bool false)]) (H' := [⟨41, b_8, [.int .i64 b_4.Kind, .int .i64 b_4.From, .int .i64 b_4.To, .int .u64 b_4.Term, .int .u64 b_4.Index, .int .u64 b_4.Prev, .int .u64 b_4.Commit, .bool b_4.Ok, .slice A_5 b_4.Entries.length c_6, .string (bs b_4.Data)]⟩, ⟨40, b_7, [.int .i64 a_1.Kind, .int .i64 a_1.From, .int .i64 a_1.To, .int .u64 a_1.Term, .int .u64 a_1.Index, .int .u64 a_1.Prev, .int .u64 a_1.Commit, .bool a_1.Ok, .slice A_2 a_1.Entries.length c_3, .string (bs a_1.Data)]⟩]) (ps := []) (by kernel_rfl) trivial ?_
                refine GoO.regionEnd ?_
                exact GoO.ret' (h := c20_4e) (hs := []) (ps := []) (hk := []) (bk := []) Try.func20 () (by kernel_rfl) trivial (by kernel_rfl) (by kernel_rfl)
            · refine GoO.exec (is := [41, 42, 43, 44, 45, 46, 47, 48, 49, 50, 51, 52, 53, 54, 55, 56, 57, 58, 59, 60, 61, 62, 63, 64, 65, 66, 67, 68]) (hs := [.p, .p, .p, .p, .p, .p, .p, .p, .p, .p, .p, .p, .p, .p, .p, .p, .p, .p, .p, .p, .p, .p, .p, .p, .p, .p, .p, .p]) (rest := []) (ks := [4]) (env' := [(4, .bool false)]) (H' := [⟨41, b_8, [.int .i64 b_4.Kind, .int .i64 b_4.From, .int .i64 b_4.To, .int .u64 b_4.Term, .int .u64 b_4.Index, .int .u64 b_4.Prev, .int .u64 b_4.Commit, .bool b_4.Ok, .slice A_5 b_4.Entries.length c_6, .string (bs b_4.Data)]⟩, ⟨40, b_7, [.int .i64 a_1.Kind, .int .i64 a_1.From, .int .i64 a_1.To, .int .u64 a_1.Term, .int .u64 a_1.Index, .int .u64 a_1.Prev, .int .u64 a_1.Commit, .bool a_1.Ok, .slice A_2 a_1.Entries.length c_3, .string (bs a_1.Data)]⟩]) (ps := []) (by kernel_rfl) trivial ?_
              refine GoO.regionEnd ?_
              exact GoO.ret' (h := c20_4e) (hs := []) (ps := []) (hk := []) (bk := []) Try.func20 () (by kernel_rfl) trivial (by kernel_rfl) (by kernel_rfl)
          · refine GoO.exec (is := [34, 35, 36, 37, 38, 39, 40, 41, 42, 43, 44, 45, 46, 47, 48, 49, 50, 51, 52, 53, 54, 55, 56, 57, 58, 59, 60, 61, 62, 63, 64, 65, 66, 67, 68]) (hs := [.p, .p, .p, .p, .p, .p, .p, .p, .p, .p, .p, .p, .p, .p, .p, .p, .p, .p, .p, .p, .p, .p, .p, .p, .p, .p, .p, .p, .p, .p, .p, .p, .p, .p, .p]) (rest := []) (ks := [4]) (env' := [(4, .bool false)]) (H' := [⟨41, b_8, [.int .i64 b_4.Kind, .int .i64 b_4.From, .int .i64 b_4.To, .int .u64 b_4.Term, .int .u64 b_4.Index, .int .u64 b_4.Prev, .int .u64 b_4.Commit, .bool b_4.Ok, .slice A_5 b_4.Entries.length c_6, .string (bs b_4.Data)]⟩, ⟨40, b_7, [.int .i64 a_1.Kind, .int .i64 a_1.From, .int .i64 a_1.To, .int .u64 a_1.Term, .int .u64 a_1.Index, .int .u64 a_1.Prev, .int .u64 a_1.Commit, .bool a_1.Ok, .slice A_2 a_1.Entries.length c_3, .string (bs a_1.Data)]⟩]) (ps := []) (by kernel_rfl) trivial ?_
            refine GoO.regionEnd ?_
            exact GoO.ret' (h := c20_4e) (hs := []) (ps := []) (hk := []) (bk := []) Try.func20 () (by kernel_rfl) trivial (by kernel_rfl) (by kernel_rfl)
        · refine GoO.exec (is := [27, 28, 29, 30, 31, 32, 33, 34, 35, 36, 37, 38, 39, 40, 41, 42, 43, 44, 45, 46, 47, 48, 49, 50, 51, 52, 53, 54, 55, 56, 57, 58, 59, 60, 61, 62, 63, 64, 65, 66, 67, 68]) (hs := [.p, .p, .p, .p, .p, .p, .p, .p, .p, .p, .p, .p, .p, .p, .p, .p, .p, .p, .p, .p, .p, .p, .p, .p, .p, .p, .p, .p, .p, .p, .p, .p, .p, .p, .p, .p, .p, .p, .p, .p, .p, .p]) (rest := []) (ks := [4]) (env' := [(4, .bool false)]) (H' := [⟨41, b_8, [.int .i64 b_4.Kind, .int .i64 b_4.From, .int .i64 b_4.To, .int .u64 b_4.Term, .int .u64 b_4.Index, .int .u64 b_4.Prev, .int .u64 b_4.Commit, .bool b_4.Ok, .slice A_5 b_4.Entries.length c_6, .string (bs b_4.Data)]⟩, ⟨40, b_7, [.int .i64 a_1.Kind, .int .i64 a_1.From, .int .i64 a_1.To, .int .u64 a_1.Term, .int .u64 a_1.Index, .int .u64 a_1.Prev, .int .u64 a_1.Commit, .bool a_1.Ok, .slice A_2 a_1.Entries.length c_3, .string (bs a_1.Data)]⟩]) (ps := []) (by kernel_rfl) trivial ?_
          refine GoO.regionEnd ?_
          exact GoO.ret' (h := c20_4e) (hs := []) (ps := []) (hk := []) (bk := []) Try.func20 () (by kernel_rfl) trivial (by kernel_rfl) (by kernel_rfl)
      · refine GoO.exec (is := [20, 21, 22, 23, 24, 25, 26, 27, 28, 29, 30, 31, 32, 33, 34, 35, 36, 37, 38, 39, 40, 41, 42, 43, 44, 45, 46, 47, 48, 49, 50, 51, 52, 53, 54, 55, 56, 57, 58, 59, 60, 61, 62, 63, 64, 65, 66, 67, 68]) (hs := [.p, .p, .p, .p, .p, .p, .p, .p, .p, .p, .p, .p, .p, .p, .p, .p, .p, .p, .p, .p, .p, .p, .p, .p, .p, .p, .p, .p, .p, .p, .p, .p, .p, .p, .p, .p, .p, .p, .p, .p, .p, .p, .p, .p, .p, .p, .p, .p, .p]) (rest := []) (ks := [4]) (env' := [(4, .bool false)]) (H' := [⟨41, b_8, [.int .i64 b_4.Kind, .int .i64 b_4.From, .int .i64 b_4.To, .int .u64 b_4.Term, .int .u64 b_4.Index, .int .u64 b_4.Prev, .int .u64 b_4.Commit, .bool b_4.Ok, .slice A_5 b_4.Entries.length c_6, .string (bs b_4.Data)]⟩, ⟨40, b_7, [.int .i64 a_1.Kind, .int .i64 a_1.From, .int .i64 a_1.To, .int .u64 a_1.Term, .int .u64 a_1.Index, .int .u64 a_1.Prev, .int .u64 a_1.Commit, .bool a_1.Ok, .slice A_2 a_1.Entries.length c_3, .string (bs a_1.Data)]⟩]) (ps := []) (by kernel_rfl) trivial ?_
        refine GoO.regionEnd ?_
        exact GoO.ret' (h := c20_4e) (hs := []) (ps := []) (hk := []) (bk := []) Try.func20 () (by kernel_rfl) trivial (by kernel_rfl) (by kernel_rfl)
    · refine GoO.exec (is := [13, 14, 15, 16, 17, 18, 19, 20, 21, 22, 23, 24, 25, 26, 27, 28, 29, 30, 31, 32, 33, 34, 35, 36, 37, 38, 39, 40, 41, 42, 43, 44, 45, 46, 47, 48, 49, 50, 51, 52, 53, 54, 55, 56, 57, 58, 59, 60, 61, 62, 63, 64, 65, 66, 67, 68]) (hs := [.p, .p, .p, .p, .p, .p, .p, .p, .p, .p, .p, .p, .p, .p, .p, .p, .p, .p, .p, .p, .p, .p, .p, .p, .p, .p, .p, .p, .p, .p, .p, .p, .p, .p, .p, .p, .p, .p, .p, .p, .p, .p, .p, .p, .p, .p, .p, .p, .p, .p, .p, .p, .p, .p, .p, .p]) (rest := []) (ks := [4]) (env' := [(4, .bool false)]) (H' := [⟨41, b_8, [.int .i64 b_4.Kind, .int .i64 b_4.From, .int .i64 b_4.To, .int .u64 b_4.Term, .int .u64 b_4.Index, .int .u64 b_4.Prev, .int .u64 b_4.Commit, .bool b_4.Ok, .slice A_5 b_4.Entries.length c_6, .string (bs b_4.Data)]⟩, ⟨40, b_7, [.int .i64 a_1.Kind, .int .i64 a_1.From, .int .i64 a_1.To, .int .u64 a_1.Term, .int .u64 a_1.Index, .int .u64 a_1.Prev, .int .u64 a_1.Commit, .bool a_1.Ok, .slice A_2 a_1.Entries.length c_3, .string (bs a_1.Data)]⟩]) (ps := []) (by kernel_rfl) trivial ?_
      refine GoO.regionEnd ?_
      exact GoO.ret' (h := c20_4e) (hs := []) (ps := []) (hk := []) (bk := []) Try.func20 () (by kernel_rfl) trivial (by kernel_rfl) (by kernel_rfl)
  · refine GoO.exec (is := [6, 7, 8, 9, 10, 11, 12, 13, 14, 15, 16, 17, 18, 19, 20, 21, 22, 23, 24, 25, 26, 27, 28, 29, 30, 31, 32, 33, 34, 35, 36, 37, 38, 39, 40, 41, 42, 43, 44, 45, 46, 47, 48, 49, 50, 51, 52, 53, 54, 55, 56, 57, 58, 59, 60, 61, 62, 63, 64, 65, 66, 67, 68]) (hs := [.p, .p, .p, .p, .p, .p, .p, .p, .p, .p, .p, .p, .p, .p, .p, .p, .p, .p, .p, .p, .p, .p, .p, .p, .p, .p, .p, .p, .p, .p, .p, .p, .p, .p, .p, .p, .p, .p, .p, .p, .p, .p, .p, .p, .p, .p, .p, .p, .p, .p, .p, .p, .p, .p, .p, .p, .p, .p, .p, .p, .p, .p, .p]) (rest := []) (ks := [4]) (env' := [(4, .bool false)]) (H' := [⟨41, b_8, [.int .i64 b_4.Kind, .int .i64 b_4.From, .int .i64 b_4.To, .int .u64 b_4.Term, .int .u64 b_4.Index, .int .u64 b_4.Prev, .int .u64 b_4.Commit, .bool b_4.Ok, .slice A_5 b_4.Entries.length c_6, .string (bs b_4.Data)]⟩, ⟨40, b_7, [.int .i64 a_1.Kind, .int .i64 a_1.From, .int .i64 a_1.To, .int .u64 a_1.Term, .int .u64 a_1.Index, .int .u64 a_1.Prev, .int .u64 a_1.Commit, .bool a_1.Ok, .slice A_2 a_1.Entries.length c_3, .string (bs a_1.Data)]⟩]) (ps := []) (by kernel_rfl) trivial ?_
    refine GoO.regionEnd ?_
    exact GoO.ret' (h := c20_4e) (hs := []) (ps := []) (hk := []) (bk := []) Try.func20 () (by kernel_rfl) trivial (by kernel_rfl) (by kernel_rfl)

/-! tontine/tontinelaw10.NetApart -/
noncomputable def c13_0 : Code := bodyOf Try.f13
noncomputable def c13_1 : Code := cdL c13_0
noncomputable def c13_2 : Code := cdR c13_0
noncomputable def c13_3 : Code := cdL c13_2
noncomputable def c13_4 : Code := cdL c13_3
noncomputable def c13_5 : Code := cdR c13_3
noncomputable def c13_6 : Code := cdL c13_5
noncomputable def c13_7 : Code := cdL c13_6
noncomputable def c13_8 : Code := cdR c13_6
noncomputable def c13_9 : Code := cdR c13_5
noncomputable def c13_10 : Code := cdR c13_2
noncomputable def c13_11 : Code := cdL c13_10
noncomputable def c13_12 : Code := cdL c13_11
noncomputable def c13_13 : Code := cdR c13_11
noncomputable def c13_14 : Code := cdL c13_13
noncomputable def c13_15 : Code := cdL c13_14
noncomputable def c13_16 : Code := cdR c13_14
noncomputable def c13_17 : Code := cdR c13_13
noncomputable def c13_18 : Code := cdR c13_10
noncomputable def c13_19 : Code := cdL c13_18
noncomputable def c13_20 : Code := cdR c13_18
noncomputable def c13_21 : Code := cdL c13_20
noncomputable def c13_22 : Code := cdR c13_20
noncomputable def c13_23 : Code := cdL c13_22
noncomputable def c13_24 : Code := cdR c13_22
noncomputable def c13_25 : Code := cdL c13_24
noncomputable def c13_26 : Code := cdL c13_25
noncomputable def c13_27 : Code := cdR c13_25
noncomputable def c13_28 : Code := cdL c13_27
noncomputable def c13_29 : Code := cdL c13_28
noncomputable def c13_30 : Code := cdR c13_28
noncomputable def c13_31 : Code := cdR c13_27
noncomputable def c13_32 : Code := cdR c13_24
noncomputable def c13_33 : Code := cdL c13_32
noncomputable def c13_34 : Code := cdR c13_32
noncomputable def c13_35 : Code := cdL c13_34
noncomputable def c13_36 : Code := cdR c13_34
noncomputable def c13_37 : Code := cdL c13_36
noncomputable def c13_38 : Code := cdR c13_36
noncomputable def c13_39 : Code := cdL c13_38
noncomputable def c13_40 : Code := cdR c13_38
noncomputable def c13_41 : Code := cdL c13_40
noncomputable def c13_42 : Code := cdR c13_40
noncomputable def c13_43 : Code := cdL c13_42
noncomputable def c13_44 : Code := cdR c13_42
noncomputable def c13_45 : Code := cdL c13_44
noncomputable def c13_46 : Code := cdL c13_45
noncomputable def c13_47 : Code := cdR c13_45
noncomputable def c13_48 : Code := cdL c13_47
noncomputable def c13_49 : Code := cdL c13_48
noncomputable def c13_50 : Code := cdL c13_49
noncomputable def c13_51 : Code := cdR c13_49
noncomputable def c13_52 : Code := cdL c13_51
noncomputable def c13_53 : Code := cdL c13_52
noncomputable def c13_54 : Code := cdR c13_52
noncomputable def c13_55 : Code := cdR c13_51
noncomputable def c13_56 : Code := cdL c13_55
noncomputable def c13_57 : Code := cdL c13_56
noncomputable def c13_58 : Code := cdL c13_57
noncomputable def c13_59 : Code := cdR c13_57
noncomputable def c13_60 : Code := cdR c13_55
noncomputable def c13_61 : Code := cdR c13_44
noncomputable def c13_62 : Code := cdL c13_61
noncomputable def c13_63 : Code := cdL c13_62
noncomputable def c13_64 : Code := cdR c13_62
noncomputable def c13_65 : Code := cdL c13_64
noncomputable def c13_66 : Code := cdL c13_65
noncomputable def c13_67 : Code := cdL c13_66
noncomputable def c13_68 : Code := cdR c13_66
noncomputable def c13_69 : Code := cdL c13_68
noncomputable def c13_70 : Code := cdL c13_69
noncomputable def c13_71 : Code := cdR c13_69
noncomputable def c13_72 : Code := cdR c13_68
noncomputable def c13_73 : Code := cdL c13_72
noncomputable def c13_74 : Code := cdL c13_73
noncomputable def c13_75 : Code := cdL c13_74
noncomputable def c13_76 : Code := cdR c13_74
noncomputable def c13_77 : Code := cdL c13_76
noncomputable def c13_78 : Code := cdR c13_76
noncomputable def c13_79 : Code := cdL c13_78
noncomputable def c13_80 : Code := cdL c13_79
noncomputable def c13_81 : Code := cdL c13_80
noncomputable def c13_82 : Code := cdR c13_80
noncomputable def c13_83 : Code := cdL c13_82
noncomputable def c13_84 : Code := cdL c13_83
noncomputable def c13_85 : Code := cdR c13_83
noncomputable def c13_86 : Code := cdR c13_82
noncomputable def c13_87 : Code := cdL c13_86
noncomputable def c13_88 : Code := cdL c13_87
noncomputable def c13_89 : Code := cdL c13_88
noncomputable def c13_90 : Code := cdR c13_88
noncomputable def c13_91 : Code := cdR c13_86
noncomputable def c13_92 : Code := cdR c13_72
noncomputable def c13_93 : Code := cdR c13_61
noncomputable def c13_94 : Code := cdL c13_93
noncomputable def c13_95 : Code := cdR c13_93
noncomputable def c13_96 : Code := cdL c13_95
noncomputable def c13_97 : Code := cdR c13_95
noncomputable def c13_98 : Code := cdL c13_97
noncomputable def c13_99 : Code := cdR c13_97
noncomputable def c13_100 : Code := cdL c13_99
noncomputable def c13_101 : Code := cdR c13_99
noncomputable def c13_102 : Code := cdL c13_101
noncomputable def c13_103 : Code := cdR c13_101
noncomputable def r13_1 : Array Oper := cdO c13_1
noncomputable def r13_4 : Array Oper := cdO c13_4
noncomputable def r13_7 : Array Oper := cdO c13_7
noncomputable def r13_12 : Array Oper := cdO c13_12
noncomputable def r13_15 : Array Oper := cdO c13_15
noncomputable def r13_19 : Array Oper := cdO c13_19
noncomputable def r13_21 : Array Oper := cdO c13_21
noncomputable def r13_23 : Array Oper := cdO c13_23
noncomputable def r13_26 : Array Oper := cdO c13_26
noncomputable def r13_29 : Array Oper := cdO c13_29
noncomputable def r13_33 : Array Oper := cdO c13_33
noncomputable def r13_35 : Array Oper := cdO c13_35
noncomputable def r13_37 : Array Oper := cdO c13_37
noncomputable def r13_39 : Array Oper := cdO c13_39
noncomputable def r13_41 : Array Oper := cdO c13_41
noncomputable def r13_43 : Array Oper := cdO c13_43
noncomputable def r13_46 : Array Oper := cdO c13_46
noncomputable def r13_50 : Array Oper := cdO c13_50
noncomputable def r13_58 : Array Oper := cdO c13_58
noncomputable def r13_59 : Array Oper := cdO c13_59
noncomputable def r13_60 : Array Oper := cdO c13_60
noncomputable def r13_63 : Array Oper := cdO c13_63
noncomputable def r13_67 : Array Oper := cdO c13_67
noncomputable def r13_75 : Array Oper := cdO c13_75
noncomputable def r13_77 : Array Oper := cdO c13_77
noncomputable def r13_81 : Array Oper := cdO c13_81
noncomputable def r13_89 : Array Oper := cdO c13_89
noncomputable def r13_90 : Array Oper := cdO c13_90
noncomputable def r13_91 : Array Oper := cdO c13_91
noncomputable def r13_92 : Array Oper := cdO c13_92
noncomputable def r13_94 : Array Oper := cdO c13_94
noncomputable def r13_96 : Array Oper := cdO c13_96
noncomputable def r13_98 : Array Oper := cdO c13_98
noncomputable def r13_100 : Array Oper := cdO c13_100
noncomputable def r13_102 : Array Oper := cdO c13_102
theorem c13_0e : c13_0 = .seq c13_1 c13_2 := by kernel_rfl
theorem c13_1e : c13_1 = .region 0 r13_1 false := by kernel_rfl
theorem c13_2e : c13_2 = .seq c13_3 c13_10 := by kernel_rfl
theorem c13_3e : c13_3 = .seq c13_4 c13_5 := by kernel_rfl
theorem c13_4e : c13_4 = .region 1 r13_4 false := by kernel_rfl
theorem c13_5e : c13_5 = .cond (cdC c13_5) c13_6 c13_9 := by kernel_rfl
theorem c13_6e : c13_6 = .seq c13_7 c13_8 := by kernel_rfl
theorem c13_7e : c13_7 = .region 2 r13_7 false := by kernel_rfl
theorem c13_8e : c13_8 = .ret := by kernel_rfl
theorem c13_9e : c13_9 = .skip := by kernel_rfl
theorem c13_10e : c13_10 = .seq c13_11 c13_18 := by kernel_rfl
theorem c13_11e : c13_11 = .seq c13_12 c13_13 := by kernel_rfl
theorem c13_12e : c13_12 = .region 3 r13_12 false := by kernel_rfl
theorem c13_13e : c13_13 = .cond (cdC c13_13) c13_14 c13_17 := by kernel_rfl
theorem c13_14e : c13_14 = .seq c13_15 c13_16 := by kernel_rfl
theorem c13_15e : c13_15 = .region 4 r13_15 false := by kernel_rfl
theorem c13_16e : c13_16 = .ret := by kernel_rfl
theorem c13_17e : c13_17 = .skip := by kernel_rfl
theorem c13_18e : c13_18 = .seq c13_19 c13_20 := by kernel_rfl
theorem c13_19e : c13_19 = .region 5 r13_19 false := by kernel_rfl
theorem c13_20e : c13_20 = .seq c13_21 c13_22 := by kernel_rfl
theorem c13_21e : c13_21 = .region 6 r13_21 false := by kernel_rfl
theorem c13_22e : c13_22 = .seq c13_23 c13_24 := by kernel_rfl
theorem c13_23e : c13_23 = .region 7 r13_23 false := by kernel_rfl
theorem c13_24e : c13_24 = .seq c13_25 c13_32 := by kernel_rfl
theorem c13_25e : c13_25 = .seq c13_26 c13_27 := by kernel_rfl
theorem c13_26e : c13_26 = .region 8 r13_26 false := by kernel_rfl
theorem c13_27e : c13_27 = .cond (cdC c13_27) c13_28 c13_31 := by kernel_rfl
theorem c13_28e : c13_28 = .seq c13_29 c13_30 := by kernel_rfl
theorem c13_29e : c13_29 = .region 9 r13_29 false := by kernel_rfl
theorem c13_30e : c13_30 = .ret := by kernel_rfl
theorem c13_31e : c13_31 = .skip := by kernel_rfl
theorem c13_32e : c13_32 = .seq c13_33 c13_34 := by kernel_rfl
theorem c13_33e : c13_33 = .region 10 r13_33 false := by kernel_rfl
theorem c13_34e : c13_34 = .seq c13_35 c13_36 := by kernel_rfl
theorem c13_35e : c13_35 = .region 11 r13_35 false := by kernel_rfl
theorem c13_36e : c13_36 = .seq c13_37 c13_38 := by kernel_rfl
theorem c13_37e : c13_37 = .region 12 r13_37 false := by kernel_rfl
theorem c13_38e : c13_38 = .seq c13_39 c13_40 := by kernel_rfl
theorem c13_39e : c13_39 = .region 13 r13_39 false := by kernel_rfl
theorem c13_40e : c13_40 = .seq c13_41 c13_42 := by kernel_rfl
theorem c13_41e : c13_41 = .region 14 r13_41 false := by kernel_rfl
theorem c13_42e : c13_42 = .seq c13_43 c13_44 := by kernel_rfl
theorem c13_43e : c13_43 = .region 15 r13_43 false := by kernel_rfl
theorem c13_44e : c13_44 = .seq c13_45 c13_61 := by kernel_rfl
theorem c13_45e : c13_45 = .seq c13_46 c13_47 := by kernel_rfl
theorem c13_46e : c13_46 = .region 16 r13_46 false := by kernel_rfl
theorem c13_47e : c13_47 = .block 0 c13_48 := by kernel_rfl
theorem c13_48e : c13_48 = .loop c13_49 := by kernel_rfl
theorem c13_49e : c13_49 = .seq c13_50 c13_51 := by kernel_rfl
theorem c13_50e : c13_50 = .region 17 r13_50 false := by kernel_rfl
theorem c13_51e : c13_51 = .seq c13_52 c13_55 := by kernel_rfl
theorem c13_52e : c13_52 = .cond (cdC c13_52) c13_53 c13_54 := by kernel_rfl
theorem c13_53e : c13_53 = .skip := by kernel_rfl
theorem c13_54e : c13_54 = .exit 0 := by kernel_rfl
theorem c13_55e : c13_55 = .seq c13_56 c13_60 := by kernel_rfl
theorem c13_56e : c13_56 = .block 1 c13_57 := by kernel_rfl
theorem c13_57e : c13_57 = .seq c13_58 c13_59 := by kernel_rfl
theorem c13_58e : c13_58 = .region 18 r13_58 false := by kernel_rfl
theorem c13_59e : c13_59 = .region 19 r13_59 false := by kernel_rfl
theorem c13_60e : c13_60 = .region 20 r13_60 false := by kernel_rfl
theorem c13_61e : c13_61 = .seq c13_62 c13_93 := by kernel_rfl
theorem c13_62e : c13_62 = .seq c13_63 c13_64 := by kernel_rfl
theorem c13_63e : c13_63 = .region 21 r13_63 false := by kernel_rfl
theorem c13_64e : c13_64 = .block 2 c13_65 := by kernel_rfl
theorem c13_65e : c13_65 = .loop c13_66 := by kernel_rfl
theorem c13_66e : c13_66 = .seq c13_67 c13_68 := by kernel_rfl
theorem c13_67e : c13_67 = .region 22 r13_67 false := by kernel_rfl
theorem c13_68e : c13_68 = .seq c13_69 c13_72 := by kernel_rfl
theorem c13_69e : c13_69 = .cond (cdC c13_69) c13_70 c13_71 := by kernel_rfl
theorem c13_70e : c13_70 = .skip := by kernel_rfl
theorem c13_71e : c13_71 = .exit 2 := by kernel_rfl
theorem c13_72e : c13_72 = .seq c13_73 c13_92 := by kernel_rfl
theorem c13_73e : c13_73 = .block 3 c13_74 := by kernel_rfl
theorem c13_74e : c13_74 = .seq c13_75 c13_76 := by kernel_rfl
theorem c13_75e : c13_75 = .region 23 r13_75 false := by kernel_rfl
theorem c13_76e : c13_76 = .seq c13_77 c13_78 := by kernel_rfl
theorem c13_77e : c13_77 = .region 24 r13_77 false := by kernel_rfl
theorem c13_78e : c13_78 = .block 4 c13_79 := by kernel_rfl
theorem c13_79e : c13_79 = .loop c13_80 := by kernel_rfl
theorem c13_80e : c13_80 = .seq c13_81 c13_82 := by kernel_rfl
theorem c13_81e : c13_81 = .region 25 r13_81 false := by kernel_rfl
theorem c13_82e : c13_82 = .seq c13_83 c13_86 := by kernel_rfl
theorem c13_83e : c13_83 = .cond (cdC c13_83) c13_84 c13_85 := by kernel_rfl
theorem c13_84e : c13_84 = .skip := by kernel_rfl
theorem c13_85e : c13_85 = .exit 4 := by kernel_rfl
theorem c13_86e : c13_86 = .seq c13_87 c13_91 := by kernel_rfl
theorem c13_87e : c13_87 = .block 5 c13_88 := by kernel_rfl
theorem c13_88e : c13_88 = .seq c13_89 c13_90 := by kernel_rfl
theorem c13_89e : c13_89 = .region 26 r13_89 false := by kernel_rfl
theorem c13_90e : c13_90 = .region 27 r13_90 false := by kernel_rfl
theorem c13_91e : c13_91 = .region 28 r13_91 false := by kernel_rfl
theorem c13_92e : c13_92 = .region 29 r13_92 false := by kernel_rfl
theorem c13_93e : c13_93 = .seq c13_94 c13_95 := by kernel_rfl
theorem c13_94e : c13_94 = .region 30 r13_94 false := by kernel_rfl
theorem c13_95e : c13_95 = .seq c13_96 c13_97 := by kernel_rfl
theorem c13_96e : c13_96 = .region 31 r13_96 false := by kernel_rfl
theorem c13_97e : c13_97 = .seq c13_98 c13_99 := by kernel_rfl
theorem c13_98e : c13_98 = .region 32 r13_98 false := by kernel_rfl
theorem c13_99e : c13_99 = .seq c13_100 c13_101 := by kernel_rfl
theorem c13_100e : c13_100 = .region 33 r13_100 false := by kernel_rfl
theorem c13_101e : c13_101 = .seq c13_102 c13_103 := by kernel_rfl
theorem c13_102e : c13_102 = .region 34 r13_102 false := by kernel_rfl
theorem c13_103e : c13_103 = .ret := by kernel_rfl
noncomputable def tontinelaw10_NetApart.R (A_2 : Option Addr) (c_3 : Nat) (A_5 : Option Addr) (c_6 : Nat) : Pst Bool where
  ε := Unit
  v := fun r x => .bool r
  H := fun r x => []
  B := fun r x => []
noncomputable def tontinelaw10_NetApart.cx (A_2 : Option Addr) (c_3 : Nat) (A_5 : Option Addr) (c_6 : Nat) (w0 : World) (S0 : Fam) : Cx Bool := ⟨Try.prog, 13, Try.f13, 140, w0, S0, [], 0, tontinelaw10_NetApart.R A_2 c_3 A_5 c_6⟩
theorem tontinelaw10_NetApart_l2_ok (n : Nat) (L1 : Int → Option Bool) (x_1 : T_api_Letter) (more_4 : T_api_Letter) (r_45 : Bool × T_net_Net) (r_54 : (List T_api_Letter)) (x_57 : Int) (A_2 : Option Addr) (c_3 : Nat) (A_5 : Option Addr) (c_6 : Nat) (b_7 : Nat) (b_8 : Nat) (b_32 : Nat) (A_40 : Option Addr) (c_41 : Nat) (A_46 : Option Addr) (c_47 : Nat) (A_55 : Option Addr) (c_56 : Nat) (b_62 : Nat) (w0 : World) (S0 : Fam) (ih1 : ∀ (x_57 : Int), GoO (tontinelaw10_NetApart.cx A_2 c_3 A_5 c_6 w0 S0) [(2, .pointer (some ⟨b_7, 0, none⟩)), (3, .pointer (some ⟨b_8, 0, none⟩)), (5, .pointer (some ⟨b_32, 0, none⟩)), (11, .slice A_40 (([] : List T_api_Entry) ++ x_1.Entries).length c_41), (94, .slice A_55 r_54.length c_56), (95, .int .i64 (r_54.length : Int)), (96, .int .i64 x_57)] [⟨40, b_7, [.int .i64 x_1.Kind, .int .i64 x_1.From, .int .i64 x_1.To, .int .u64 x_1.Term, .int .u64 x_1.Index, .int .u64 x_1.Prev, .int .u64 x_1.Commit, .bool x_1.Ok, .slice A_2 x_1.Entries.length c_3, .string (bs x_1.Data)]⟩, ⟨41, b_8, [.int .i64 more_4.Kind, .int .i64 more_4.From, .int .i64 more_4.To, .int .u64 more_4.Term, .int .u64 more_4.Index, .int .u64 more_4.Prev, .int .u64 more_4.Commit, .bool more_4.Ok, .slice A_5 more_4.Entries.length c_6, .string (bs more_4.Data)]⟩, ⟨44, b_32, [.slice A_46 r_45.2.l.length c_47, .int .i64 r_45.2.lost]⟩] [Rd 0 kT_api_Entry A_2 c_3 x_1.Entries, Rd 0 kT_api_Entry A_5 c_6 more_4.Entries, Ow 45 kT_api_Letter A_46 c_47 r_45.2.l, Ow 48 kT_api_Entry A_40 c_41 (([] : List T_api_Entry) ++ x_1.Entries), Dw 49 dT_api_Letter A_55 c_56 x_57.toNat r_54] [.code c13_66, .inLoop c13_66, .inBlock 2, .code c13_93] (L1 x_57)) :
    ∀ (k : Nat) (f_63 : (List T_api_Entry)) (x_66 : Int) (A_64 : Option Addr) (c_65 : Nat), GoO (tontinelaw10_NetApart.cx A_2 c_3 A_5 c_6 w0 S0) [(2, .pointer (some ⟨b_7, 0, none⟩)), (3, .pointer (some ⟨b_8, 0, none⟩)), (5, .pointer (some ⟨b_32, 0, none⟩)), (11, .slice A_40 (([] : List T_api_Entry) ++ x_1.Entries).length c_41), (14, .pointer (some ⟨b_62, 0, none⟩)), (94, .slice A_55 r_54.length c_56), (95, .int .i64 (r_54.length : Int)), (96, .int .i64 x_57), (102, .int .i64 (((rdL r_54 x_57).Entries).length : Int)), (103, .int .i64 x_66)] [⟨40, b_7, [.int .i64 x_1.Kind, .int .i64 x_1.From, .int .i64 x_1.To, .int .u64 x_1.Term, .int .u64 x_1.Index, .int .u64 x_1.Prev, .int .u64 x_1.Commit, .bool x_1.Ok, .slice A_2 x_1.Entries.length c_3, .string (bs x_1.Data)]⟩, ⟨41, b_8, [.int .i64 more_4.Kind, .int .i64 more_4.From, .int .i64 more_4.To, .int .u64 more_4.Term, .int .u64 more_4.Index, .int .u64 more_4.Prev, .int .u64 more_4.Commit, .bool more_4.Ok, .slice A_5 more_4.Entries.length c_6, .string (bs more_4.Data)]⟩, ⟨44, b_32, [.slice A_46 r_45.2.l.length c_47, .int .i64 r_45.2.lost]⟩, ⟨51, b_62, [.int .i64 ((rdL r_54 x_57).Kind), .int .i64 ((rdL r_54 x_57).From), .int .i64 ((rdL r_54 x_57).To), .int .u64 ((rdL r_54 x_57).Term), .int .u64 ((rdL r_54 x_57).Index), .int .u64 ((rdL r_54 x_57).Prev), .int .u64 ((rdL r_54 x_57).Commit), .bool ((rdL r_54 x_57).Ok), .slice A_64 f_63.length c_65, .string (bs ((rdL r_54 x_57).Data))]⟩] [Rd 0 kT_api_Entry A_2 c_3 x_1.Entries, Rd 0 kT_api_Entry A_5 c_6 more_4.Entries, Ow 45 kT_api_Letter A_46 c_47 r_45.2.l, Ow 48 kT_api_Entry A_40 c_41 (([] : List T_api_Entry) ++ x_1.Entries), Ow 50 kT_api_Entry A_64 c_65 f_63, Dw 49 dT_api_Letter A_55 c_56 (x_57.toNat + 1) r_54] [.code c13_80, .inLoop c13_80, .inBlock 4, .inBlock 3, .code c13_92, .inLoop c13_66, .inBlock 2, .code c13_93] (tontinelaw10_NetApart.l2 n L1 r_54 x_57 k f_63 x_66) := by
  intro k
  induction k with
  | zero => intros; rw [tontinelaw10_NetApart.l2.eq_1]; exact GoO.stop
  | succ k ih2 =>
    intro f_63 x_66 A_64 c_65
    rw [tontinelaw10_NetApart.l2.eq_2]
    refine GoO.seq' c13_80e ?_
    refine GoO.region' (is := [0]) c13_81e (by kernel_rfl) ?_
    refine GoO.exec (is := [0]) (hs := [.p]) (rest := []) (ks := [2, 3, 5, 11, 14, 94, 95, 96, 102, 103, 104]) (env' := [(2, .pointer (some ⟨b_7, 0, none⟩)), (3, .pointer (some ⟨b_8, 0, none⟩)), (5, .pointer (some ⟨b_32, 0, none⟩)), (11, .slice A_40 (([] : List T_api_Entry) ++ x_1.Entries).length c_41), (14, .pointer (some ⟨b_62, 0, none⟩)), (94, .slice A_55 r_54.length c_56), (95, .int .i64 (r_54.length : Int)), (96, .int .i64 x_57), (102, .int .i64 (((rdL r_54 x_57).Entries).length : Int)), (103, .int .i64 x_66), (104, .bool (decide (x_66 < (((rdL r_54 x_57).Entries).length : Int))))]) (H' := [⟨40, b_7, [.int .i64 x_1.Kind, .int .i64 x_1.From, .int .i64 x_1.To, .int .u64 x_1.Term, .int .u64 x_1.Index, .int .u64 x_1.Prev, .int .u64 x_1.Commit, .bool x_1.Ok, .slice A_2 x_1.Entries.length c_3, .string (bs x_1.Data)]⟩, ⟨41, b_8, [.int .i64 more_4.Kind, .int .i64 more_4.From, .int .i64 more_4.To, .int .u64 more_4.Term, .int .u64 more_4.Index, .int .u64 more_4.Prev, .int .u64 more_4.Commit, .bool more_4.Ok, .slice A_5 more_4.Entries.length c_6, .string (bs more_4.Data)]⟩, ⟨44, b_32, [.slice A_46 r_45.2.l.length c_47, .int .i64 r_45.2.lost]⟩, ⟨51, b_62, [.int .i64 ((rdL r_54 x_57).Kind), .int .i64 ((rdL r_54 x_57).From), .int .i64 ((rdL r_54 x_57).To), .int .u64 ((rdL r_54 x_57).Term), .int .u64 ((rdL r_54 x_57).Index), .int .u64 ((rdL r_54 x_57).Prev), .int .u64 ((rdL r_54 x_57).Commit), .bool ((rdL r_54 x_57).Ok), .slice A_64 f_63.length c_65, .string (bs ((rdL r_54 x_57).Data))]⟩]) (ps := []) (by kernel_rfl) trivial ?_
    refine GoO.regionEnd ?_
    refine GoO.seq' c13_82e ?_
    refine GoO.ite' c13_83e (by kernel_rfl) (fun h67 => ?_) (fun h67 => ?_)
    · refine GoO.skip' c13_84e ?_
      refine GoO.seq' c13_86e ?_
      refine GoO.block' c13_87e ?_
      refine GoO.seq' c13_88e ?_
      refine GoO.region' (is := [0, 1]) c13_89e (by kernel_rfl) ?_
      refine GoO.exec (is := [0, 1]) (hs := [.p, .p]) (rest := []) (ks := [2, 3, 5, 11, 14, 15, 94, 95, 96, 102, 103]) (env' := [(2, .pointer (some ⟨b_7, 0, none⟩)), (3, .pointer (some ⟨b_8, 0, none⟩)), (5, .pointer (some ⟨b_32, 0, none⟩)), (11, .slice A_40 (([] : List T_api_Entry) ++ x_1.Entries).length c_41), (14, .pointer (some ⟨b_62, 0, none⟩)), (15, .int .i64 x_66), (94, .slice A_55 r_54.length c_56), (95, .int .i64 (r_54.length : Int)), (96, .int .i64 x_57), (102, .int .i64 (((rdL r_54 x_57).Entries).length : Int)), (103, .int .i64 x_66)]) (H' := [⟨40, b_7, [.int .i64 x_1.Kind, .int .i64 x_1.From, .int .i64 x_1.To, .int .u64 x_1.Term, .int .u64 x_1.Index, .int .u64 x_1.Prev, .int .u64 x_1.Commit, .bool x_1.Ok, .slice A_2 x_1.Entries.length c_3, .string (bs x_1.Data)]⟩, ⟨41, b_8, [.int .i64 more_4.Kind, .int .i64 more_4.From, .int .i64 more_4.To, .int .u64 more_4.Term, .int .u64 more_4.Index, .int .u64 more_4.Prev, .int .u64 more_4.Commit, .bool more_4.Ok, .slice A_5 more_4.Entries.length c_6, .string (bs more_4.Data)]⟩, ⟨44, b_32, [.slice A_46 r_45.2.l.length c_47, .int .i64 r_45.2.lost]⟩, ⟨51, b_62, [.int .i64 ((rdL r_54 x_57).Kind), .int .i64 ((rdL r_54 x_57).From), .int .i64 ((rdL r_54 x_57).To), .int .u64 ((rdL r_54 x_57).Term), .int .u64 ((rdL r_54 x_57).Index), .int .u64 ((rdL r_54 x_57).Prev), .int .u64 ((rdL r_54 x_57).Commit), .bool ((rdL r_54 x_57).Ok), .slice A_64 f_63.length c_65, .string (bs ((rdL r_54 x_57).Data))]⟩]) (ps := []) (by kernel_rfl) trivial ?_
      refine GoO.regionEnd ?_
      refine GoO.region' (is := [0, 1, 2, 3, 4, 5, 6, 7, 8, 9]) c13_90e (by kernel_rfl) ?_
      refine GoO.exec (is := [0, 1, 2]) (hs := [.p, .b 3, .p]) (rest := [3, 4, 5, 6, 7, 8, 9]) (ks := [2, 3, 5, 11, 14, 94, 95, 96, 102, 103, 107, 108]) (env' := [(2, .pointer (some ⟨b_7, 0, none⟩)), (3, .pointer (some ⟨b_8, 0, none⟩)), (5, .pointer (some ⟨b_32, 0, none⟩)), (11, .slice A_40 (([] : List T_api_Entry) ++ x_1.Entries).length c_41), (14, .pointer (some ⟨b_62, 0, none⟩)), (94, .slice A_55 r_54.length c_56), (95, .int .i64 (r_54.length : Int)), (96, .int .i64 x_57), (102, .int .i64 (((rdL r_54 x_57).Entries).length : Int)), (103, .int .i64 x_66), (107, .slice A_64 f_63.length c_65), (108, .int .i64 x_66)]) (H' := [⟨40, b_7, [.int .i64 x_1.Kind, .int .i64 x_1.From, .int .i64 x_1.To, .int .u64 x_1.Term, .int .u64 x_1.Index, .int .u64 x_1.Prev, .int .u64 x_1.Commit, .bool x_1.Ok, .slice A_2 x_1.Entries.length c_3, .string (bs x_1.Data)]⟩, ⟨41, b_8, [.int .i64 more_4.Kind, .int .i64 more_4.From, .int .i64 more_4.To, .int .u64 more_4.Term, .int .u64 more_4.Index, .int .u64 more_4.Prev, .int .u64 more_4.Commit, .bool more_4.Ok, .slice A_5 more_4.Entries.length c_6, .string (bs more_4.Data)]⟩, ⟨44, b_32, [.slice A_46 r_45.2.l.length c_47, .int .i64 r_45.2.lost]⟩, ⟨51, b_62, [.int .i64 ((rdL r_54 x_57).Kind), .int .i64 ((rdL r_54 x_57).From), .int .i64 ((rdL r_54 x_57).To), .int .u64 ((rdL r_54 x_57).Term), .int .u64 ((rdL r_54 x_57).Index), .int .u64 ((rdL r_54 x_57).Prev), .int .u64 ((rdL r_54 x_57).Commit), .bool ((rdL r_54 x_57).Ok), .slice A_64 f_63.length c_65, .string (bs ((rdL r_54 x_57).Data))]⟩]) (ps := [b_62 = b_62]) (by kernel_rfl) (And.intro rfl trivial) ?_
      refine GoO.guard (fun h68 => ?_)
      refine OpTo.go (GoO.idx (kk := .i64) (e := 88) (K := kT_api_Entry) (A := A_64) (c := c_65) (xs := f_63) (iv := x_66) (j := 4) rfl (by kernel_rfl) (by kernel_rfl) (by kernel_rfl) (by kernel_rfl) rfl Reads.own rfl h68.1 h68.2 (by decide) rfl ?_)
      refine OpTo.go (GoO.fldE (K := kT_api_Entry) (A := A_64) (c := c_65) (xs := f_63) (iN := x_66.toNat) (off := 0) (n := 0) (j := 4) rfl (by kernel_rfl) (by kernel_rfl) rfl Reads.own (by first | exact idx_lt h68.1 h68.2 | (simp only [List.length_set]; exact idx_lt h68.1 h68.2)) (by decide) rfl ?_)
      refine OpTo.go (GoO.ldE' (K := kT_api_Entry) (A := A_64) (c := c_65) (xs := f_63) (iN := x_66.toNat) (off := 0) (j := 4) rfl (by kernel_rfl) rfl Reads.own (by first | exact idx_lt h68.1 h68.2 | (simp only [List.length_set]; exact idx_lt h68.1 h68.2)) (by decide) (Opn.flat _ _ _ _ _) (v := fun _ => .int .u64 ((rdL f_63 x_66).Term)) (fun _ => by kernel_rfl) _ (fun _ => rfl) (fun _ => ?_))
      refine GoO.exec (is := [6]) (hs := [.p]) (rest := [7, 8, 9]) (ks := [2, 3, 5, 11, 14, 94, 95, 96, 102, 103, 107, 108, 112]) (env' := [(2, .pointer (some ⟨b_7, 0, none⟩)), (3, .pointer (some ⟨b_8, 0, none⟩)), (5, .pointer (some ⟨b_32, 0, none⟩)), (11, .slice A_40 (([] : List T_api_Entry) ++ x_1.Entries).length c_41), (14, .pointer (some ⟨b_62, 0, none⟩)), (94, .slice A_55 r_54.length c_56), (95, .int .i64 (r_54.length : Int)), (96, .int .i64 x_57), (102, .int .i64 (((rdL r_54 x_57).Entries).length : Int)), (103, .int .i64 x_66), (107, .slice A_64 f_63.length c_65), (108, .int .i64 x_66), (112, .int .u64 (wu64 (((rdL f_63 x_66).Term) + 1)))]) (H' := [⟨40, b_7, [.int .i64 x_1.Kind, .int .i64 x_1.From, .int .i64 x_1.To, .int .u64 x_1.Term, .int .u64 x_1.Index, .int .u64 x_1.Prev, .int .u64 x_1.Commit, .bool x_1.Ok, .slice A_2 x_1.Entries.length c_3, .string (bs x_1.Data)]⟩, ⟨41, b_8, [.int .i64 more_4.Kind, .int .i64 more_4.From, .int .i64 more_4.To, .int .u64 more_4.Term, .int .u64 more_4.Index, .int .u64 more_4.Prev, .int .u64 more_4.Commit, .bool more_4.Ok, .slice A_5 more_4.Entries.length c_6, .string (bs more_4.Data)]⟩, ⟨44, b_32, [.slice A_46 r_45.2.l.length c_47, .int .i64 r_45.2.lost]⟩, ⟨51, b_62, [.int .i64 ((rdL r_54 x_57).Kind), .int .i64 ((rdL r_54 x_57).From), .int .i64 ((rdL r_54 x_57).To), .int .u64 ((rdL r_54 x_57).Term), .int .u64 ((rdL r_54 x_57).Index), .int .u64 ((rdL r_54 x_57).Prev), .int .u64 ((rdL r_54 x_57).Commit), .bool ((rdL r_54 x_57).Ok), .slice A_64 f_63.length c_65, .string (bs ((rdL r_54 x_57).Data))]⟩]) (ps := []) (by kernel_rfl) trivial ?_
      refine GoO.guard (fun h69 => ?_)
      refine OpTo.go (GoO.idx (kk := .i64) (e := 88) (K := kT_api_Entry) (A := A_64) (c := c_65) (xs := f_63) (iv := x_66) (j := 4) rfl (by kernel_rfl) (by kernel_rfl) (by kernel_rfl) (by kernel_rfl) rfl Reads.own rfl h69.1 h69.2 (by decide) rfl ?_)
      refine OpTo.go (GoO.fldE (K := kT_api_Entry) (A := A_64) (c := c_65) (xs := f_63) (iN := x_66.toNat) (off := 0) (n := 0) (j := 4) rfl (by kernel_rfl) (by kernel_rfl) rfl Reads.own (by first | exact idx_lt h69.1 h69.2 | (simp only [List.length_set]; exact idx_lt h69.1 h69.2)) (by decide) rfl ?_)
      refine OpTo.go (GoO.stE (K := kT_api_Entry) (A := A_64) (c := c_65) (xs := f_63) (iN := x_66.toNat) (off := 0) (tg := 50) (j := 4) (v := .int .u64 (wu64 (((rdL f_63 x_66).Term) + 1))) rfl (by kernel_rfl) (by kernel_rfl) rfl (by first | exact idx_lt h69.1 h69.2 | (simp only [List.length_set]; exact idx_lt h69.1 h69.2)) (by decide) (by kernel_rfl) (by kernel_rfl) (by kernel_rfl) ((⟨wu64 (((rdL f_63 x_66).Term) + 1), (rdL f_63 x_66).Index, (rdL f_63 x_66).Kind, (rdL f_63 x_66).Data⟩ : T_api_Entry)) (fun w S cs _ hr => ⟨_, by subst hr; exact stored_flat rfl, rfl⟩) rfl ?_)
      refine GoO.reval (t := 107) (v := .slice A_64 f_63.length c_65) (v' := .slice A_64 (f_63.set x_66.toNat (⟨wu64 (((rdL f_63 x_66).Term) + 1), (rdL f_63 x_66).Index, (rdL f_63 x_66).Kind, (rdL f_63 x_66).Data⟩ : T_api_Entry)).length c_65) (by kernel_rfl) (by simp) ?_
      refine GoO.rebox (j := 3) (t := 51) (b := b_62) (cs := [.int .i64 ((rdL r_54 x_57).Kind), .int .i64 ((rdL r_54 x_57).From), .int .i64 ((rdL r_54 x_57).To), .int .u64 ((rdL r_54 x_57).Term), .int .u64 ((rdL r_54 x_57).Index), .int .u64 ((rdL r_54 x_57).Prev), .int .u64 ((rdL r_54 x_57).Commit), .bool ((rdL r_54 x_57).Ok), .slice A_64 f_63.length c_65, .string (bs ((rdL r_54 x_57).Data))]) (cs' := [.int .i64 ((rdL r_54 x_57).Kind), .int .i64 ((rdL r_54 x_57).From), .int .i64 ((rdL r_54 x_57).To), .int .u64 ((rdL r_54 x_57).Term), .int .u64 ((rdL r_54 x_57).Index), .int .u64 ((rdL r_54 x_57).Prev), .int .u64 ((rdL r_54 x_57).Commit), .bool ((rdL r_54 x_57).Ok), .slice A_64 (f_63.set x_66.toNat (⟨wu64 (((rdL f_63 x_66).Term) + 1), (rdL f_63 x_66).Index, (rdL f_63 x_66).Kind, (rdL f_63 x_66).Data⟩ : T_api_Entry)).length c_65, .string (bs ((rdL r_54 x_57).Data))]) (by kernel_rfl) (by simp) ?_
      refine GoO.regionEnd ?_
      refine GoO.inBlock ?_
      refine GoO.region' (is := [0, 1]) c13_91e (by kernel_rfl) ?_
      refine GoO.exec (is := [0, 1]) (hs := [.p, .p]) (rest := []) (ks := [2, 3, 5, 11, 14, 94, 95, 96, 102, 103]) (env' := [(2, .pointer (some ⟨b_7, 0, none⟩)), (3, .pointer (some ⟨b_8, 0, none⟩)), (5, .pointer (some ⟨b_32, 0, none⟩)), (11, .slice A_40 (([] : List T_api_Entry) ++ x_1.Entries).length c_41), (14, .pointer (some ⟨b_62, 0, none⟩)), (94, .slice A_55 r_54.length c_56), (95, .int .i64 (r_54.length : Int)), (96, .int .i64 x_57), (102, .int .i64 (((rdL r_54 x_57).Entries).length : Int)), (103, .int .i64 (wi64 (x_66 + 1)))]) (H' := [⟨40, b_7, [.int .i64 x_1.Kind, .int .i64 x_1.From, .int .i64 x_1.To, .int .u64 x_1.Term, .int .u64 x_1.Index, .int .u64 x_1.Prev, .int .u64 x_1.Commit, .bool x_1.Ok, .slice A_2 x_1.Entries.length c_3, .string (bs x_1.Data)]⟩, ⟨41, b_8, [.int .i64 more_4.Kind, .int .i64 more_4.From, .int .i64 more_4.To, .int .u64 more_4.Term, .int .u64 more_4.Index, .int .u64 more_4.Prev, .int .u64 more_4.Commit, .bool more_4.Ok, .slice A_5 more_4.Entries.length c_6, .string (bs more_4.Data)]⟩, ⟨44, b_32, [.slice A_46 r_45.2.l.length c_47, .int .i64 r_45.2.lost]⟩, ⟨51, b_62, [.int .i64 ((rdL r_54 x_57).Kind), .int .i64 ((rdL r_54 x_57).From), .int .i64 ((rdL r_54 x_57).To), .int .u64 ((rdL r_54 x_57).Term), .int .u64 ((rdL r_54 x_57).Index), .int .u64 ((rdL r_54 x_57).Prev), .int .u64 ((rdL r_54 x_57).Commit), .bool ((rdL r_54 x_57).Ok), .slice A_64 (f_63.set x_66.toNat (⟨wu64 (((rdL f_63 x_66).Term) + 1), (rdL f_63 x_66).Index, (rdL f_63 x_66).Kind, (rdL f_63 x_66).Data⟩ : T_api_Entry)).length c_65, .string (bs ((rdL r_54 x_57).Data))]⟩]) (ps := []) (by kernel_rfl) trivial ?_
      refine GoO.regionEnd ?_
      refine GoO.inLoop ?_
      exact GoO.sub (ks := [2, 3, 5, 11, 14, 94, 95, 96, 102, 103]) (hk := [0, 1, 2, 3]) (bk := [0, 1, 2, 3, 4, 5]) (by kernel_rfl) (by kernel_rfl) (by kernel_rfl) (ih2 (f_63.set x_66.toNat (⟨wu64 (((rdL f_63 x_66).Term) + 1), (rdL f_63 x_66).Index, (rdL f_63 x_66).Kind, (rdL f_63 x_66).Data⟩ : T_api_Entry)) (wi64 (x_66 + 1)) A_64 c_65)
    · refine GoO.exit' c13_85e rfl ?_
      refine GoO.inBlock ?_
      refine GoO.region' (is := [0, 1]) c13_92e (by kernel_rfl) ?_
      refine GoO.exec (is := [0, 1]) (hs := [.p, .p]) (rest := []) (ks := [2, 3, 5, 11, 94, 95, 96]) (env' := [(2, .pointer (some ⟨b_7, 0, none⟩)), (3, .pointer (some ⟨b_8, 0, none⟩)), (5, .pointer (some ⟨b_32, 0, none⟩)), (11, .slice A_40 (([] : List T_api_Entry) ++ x_1.Entries).length c_41), (94, .slice A_55 r_54.length c_56), (95, .int .i64 (r_54.length : Int)), (96, .int .i64 (wi64 (x_57 + 1)))]) (H' := [⟨40, b_7, [.int .i64 x_1.Kind, .int .i64 x_1.From, .int .i64 x_1.To, .int .u64 x_1.Term, .int .u64 x_1.Index, .int .u64 x_1.Prev, .int .u64 x_1.Commit, .bool x_1.Ok, .slice A_2 x_1.Entries.length c_3, .string (bs x_1.Data)]⟩, ⟨41, b_8, [.int .i64 more_4.Kind, .int .i64 more_4.From, .int .i64 more_4.To, .int .u64 more_4.Term, .int .u64 more_4.Index, .int .u64 more_4.Prev, .int .u64 more_4.Commit, .bool more_4.Ok, .slice A_5 more_4.Entries.length c_6, .string (bs more_4.Data)]⟩, ⟨44, b_32, [.slice A_46 r_45.2.l.length c_47, .int .i64 r_45.2.lost]⟩, ⟨51, b_62, [.int .i64 ((rdL r_54 x_57).Kind), .int .i64 ((rdL r_54 x_57).From), .int .i64 ((rdL r_54 x_57).To), .int .u64 ((rdL r_54 x_57).Term), .int .u64 ((rdL r_54 x_57).Index), .int .u64 ((rdL r_54 x_57).Prev), .int .u64 ((rdL r_54 x_57).Commit), .bool ((rdL r_54 x_57).Ok), .slice A_64 f_63.length c_65, .string (bs ((rdL r_54 x_57).Data))]⟩]) (ps := []) (by kernel_rfl) trivial ?_
      refine GoO.regionEnd ?_
      refine GoO.inLoop ?_
      refine GoO.guard (fun h70 => ?_)
      refine GoO.lessD (k1 := (wi64 (x_57 + 1)).toNat) 5 rfl h70 ?_
      exact GoO.sub (ks := [2, 3, 5, 11, 94, 95, 96]) (hk := [0, 1, 2]) (bk := [0, 1, 2, 3, 5]) (by kernel_rfl) (by kernel_rfl) (by kernel_rfl) (ih1 (wi64 (x_57 + 1)))
end Go.GL
