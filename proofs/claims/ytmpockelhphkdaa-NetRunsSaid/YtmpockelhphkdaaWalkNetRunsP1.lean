import Derived.Test.YtmpockelhphkdaaKindsT1
import Derived.Test.YtmpockelhphkdaaProg
set_option linter.unusedVariables false
set_option linter.unusedSimpArgs false
set_option maxRecDepth 100000
namespace Go.GL
open Go Go.Proofs


/-! tontine/net.New -/
noncomputable def c15_0 : Code := bodyOf Try.f15
noncomputable def c15_1 : Code := cdL c15_0
noncomputable def c15_2 : Code := cdR c15_0
noncomputable def c15_3 : Code := cdL c15_2
noncomputable def c15_4 : Code := cdR c15_2
noncomputable def r15_1 : Array Oper := cdO c15_1
noncomputable def r15_3 : Array Oper := cdO c15_3
theorem c15_0e : c15_0 = .seq c15_1 c15_2 := by kernel_rfl
theorem c15_1e : c15_1 = .region 0 r15_1 false := by kernel_rfl
theorem c15_2e : c15_2 = .seq c15_3 c15_4 := by kernel_rfl
theorem c15_3e : c15_3 = .region 1 r15_3 false := by kernel_rfl
theorem c15_4e : c15_4 = .ret := by kernel_rfl
noncomputable def net_New.R : Pst T_net_Net where
  ε := Nat × Option Addr × Nat
  v := fun r x => .pointer (some ⟨x.1, 0, none⟩)
  H := fun r x => [⟨1, x.1, [.slice x.2.1 r.l.length x.2.2, .int .i64 r.lost]⟩]
  B := fun r x => [Ow 2 kT_api_Letter x.2.1 x.2.2 r.l]
noncomputable def net_New.cx (w0 : World) (S0 : Fam) : Cx T_net_Net := ⟨Try.prog, 15, Try.f15, 3, w0, S0, [], 0, net_New.R⟩
theorem net_New_ok (n : Nat) :
    Meets Try.prog 15 [] 0 [] [] [] (net_New.f n) (net_New.R) := by
  refine Meets.of (c := c15_0) (n := 3) Try.func15 (by kernel_rfl) (by kernel_rfl) (by kernel_rfl) fun w0 S0 => ?_
  unfold net_New.f
  show GoO (net_New.cx w0 S0) [] [] [] [.code c15_0] _
  refine GoO.seq' c15_0e ?_
  refine GoO.region' (is := [0]) c15_1e (by kernel_rfl) ?_
  refine GoO.exec (is := [0]) (hs := [.p]) (rest := []) (ks := []) (env' := []) (H' := []) (ps := []) (by kernel_rfl) trivial ?_
  refine GoO.regionEnd ?_
  refine GoO.seq' c15_2e ?_
  refine GoO.region' (is := [0, 1, 2]) c15_3e (by kernel_rfl) ?_
  refine GoO.exec (is := [0]) (hs := [.p]) (rest := [1, 2]) (ks := [1]) (env' := [(1, .agg ⟨[.slice none ([] : List T_api_Letter).length 0, .int .i64 0]⟩)]) (H' := []) (ps := []) (by kernel_rfl) trivial ?_
  refine OpTo.go (GoO.new rfl 40 (cs := [.slice none ([] : List T_api_Letter).length 0, .int .i64 0]) (by kernel_rfl) _ (fun _ => rfl) (fun b_1 => ?_))
  refine GoO.exec (is := [2]) (hs := [.p]) (rest := []) (ks := [0]) (env' := [(0, .pointer (some ⟨b_1, 0, none⟩))]) (H' := [⟨40, b_1, [.slice none ([] : List T_api_Letter).length 0, .int .i64 0]⟩]) (ps := []) (by kernel_rfl) trivial ?_
  refine GoO.regionEnd ?_
  refine GoO.nilOwn kT_api_Letter 2 ?_
  refine GoO.retagB (t := 40) (u := 1) (j := 0) (hk := []) (bk := [0]) rfl rfl rfl rfl rfl rfl (by kernel_rfl) (by kernel_rfl) ?_
  exact GoO.ret' (h := c15_4e) (hs := []) (ps := []) (hk := [0]) (bk := [0]) Try.func15 (⟨b_1, none, 0⟩ : Nat × Option Addr × Nat) (by kernel_rfl) trivial (by kernel_rfl) (by kernel_rfl)

/-! tontine/net.copied -/
noncomputable def c38_0 : Code := bodyOf Try.f38
noncomputable def c38_1 : Code := cdL c38_0
noncomputable def c38_2 : Code := cdR c38_0
noncomputable def c38_3 : Code := cdL c38_2
noncomputable def c38_4 : Code := cdR c38_2
noncomputable def c38_5 : Code := cdL c38_4
noncomputable def c38_6 : Code := cdR c38_4
noncomputable def r38_1 : Array Oper := cdO c38_1
noncomputable def r38_3 : Array Oper := cdO c38_3
noncomputable def r38_5 : Array Oper := cdO c38_5
theorem c38_0e : c38_0 = .seq c38_1 c38_2 := by kernel_rfl
theorem c38_1e : c38_1 = .region 0 r38_1 false := by kernel_rfl
theorem c38_2e : c38_2 = .seq c38_3 c38_4 := by kernel_rfl
theorem c38_3e : c38_3 = .region 1 r38_3 false := by kernel_rfl
theorem c38_4e : c38_4 = .seq c38_5 c38_6 := by kernel_rfl
theorem c38_5e : c38_5 = .region 2 r38_5 false := by kernel_rfl
theorem c38_6e : c38_6 = .ret := by kernel_rfl
noncomputable def net_copied.R (A_2 : Option Addr) (c_3 : Nat) : Pst T_api_Letter where
  ε := Option Addr × Nat
  v := fun r x => .agg ⟨[.int .i64 r.Kind, .int .i64 r.From, .int .i64 r.To, .int .u64 r.Term, .int .u64 r.Index, .int .u64 r.Prev, .int .u64 r.Commit, .bool r.Ok, .slice x.1 r.Entries.length x.2, .string (bs r.Data)]⟩
  H := fun r x => []
  B := fun r x => [Rd 0 kT_api_Entry x.1 x.2 r.Entries]
noncomputable def net_copied.cx (A_2 : Option Addr) (c_3 : Nat) (w0 : World) (S0 : Fam) : Cx T_api_Letter := ⟨Try.prog, 38, Try.f38, 8, w0, S0, [], 0, net_copied.R A_2 c_3⟩
theorem net_copied_ok (n : Nat) (x_1 : T_api_Letter) (A_2 : Option Addr) (c_3 : Nat) :
    Meets Try.prog 38 [.agg ⟨[.int .i64 x_1.Kind, .int .i64 x_1.From, .int .i64 x_1.To, .int .u64 x_1.Term, .int .u64 x_1.Index, .int .u64 x_1.Prev, .int .u64 x_1.Commit, .bool x_1.Ok, .slice A_2 x_1.Entries.length c_3, .string (bs x_1.Data)]⟩] 0 [] [] [Rd 0 kT_api_Entry A_2 c_3 x_1.Entries] (net_copied.f n x_1) (net_copied.R A_2 c_3) := by
  refine Meets.of (c := c38_0) (n := 8) Try.func38 (by kernel_rfl) (by kernel_rfl) (by kernel_rfl) fun w0 S0 => ?_
  unfold net_copied.f
  show GoO (net_copied.cx A_2 c_3 w0 S0) [(0, .agg ⟨[.int .i64 x_1.Kind, .int .i64 x_1.From, .int .i64 x_1.To, .int .u64 x_1.Term, .int .u64 x_1.Index, .int .u64 x_1.Prev, .int .u64 x_1.Commit, .bool x_1.Ok, .slice A_2 x_1.Entries.length c_3, .string (bs x_1.Data)]⟩)] [] [Rd 0 kT_api_Entry A_2 c_3 x_1.Entries] [.code c38_0] _
  refine GoO.seq' c38_0e ?_
  refine GoO.region' (is := [0, 1]) c38_1e (by kernel_rfl) ?_
  refine OpTo.go (GoO.new rfl 40 (cs := [.int .i64 x_1.Kind, .int .i64 x_1.From, .int .i64 x_1.To, .int .u64 x_1.Term, .int .u64 x_1.Index, .int .u64 x_1.Prev, .int .u64 x_1.Commit, .bool x_1.Ok, .slice A_2 x_1.Entries.length c_3, .string (bs x_1.Data)]) (by kernel_rfl) _ (fun _ => rfl) (fun b_4 => ?_))
  refine OpTo.go (GoO.new rfl 41 (cs := [.int .i64 0, .int .i64 0, .int .i64 0, .int .u64 0, .int .u64 0, .int .u64 0, .int .u64 0, .bool false, .slice none ([] : List T_api_Entry).length 0, .string (bs [])]) (by kernel_rfl) _ (fun _ => rfl) (fun b_5 => ?_))
  refine GoO.regionEnd ?_
  refine GoO.seq' c38_2e ?_
  refine GoO.region' (is := [0, 1, 2, 3, 4]) c38_3e (by kernel_rfl) ?_
  refine GoO.exec (is := [0, 1]) (hs := [.p, .b 1]) (rest := [2, 3, 4]) (ks := [1, 2, 4]) (env' := [(1, .pointer (some ⟨b_4, 0, none⟩)), (2, .pointer (some ⟨b_5, 0, none⟩)), (4, .slice A_2 x_1.Entries.length c_3)]) (H' := [⟨41, b_5, [.int .i64 0, .int .i64 0, .int .i64 0, .int .u64 0, .int .u64 0, .int .u64 0, .int .u64 0, .bool false, .slice none ([] : List T_api_Entry).length 0, .string (bs [])]⟩, ⟨40, b_4, [.int .i64 x_1.Kind, .int .i64 x_1.From, .int .i64 x_1.To, .int .u64 x_1.Term, .int .u64 x_1.Index, .int .u64 x_1.Prev, .int .u64 x_1.Commit, .bool x_1.Ok, .slice A_2 x_1.Entries.length c_3, .string (bs x_1.Data)]⟩]) (ps := [b_4 = b_4]) (by kernel_rfl) (And.intro rfl trivial) ?_
  refine GoO.nilOwn kT_api_Entry 42 ?_
  refine GoO.guard (fun h6 => ?_)
  refine OpTo.go (GoO.appW (e := 88) (K := kT_api_Entry) (A := none) (c := 0) (tg := 42) (bytes := 40) (zs := [.int .u64 0, .int .u64 0, .int .i64 0, .string (bs [])]) (xs := ([] : List T_api_Entry)) (ys := x_1.Entries) (xv := .slice A_2 x_1.Entries.length c_3) (j := 0) (bk := [1]) rfl (by kernel_rfl) (by kernel_rfl) (by kernel_rfl) (by kernel_rfl) rfl (by kernel_rfl) rfl (fun w S hB => SrcIs.row (Reads.rd w S (hB _ (List.mem_of_getElem? (i := 1) rfl)))) h6 rfl rfl rfl rfl _ (fun _ _ => rfl) (fun A_7 c_8 => ?_))
  refine GoO.exec (is := [3, 4]) (hs := [.p, .b 1]) (rest := []) (ks := [1, 2]) (env' := [(1, .pointer (some ⟨b_4, 0, none⟩)), (2, .pointer (some ⟨b_5, 0, none⟩))]) (H' := [⟨41, b_5, [.int .i64 0, .int .i64 0, .int .i64 0, .int .u64 0, .int .u64 0, .int .u64 0, .int .u64 0, .bool false, .slice none ([] : List T_api_Entry).length 0, .string (bs [])]⟩, ⟨40, b_4, [.int .i64 x_1.Kind, .int .i64 x_1.From, .int .i64 x_1.To, .int .u64 x_1.Term, .int .u64 x_1.Index, .int .u64 x_1.Prev, .int .u64 x_1.Commit, .bool x_1.Ok, .slice A_7 (([] : List T_api_Entry) ++ x_1.Entries).length c_8, .string (bs x_1.Data)]⟩]) (ps := [b_4 = b_4]) (by kernel_rfl) (And.intro rfl trivial) ?_
  refine GoO.regionEnd ?_
  refine GoO.seq' c38_4e ?_
  refine GoO.region' (is := [0, 1]) c38_5e (by kernel_rfl) ?_
  refine GoO.exec (is := [0, 1]) (hs := [.b 1, .b 0]) (rest := []) (ks := [2]) (env' := [(2, .pointer (some ⟨b_5, 0, none⟩))]) (H' := [⟨41, b_5, [.int .i64 x_1.Kind, .int .i64 x_1.From, .int .i64 x_1.To, .int .u64 x_1.Term, .int .u64 x_1.Index, .int .u64 x_1.Prev, .int .u64 x_1.Commit, .bool x_1.Ok, .slice A_7 (([] : List T_api_Entry) ++ x_1.Entries).length c_8, .string (bs x_1.Data)]⟩, ⟨40, b_4, [.int .i64 x_1.Kind, .int .i64 x_1.From, .int .i64 x_1.To, .int .u64 x_1.Term, .int .u64 x_1.Index, .int .u64 x_1.Prev, .int .u64 x_1.Commit, .bool x_1.Ok, .slice A_7 (([] : List T_api_Entry) ++ x_1.Entries).length c_8, .string (bs x_1.Data)]⟩]) (ps := [b_4 = b_4, b_5 = b_5]) (by kernel_rfl) (And.intro rfl (And.intro rfl trivial)) ?_
  refine GoO.regionEnd ?_
  refine GoO.retag (t := 42) (u := 0) (j := 0) (hk := [0, 1]) (bk := [1]) rfl rfl rfl rfl rfl rfl (by kernel_rfl) (by kernel_rfl) ?_
  refine GoO.own2rd (j := 0) rfl ?_
  exact GoO.ret' (h := c38_6e) (hs := [0]) (ps := [b_5 = b_5]) (hk := []) (bk := [0]) Try.func38 (⟨A_7, c_8⟩ : Option Addr × Nat) (by kernel_rfl) (And.intro rfl trivial) (by kernel_rfl) (by kernel_rfl)

/-! (*tontine/net.Net).Send -/
noncomputable def c16_0 : Code := bodyOf Try.f16
noncomputable def c16_1 : Code := cdL c16_0
noncomputable def c16_2 : Code := cdR c16_0
noncomputable def c16_3 : Code := cdL c16_2
noncomputable def c16_4 : Code := cdL c16_3
noncomputable def c16_5 : Code := cdR c16_3
noncomputable def c16_9 : Code := cdR c16_5
noncomputable def c16_10 : Code := cdR c16_2
noncomputable def c16_11 : Code := cdL c16_10
noncomputable def c16_12 : Code := cdL c16_11
noncomputable def c16_13 : Code := cdR c16_11
noncomputable def c16_14 : Code := cdL c16_13
noncomputable def c16_15 : Code := cdL c16_14
noncomputable def c16_16 : Code := cdR c16_14
noncomputable def c16_17 : Code := cdL c16_16
noncomputable def c16_18 : Code := cdR c16_16
noncomputable def c16_19 : Code := cdR c16_13
noncomputable def c16_20 : Code := cdR c16_10
noncomputable def c16_21 : Code := cdL c16_20
noncomputable def c16_22 : Code := cdR c16_20
noncomputable def c16_23 : Code := cdL c16_22
noncomputable def c16_24 : Code := cdR c16_22
noncomputable def c16_6 : Code := cdL c16_5
noncomputable def r16_1 : Array Oper := cdO c16_1
noncomputable def r16_4 : Array Oper := cdO c16_4
noncomputable def r16_12 : Array Oper := cdO c16_12
noncomputable def r16_15 : Array Oper := cdO c16_15
noncomputable def r16_17 : Array Oper := cdO c16_17
noncomputable def r16_21 : Array Oper := cdO c16_21
noncomputable def r16_23 : Array Oper := cdO c16_23
theorem c16_0e : c16_0 = .seq c16_1 c16_2 := by kernel_rfl
theorem c16_1e : c16_1 = .region 0 r16_1 false := by kernel_rfl
theorem c16_2e : c16_2 = .seq c16_3 c16_10 := by kernel_rfl
theorem c16_3e : c16_3 = .seq c16_4 c16_5 := by kernel_rfl
theorem c16_4e : c16_4 = .region 1 r16_4 false := by kernel_rfl
theorem c16_5e : c16_5 = .cond (cdC c16_5) c16_6 c16_9 := by kernel_rfl
theorem c16_9e : c16_9 = .skip := by kernel_rfl
theorem c16_10e : c16_10 = .seq c16_11 c16_20 := by kernel_rfl
theorem c16_11e : c16_11 = .seq c16_12 c16_13 := by kernel_rfl
theorem c16_12e : c16_12 = .region 3 r16_12 false := by kernel_rfl
theorem c16_13e : c16_13 = .cond (cdC c16_13) c16_14 c16_19 := by kernel_rfl
theorem c16_14e : c16_14 = .seq c16_15 c16_16 := by kernel_rfl
theorem c16_15e : c16_15 = .region 4 r16_15 false := by kernel_rfl
theorem c16_16e : c16_16 = .seq c16_17 c16_18 := by kernel_rfl
theorem c16_17e : c16_17 = .region 5 r16_17 false := by kernel_rfl
theorem c16_18e : c16_18 = .ret := by kernel_rfl
theorem c16_19e : c16_19 = .skip := by kernel_rfl
theorem c16_20e : c16_20 = .seq c16_21 c16_22 := by kernel_rfl
theorem c16_21e : c16_21 = .region 6 r16_21 true := by kernel_rfl
theorem c16_22e : c16_22 = .seq c16_23 c16_24 := by kernel_rfl
theorem c16_23e : c16_23 = .region 7 r16_23 false := by kernel_rfl
theorem c16_24e : c16_24 = .ret := by kernel_rfl
noncomputable def net_Net_Send.R (b_2 : Nat) (A_3 : Option Addr) (c_4 : Nat) (A_6 : Option Addr) (c_7 : Nat) : Pst (Bool × T_net_Net) where
  ε := Option Addr × Nat
  v := fun r x => .bool r.1
  H := fun r x => [⟨1, b_2, [.slice x.1 r.2.l.length x.2, .int .i64 r.2.lost]⟩]
  B := fun r x => [Ow 2 kT_api_Letter x.1 x.2 r.2.l]
noncomputable def net_Net_Send.cx (b_2 : Nat) (A_3 : Option Addr) (c_4 : Nat) (A_6 : Option Addr) (c_7 : Nat) (w0 : World) (S0 : Fam) : Cx (Bool × T_net_Net) := ⟨Try.prog, 16, Try.f16, 31, w0, S0, [1, 2], 2, net_Net_Send.R b_2 A_3 c_4 A_6 c_7⟩
theorem net_Net_Send_ok (n : Nat) (n_1 : T_net_Net) (x_5 : T_api_Letter) (b_2 : Nat) (A_3 : Option Addr) (c_4 : Nat) (A_6 : Option Addr) (c_7 : Nat) :
    Meets Try.prog 16 [.pointer (some ⟨b_2, 0, none⟩), .agg ⟨[.int .i64 x_5.Kind, .int .i64 x_5.From, .int .i64 x_5.To, .int .u64 x_5.Term, .int .u64 x_5.Index, .int .u64 x_5.Prev, .int .u64 x_5.Commit, .bool x_5.Ok, .slice A_6 x_5.Entries.length c_7, .string (bs x_5.Data)]⟩] 2 [1, 2] [⟨1, b_2, [.slice A_3 n_1.l.length c_4, .int .i64 n_1.lost]⟩] [Ow 2 kT_api_Letter A_3 c_4 n_1.l, Rd 0 kT_api_Entry A_6 c_7 x_5.Entries] (net_Net_Send.f n n_1 x_5) (net_Net_Send.R b_2 A_3 c_4 A_6 c_7) := by
  refine Meets.of (c := c16_0) (n := 31) Try.func16 (by kernel_rfl) (by kernel_rfl) (by kernel_rfl) fun w0 S0 => ?_
  unfold net_Net_Send.f
  show GoO (net_Net_Send.cx b_2 A_3 c_4 A_6 c_7 w0 S0) [(0, .pointer (some ⟨b_2, 0, none⟩)), (1, .agg ⟨[.int .i64 x_5.Kind, .int .i64 x_5.From, .int .i64 x_5.To, .int .u64 x_5.Term, .int .u64 x_5.Index, .int .u64 x_5.Prev, .int .u64 x_5.Commit, .bool x_5.Ok, .slice A_6 x_5.Entries.length c_7, .string (bs x_5.Data)]⟩)] [⟨1, b_2, [.slice A_3 n_1.l.length c_4, .int .i64 n_1.lost]⟩] [Ow 2 kT_api_Letter A_3 c_4 n_1.l, Rd 0 kT_api_Entry A_6 c_7 x_5.Entries] [.code c16_0] _
  refine GoO.seq' c16_0e ?_
  refine GoO.region' (is := [0, 1]) c16_1e (by kernel_rfl) ?_
  refine OpTo.go (GoO.new rfl 40 (cs := [.int .i64 x_5.Kind, .int .i64 x_5.From, .int .i64 x_5.To, .int .u64 x_5.Term, .int .u64 x_5.Index, .int .u64 x_5.Prev, .int .u64 x_5.Commit, .bool x_5.Ok, .slice A_6 x_5.Entries.length c_7, .string (bs x_5.Data)]) (by kernel_rfl) _ (fun _ => rfl) (fun b_8 => ?_))
  refine GoO.exec (is := [1]) (hs := [.p]) (rest := []) (ks := [0, 3]) (env' := [(0, .pointer (some ⟨b_2, 0, none⟩)), (3, .pointer (some ⟨b_8, 0, none⟩))]) (H' := [⟨40, b_8, [.int .i64 x_5.Kind, .int .i64 x_5.From, .int .i64 x_5.To, .int .u64 x_5.Term, .int .u64 x_5.Index, .int .u64 x_5.Prev, .int .u64 x_5.Commit, .bool x_5.Ok, .slice A_6 x_5.Entries.length c_7, .string (bs x_5.Data)]⟩, ⟨1, b_2, [.slice A_3 n_1.l.length c_4, .int .i64 n_1.lost]⟩]) (ps := []) (by kernel_rfl) trivial ?_
  refine GoO.regionEnd ?_
  refine GoO.seq' c16_2e ?_
  refine GoO.seq' c16_3e ?_
  refine GoO.region' (is := [0, 1]) c16_4e (by kernel_rfl) ?_
  refine GoO.exec (is := [0, 1]) (hs := [.p, .p]) (rest := []) (ks := [0, 3, 6]) (env' := [(0, .pointer (some ⟨b_2, 0, none⟩)), (3, .pointer (some ⟨b_8, 0, none⟩)), (6, .bool false)]) (H' := [⟨40, b_8, [.int .i64 x_5.Kind, .int .i64 x_5.From, .int .i64 x_5.To, .int .u64 x_5.Term, .int .u64 x_5.Index, .int .u64 x_5.Prev, .int .u64 x_5.Commit, .bool x_5.Ok, .slice A_6 x_5.Entries.length c_7, .string (bs x_5.Data)]⟩, ⟨1, b_2, [.slice A_3 n_1.l.length c_4, .int .i64 n_1.lost]⟩]) (ps := []) (by kernel_rfl) trivial ?_
  refine GoO.regionEnd ?_
  refine GoO.condF c16_5e (by kernel_rfl) ?_
  refine GoO.skip' c16_9e ?_
  refine GoO.seq' c16_10e ?_
  refine GoO.seq' c16_11e ?_
  refine GoO.region' (is := [0, 1, 2, 3, 4, 5]) c16_12e (by kernel_rfl) ?_
  refine GoO.exec (is := [0, 1, 2, 3, 4, 5]) (hs := [.p, .p, .p, .b 1, .p, .p]) (rest := []) (ks := [0, 3, 12]) (env' := [(0, .pointer (some ⟨b_2, 0, none⟩)), (3, .pointer (some ⟨b_8, 0, none⟩)), (12, .bool ((n_1.l.length : Int) == 256))]) (H' := [⟨40, b_8, [.int .i64 x_5.Kind, .int .i64 x_5.From, .int .i64 x_5.To, .int .u64 x_5.Term, .int .u64 x_5.Index, .int .u64 x_5.Prev, .int .u64 x_5.Commit, .bool x_5.Ok, .slice A_6 x_5.Entries.length c_7, .string (bs x_5.Data)]⟩, ⟨1, b_2, [.slice A_3 n_1.l.length c_4, .int .i64 n_1.lost]⟩]) (ps := [b_2 = b_2]) (by kernel_rfl) (And.intro rfl trivial) ?_
  refine GoO.regionEnd ?_
  refine GoO.ite' c16_13e (by kernel_rfl) (fun h9 => ?_) (fun h9 => ?_)
  · refine GoO.seq' c16_14e ?_
    refine GoO.region' (is := [0, 1, 2, 3, 4, 5, 6, 7]) c16_15e (by kernel_rfl) ?_
    refine GoO.exec (is := [0, 1, 2, 3, 4, 5, 6, 7]) (hs := [.p, .p, .p, .b 1, .p, .p, .p, .b 1]) (rest := []) (ks := []) (env' := []) (H' := [⟨40, b_8, [.int .i64 x_5.Kind, .int .i64 x_5.From, .int .i64 x_5.To, .int .u64 x_5.Term, .int .u64 x_5.Index, .int .u64 x_5.Prev, .int .u64 x_5.Commit, .bool x_5.Ok, .slice A_6 x_5.Entries.length c_7, .string (bs x_5.Data)]⟩, ⟨1, b_2, [.slice A_3 n_1.l.length c_4, .int .i64 (wi64 (n_1.lost + 1))]⟩]) (ps := [b_2 = b_2, b_2 = b_2]) (by kernel_rfl) (And.intro rfl (And.intro rfl trivial)) ?_
    refine GoO.regionEnd ?_
    refine GoO.seq' c16_16e ?_
    refine GoO.region' (is := [0]) c16_17e (by kernel_rfl) ?_
    refine GoO.exec (is := [0]) (hs := [.p]) (rest := []) (ks := [4]) (env' := [(4, .bool false)]) (H' := [⟨40, b_8, [.int .i64 x_5.Kind, .int .i64 x_5.From, .int .i64 x_5.To, .int .u64 x_5.Term, .int .u64 x_5.Index, .int .u64 x_5.Prev, .int .u64 x_5.Commit, .bool x_5.Ok, .slice A_6 x_5.Entries.length c_7, .string (bs x_5.Data)]⟩, ⟨1, b_2, [.slice A_3 n_1.l.length c_4, .int .i64 (wi64 (n_1.lost + 1))]⟩]) (ps := []) (by kernel_rfl) trivial ?_
    refine GoO.regionEnd ?_
    exact GoO.ret' (h := c16_18e) (hs := []) (ps := []) (hk := [1]) (bk := [0]) Try.func16 (⟨A_3, c_4⟩ : Option Addr × Nat) (by kernel_rfl) trivial (by kernel_rfl) (by kernel_rfl)
  · refine GoO.skip' c16_19e ?_
    refine GoO.seq' c16_20e ?_
    refine GoO.draw c16_21e (by kernel_rfl) [9, 10, 11] [⟨40, b_8, [.int .i64 x_5.Kind, .int .i64 x_5.From, .int .i64 x_5.To, .int .u64 x_5.Term, .int .u64 x_5.Index, .int .u64 x_5.Prev, .int .u64 x_5.Commit, .bool x_5.Ok, .slice A_6 x_5.Entries.length c_7, .string (bs x_5.Data)]⟩, ⟨1, b_2, [.slice A_3 n_1.l.length c_4, .int .i64 n_1.lost]⟩] [] (n := 12) (by kernel_rfl) ?_
    simp only [List.replicate]
    refine GoF.take [0, 1, 2, 3, 4, 5] [.p, .p, .p, .p, .b 1, .b 0] (ks := [20, 24, 25]) (fu := 6) (li := [true, true, true, true, true, true, false, false, false, false, false, false]) (env' := [(20, .pointer (some ⟨b_2, 0, none⟩)), (24, .slice A_3 n_1.l.length c_4), (25, .agg ⟨[.int .i64 x_5.Kind, .int .i64 x_5.From, .int .i64 x_5.To, .int .u64 x_5.Term, .int .u64 x_5.Index, .int .u64 x_5.Prev, .int .u64 x_5.Commit, .bool x_5.Ok, .slice A_6 x_5.Entries.length c_7, .string (bs x_5.Data)]⟩)]) (ps := [b_2 = b_2, b_8 = b_8]) (hk := [0, 1]) (bk := []) (by kernel_rfl) (And.intro rfl (And.intro rfl trivial)) rfl rfl ?_
    refine OpTo.goF (i := 6) (by kernel_rfl) (hk := [0, 1]) (bk := []) (GoO.call rfl (by kernel_rfl) (by kernel_rfl) (net_copied_ok n x_5 A_6 c_7) [[0]] [] [] [(0, 1)] (hks := [0, 1]) (bks := [0, 1]) (by kernel_rfl) (by kernel_rfl) (by kernel_rfl) (.inl rfl) rfl rfl (by kernel_rfl) (by kernel_rfl) _ (fun _ _ => rfl) _ _ (fun _ _ => rfl) (fun _ _ => rfl) (fun _ _ => by kernel_rfl) (fun _ _ => by kernel_rfl) (fun r_10 x_18 => ⟨rfl, rfl, ?_⟩))
    obtain ⟨A_11, c_12⟩ := x_18
    refine GoF.shape (env' := [(20, .pointer (some ⟨b_2, 0, none⟩)), (24, .slice A_3 n_1.l.length c_4), (25, .agg ⟨[.int .i64 x_5.Kind, .int .i64 x_5.From, .int .i64 x_5.To, .int .u64 x_5.Term, .int .u64 x_5.Index, .int .u64 x_5.Prev, .int .u64 x_5.Commit, .bool x_5.Ok, .slice A_6 x_5.Entries.length c_7, .string (bs x_5.Data)]⟩), (26, .agg ⟨[.int .i64 r_10.Kind, .int .i64 r_10.From, .int .i64 r_10.To, .int .u64 r_10.Term, .int .u64 r_10.Index, .int .u64 r_10.Prev, .int .u64 r_10.Commit, .bool r_10.Ok, .slice A_11 r_10.Entries.length c_12, .string (bs r_10.Data)]⟩)]) (H' := [⟨40, b_8, [.int .i64 x_5.Kind, .int .i64 x_5.From, .int .i64 x_5.To, .int .u64 x_5.Term, .int .u64 x_5.Index, .int .u64 x_5.Prev, .int .u64 x_5.Commit, .bool x_5.Ok, .slice A_6 x_5.Entries.length c_7, .string (bs x_5.Data)]⟩, ⟨1, b_2, [.slice A_3 n_1.l.length c_4, .int .i64 n_1.lost]⟩]) (B' := [Rd 0 kT_api_Entry A_11 c_12 r_10.Entries, Ow 2 kT_api_Letter A_3 c_4 n_1.l, Rd 0 kT_api_Entry A_6 c_7 x_5.Entries]) (ks := [20, 24, 25, 26]) (by kernel_rfl) (by kernel_rfl) (by kernel_rfl) ?_
    refine OpTo.goF (i := 7) (by kernel_rfl) (hk := [0, 1]) (bk := []) (GoO.lit (e := 29) (K := kT_api_Letter) rfl (by kernel_rfl) (by kernel_rfl) (cs := [.int .i64 r_10.Kind, .int .i64 r_10.From, .int .i64 r_10.To, .int .u64 r_10.Term, .int .u64 r_10.Index, .int .u64 r_10.Prev, .int .u64 r_10.Commit, .bool r_10.Ok, .slice A_11 r_10.Entries.length c_12, .string (bs r_10.Data)]) (by kernel_rfl) [r_10] (by kernel_rfl) (by kernel_rfl) (fun w S hB => ⟨[.int .i64 r_10.Kind, .int .i64 r_10.From, .int .i64 r_10.To, .int .u64 r_10.Term, .int .u64 r_10.Index, .int .u64 r_10.Prev, .int .u64 r_10.Commit, .bool r_10.Ok, .slice A_11 r_10.Entries.length c_12, .string (bs r_10.Data)], _, rfl, ⟨A_11, c_12, rfl, hB _ (List.mem_of_getElem? (i := 0) rfl)⟩, rfl⟩) 41 _ (fun _ _ => rfl) (fun A_13 c_14 => ⟨rfl, rfl, ?_⟩))
    refine GoF.guard (fun h15 => ?_)
    refine OpTo.goF (i := 8) (by kernel_rfl) (hk := [0, 1]) (bk := []) (GoO.appW (e := 29) (K := kT_api_Letter) (A := A_3) (c := c_4) (tg := 2) (bytes := 104) (zs := [.int .i64 0, .int .i64 0, .int .i64 0, .int .u64 0, .int .u64 0, .int .u64 0, .int .u64 0, .bool false, .slice none 0 0, .string (bs [])]) (xs := n_1.l) (ys := [r_10]) (xv := .slice A_13 [r_10].length c_14) (j := 2) (bk := [0, 1, 3]) rfl (by kernel_rfl) (by kernel_rfl) (by kernel_rfl) (by kernel_rfl) rfl (by kernel_rfl) rfl (fun w S hB => SrcIs.row (Reads.own w S (hB _ (List.mem_of_getElem? (i := 0) rfl)))) h15 rfl rfl rfl rfl _ (fun _ _ => rfl) (fun A_16 c_17 => ⟨rfl, rfl, ?_⟩))
    refine GoF.fin1 (i := 9) (hint := .p) (ps := []) (hk := []) (bk := []) (by kernel_rfl) rfl trivial (.inl rfl) ?_
    refine GoF.fin1 (i := 10) (hint := .p) (ps := []) (hk := []) (bk := []) (by kernel_rfl) rfl trivial (.inl rfl) ?_
    refine GoF.fin1 (i := 11) (hint := .b 1) (ps := [b_2 = b_2]) (hk := []) (bk := []) (by kernel_rfl) rfl (And.intro rfl trivial) (.inl rfl) ?_
    refine GoF.done (by kernel_rfl) ?_
    refine GoO.seq' c16_22e ?_
    refine GoO.region' (is := [0]) c16_23e (by kernel_rfl) ?_
    refine GoO.exec (is := [0]) (hs := [.p]) (rest := []) (ks := [4]) (env' := [(4, .bool true)]) (H' := [⟨40, b_8, [.int .i64 x_5.Kind, .int .i64 x_5.From, .int .i64 x_5.To, .int .u64 x_5.Term, .int .u64 x_5.Index, .int .u64 x_5.Prev, .int .u64 x_5.Commit, .bool x_5.Ok, .slice A_6 x_5.Entries.length c_7, .string (bs x_5.Data)]⟩, ⟨1, b_2, [.slice A_16 (n_1.l ++ [r_10]).length c_17, .int .i64 n_1.lost]⟩]) (ps := []) (by kernel_rfl) trivial ?_
    refine GoO.regionEnd ?_
    exact GoO.ret' (h := c16_24e) (hs := []) (ps := []) (hk := [1]) (bk := [0]) Try.func16 (⟨A_16, c_17⟩ : Option Addr × Nat) (by kernel_rfl) trivial (by kernel_rfl) (by kernel_rfl)

/-! (*tontine/net.Net).place -/
noncomputable def c39_0 : Code := bodyOf Try.f39
noncomputable def c39_1 : Code := cdL c39_0
noncomputable def c39_2 : Code := cdR c39_0
noncomputable def c39_3 : Code := cdL c39_2
noncomputable def c39_4 : Code := cdL c39_3
noncomputable def c39_5 : Code := cdR c39_3
noncomputable def c39_6 : Code := cdL c39_5
noncomputable def c39_7 : Code := cdL c39_6
noncomputable def c39_8 : Code := cdR c39_6
noncomputable def c39_9 : Code := cdR c39_5
noncomputable def c39_10 : Code := cdR c39_2
noncomputable def c39_11 : Code := cdL c39_10
noncomputable def c39_12 : Code := cdR c39_10
noncomputable def c39_13 : Code := cdL c39_12
noncomputable def c39_14 : Code := cdL c39_13
noncomputable def c39_15 : Code := cdR c39_13
noncomputable def c39_16 : Code := cdL c39_15
noncomputable def c39_17 : Code := cdR c39_15
noncomputable def c39_18 : Code := cdR c39_12
noncomputable def c39_19 : Code := cdL c39_18
noncomputable def c39_20 : Code := cdR c39_18
noncomputable def r39_1 : Array Oper := cdO c39_1
noncomputable def r39_4 : Array Oper := cdO c39_4
noncomputable def r39_7 : Array Oper := cdO c39_7
noncomputable def r39_11 : Array Oper := cdO c39_11
noncomputable def r39_14 : Array Oper := cdO c39_14
noncomputable def r39_16 : Array Oper := cdO c39_16
noncomputable def r39_19 : Array Oper := cdO c39_19
theorem c39_0e : c39_0 = .seq c39_1 c39_2 := by kernel_rfl
theorem c39_1e : c39_1 = .region 0 r39_1 false := by kernel_rfl
theorem c39_2e : c39_2 = .seq c39_3 c39_10 := by kernel_rfl
theorem c39_3e : c39_3 = .seq c39_4 c39_5 := by kernel_rfl
theorem c39_4e : c39_4 = .region 1 r39_4 false := by kernel_rfl
theorem c39_5e : c39_5 = .cond (cdC c39_5) c39_6 c39_9 := by kernel_rfl
theorem c39_6e : c39_6 = .seq c39_7 c39_8 := by kernel_rfl
theorem c39_7e : c39_7 = .region 2 r39_7 false := by kernel_rfl
theorem c39_8e : c39_8 = .ret := by kernel_rfl
theorem c39_9e : c39_9 = .skip := by kernel_rfl
theorem c39_10e : c39_10 = .seq c39_11 c39_12 := by kernel_rfl
theorem c39_11e : c39_11 = .region 3 r39_11 false := by kernel_rfl
theorem c39_12e : c39_12 = .seq c39_13 c39_18 := by kernel_rfl
theorem c39_13e : c39_13 = .seq c39_14 c39_15 := by kernel_rfl
theorem c39_14e : c39_14 = .region 4 r39_14 false := by kernel_rfl
theorem c39_15e : c39_15 = .cond (cdC c39_15) c39_16 c39_17 := by kernel_rfl
theorem c39_16e : c39_16 = .region 5 r39_16 false := by kernel_rfl
theorem c39_17e : c39_17 = .skip := by kernel_rfl
theorem c39_18e : c39_18 = .seq c39_19 c39_20 := by kernel_rfl
theorem c39_19e : c39_19 = .region 6 r39_19 false := by kernel_rfl
theorem c39_20e : c39_20 = .ret := by kernel_rfl
noncomputable def net_Net_place.R (b_2 : Nat) (A_3 : Option Addr) (c_4 : Nat) : Pst Int where
  ε := Unit
  v := fun r x => .int .i64 r
  H := fun r x => []
  B := fun r x => []
noncomputable def net_Net_place.cx (b_2 : Nat) (A_3 : Option Addr) (c_4 : Nat) (w0 : World) (S0 : Fam) : Cx Int := ⟨Try.prog, 39, Try.f39, 33, w0, S0, [], 2, net_Net_place.R b_2 A_3 c_4⟩
theorem net_Net_place_ok (n : Nat) (n_1 : T_net_Net) (i_5 : Int) (b_2 : Nat) (A_3 : Option Addr) (c_4 : Nat) :
    Meets Try.prog 39 [.pointer (some ⟨b_2, 0, none⟩), .int .i64 i_5] 2 [] [⟨1, b_2, [.slice A_3 n_1.l.length c_4, .int .i64 n_1.lost]⟩] [Ow 2 kT_api_Letter A_3 c_4 n_1.l] (net_Net_place.f n n_1 i_5) (net_Net_place.R b_2 A_3 c_4) := by
  refine Meets.of (c := c39_0) (n := 33) Try.func39 (by kernel_rfl) (by kernel_rfl) (by kernel_rfl) fun w0 S0 => ?_
  unfold net_Net_place.f
  show GoO (net_Net_place.cx b_2 A_3 c_4 w0 S0) [(0, .pointer (some ⟨b_2, 0, none⟩)), (1, .int .i64 i_5)] [⟨1, b_2, [.slice A_3 n_1.l.length c_4, .int .i64 n_1.lost]⟩] [Ow 2 kT_api_Letter A_3 c_4 n_1.l] [.code c39_0] _
  refine GoO.seq' c39_0e ?_
  refine GoO.region' (is := [0]) c39_1e (by kernel_rfl) ?_
  refine GoO.exec (is := [0]) (hs := [.p]) (rest := []) (ks := [0, 1]) (env' := [(0, .pointer (some ⟨b_2, 0, none⟩)), (1, .int .i64 i_5)]) (H' := [⟨1, b_2, [.slice A_3 n_1.l.length c_4, .int .i64 n_1.lost]⟩]) (ps := []) (by kernel_rfl) trivial ?_
  refine GoO.regionEnd ?_
  refine GoO.seq' c39_2e ?_
  refine GoO.seq' c39_3e ?_
  refine GoO.region' (is := [0, 1, 2, 3, 4, 5, 6, 7, 8, 9]) c39_4e (by kernel_rfl) ?_
  refine GoO.exec (is := [0, 1, 2, 3, 4, 5, 6, 7, 8, 9]) (hs := [.p, .p, .p, .p, .p, .p, .b 0, .p, .p, .p]) (rest := []) (ks := [0, 1, 15]) (env' := [(0, .pointer (some ⟨b_2, 0, none⟩)), (1, .int .i64 i_5), (15, .bool ((n_1.l.length : Int) == 0))]) (H' := [⟨1, b_2, [.slice A_3 n_1.l.length c_4, .int .i64 n_1.lost]⟩]) (ps := [b_2 = b_2]) (by kernel_rfl) (And.intro rfl trivial) ?_
  refine GoO.regionEnd ?_
  refine GoO.ite' c39_5e (by kernel_rfl) (fun h6 => ?_) (fun h6 => ?_)
  · refine GoO.seq' c39_6e ?_
    refine GoO.region' (is := [0]) c39_7e (by kernel_rfl) ?_
    refine GoO.exec (is := [0]) (hs := [.p]) (rest := []) (ks := [4]) (env' := [(4, .int .i64 (-1))]) (H' := [⟨1, b_2, [.slice A_3 n_1.l.length c_4, .int .i64 n_1.lost]⟩]) (ps := []) (by kernel_rfl) trivial ?_
    refine GoO.regionEnd ?_
    exact GoO.ret' (h := c39_8e) (hs := []) (ps := []) (hk := []) (bk := []) Try.func39 () (by kernel_rfl) trivial (by kernel_rfl) (by kernel_rfl)
  · refine GoO.skip' c39_9e ?_
    refine GoO.seq' c39_10e ?_
    refine GoO.region' (is := [0, 1, 2, 3, 4, 5, 6, 7]) c39_11e (by kernel_rfl) ?_
    refine GoO.guard (fun h7 => ?_)
    refine GoO.exec (is := [0, 1, 2, 3, 4, 5, 6, 7]) (hs := [.p, .p, .p, .p, .b 0, .p, .p, .p]) (rest := []) (ks := [0, 5]) (env' := [(0, .pointer (some ⟨b_2, 0, none⟩)), (5, .int .i64 (i_5.tmod (n_1.l.length : Int)))]) (H' := [⟨1, b_2, [.slice A_3 n_1.l.length c_4, .int .i64 n_1.lost]⟩]) (ps := [b_2 = b_2, (n_1.l.length : Int) ≠ 0]) (by kernel_rfl) (And.intro rfl (And.intro h7 trivial)) ?_
    refine GoO.regionEnd ?_
    refine GoO.seq' c39_12e ?_
    refine GoO.seq' c39_13e ?_
    refine GoO.region' (is := [0, 1]) c39_14e (by kernel_rfl) ?_
    refine GoO.exec (is := [0, 1]) (hs := [.p, .p]) (rest := []) (ks := [0, 5, 24]) (env' := [(0, .pointer (some ⟨b_2, 0, none⟩)), (5, .int .i64 (i_5.tmod (n_1.l.length : Int))), (24, .bool (decide ((i_5.tmod (n_1.l.length : Int)) < 0)))]) (H' := [⟨1, b_2, [.slice A_3 n_1.l.length c_4, .int .i64 n_1.lost]⟩]) (ps := []) (by kernel_rfl) trivial ?_
    refine GoO.regionEnd ?_
    refine GoO.ite' c39_15e (by kernel_rfl) (fun h8 => ?_) (fun h8 => ?_)
    · refine GoO.region' (is := [0, 1, 2, 3, 4, 5, 6, 7]) c39_16e (by kernel_rfl) ?_
      refine GoO.exec (is := [0, 1, 2, 3, 4, 5, 6, 7]) (hs := [.p, .p, .p, .p, .b 0, .p, .p, .p]) (rest := []) (ks := [5]) (env' := [(5, .int .i64 (wi64 ((i_5.tmod (n_1.l.length : Int)) + (n_1.l.length : Int))))]) (H' := [⟨1, b_2, [.slice A_3 n_1.l.length c_4, .int .i64 n_1.lost]⟩]) (ps := [b_2 = b_2]) (by kernel_rfl) (And.intro rfl trivial) ?_
      refine GoO.regionEnd ?_
      refine GoO.seq' c39_18e ?_
      refine GoO.region' (is := [0, 1]) c39_19e (by kernel_rfl) ?_
      refine GoO.exec (is := [0, 1]) (hs := [.p, .p]) (rest := []) (ks := [4]) (env' := [(4, .int .i64 (wi64 ((i_5.tmod (n_1.l.length : Int)) + (n_1.l.length : Int))))]) (H' := [⟨1, b_2, [.slice A_3 n_1.l.length c_4, .int .i64 n_1.lost]⟩]) (ps := []) (by kernel_rfl) trivial ?_
      refine GoO.regionEnd ?_
      exact GoO.ret' (h := c39_20e) (hs := []) (ps := []) (hk := []) (bk := []) Try.func39 () (by kernel_rfl) trivial (by kernel_rfl) (by kernel_rfl)
    · refine GoO.skip' c39_17e ?_
      refine GoO.seq' c39_18e ?_
      refine GoO.region' (is := [0, 1]) c39_19e (by kernel_rfl) ?_
      refine GoO.exec (is := [0, 1]) (hs := [.p, .p]) (rest := []) (ks := [4]) (env' := [(4, .int .i64 (i_5.tmod (n_1.l.length : Int)))]) (H' := [⟨1, b_2, [.slice A_3 n_1.l.length c_4, .int .i64 n_1.lost]⟩]) (ps := []) (by kernel_rfl) trivial ?_
      refine GoO.regionEnd ?_
      exact GoO.ret' (h := c39_20e) (hs := []) (ps := []) (hk := []) (bk := []) Try.func39 () (by kernel_rfl) trivial (by kernel_rfl) (by kernel_rfl)

/-! (*tontine/net.Net).Take -/
noncomputable def c17_0 : Code := bodyOf Try.f17
noncomputable def c17_1 : Code := cdL c17_0
noncomputable def c17_2 : Code := cdR c17_0
noncomputable def c17_3 : Code := cdL c17_2
noncomputable def c17_4 : Code := cdR c17_2
noncomputable def c17_5 : Code := cdL c17_4
noncomputable def c17_6 : Code := cdL c17_5
noncomputable def c17_7 : Code := cdR c17_5
noncomputable def c17_8 : Code := cdL c17_7
noncomputable def c17_9 : Code := cdL c17_8
noncomputable def c17_10 : Code := cdR c17_8
noncomputable def c17_11 : Code := cdR c17_7
noncomputable def c17_12 : Code := cdR c17_4
noncomputable def c17_13 : Code := cdL c17_12
noncomputable def c17_14 : Code := cdR c17_12
noncomputable def c17_15 : Code := cdL c17_14
noncomputable def c17_16 : Code := cdR c17_14
noncomputable def c17_17 : Code := cdL c17_16
noncomputable def c17_18 : Code := cdR c17_16
noncomputable def r17_1 : Array Oper := cdO c17_1
noncomputable def r17_3 : Array Oper := cdO c17_3
noncomputable def r17_6 : Array Oper := cdO c17_6
noncomputable def r17_9 : Array Oper := cdO c17_9
noncomputable def r17_13 : Array Oper := cdO c17_13
noncomputable def r17_15 : Array Oper := cdO c17_15
noncomputable def r17_17 : Array Oper := cdO c17_17
theorem c17_0e : c17_0 = .seq c17_1 c17_2 := by kernel_rfl
theorem c17_1e : c17_1 = .region 0 r17_1 false := by kernel_rfl
theorem c17_2e : c17_2 = .seq c17_3 c17_4 := by kernel_rfl
theorem c17_3e : c17_3 = .region 1 r17_3 false := by kernel_rfl
theorem c17_4e : c17_4 = .seq c17_5 c17_12 := by kernel_rfl
theorem c17_5e : c17_5 = .seq c17_6 c17_7 := by kernel_rfl
theorem c17_6e : c17_6 = .region 2 r17_6 false := by kernel_rfl
theorem c17_7e : c17_7 = .cond (cdC c17_7) c17_8 c17_11 := by kernel_rfl
theorem c17_8e : c17_8 = .seq c17_9 c17_10 := by kernel_rfl
theorem c17_9e : c17_9 = .region 3 r17_9 false := by kernel_rfl
theorem c17_10e : c17_10 = .ret := by kernel_rfl
theorem c17_11e : c17_11 = .skip := by kernel_rfl
theorem c17_12e : c17_12 = .seq c17_13 c17_14 := by kernel_rfl
theorem c17_13e : c17_13 = .region 4 r17_13 false := by kernel_rfl
theorem c17_14e : c17_14 = .seq c17_15 c17_16 := by kernel_rfl
theorem c17_15e : c17_15 = .region 5 r17_15 true := by kernel_rfl
theorem c17_16e : c17_16 = .seq c17_17 c17_18 := by kernel_rfl
theorem c17_17e : c17_17 = .region 6 r17_17 false := by kernel_rfl
theorem c17_18e : c17_18 = .ret := by kernel_rfl
noncomputable def net_Net_Take.R (b_2 : Nat) (A_3 : Option Addr) (c_4 : Nat) : Pst (T_api_Letter × Bool × T_net_Net) where
  ε := Option Addr × Nat × Option Addr × Nat
  v := fun r x => .tuple ⟨[.agg ⟨[.int .i64 r.1.Kind, .int .i64 r.1.From, .int .i64 r.1.To, .int .u64 r.1.Term, .int .u64 r.1.Index, .int .u64 r.1.Prev, .int .u64 r.1.Commit, .bool r.1.Ok, .slice x.1 r.1.Entries.length x.2.1, .string (bs r.1.Data)]⟩, .bool r.2.1]⟩
  H := fun r x => [⟨1, b_2, [.slice x.2.2.1 r.2.2.l.length x.2.2.2, .int .i64 r.2.2.lost]⟩]
  B := fun r x => [Rd 0 kT_api_Entry x.1 x.2.1 r.1.Entries, Ow 2 kT_api_Letter x.2.2.1 x.2.2.2 r.2.2.l]
noncomputable def net_Net_Take.cx (b_2 : Nat) (A_3 : Option Addr) (c_4 : Nat) (w0 : World) (S0 : Fam) : Cx (T_api_Letter × Bool × T_net_Net) := ⟨Try.prog, 17, Try.f17, 40, w0, S0, [1, 2], 2, net_Net_Take.R b_2 A_3 c_4⟩
theorem net_Net_Take_ok (n : Nat) (n_1 : T_net_Net) (i_5 : Int) (b_2 : Nat) (A_3 : Option Addr) (c_4 : Nat) :
    Meets Try.prog 17 [.pointer (some ⟨b_2, 0, none⟩), .int .i64 i_5] 2 [1, 2] [⟨1, b_2, [.slice A_3 n_1.l.length c_4, .int .i64 n_1.lost]⟩] [Ow 2 kT_api_Letter A_3 c_4 n_1.l] (net_Net_Take.f n n_1 i_5) (net_Net_Take.R b_2 A_3 c_4) := by
  refine Meets.of (c := c17_0) (n := 40) Try.func17 (by kernel_rfl) (by kernel_rfl) (by kernel_rfl) fun w0 S0 => ?_
  unfold net_Net_Take.f
  show GoO (net_Net_Take.cx b_2 A_3 c_4 w0 S0) [(0, .pointer (some ⟨b_2, 0, none⟩)), (1, .int .i64 i_5)] [⟨1, b_2, [.slice A_3 n_1.l.length c_4, .int .i64 n_1.lost]⟩] [Ow 2 kT_api_Letter A_3 c_4 n_1.l] [.code c17_0] _
  refine GoO.seq' c17_0e ?_
  refine GoO.region' (is := [0, 1]) c17_1e (by kernel_rfl) ?_
  refine OpTo.go (GoO.new rfl 40 (cs := [.int .i64 0, .int .i64 0, .int .i64 0, .int .u64 0, .int .u64 0, .int .u64 0, .int .u64 0, .bool false, .slice none ([] : List T_api_Entry).length 0, .string (bs [])]) (by kernel_rfl) _ (fun _ => rfl) (fun b_6 => ?_))
  refine GoO.exec (is := [1]) (hs := [.p]) (rest := []) (ks := [0, 1, 4]) (env' := [(0, .pointer (some ⟨b_2, 0, none⟩)), (1, .int .i64 i_5), (4, .pointer (some ⟨b_6, 0, none⟩))]) (H' := [⟨40, b_6, [.int .i64 0, .int .i64 0, .int .i64 0, .int .u64 0, .int .u64 0, .int .u64 0, .int .u64 0, .bool false, .slice none ([] : List T_api_Entry).length 0, .string (bs [])]⟩, ⟨1, b_2, [.slice A_3 n_1.l.length c_4, .int .i64 n_1.lost]⟩]) (ps := []) (by kernel_rfl) trivial ?_
  refine GoO.regionEnd ?_
  refine GoO.seq' c17_2e ?_
  refine GoO.region' (is := [0, 1, 2, 3]) c17_3e (by kernel_rfl) ?_
  refine GoO.exec (is := [0, 1]) (hs := [.p, .p]) (rest := [2, 3]) (ks := [0, 4, 8, 9]) (env' := [(0, .pointer (some ⟨b_2, 0, none⟩)), (4, .pointer (some ⟨b_6, 0, none⟩)), (8, .pointer (some ⟨b_2, 0, none⟩)), (9, .int .i64 i_5)]) (H' := [⟨40, b_6, [.int .i64 0, .int .i64 0, .int .i64 0, .int .u64 0, .int .u64 0, .int .u64 0, .int .u64 0, .bool false, .slice none ([] : List T_api_Entry).length 0, .string (bs [])]⟩, ⟨1, b_2, [.slice A_3 n_1.l.length c_4, .int .i64 n_1.lost]⟩]) (ps := []) (by kernel_rfl) trivial ?_
  refine OpTo.go (GoO.call rfl (by kernel_rfl) (by kernel_rfl) (net_Net_place_ok n n_1 i_5 b_2 A_3 c_4) [[0], [1], [2]] [] [(1, 1)] [(2, 0)] (hks := [0, 1]) (bks := [0]) (by kernel_rfl) (by kernel_rfl) (by kernel_rfl) (.inl rfl) rfl rfl (by kernel_rfl) (by kernel_rfl) _ (fun _ _ => rfl) _ _ (fun _ _ => rfl) (fun _ _ => rfl) (fun _ _ => by kernel_rfl) (fun _ _ => by kernel_rfl) (fun r_7 x_20 => ?_))
  refine GoO.shape (env' := [(0, .pointer (some ⟨b_2, 0, none⟩)), (4, .pointer (some ⟨b_6, 0, none⟩)), (8, .pointer (some ⟨b_2, 0, none⟩)), (9, .int .i64 i_5), (10, .int .i64 r_7)]) (H' := [⟨40, b_6, [.int .i64 0, .int .i64 0, .int .i64 0, .int .u64 0, .int .u64 0, .int .u64 0, .int .u64 0, .bool false, .slice none ([] : List T_api_Entry).length 0, .string (bs [])]⟩, ⟨1, b_2, [.slice A_3 n_1.l.length c_4, .int .i64 n_1.lost]⟩]) (B' := [Ow 2 kT_api_Letter A_3 c_4 n_1.l]) (ks := [0, 4, 8, 9, 10]) (by kernel_rfl) (by kernel_rfl) (by kernel_rfl) ?_
  refine GoO.exec (is := [3]) (hs := [.p]) (rest := []) (ks := [0, 4, 6]) (env' := [(0, .pointer (some ⟨b_2, 0, none⟩)), (4, .pointer (some ⟨b_6, 0, none⟩)), (6, .int .i64 r_7)]) (H' := [⟨40, b_6, [.int .i64 0, .int .i64 0, .int .i64 0, .int .u64 0, .int .u64 0, .int .u64 0, .int .u64 0, .bool false, .slice none ([] : List T_api_Entry).length 0, .string (bs [])]⟩, ⟨1, b_2, [.slice A_3 n_1.l.length c_4, .int .i64 n_1.lost]⟩]) (ps := []) (by kernel_rfl) trivial ?_
  refine GoO.regionEnd ?_
  refine GoO.seq' c17_4e ?_
  refine GoO.seq' c17_5e ?_
  refine GoO.region' (is := [0, 1]) c17_6e (by kernel_rfl) ?_
  refine GoO.exec (is := [0, 1]) (hs := [.p, .p]) (rest := []) (ks := [0, 4, 6, 12]) (env' := [(0, .pointer (some ⟨b_2, 0, none⟩)), (4, .pointer (some ⟨b_6, 0, none⟩)), (6, .int .i64 r_7), (12, .bool (decide (r_7 < 0)))]) (H' := [⟨40, b_6, [.int .i64 0, .int .i64 0, .int .i64 0, .int .u64 0, .int .u64 0, .int .u64 0, .int .u64 0, .bool false, .slice none ([] : List T_api_Entry).length 0, .string (bs [])]⟩, ⟨1, b_2, [.slice A_3 n_1.l.length c_4, .int .i64 n_1.lost]⟩]) (ps := []) (by kernel_rfl) trivial ?_
  refine GoO.regionEnd ?_
  refine GoO.ite' c17_7e (by kernel_rfl) (fun h8 => ?_) (fun h8 => ?_)
  · refine GoO.seq' c17_8e ?_
    refine GoO.region' (is := [0, 1, 2]) c17_9e (by kernel_rfl) ?_
    refine GoO.exec (is := [0, 1, 2]) (hs := [.p, .b 0, .p]) (rest := []) (ks := [4, 5]) (env' := [(4, .pointer (some ⟨b_6, 0, none⟩)), (5, .bool false)]) (H' := [⟨40, b_6, [.int .i64 0, .int .i64 0, .int .i64 0, .int .u64 0, .int .u64 0, .int .u64 0, .int .u64 0, .bool false, .slice none ([] : List T_api_Entry).length 0, .string (bs [])]⟩, ⟨1, b_2, [.slice A_3 n_1.l.length c_4, .int .i64 n_1.lost]⟩]) (ps := [b_6 = b_6]) (by kernel_rfl) (And.intro rfl trivial) ?_
    refine GoO.regionEnd ?_
    refine GoO.nilRd kT_api_Entry ?_
    exact GoO.ret' (h := c17_10e) (hs := [0]) (ps := [b_6 = b_6]) (hk := [1]) (bk := [0, 1]) Try.func17 (⟨none, 0, A_3, c_4⟩ : Option Addr × Nat × Option Addr × Nat) (by kernel_rfl) (And.intro rfl trivial) (by kernel_rfl) (by kernel_rfl)
  · refine GoO.skip' c17_11e ?_
    refine GoO.seq' c17_12e ?_
    refine GoO.region' (is := [0, 1, 2, 3, 4, 5, 6, 7, 8]) c17_13e (by kernel_rfl) ?_
    refine GoO.exec (is := [0, 1, 2, 3, 4]) (hs := [.p, .p, .p, .b 1, .p]) (rest := [5, 6, 7, 8]) (ks := [0, 4, 6, 17, 18]) (env' := [(0, .pointer (some ⟨b_2, 0, none⟩)), (4, .pointer (some ⟨b_6, 0, none⟩)), (6, .int .i64 r_7), (17, .slice A_3 n_1.l.length c_4), (18, .int .i64 r_7)]) (H' := [⟨40, b_6, [.int .i64 0, .int .i64 0, .int .i64 0, .int .u64 0, .int .u64 0, .int .u64 0, .int .u64 0, .bool false, .slice none ([] : List T_api_Entry).length 0, .string (bs [])]⟩, ⟨1, b_2, [.slice A_3 n_1.l.length c_4, .int .i64 n_1.lost]⟩]) (ps := [b_2 = b_2]) (by kernel_rfl) (And.intro rfl trivial) ?_
    refine GoO.guard (fun h9 => ?_)
    refine OpTo.go (GoO.idx (kk := .i64) (e := 29) (K := kT_api_Letter) (A := A_3) (c := c_4) (xs := n_1.l) (iv := r_7) (j := 0) rfl (by kernel_rfl) (by kernel_rfl) (by kernel_rfl) (by kernel_rfl) rfl Reads.own rfl h9.1 h9.2 (by decide) rfl ?_)
    refine OpTo.go (GoO.ldE' (K := kT_api_Letter) (A := A_3) (c := c_4) (xs := n_1.l) (iN := r_7.toNat) (off := 0) (j := 0) rfl (by kernel_rfl) rfl Reads.own (by first | exact idx_lt h9.1 h9.2 | (simp only [List.length_set]; exact idx_lt h9.1 h9.2)) (by decide) (oT_api_Letter _) (v := fun e => .agg ⟨[.int .i64 ((rdL n_1.l r_7).Kind), .int .i64 ((rdL n_1.l r_7).From), .int .i64 ((rdL n_1.l r_7).To), .int .u64 ((rdL n_1.l r_7).Term), .int .u64 ((rdL n_1.l r_7).Index), .int .u64 ((rdL n_1.l r_7).Prev), .int .u64 ((rdL n_1.l r_7).Commit), .bool ((rdL n_1.l r_7).Ok), .slice e.1 ((rdL n_1.l r_7).Entries).length e.2, .string (bs ((rdL n_1.l r_7).Data))]⟩) (fun _ => by kernel_rfl) _ (fun _ => rfl) ?_)
    rintro ⟨A_10, c_11⟩
    refine OpTo.go (GoO.new rfl 41 (cs := [.int .i64 0, .int .i64 0, .int .i64 0, .int .u64 0, .int .u64 0, .int .u64 0, .int .u64 0, .bool false, .slice none ([] : List T_api_Entry).length 0, .string (bs [])]) (by kernel_rfl) _ (fun _ => rfl) (fun b_12 => ?_))
    refine GoO.exec (is := [8]) (hs := [.b 0]) (rest := []) (ks := [0, 4, 6, 7]) (env' := [(0, .pointer (some ⟨b_2, 0, none⟩)), (4, .pointer (some ⟨b_6, 0, none⟩)), (6, .int .i64 r_7), (7, .pointer (some ⟨b_12, 0, none⟩))]) (H' := [⟨41, b_12, [.int .i64 ((rdL n_1.l r_7).Kind), .int .i64 ((rdL n_1.l r_7).From), .int .i64 ((rdL n_1.l r_7).To), .int .u64 ((rdL n_1.l r_7).Term), .int .u64 ((rdL n_1.l r_7).Index), .int .u64 ((rdL n_1.l r_7).Prev), .int .u64 ((rdL n_1.l r_7).Commit), .bool ((rdL n_1.l r_7).Ok), .slice A_10 ((rdL n_1.l r_7).Entries).length c_11, .string (bs ((rdL n_1.l r_7).Data))]⟩, ⟨40, b_6, [.int .i64 0, .int .i64 0, .int .i64 0, .int .u64 0, .int .u64 0, .int .u64 0, .int .u64 0, .bool false, .slice none ([] : List T_api_Entry).length 0, .string (bs [])]⟩, ⟨1, b_2, [.slice A_3 n_1.l.length c_4, .int .i64 n_1.lost]⟩]) (ps := [b_12 = b_12]) (by kernel_rfl) (And.intro rfl trivial) ?_
    refine GoO.regionEnd ?_
    refine GoO.seq' c17_14e ?_
    refine GoO.draw c17_15e (by kernel_rfl) [16, 17, 18] [⟨1, b_2, [.slice A_3 n_1.l.length c_4, .int .i64 n_1.lost]⟩] [] (n := 19) (by kernel_rfl) ?_
    simp only [List.replicate]
    refine GoF.take [0, 1, 2, 3, 4, 5, 6, 8, 9, 10, 11, 12, 13] [.p, .p, .p, .p, .b 0, .p, .p, .p, .p, .p, .b 0, .p, .p] (ks := [4, 7, 21, 25, 26, 27, 32, 34]) (fu := 6) (li := [true, true, true, true, true, true, true, false, true, true, true, true, true, true, false, false, false, false, false]) (env' := [(4, .pointer (some ⟨b_6, 0, none⟩)), (7, .pointer (some ⟨b_12, 0, none⟩)), (21, .pointer (some ⟨b_2, 0, none⟩)), (25, .slice A_3 n_1.l.length c_4), (26, .int .i64 r_7), (27, .int .i64 r_7), (32, .slice A_3 n_1.l.length c_4), (34, .int .i64 (wi64 (r_7 + 1)))]) (ps := [b_2 = b_2, b_2 = b_2]) (hk := [2]) (bk := []) (by kernel_rfl) (And.intro rfl (And.intro rfl trivial)) rfl rfl ?_
    refine GoF.guard (fun h13 => ?_)
    refine GoF.cut1 (i := 7) (hk := [2]) (bk := []) (e := 29) (K := kT_api_Letter) (A := A_3) (c := c_4) (xs := n_1.l) (h := r_7) (tg := 2) (j := 1) (by kernel_rfl) rfl rfl rfl (by kernel_rfl) (by kernel_rfl) (by kernel_rfl) rfl rfl (by kernel_rfl) (by kernel_rfl) h13.1 h13.2 rfl ?_
    refine GoF.guard (fun h16 => ?_)
    refine GoF.slc1 (i := 14) (hk := [2]) (bk := []) (e := 29) (K := kT_api_Letter) (A := A_3) (c := c_4) (xs := n_1.l) (j := 1) (l := (wi64 (r_7 + 1))) (h := (n_1.l.length : Int)) (by kernel_rfl) rfl rfl rfl (by kernel_rfl) (by kernel_rfl) (by kernel_rfl) rfl Reads.own rfl (by kernel_rfl) (by kernel_rfl) h16.1 h16.2.1 h16.2.2 _ (fun _ _ => rfl) (fun A_14 c_15 => ?_)
    refine GoF.guard (fun h17 => ?_)
    refine OpTo.goF (i := 15) (by kernel_rfl) (hk := [2]) (bk := []) (GoO.appC (e := 29) (K := kT_api_Letter) (A := A_3) (c0 := c_4) (m := r_7.toNat) (tg := 2) (bytes := 104) (zs := [.int .i64 0, .int .i64 0, .int .i64 0, .int .u64 0, .int .u64 0, .int .u64 0, .int .u64 0, .bool false, .slice none 0 0, .string (bs [])]) (xs := n_1.l) (ys := (n_1.l.take (n_1.l.length : Int).toNat).drop (wi64 (r_7 + 1)).toNat) (xv := .slice A_14 ((n_1.l.take (n_1.l.length : Int).toNat).drop (wi64 (r_7 + 1)).toNat).length c_15) (j := 2) (bk := [1]) rfl (by kernel_rfl) (by kernel_rfl) (by kernel_rfl) (by kernel_rfl) rfl (by kernel_rfl) rfl (by omega) (fun w S hB => SrcIs.row (Reads.rd w S (hB _ (List.mem_of_getElem? (i := 0) rfl)))) h17 rfl rfl rfl rfl _ (fun _ _ => rfl) (fun A_18 c_19 => ⟨rfl, rfl, ?_⟩))
    refine GoF.fin1 (i := 16) (hint := .p) (ps := []) (hk := []) (bk := []) (by kernel_rfl) rfl trivial (.inl rfl) ?_
    refine GoF.fin1 (i := 17) (hint := .p) (ps := []) (hk := []) (bk := []) (by kernel_rfl) rfl trivial (.inl rfl) ?_
    refine GoF.fin1 (i := 18) (hint := .b 2) (ps := [b_2 = b_2]) (hk := []) (bk := []) (by kernel_rfl) rfl (And.intro rfl trivial) (.inl rfl) ?_
    refine GoF.done (by kernel_rfl) ?_
    refine GoO.seq' c17_16e ?_
    refine GoO.region' (is := [0, 1, 2]) c17_17e (by kernel_rfl) ?_
    refine GoO.exec (is := [0, 1, 2]) (hs := [.b 0, .b 1, .p]) (rest := []) (ks := [4, 5]) (env' := [(4, .pointer (some ⟨b_6, 0, none⟩)), (5, .bool true)]) (H' := [⟨41, b_12, [.int .i64 ((rdL n_1.l r_7).Kind), .int .i64 ((rdL n_1.l r_7).From), .int .i64 ((rdL n_1.l r_7).To), .int .u64 ((rdL n_1.l r_7).Term), .int .u64 ((rdL n_1.l r_7).Index), .int .u64 ((rdL n_1.l r_7).Prev), .int .u64 ((rdL n_1.l r_7).Commit), .bool ((rdL n_1.l r_7).Ok), .slice A_10 ((rdL n_1.l r_7).Entries).length c_11, .string (bs ((rdL n_1.l r_7).Data))]⟩, ⟨40, b_6, [.int .i64 ((rdL n_1.l r_7).Kind), .int .i64 ((rdL n_1.l r_7).From), .int .i64 ((rdL n_1.l r_7).To), .int .u64 ((rdL n_1.l r_7).Term), .int .u64 ((rdL n_1.l r_7).Index), .int .u64 ((rdL n_1.l r_7).Prev), .int .u64 ((rdL n_1.l r_7).Commit), .bool ((rdL n_1.l r_7).Ok), .slice A_10 ((rdL n_1.l r_7).Entries).length c_11, .string (bs ((rdL n_1.l r_7).Data))]⟩, ⟨1, b_2, [.slice A_18 (n_1.l.take r_7.toNat ++ ((n_1.l.take (n_1.l.length : Int).toNat).drop (wi64 (r_7 + 1)).toNat)).length c_19, .int .i64 n_1.lost]⟩]) (ps := [b_12 = b_12, b_6 = b_6]) (by kernel_rfl) (And.intro rfl (And.intro rfl trivial)) ?_
    refine GoO.regionEnd ?_
    exact GoO.ret' (h := c17_18e) (hs := [1]) (ps := [b_6 = b_6]) (hk := [2]) (bk := [1, 0]) Try.func17 (⟨A_10, c_11, A_18, c_19⟩ : Option Addr × Nat × Option Addr × Nat) (by kernel_rfl) (And.intro rfl trivial) (by kernel_rfl) (by kernel_rfl)

/-! (*tontine/net.Net).Count -/
noncomputable def c19_0 : Code := bodyOf Try.f19
noncomputable def c19_1 : Code := cdL c19_0
noncomputable def c19_2 : Code := cdR c19_0
noncomputable def c19_3 : Code := cdL c19_2
noncomputable def c19_4 : Code := cdL c19_3
noncomputable def c19_5 : Code := cdR c19_3
noncomputable def c19_9 : Code := cdR c19_5
noncomputable def c19_10 : Code := cdR c19_2
noncomputable def c19_11 : Code := cdL c19_10
noncomputable def c19_12 : Code := cdR c19_10
noncomputable def c19_6 : Code := cdL c19_5
noncomputable def r19_1 : Array Oper := cdO c19_1
noncomputable def r19_4 : Array Oper := cdO c19_4
noncomputable def r19_11 : Array Oper := cdO c19_11
theorem c19_0e : c19_0 = .seq c19_1 c19_2 := by kernel_rfl
theorem c19_1e : c19_1 = .region 0 r19_1 false := by kernel_rfl
theorem c19_2e : c19_2 = .seq c19_3 c19_10 := by kernel_rfl
theorem c19_3e : c19_3 = .seq c19_4 c19_5 := by kernel_rfl
theorem c19_4e : c19_4 = .region 1 r19_4 false := by kernel_rfl
theorem c19_5e : c19_5 = .cond (cdC c19_5) c19_6 c19_9 := by kernel_rfl
theorem c19_9e : c19_9 = .skip := by kernel_rfl
theorem c19_10e : c19_10 = .seq c19_11 c19_12 := by kernel_rfl
theorem c19_11e : c19_11 = .region 3 r19_11 true := by kernel_rfl
theorem c19_12e : c19_12 = .ret := by kernel_rfl
noncomputable def net_Net_Count.R (b_2 : Nat) (A_3 : Option Addr) (c_4 : Nat) : Pst (Int × Int) where
  ε := Unit
  v := fun r x => .tuple ⟨[.int .i64 r.1, .int .i64 r.2]⟩
  H := fun r x => []
  B := fun r x => []
noncomputable def net_Net_Count.cx (b_2 : Nat) (A_3 : Option Addr) (c_4 : Nat) (w0 : World) (S0 : Fam) : Cx (Int × Int) := ⟨Try.prog, 19, Try.f19, 15, w0, S0, [], 2, net_Net_Count.R b_2 A_3 c_4⟩
theorem net_Net_Count_ok (n : Nat) (n_1 : T_net_Net) (b_2 : Nat) (A_3 : Option Addr) (c_4 : Nat) :
    Meets Try.prog 19 [.pointer (some ⟨b_2, 0, none⟩)] 2 [] [⟨1, b_2, [.slice A_3 n_1.l.length c_4, .int .i64 n_1.lost]⟩] [Ow 2 kT_api_Letter A_3 c_4 n_1.l] (net_Net_Count.f n n_1) (net_Net_Count.R b_2 A_3 c_4) := by
  refine Meets.of (c := c19_0) (n := 15) Try.func19 (by kernel_rfl) (by kernel_rfl) (by kernel_rfl) fun w0 S0 => ?_
  unfold net_Net_Count.f
  show GoO (net_Net_Count.cx b_2 A_3 c_4 w0 S0) [(0, .pointer (some ⟨b_2, 0, none⟩))] [⟨1, b_2, [.slice A_3 n_1.l.length c_4, .int .i64 n_1.lost]⟩] [Ow 2 kT_api_Letter A_3 c_4 n_1.l] [.code c19_0] _
  refine GoO.seq' c19_0e ?_
  refine GoO.region' (is := [0, 1]) c19_1e (by kernel_rfl) ?_
  refine GoO.exec (is := [0, 1]) (hs := [.p, .p]) (rest := []) (ks := [0]) (env' := [(0, .pointer (some ⟨b_2, 0, none⟩))]) (H' := [⟨1, b_2, [.slice A_3 n_1.l.length c_4, .int .i64 n_1.lost]⟩]) (ps := []) (by kernel_rfl) trivial ?_
  refine GoO.regionEnd ?_
  refine GoO.seq' c19_2e ?_
  refine GoO.seq' c19_3e ?_
  refine GoO.region' (is := [0, 1]) c19_4e (by kernel_rfl) ?_
  refine GoO.exec (is := [0, 1]) (hs := [.p, .p]) (rest := []) (ks := [0, 5]) (env' := [(0, .pointer (some ⟨b_2, 0, none⟩)), (5, .bool false)]) (H' := [⟨1, b_2, [.slice A_3 n_1.l.length c_4, .int .i64 n_1.lost]⟩]) (ps := []) (by kernel_rfl) trivial ?_
  refine GoO.regionEnd ?_
  refine GoO.condF c19_5e (by kernel_rfl) ?_
  refine GoO.skip' c19_9e ?_
  refine GoO.seq' c19_10e ?_
  refine GoO.draw c19_11e (by kernel_rfl) [10] [⟨1, b_2, [.slice A_3 n_1.l.length c_4, .int .i64 n_1.lost]⟩] [] (n := 11) (by kernel_rfl) ?_
  simp only [List.replicate]
  refine GoF.take [0, 1, 2, 3, 4, 5, 6, 7, 8, 9] [.p, .p, .p, .b 0, .p, .p, .p, .p, .b 0, .p] (ks := [2, 14]) (fu := 1) (li := [true, true, true, true, true, true, true, true, true, true, false]) (env' := [(2, .int .i64 (n_1.l.length : Int)), (14, .int .i64 n_1.lost)]) (ps := [b_2 = b_2, b_2 = b_2]) (hk := [0]) (bk := []) (by kernel_rfl) (And.intro rfl (And.intro rfl trivial)) rfl rfl ?_
  refine GoF.fin1 (i := 10) (hint := .p) (ps := []) (hk := []) (bk := []) (by kernel_rfl) rfl trivial (.inl rfl) ?_
  refine GoF.done (by kernel_rfl) ?_
  exact GoO.ret' (h := c19_12e) (hs := []) (ps := []) (hk := []) (bk := []) Try.func19 () (by kernel_rfl) trivial (by kernel_rfl) (by kernel_rfl)

/-! tontine/tontinelaw10.begun -/
noncomputable def c14_0 : Code := bodyOf Try.f14
noncomputable def c14_1 : Code := cdL c14_0
noncomputable def c14_2 : Code := cdR c14_0
noncomputable def c14_3 : Code := cdL c14_2
noncomputable def c14_4 : Code := cdR c14_2
noncomputable def c14_5 : Code := cdL c14_4
noncomputable def c14_6 : Code := cdR c14_4
noncomputable def c14_7 : Code := cdL c14_6
noncomputable def c14_8 : Code := cdR c14_6
noncomputable def c14_9 : Code := cdL c14_8
noncomputable def c14_10 : Code := cdR c14_8
noncomputable def c14_11 : Code := cdL c14_10
noncomputable def c14_12 : Code := cdR c14_10
noncomputable def r14_1 : Array Oper := cdO c14_1
noncomputable def r14_3 : Array Oper := cdO c14_3
noncomputable def r14_5 : Array Oper := cdO c14_5
noncomputable def r14_7 : Array Oper := cdO c14_7
noncomputable def r14_9 : Array Oper := cdO c14_9
noncomputable def r14_11 : Array Oper := cdO c14_11
theorem c14_0e : c14_0 = .seq c14_1 c14_2 := by kernel_rfl
theorem c14_1e : c14_1 = .region 0 r14_1 false := by kernel_rfl
theorem c14_2e : c14_2 = .seq c14_3 c14_4 := by kernel_rfl
theorem c14_3e : c14_3 = .region 1 r14_3 false := by kernel_rfl
theorem c14_4e : c14_4 = .seq c14_5 c14_6 := by kernel_rfl
theorem c14_5e : c14_5 = .region 2 r14_5 false := by kernel_rfl
theorem c14_6e : c14_6 = .seq c14_7 c14_8 := by kernel_rfl
theorem c14_7e : c14_7 = .region 3 r14_7 false := by kernel_rfl
theorem c14_8e : c14_8 = .seq c14_9 c14_10 := by kernel_rfl
theorem c14_9e : c14_9 = .region 4 r14_9 false := by kernel_rfl
theorem c14_10e : c14_10 = .seq c14_11 c14_12 := by kernel_rfl
theorem c14_11e : c14_11 = .region 5 r14_11 false := by kernel_rfl
theorem c14_12e : c14_12 = .ret := by kernel_rfl
noncomputable def tontinelaw10_begun.R : Pst Bool where
  ε := Unit
  v := fun r x => .bool r
  H := fun r x => []
  B := fun r x => []
noncomputable def tontinelaw10_begun.cx (w0 : World) (S0 : Fam) : Cx Bool := ⟨Try.prog, 14, Try.f14, 45, w0, S0, [], 0, tontinelaw10_begun.R⟩
theorem tontinelaw10_begun_ok (n : Nat) :
    Meets Try.prog 14 [] 0 [] [] [] (tontinelaw10_begun.f n) (tontinelaw10_begun.R) := by
  refine Meets.of (c := c14_0) (n := 45) Try.func14 (by kernel_rfl) (by kernel_rfl) (by kernel_rfl) fun w0 S0 => ?_
  unfold tontinelaw10_begun.f
  show GoO (tontinelaw10_begun.cx w0 S0) [] [] [] [.code c14_0] _
  refine GoO.seq' c14_0e ?_
  refine GoO.region' (is := [0]) c14_1e (by kernel_rfl) ?_
  refine GoO.exec (is := [0]) (hs := [.p]) (rest := []) (ks := []) (env' := []) (H' := []) (ps := []) (by kernel_rfl) trivial ?_
  refine GoO.regionEnd ?_
  refine GoO.seq' c14_2e ?_
  refine GoO.region' (is := [0, 1]) c14_3e (by kernel_rfl) ?_
  refine OpTo.go (GoO.call rfl (by kernel_rfl) (by kernel_rfl) (net_New_ok n) [[0]] [(40, 1), (41, 2)] [] [] (hks := []) (bks := []) (by kernel_rfl) (by kernel_rfl) (by kernel_rfl) (.inl rfl) rfl rfl (by kernel_rfl) (by kernel_rfl) _ (fun _ _ => rfl) _ _ (fun _ _ => rfl) (fun _ _ => rfl) (fun _ _ => by kernel_rfl) (fun _ _ => by kernel_rfl) (fun r_1 x_27 => ?_))
  obtain ⟨b_2, A_3, c_4⟩ := x_27
  refine GoO.shape (env' := [(8, .pointer (some ⟨b_2, 0, none⟩))]) (H' := [⟨40, b_2, [.slice A_3 r_1.l.length c_4, .int .i64 r_1.lost]⟩]) (B' := [Ow 41 kT_api_Letter A_3 c_4 r_1.l]) (ks := [8]) (by kernel_rfl) (by kernel_rfl) (by kernel_rfl) ?_
  refine GoO.exec (is := [1]) (hs := [.p]) (rest := []) (ks := [1]) (env' := [(1, .pointer (some ⟨b_2, 0, none⟩))]) (H' := [⟨40, b_2, [.slice A_3 r_1.l.length c_4, .int .i64 r_1.lost]⟩]) (ps := []) (by kernel_rfl) trivial ?_
  refine GoO.regionEnd ?_
  refine GoO.seq' c14_4e ?_
  refine GoO.region' (is := [0, 1, 2, 3, 4, 5, 6, 7]) c14_5e (by kernel_rfl) ?_
  refine GoO.exec (is := [0, 1]) (hs := [.p, .p]) (rest := [2, 3, 4, 5, 6, 7]) (ks := [1, 9, 10]) (env' := [(1, .pointer (some ⟨b_2, 0, none⟩)), (9, .pointer (some ⟨b_2, 0, none⟩)), (10, .agg ⟨[.int .i64 1, .int .i64 0, .int .i64 0, .int .u64 0, .int .u64 0, .int .u64 0, .int .u64 0, .bool false, .slice none ([] : List T_api_Entry).length 0, .string (bs [])]⟩)]) (H' := [⟨40, b_2, [.slice A_3 r_1.l.length c_4, .int .i64 r_1.lost]⟩]) (ps := []) (by kernel_rfl) trivial ?_
  refine GoO.nilRd kT_api_Entry ?_
  refine OpTo.go (GoO.call rfl (by kernel_rfl) (by kernel_rfl) (net_Net_Send_ok n r_1 (⟨1, 0, 0, 0, 0, 0, 0, false, [], []⟩ : T_api_Letter) b_2 A_3 c_4 none 0) [[0], [40], [41]] [(40, 1), (41, 2)] [(1, 0)] [(2, 1), (0, 0)] (hks := []) (bks := [0]) (by kernel_rfl) (by kernel_rfl) (by kernel_rfl) (.inl rfl) rfl rfl (by kernel_rfl) (by kernel_rfl) _ (fun _ _ => rfl) _ _ (fun _ _ => rfl) (fun _ _ => rfl) (fun _ _ => by kernel_rfl) (fun _ _ => by kernel_rfl) (fun r_5 x_26 => ?_))
  obtain ⟨A_6, c_7⟩ := x_26
  refine GoO.shape (env' := [(1, .pointer (some ⟨b_2, 0, none⟩)), (9, .pointer (some ⟨b_2, 0, none⟩)), (10, .agg ⟨[.int .i64 1, .int .i64 0, .int .i64 0, .int .u64 0, .int .u64 0, .int .u64 0, .int .u64 0, .bool false, .slice none ([] : List T_api_Entry).length 0, .string (bs [])]⟩), (11, .bool r_5.1)]) (H' := [⟨40, b_2, [.slice A_6 r_5.2.l.length c_7, .int .i64 r_5.2.lost]⟩]) (B' := [Ow 41 kT_api_Letter A_6 c_7 r_5.2.l, Rd 0 kT_api_Entry none 0 ([] : List T_api_Entry)]) (ks := [1, 9, 10, 11]) (by kernel_rfl) (by kernel_rfl) (by kernel_rfl) ?_
  refine GoO.exec (is := [3, 4]) (hs := [.p, .p]) (rest := [5, 6, 7]) (ks := [1, 11, 12, 13]) (env' := [(1, .pointer (some ⟨b_2, 0, none⟩)), (11, .bool r_5.1), (12, .pointer (some ⟨b_2, 0, none⟩)), (13, .agg ⟨[.int .i64 2, .int .i64 0, .int .i64 0, .int .u64 0, .int .u64 0, .int .u64 0, .int .u64 0, .bool false, .slice none ([] : List T_api_Entry).length 0, .string (bs [])]⟩)]) (H' := [⟨40, b_2, [.slice A_6 r_5.2.l.length c_7, .int .i64 r_5.2.lost]⟩]) (ps := []) (by kernel_rfl) trivial ?_
  refine GoO.nilRd kT_api_Entry ?_
  refine OpTo.go (GoO.call rfl (by kernel_rfl) (by kernel_rfl) (net_Net_Send_ok n r_5.2 (⟨2, 0, 0, 0, 0, 0, 0, false, [], []⟩ : T_api_Letter) b_2 A_6 c_7 none 0) [[0], [40], [41]] [(40, 1), (41, 2)] [(1, 0)] [(2, 1), (0, 0)] (hks := []) (bks := [0, 2]) (by kernel_rfl) (by kernel_rfl) (by kernel_rfl) (.inl rfl) rfl rfl (by kernel_rfl) (by kernel_rfl) _ (fun _ _ => rfl) _ _ (fun _ _ => rfl) (fun _ _ => rfl) (fun _ _ => by kernel_rfl) (fun _ _ => by kernel_rfl) (fun r_8 x_25 => ?_))
  obtain ⟨A_9, c_10⟩ := x_25
  refine GoO.shape (env' := [(1, .pointer (some ⟨b_2, 0, none⟩)), (11, .bool r_5.1), (12, .pointer (some ⟨b_2, 0, none⟩)), (13, .agg ⟨[.int .i64 2, .int .i64 0, .int .i64 0, .int .u64 0, .int .u64 0, .int .u64 0, .int .u64 0, .bool false, .slice none ([] : List T_api_Entry).length 0, .string (bs [])]⟩), (14, .bool r_8.1)]) (H' := [⟨40, b_2, [.slice A_9 r_8.2.l.length c_10, .int .i64 r_8.2.lost]⟩]) (B' := [Ow 41 kT_api_Letter A_9 c_10 r_8.2.l, Rd 0 kT_api_Entry none 0 ([] : List T_api_Entry), Rd 0 kT_api_Entry none 0 ([] : List T_api_Entry)]) (ks := [1, 11, 12, 13, 14]) (by kernel_rfl) (by kernel_rfl) (by kernel_rfl) ?_
  refine GoO.exec (is := [6, 7]) (hs := [.p, .p]) (rest := []) (ks := [1, 2, 3]) (env' := [(1, .pointer (some ⟨b_2, 0, none⟩)), (2, .bool r_5.1), (3, .bool r_8.1)]) (H' := [⟨40, b_2, [.slice A_9 r_8.2.l.length c_10, .int .i64 r_8.2.lost]⟩]) (ps := []) (by kernel_rfl) trivial ?_
  refine GoO.regionEnd ?_
  refine GoO.seq' c14_6e ?_
  refine GoO.region' (is := [0, 1, 2, 3, 4, 5, 6, 7]) c14_7e (by kernel_rfl) ?_
  refine GoO.exec (is := [0]) (hs := [.p]) (rest := [1, 2, 3, 4, 5, 6, 7]) (ks := [1, 2, 3, 16]) (env' := [(1, .pointer (some ⟨b_2, 0, none⟩)), (2, .bool r_5.1), (3, .bool r_8.1), (16, .pointer (some ⟨b_2, 0, none⟩))]) (H' := [⟨40, b_2, [.slice A_9 r_8.2.l.length c_10, .int .i64 r_8.2.lost]⟩]) (ps := []) (by kernel_rfl) trivial ?_
  refine OpTo.go (GoO.call rfl (by kernel_rfl) (by kernel_rfl) (net_Net_Take_ok n r_8.2 3 b_2 A_9 c_10) [[0], [40], [41]] [(40, 1), (41, 2)] [(1, 0)] [(2, 0)] (hks := []) (bks := [1, 2]) (by kernel_rfl) (by kernel_rfl) (by kernel_rfl) (.inl rfl) rfl rfl (by kernel_rfl) (by kernel_rfl) _ (fun _ _ => rfl) _ _ (fun _ _ => rfl) (fun _ _ => rfl) (fun _ _ => by kernel_rfl) (fun _ _ => by kernel_rfl) (fun r_11 x_24 => ?_))
  obtain ⟨A_12, c_13, A_14, c_15⟩ := x_24
  refine GoO.shape (env' := [(1, .pointer (some ⟨b_2, 0, none⟩)), (2, .bool r_5.1), (3, .bool r_8.1), (16, .pointer (some ⟨b_2, 0, none⟩)), (17, .tuple ⟨[.agg ⟨[.int .i64 r_11.1.Kind, .int .i64 r_11.1.From, .int .i64 r_11.1.To, .int .u64 r_11.1.Term, .int .u64 r_11.1.Index, .int .u64 r_11.1.Prev, .int .u64 r_11.1.Commit, .bool r_11.1.Ok, .slice A_12 r_11.1.Entries.length c_13, .string (bs r_11.1.Data)]⟩, .bool r_11.2.1]⟩)]) (H' := [⟨40, b_2, [.slice A_14 r_11.2.2.l.length c_15, .int .i64 r_11.2.2.lost]⟩]) (B' := [Rd 0 kT_api_Entry A_12 c_13 r_11.1.Entries, Ow 41 kT_api_Letter A_14 c_15 r_11.2.2.l, Rd 0 kT_api_Entry none 0 ([] : List T_api_Entry), Rd 0 kT_api_Entry none 0 ([] : List T_api_Entry)]) (ks := [1, 2, 3, 16, 17]) (by kernel_rfl) (by kernel_rfl) (by kernel_rfl) ?_
  refine GoO.exec (is := [2, 3, 4]) (hs := [.p, .p, .p]) (rest := [5, 6, 7]) (ks := [1, 2, 3, 18, 19]) (env' := [(1, .pointer (some ⟨b_2, 0, none⟩)), (2, .bool r_5.1), (3, .bool r_8.1), (18, .agg ⟨[.int .i64 r_11.1.Kind, .int .i64 r_11.1.From, .int .i64 r_11.1.To, .int .u64 r_11.1.Term, .int .u64 r_11.1.Index, .int .u64 r_11.1.Prev, .int .u64 r_11.1.Commit, .bool r_11.1.Ok, .slice A_12 r_11.1.Entries.length c_13, .string (bs r_11.1.Data)]⟩), (19, .bool r_11.2.1)]) (H' := [⟨40, b_2, [.slice A_14 r_11.2.2.l.length c_15, .int .i64 r_11.2.2.lost]⟩]) (ps := []) (by kernel_rfl) trivial ?_
  refine OpTo.go (GoO.new rfl 42 (cs := [.int .i64 0, .int .i64 0, .int .i64 0, .int .u64 0, .int .u64 0, .int .u64 0, .int .u64 0, .bool false, .slice none ([] : List T_api_Entry).length 0, .string (bs [])]) (by kernel_rfl) _ (fun _ => rfl) (fun b_16 => ?_))
  refine GoO.exec (is := [6, 7]) (hs := [.b 0, .p]) (rest := []) (ks := [1, 2, 3, 4, 5]) (env' := [(1, .pointer (some ⟨b_2, 0, none⟩)), (2, .bool r_5.1), (3, .bool r_8.1), (4, .pointer (some ⟨b_16, 0, none⟩)), (5, .bool r_11.2.1)]) (H' := [⟨42, b_16, [.int .i64 r_11.1.Kind, .int .i64 r_11.1.From, .int .i64 r_11.1.To, .int .u64 r_11.1.Term, .int .u64 r_11.1.Index, .int .u64 r_11.1.Prev, .int .u64 r_11.1.Commit, .bool r_11.1.Ok, .slice A_12 r_11.1.Entries.length c_13, .string (bs r_11.1.Data)]⟩, ⟨40, b_2, [.slice A_14 r_11.2.2.l.length c_15, .int .i64 r_11.2.2.lost]⟩]) (ps := [b_16 = b_16]) (by kernel_rfl) (And.intro rfl trivial) ?_
  refine GoO.regionEnd ?_
  refine GoO.seq' c14_8e ?_
  refine GoO.region' (is := [0, 1, 2, 3, 4, 5, 6]) c14_9e (by kernel_rfl) ?_
  refine GoO.exec (is := [0]) (hs := [.p]) (rest := [1, 2, 3, 4, 5, 6]) (ks := [2, 3, 4, 5, 21]) (env' := [(2, .bool r_5.1), (3, .bool r_8.1), (4, .pointer (some ⟨b_16, 0, none⟩)), (5, .bool r_11.2.1), (21, .pointer (some ⟨b_2, 0, none⟩))]) (H' := [⟨42, b_16, [.int .i64 r_11.1.Kind, .int .i64 r_11.1.From, .int .i64 r_11.1.To, .int .u64 r_11.1.Term, .int .u64 r_11.1.Index, .int .u64 r_11.1.Prev, .int .u64 r_11.1.Commit, .bool r_11.1.Ok, .slice A_12 r_11.1.Entries.length c_13, .string (bs r_11.1.Data)]⟩, ⟨40, b_2, [.slice A_14 r_11.2.2.l.length c_15, .int .i64 r_11.2.2.lost]⟩]) (ps := []) (by kernel_rfl) trivial ?_
  refine OpTo.go (GoO.call rfl (by kernel_rfl) (by kernel_rfl) (net_Net_Count_ok n r_11.2.2 b_2 A_14 c_15) [[0], [40], [41]] [] [(1, 1)] [(2, 1)] (hks := [0, 1]) (bks := [0, 1, 2, 3]) (by kernel_rfl) (by kernel_rfl) (by kernel_rfl) (.inl rfl) rfl rfl (by kernel_rfl) (by kernel_rfl) _ (fun _ _ => rfl) _ _ (fun _ _ => rfl) (fun _ _ => rfl) (fun _ _ => by kernel_rfl) (fun _ _ => by kernel_rfl) (fun r_17 x_23 => ?_))
  refine GoO.shape (env' := [(2, .bool r_5.1), (3, .bool r_8.1), (4, .pointer (some ⟨b_16, 0, none⟩)), (5, .bool r_11.2.1), (21, .pointer (some ⟨b_2, 0, none⟩)), (22, .tuple ⟨[.int .i64 r_17.1, .int .i64 r_17.2]⟩)]) (H' := [⟨42, b_16, [.int .i64 r_11.1.Kind, .int .i64 r_11.1.From, .int .i64 r_11.1.To, .int .u64 r_11.1.Term, .int .u64 r_11.1.Index, .int .u64 r_11.1.Prev, .int .u64 r_11.1.Commit, .bool r_11.1.Ok, .slice A_12 r_11.1.Entries.length c_13, .string (bs r_11.1.Data)]⟩, ⟨40, b_2, [.slice A_14 r_11.2.2.l.length c_15, .int .i64 r_11.2.2.lost]⟩]) (B' := [Rd 0 kT_api_Entry A_12 c_13 r_11.1.Entries, Ow 41 kT_api_Letter A_14 c_15 r_11.2.2.l, Rd 0 kT_api_Entry none 0 ([] : List T_api_Entry), Rd 0 kT_api_Entry none 0 ([] : List T_api_Entry)]) (ks := [2, 3, 4, 5, 21, 22]) (by kernel_rfl) (by kernel_rfl) (by kernel_rfl) ?_
  refine GoO.exec (is := [2, 3, 4, 5, 6]) (hs := [.p, .p, .p, .p, .p]) (rest := []) (ks := [2, 3, 4, 5, 6, 7]) (env' := [(2, .bool r_5.1), (3, .bool r_8.1), (4, .pointer (some ⟨b_16, 0, none⟩)), (5, .bool r_11.2.1), (6, .int .i64 r_17.1), (7, .int .i64 r_17.2)]) (H' := [⟨42, b_16, [.int .i64 r_11.1.Kind, .int .i64 r_11.1.From, .int .i64 r_11.1.To, .int .u64 r_11.1.Term, .int .u64 r_11.1.Index, .int .u64 r_11.1.Prev, .int .u64 r_11.1.Commit, .bool r_11.1.Ok, .slice A_12 r_11.1.Entries.length c_13, .string (bs r_11.1.Data)]⟩, ⟨40, b_2, [.slice A_14 r_11.2.2.l.length c_15, .int .i64 r_11.2.2.lost]⟩]) (ps := []) (by kernel_rfl) trivial ?_
  refine GoO.regionEnd ?_
  refine GoO.seq' c14_10e ?_
  refine GoO.region' (is := [0, 1, 2, 3, 4, 5, 6, 7, 8, 9, 10, 11, 12, 13, 14, 15, 16, 17, 18, 19, 20]) c14_11e (by kernel_rfl) ?_
  refine GoO.exec (is := [0, 1]) (hs := [.p, .p]) (rest := [2, 3, 4, 5, 6, 7, 8, 9, 10, 11, 12, 13, 14, 15, 16, 17, 18, 19, 20]) (ks := [3, 4, 5, 6, 7, 26]) (env' := [(3, .bool r_8.1), (4, .pointer (some ⟨b_16, 0, none⟩)), (5, .bool r_11.2.1), (6, .int .i64 r_17.1), (7, .int .i64 r_17.2), (26, .bool r_5.1)]) (H' := [⟨42, b_16, [.int .i64 r_11.1.Kind, .int .i64 r_11.1.From, .int .i64 r_11.1.To, .int .u64 r_11.1.Term, .int .u64 r_11.1.Index, .int .u64 r_11.1.Prev, .int .u64 r_11.1.Commit, .bool r_11.1.Ok, .slice A_12 r_11.1.Entries.length c_13, .string (bs r_11.1.Data)]⟩, ⟨40, b_2, [.slice A_14 r_11.2.2.l.length c_15, .int .i64 r_11.2.2.lost]⟩]) (ps := []) (by kernel_rfl) trivial ?_
  refine GoO.bsplit (t := 26) (by kernel_rfl) (fun h18 => ?_) (fun h18 => ?_)
  · refine GoO.exec (is := [2, 3, 4]) (hs := [.p, .p, .p]) (rest := [5, 6, 7, 8, 9, 10, 11, 12, 13, 14, 15, 16, 17, 18, 19, 20]) (ks := [4, 5, 6, 7, 29]) (env' := [(4, .pointer (some ⟨b_16, 0, none⟩)), (5, .bool r_11.2.1), (6, .int .i64 r_17.1), (7, .int .i64 r_17.2), (29, .bool r_8.1)]) (H' := [⟨42, b_16, [.int .i64 r_11.1.Kind, .int .i64 r_11.1.From, .int .i64 r_11.1.To, .int .u64 r_11.1.Term, .int .u64 r_11.1.Index, .int .u64 r_11.1.Prev, .int .u64 r_11.1.Commit, .bool r_11.1.Ok, .slice A_12 r_11.1.Entries.length c_13, .string (bs r_11.1.Data)]⟩, ⟨40, b_2, [.slice A_14 r_11.2.2.l.length c_15, .int .i64 r_11.2.2.lost]⟩]) (ps := []) (by kernel_rfl) trivial ?_
    refine GoO.bsplit (t := 29) (by kernel_rfl) (fun h19 => ?_) (fun h19 => ?_)
    · refine GoO.exec (is := [5, 6, 7]) (hs := [.p, .p, .p]) (rest := [8, 9, 10, 11, 12, 13, 14, 15, 16, 17, 18, 19, 20]) (ks := [4, 6, 7, 32]) (env' := [(4, .pointer (some ⟨b_16, 0, none⟩)), (6, .int .i64 r_17.1), (7, .int .i64 r_17.2), (32, .bool r_11.2.1)]) (H' := [⟨42, b_16, [.int .i64 r_11.1.Kind, .int .i64 r_11.1.From, .int .i64 r_11.1.To, .int .u64 r_11.1.Term, .int .u64 r_11.1.Index, .int .u64 r_11.1.Prev, .int .u64 r_11.1.Commit, .bool r_11.1.Ok, .slice A_12 r_11.1.Entries.length c_13, .string (bs r_11.1.Data)]⟩, ⟨40, b_2, [.slice A_14 r_11.2.2.l.length c_15, .int .i64 r_11.2.2.lost]⟩]) (ps := []) (by kernel_rfl) trivial ?_
      refine GoO.bsplit (t := 32) (by kernel_rfl) (fun h20 => ?_) (fun h20 => ?_)
      · refine GoO.exec (is := [8, 9, 10, 11, 12]) (hs := [.p, .b 0, .p, .p, .p]) (rest := [13, 14, 15, 16, 17, 18, 19, 20]) (ks := [6, 7, 37]) (env' := [(6, .int .i64 r_17.1), (7, .int .i64 r_17.2), (37, .bool (r_11.1.Kind == 2))]) (H' := [⟨42, b_16, [.int .i64 r_11.1.Kind, .int .i64 r_11.1.From, .int .i64 r_11.1.To, .int .u64 r_11.1.Term, .int .u64 r_11.1.Index, .int .u64 r_11.1.Prev, .int .u64 r_11.1.Commit, .bool r_11.1.Ok, .slice A_12 r_11.1.Entries.length c_13, .string (bs r_11.1.Data)]⟩, ⟨40, b_2, [.slice A_14 r_11.2.2.l.length c_15, .int .i64 r_11.2.2.lost]⟩]) (ps := [b_16 = b_16]) (by kernel_rfl) (And.intro rfl trivial) ?_
        refine GoO.bsplit (t := 37) (by kernel_rfl) (fun h21 => ?_) (fun h21 => ?_)
        · refine GoO.exec (is := [13, 14, 15, 16]) (hs := [.p, .p, .p, .p]) (rest := [17, 18, 19, 20]) (ks := [7, 41]) (env' := [(7, .int .i64 r_17.2), (41, .bool (r_17.1 == 1))]) (H' := [⟨42, b_16, [.int .i64 r_11.1.Kind, .int .i64 r_11.1.From, .int .i64 r_11.1.To, .int .u64 r_11.1.Term, .int .u64 r_11.1.Index, .int .u64 r_11.1.Prev, .int .u64 r_11.1.Commit, .bool r_11.1.Ok, .slice A_12 r_11.1.Entries.length c_13, .string (bs r_11.1.Data)]⟩, ⟨40, b_2, [.slice A_14 r_11.2.2.l.length c_15, .int .i64 r_11.2.2.lost]⟩]) (ps := []) (by kernel_rfl) trivial ?_
          refine GoO.bsplit (t := 41) (by kernel_rfl) (fun h22 => ?_) (fun h22 => ?_)
          · refine GoO.exec (is := [17, 18, 19, 20]) (hs := [.p, .p, .p, .p]) (rest := []) (ks := [0]) (env' := [(0, .bool (r_17.2 == 0))]) (H' := [⟨42, b_16, [.int .i64 r_11.1.Kind, .int .i64 r_11.1.From, .int .i64 r_11.1.To, .int .u64 r_11.1.Term, .int .u64 r_11.1.Index, .int .u64 r_11.1.Prev, .int .u64 r_11.1.Commit, .bool r_11.1.Ok, .slice A_12 r_11.1.Entries.length c_13, .string (bs r_11.1.Data)]⟩, ⟨40, b_2, [.slice A_14 r_11.2.2.l.length c_15, .int .i64 r_11.2.2.lost]⟩]) (ps := []) (by kernel_rfl) trivial ?_
            refine GoO.regionEnd ?_
            exact GoO.ret' (h := c14_12e) (hs := []) (ps := []) (hk := []) (bk := []) Try.func14 () (by kernel_rfl) trivial (by kernel_rfl) (by kernel_rfl)
          · refine GoO.exec (is := [17, 18, 19, 20]) (hs := [.p, .p, .p, .p]) (rest := []) (ks := [0]) (env' := [(0, .bool false)]) (H' := [⟨42, b_16, [.int .i64 r_11.1.Kind, .int .i64 r_11.1.From, .int .i64 r_11.1.To, .int .u64 r_11.1.Term, .int .u64 r_11.1.Index, .int .u64 r_11.1.Prev, .int .u64 r_11.1.Commit, .bool r_11.1.Ok, .slice A_12 r_11.1.Entries.length c_13, .string (bs r_11.1.Data)]⟩, ⟨40, b_2, [.slice A_14 r_11.2.2.l.length c_15, .int .i64 r_11.2.2.lost]⟩]) (ps := []) (by kernel_rfl) trivial ?_
            refine GoO.regionEnd ?_
            exact GoO.ret' (h := c14_12e) (hs := []) (ps := []) (hk := []) (bk := []) Try.func14 () (by kernel_rfl) trivial (by kernel_rfl) (by kernel_rfl)
        · refine GoO.exec (is := [13, 14, 15, 16, 17, 18, 19, 20]) (hs := [.p, .p, .p, .p, .p, .p, .p, .p]) (rest := []) (ks := [0]) (env' := [(0, .bool false)]) (H' := [⟨42, b_16, [.int .i64 r_11.1.Kind, .int .i64 r_11.1.From, .int .i64 r_11.1.To, .int .u64 r_11.1.Term, .int .u64 r_11.1.Index, .int .u64 r_11.1.Prev, .int .u64 r_11.1.Commit, .bool r_11.1.Ok, .slice A_12 r_11.1.Entries.length c_13, .string (bs r_11.1.Data)]⟩, ⟨40, b_2, [.slice A_14 r_11.2.2.l.length c_15, .int .i64 r_11.2.2.lost]⟩]) (ps := []) (by kernel_rfl) trivial ?_
          refine GoO.regionEnd ?_
          exact GoO.ret' (h := c14_12e) (hs := []) (ps := []) (hk := []) (bk := []) Try.func14 () (by kernel_rfl) trivial (by kernel_rfl) (by kernel_rfl)
      · refine GoO.exec (is := [8, 9, 10, 11, 12, 13, 14, 15, 16, 17, 18, 19, 20]) (hs := [.p, .p, .p, .p, .p, .p, .p, .p, .p, .p, .p, .p, .p]) (rest := []) (ks := [0]) (env' := [(0, .bool false)]) (H' := [⟨42, b_16, [.int .i64 r_11.1.Kind, .int .i64 r_11.1.From, .int .i64 r_11.1.To, .int .u64 r_11.1.Term, .int .u64 r_11.1.Index, .int .u64 r_11.1.Prev, .int .u64 r_11.1.Commit, .bool r_11.1.Ok, .slice A_12 r_11.1.Entries.length c_13, .string (bs r_11.1.Data)]⟩, ⟨40, b_2, [.slice A_14 r_11.2.2.l.length c_15, .int .i64 r_11.2.2.lost]⟩]) (ps := []) (by kernel_rfl) trivial ?_
        refine GoO.regionEnd ?_
        exact GoO.ret' (h := c14_12e) (hs := []) (ps := []) (hk := []) (bk := []) Try.func14 () (by kernel_rfl) trivial (by kernel_rfl) (by kernel_rfl)
    · refine GoO.exec (is := [5, 6, 7, 8, 9, 10, 11, 12, 13, 14, 15, 16, 17, 18, 19, 20]) (hs := [.p, .p, .p, .p, .p, .p, .p, .p, .p, .p, .p, .p, .p, .p, .p, .p]) (rest := []) (ks := [0]) (env' := [(0, .bool false)]) (H' := [⟨42, b_16, [.int .i64 r_11.1.Kind, .int .i64 r_11.1.From, .int .i64 r_11.1.To, .int .u64 r_11.1.Term, .int .u64 r_11.1.Index, .int .u64 r_11.1.Prev, .int .u64 r_11.1.Commit, .bool r_11.1.Ok, .slice A_12 r_11.1.Entries.length c_13, .string (bs r_11.1.Data)]⟩, ⟨40, b_2, [.slice A_14 r_11.2.2.l.length c_15, .int .i64 r_11.2.2.lost]⟩]) (ps := []) (by kernel_rfl) trivial ?_
      refine GoO.regionEnd ?_
      exact GoO.ret' (h := c14_12e) (hs := []) (ps := []) (hk := []) (bk := []) Try.func14 () (by kernel_rfl) trivial (by kernel_rfl) (by kernel_rfl)
  · refine GoO.exec (is := [2, 3, 4, 5, 6, 7, 8, 9, 10, 11, 12, 13, 14, 15, 16, 17, 18, 19, 20]) (hs := [.p, .p, .p, .p, .p, .p, .p, .p, .p, .p, .p, .p, .p, .p, .p, .p, .p, .p, .p]) (rest := []) (ks := [0]) (env' := [(0, .bool false)]) (H' := [⟨42, b_16, [.int .i64 r_11.1.Kind, .int .i64 r_11.1.From, .int .i64 r_11.1.To, .int .u64 r_11.1.Term, .int .u64 r_11.1.Index, .int .u64 r_11.1.Prev, .int .u64 r_11.1.Commit, .bool r_11.1.Ok, .slice A_12 r_11.1.Entries.length c_13, .string (bs r_11.1.Data)]⟩, ⟨40, b_2, [.slice A_14 r_11.2.2.l.length c_15, .int .i64 r_11.2.2.lost]⟩]) (ps := []) (by kernel_rfl) trivial ?_
    refine GoO.regionEnd ?_
    exact GoO.ret' (h := c14_12e) (hs := []) (ps := []) (hk := []) (bk := []) Try.func14 () (by kernel_rfl) trivial (by kernel_rfl) (by kernel_rfl)

/-! tontine/tontinelaw10.light -/
noncomputable def c31_0 : Code := bodyOf Try.f31
noncomputable def c31_1 : Code := cdL c31_0
noncomputable def c31_2 : Code := cdR c31_0
noncomputable def c31_3 : Code := cdL c31_2
noncomputable def c31_4 : Code := cdR c31_2
noncomputable def c31_5 : Code := cdL c31_4
noncomputable def c31_6 : Code := cdL c31_5
noncomputable def c31_7 : Code := cdR c31_5
noncomputable def c31_8 : Code := cdL c31_7
noncomputable def c31_9 : Code := cdL c31_8
noncomputable def c31_10 : Code := cdL c31_9
noncomputable def c31_11 : Code := cdR c31_9
noncomputable def c31_12 : Code := cdL c31_11
noncomputable def c31_13 : Code := cdL c31_12
noncomputable def c31_14 : Code := cdR c31_12
noncomputable def c31_15 : Code := cdR c31_11
noncomputable def c31_16 : Code := cdL c31_15
noncomputable def c31_17 : Code := cdL c31_16
noncomputable def c31_18 : Code := cdL c31_17
noncomputable def c31_19 : Code := cdR c31_17
noncomputable def c31_20 : Code := cdR c31_15
noncomputable def c31_21 : Code := cdR c31_4
noncomputable def c31_22 : Code := cdL c31_21
noncomputable def c31_23 : Code := cdR c31_21
noncomputable def r31_1 : Array Oper := cdO c31_1
noncomputable def r31_3 : Array Oper := cdO c31_3
noncomputable def r31_6 : Array Oper := cdO c31_6
noncomputable def r31_10 : Array Oper := cdO c31_10
noncomputable def r31_18 : Array Oper := cdO c31_18
noncomputable def r31_19 : Array Oper := cdO c31_19
noncomputable def r31_20 : Array Oper := cdO c31_20
noncomputable def r31_22 : Array Oper := cdO c31_22
theorem c31_0e : c31_0 = .seq c31_1 c31_2 := by kernel_rfl
theorem c31_1e : c31_1 = .region 0 r31_1 false := by kernel_rfl
theorem c31_2e : c31_2 = .seq c31_3 c31_4 := by kernel_rfl
theorem c31_3e : c31_3 = .region 1 r31_3 false := by kernel_rfl
theorem c31_4e : c31_4 = .seq c31_5 c31_21 := by kernel_rfl
theorem c31_5e : c31_5 = .seq c31_6 c31_7 := by kernel_rfl
theorem c31_6e : c31_6 = .region 2 r31_6 false := by kernel_rfl
theorem c31_7e : c31_7 = .block 0 c31_8 := by kernel_rfl
theorem c31_8e : c31_8 = .loop c31_9 := by kernel_rfl
theorem c31_9e : c31_9 = .seq c31_10 c31_11 := by kernel_rfl
theorem c31_10e : c31_10 = .region 3 r31_10 false := by kernel_rfl
theorem c31_11e : c31_11 = .seq c31_12 c31_15 := by kernel_rfl
theorem c31_12e : c31_12 = .cond (cdC c31_12) c31_13 c31_14 := by kernel_rfl
theorem c31_13e : c31_13 = .skip := by kernel_rfl
theorem c31_14e : c31_14 = .exit 0 := by kernel_rfl
theorem c31_15e : c31_15 = .seq c31_16 c31_20 := by kernel_rfl
theorem c31_16e : c31_16 = .block 1 c31_17 := by kernel_rfl
theorem c31_17e : c31_17 = .seq c31_18 c31_19 := by kernel_rfl
theorem c31_18e : c31_18 = .region 4 r31_18 false := by kernel_rfl
theorem c31_19e : c31_19 = .region 5 r31_19 false := by kernel_rfl
theorem c31_20e : c31_20 = .region 6 r31_20 false := by kernel_rfl
theorem c31_21e : c31_21 = .seq c31_22 c31_23 := by kernel_rfl
theorem c31_22e : c31_22 = .region 7 r31_22 false := by kernel_rfl
theorem c31_23e : c31_23 = .ret := by kernel_rfl
noncomputable def tontinelaw10_light.R (A_2 : Option Addr) (c_3 : Nat) : Pst Bool where
  ε := Unit
  v := fun r x => .bool r
  H := fun r x => []
  B := fun r x => []
noncomputable def tontinelaw10_light.cx (A_2 : Option Addr) (c_3 : Nat) (w0 : World) (S0 : Fam) : Cx Bool := ⟨Try.prog, 31, Try.f31, 27, w0, S0, [], 0, tontinelaw10_light.R A_2 c_3⟩
theorem tontinelaw10_light_l0_ok (n : Nat) (calls_1 : (List T_tontinelaw10_Call)) (A_2 : Option Addr) (c_3 : Nat) (w0 : World) (S0 : Fam) :
    ∀ (k : Nat) (n_4 : Int) (x_5 : Int), GoO (tontinelaw10_light.cx A_2 c_3 w0 S0) [(3, .int .i64 n_4), (6, .slice A_2 calls_1.length c_3), (7, .int .i64 (calls_1.length : Int)), (8, .int .i64 x_5)] [] [Rd 0 kT_tontinelaw10_Call A_2 c_3 calls_1] [.code c31_9, .inLoop c31_9, .inBlock 0, .code c31_21] (tontinelaw10_light.l0 n calls_1 k n_4 x_5) := by
  intro k
  induction k with
  | zero => intros; rw [tontinelaw10_light.l0.eq_1]; exact GoO.stop
  | succ k ih0 =>
    intro n_4 x_5
    rw [tontinelaw10_light.l0.eq_2]
    refine GoO.seq' c31_9e ?_
    refine GoO.region' (is := [0]) c31_10e (by kernel_rfl) ?_
    refine GoO.exec (is := [0]) (hs := [.p]) (rest := []) (ks := [3, 6, 7, 8, 9]) (env' := [(3, .int .i64 n_4), (6, .slice A_2 calls_1.length c_3), (7, .int .i64 (calls_1.length : Int)), (8, .int .i64 x_5), (9, .bool (decide (x_5 < (calls_1.length : Int))))]) (H' := []) (ps := []) (by kernel_rfl) trivial ?_
    refine GoO.regionEnd ?_
    refine GoO.seq' c31_11e ?_
    refine GoO.ite' c31_12e (by kernel_rfl) (fun h6 => ?_) (fun h6 => ?_)
    · refine GoO.skip' c31_13e ?_
      refine GoO.seq' c31_15e ?_
      refine GoO.block' c31_16e ?_
      refine GoO.seq' c31_17e ?_
      refine GoO.region' (is := [0, 1, 2, 3]) c31_18e (by kernel_rfl) ?_
      refine GoO.guard (fun h7 => ?_)
      refine OpTo.go (GoO.idx (kk := .i64) (e := 81) (K := kT_tontinelaw10_Call) (A := A_2) (c := c_3) (xs := calls_1) (iv := x_5) (j := 0) rfl (by kernel_rfl) (by kernel_rfl) (by kernel_rfl) (by kernel_rfl) rfl Reads.rd rfl h7.1 h7.2 (by decide) rfl ?_)
      refine OpTo.go (GoO.ldE' (K := kT_tontinelaw10_Call) (A := A_2) (c := c_3) (xs := calls_1) (iN := x_5.toNat) (off := 0) (j := 0) rfl (by kernel_rfl) rfl Reads.rd (by first | exact idx_lt h7.1 h7.2 | (simp only [List.length_set]; exact idx_lt h7.1 h7.2)) (by decide) (oT_tontinelaw10_Call _) (v := fun e => .agg ⟨[.int .i64 ((rdL calls_1 x_5).Kind), .int .i64 ((rdL calls_1 x_5).I), .int .i64 ((rdL calls_1 x_5).Letter.Kind), .int .i64 ((rdL calls_1 x_5).Letter.From), .int .i64 ((rdL calls_1 x_5).Letter.To), .int .u64 ((rdL calls_1 x_5).Letter.Term), .int .u64 ((rdL calls_1 x_5).Letter.Index), .int .u64 ((rdL calls_1 x_5).Letter.Prev), .int .u64 ((rdL calls_1 x_5).Letter.Commit), .bool ((rdL calls_1 x_5).Letter.Ok), .slice e.1 ((rdL calls_1 x_5).Letter.Entries).length e.2, .string (bs ((rdL calls_1 x_5).Letter.Data))]⟩) (fun _ => by kernel_rfl) _ (fun _ => rfl) ?_)
      rintro ⟨A_8, c_9⟩
      refine OpTo.go (GoO.new rfl 40 (cs := [.int .i64 0, .int .i64 0, .int .i64 0, .int .i64 0, .int .i64 0, .int .u64 0, .int .u64 0, .int .u64 0, .int .u64 0, .bool false, .slice none ([] : List T_api_Entry).length 0, .string (bs [])]) (by kernel_rfl) _ (fun _ => rfl) (fun b_10 => ?_))
      refine GoO.exec (is := [3]) (hs := [.b 0]) (rest := []) (ks := [3, 5, 6, 7, 8]) (env' := [(3, .int .i64 n_4), (5, .pointer (some ⟨b_10, 0, none⟩)), (6, .slice A_2 calls_1.length c_3), (7, .int .i64 (calls_1.length : Int)), (8, .int .i64 x_5)]) (H' := [⟨40, b_10, [.int .i64 ((rdL calls_1 x_5).Kind), .int .i64 ((rdL calls_1 x_5).I), .int .i64 ((rdL calls_1 x_5).Letter.Kind), .int .i64 ((rdL calls_1 x_5).Letter.From), .int .i64 ((rdL calls_1 x_5).Letter.To), .int .u64 ((rdL calls_1 x_5).Letter.Term), .int .u64 ((rdL calls_1 x_5).Letter.Index), .int .u64 ((rdL calls_1 x_5).Letter.Prev), .int .u64 ((rdL calls_1 x_5).Letter.Commit), .bool ((rdL calls_1 x_5).Letter.Ok), .slice A_8 ((rdL calls_1 x_5).Letter.Entries).length c_9, .string (bs ((rdL calls_1 x_5).Letter.Data))]⟩]) (ps := [b_10 = b_10]) (by kernel_rfl) (And.intro rfl trivial) ?_
      refine GoO.regionEnd ?_
      refine GoO.region' (is := [0, 1, 2, 3, 4, 5, 6, 7, 8, 9, 10, 11, 12]) c31_19e (by kernel_rfl) ?_
      refine GoO.exec (is := [0, 1, 2, 3, 4, 5, 6, 7, 8, 9, 10, 11, 12]) (hs := [.p, .p, .p, .b 0, .p, .p, .p, .b 0, .p, .p, .p, .p, .p]) (rest := []) (ks := [3, 6, 7, 8]) (env' := [(3, .int .i64 (wi64 (n_4 + (wi64 ((((rdL calls_1 x_5).Letter.Entries).length : Int) + (wi64 ((((rdL calls_1 x_5).Letter.Data).length : Int).tdiv 100))))))), (6, .slice A_2 calls_1.length c_3), (7, .int .i64 (calls_1.length : Int)), (8, .int .i64 x_5)]) (H' := [⟨40, b_10, [.int .i64 ((rdL calls_1 x_5).Kind), .int .i64 ((rdL calls_1 x_5).I), .int .i64 ((rdL calls_1 x_5).Letter.Kind), .int .i64 ((rdL calls_1 x_5).Letter.From), .int .i64 ((rdL calls_1 x_5).Letter.To), .int .u64 ((rdL calls_1 x_5).Letter.Term), .int .u64 ((rdL calls_1 x_5).Letter.Index), .int .u64 ((rdL calls_1 x_5).Letter.Prev), .int .u64 ((rdL calls_1 x_5).Letter.Commit), .bool ((rdL calls_1 x_5).Letter.Ok), .slice A_8 ((rdL calls_1 x_5).Letter.Entries).length c_9, .string (bs ((rdL calls_1 x_5).Letter.Data))]⟩]) (ps := [b_10 = b_10, b_10 = b_10, (100 : Int) ≠ 0]) (by kernel_rfl) (And.intro rfl (And.intro rfl (And.intro (by decide) trivial))) ?_
      refine GoO.regionEnd ?_
      refine GoO.inBlock ?_
      refine GoO.region' (is := [0, 1]) c31_20e (by kernel_rfl) ?_
      refine GoO.exec (is := [0, 1]) (hs := [.p, .p]) (rest := []) (ks := [3, 6, 7, 8]) (env' := [(3, .int .i64 (wi64 (n_4 + (wi64 ((((rdL calls_1 x_5).Letter.Entries).length : Int) + (wi64 ((((rdL calls_1 x_5).Letter.Data).length : Int).tdiv 100))))))), (6, .slice A_2 calls_1.length c_3), (7, .int .i64 (calls_1.length : Int)), (8, .int .i64 (wi64 (x_5 + 1)))]) (H' := [⟨40, b_10, [.int .i64 ((rdL calls_1 x_5).Kind), .int .i64 ((rdL calls_1 x_5).I), .int .i64 ((rdL calls_1 x_5).Letter.Kind), .int .i64 ((rdL calls_1 x_5).Letter.From), .int .i64 ((rdL calls_1 x_5).Letter.To), .int .u64 ((rdL calls_1 x_5).Letter.Term), .int .u64 ((rdL calls_1 x_5).Letter.Index), .int .u64 ((rdL calls_1 x_5).Letter.Prev), .int .u64 ((rdL calls_1 x_5).Letter.Commit), .bool ((rdL calls_1 x_5).Letter.Ok), .slice A_8 ((rdL calls_1 x_5).Letter.Entries).length c_9, .string (bs ((rdL calls_1 x_5).Letter.Data))]⟩]) (ps := []) (by kernel_rfl) trivial ?_
      refine GoO.regionEnd ?_
      refine GoO.inLoop ?_
      exact GoO.sub (ks := [3, 6, 7, 8]) (hk := []) (bk := [1]) (by kernel_rfl) (by kernel_rfl) (by kernel_rfl) (ih0 (wi64 (n_4 + (wi64 ((((rdL calls_1 x_5).Letter.Entries).length : Int) + (wi64 ((((rdL calls_1 x_5).Letter.Data).length : Int).tdiv 100)))))) (wi64 (x_5 + 1)))
    · refine GoO.exit' c31_14e rfl ?_
      refine GoO.seq' c31_21e ?_
      refine GoO.region' (is := [0, 1, 2]) c31_22e (by kernel_rfl) ?_
      refine GoO.exec (is := [0, 1, 2]) (hs := [.p, .p, .p]) (rest := []) (ks := [2]) (env' := [(2, .bool (decide (n_4 < 3000)))]) (H' := []) (ps := []) (by kernel_rfl) trivial ?_
      refine GoO.regionEnd ?_
      exact GoO.ret' (h := c31_23e) (hs := []) (ps := []) (hk := []) (bk := []) Try.func31 () (by kernel_rfl) trivial (by kernel_rfl) (by kernel_rfl)
theorem tontinelaw10_light_ok (n : Nat) (calls_1 : (List T_tontinelaw10_Call)) (A_2 : Option Addr) (c_3 : Nat) :
    Meets Try.prog 31 [.slice A_2 calls_1.length c_3] 0 [] [] [Rd 0 kT_tontinelaw10_Call A_2 c_3 calls_1] (tontinelaw10_light.f n calls_1) (tontinelaw10_light.R A_2 c_3) := by
  refine Meets.of (c := c31_0) (n := 27) Try.func31 (by kernel_rfl) (by kernel_rfl) (by kernel_rfl) fun w0 S0 => ?_
  unfold tontinelaw10_light.f
  show GoO (tontinelaw10_light.cx A_2 c_3 w0 S0) [(0, .slice A_2 calls_1.length c_3)] [] [Rd 0 kT_tontinelaw10_Call A_2 c_3 calls_1] [.code c31_0] _
  refine GoO.seq' c31_0e ?_
  refine GoO.region' (is := [0]) c31_1e (by kernel_rfl) ?_
  refine GoO.exec (is := [0]) (hs := [.p]) (rest := []) (ks := [0]) (env' := [(0, .slice A_2 calls_1.length c_3)]) (H' := []) (ps := []) (by kernel_rfl) trivial ?_
  refine GoO.regionEnd ?_
  refine GoO.seq' c31_2e ?_
  refine GoO.region' (is := [0]) c31_3e (by kernel_rfl) ?_
  refine GoO.exec (is := [0]) (hs := [.p]) (rest := []) (ks := [0, 3]) (env' := [(0, .slice A_2 calls_1.length c_3), (3, .int .i64 0)]) (H' := []) (ps := []) (by kernel_rfl) trivial ?_
  refine GoO.regionEnd ?_
  refine GoO.seq' c31_4e ?_
  refine GoO.seq' c31_5e ?_
  refine GoO.region' (is := [0, 1, 2]) c31_6e (by kernel_rfl) ?_
  refine GoO.exec (is := [0, 1, 2]) (hs := [.p, .p, .p]) (rest := []) (ks := [3, 6, 7, 8]) (env' := [(3, .int .i64 0), (6, .slice A_2 calls_1.length c_3), (7, .int .i64 (calls_1.length : Int)), (8, .int .i64 0)]) (H' := []) (ps := []) (by kernel_rfl) trivial ?_
  refine GoO.regionEnd ?_
  refine GoO.block' c31_7e ?_
  refine GoO.loop' c31_8e ?_
  exact GoO.sub (ks := [3, 6, 7, 8]) (hk := []) (bk := [0]) (by kernel_rfl) (by kernel_rfl) (by kernel_rfl) (tontinelaw10_light_l0_ok n calls_1 A_2 c_3 w0 S0 n 0 0)

/-! (*tontine/tontineref10.Net).Send -/
noncomputable def c32_0 : Code := bodyOf Try.f32
noncomputable def c32_1 : Code := cdL c32_0
noncomputable def c32_2 : Code := cdR c32_0
noncomputable def c32_3 : Code := cdL c32_2
noncomputable def c32_4 : Code := cdL c32_3
noncomputable def c32_5 : Code := cdR c32_3
noncomputable def c32_6 : Code := cdL c32_5
noncomputable def c32_7 : Code := cdL c32_6
noncomputable def c32_8 : Code := cdR c32_6
noncomputable def c32_9 : Code := cdL c32_8
noncomputable def c32_10 : Code := cdR c32_8
noncomputable def c32_11 : Code := cdR c32_5
noncomputable def c32_12 : Code := cdR c32_2
noncomputable def c32_13 : Code := cdL c32_12
noncomputable def c32_14 : Code := cdR c32_12
noncomputable def c32_15 : Code := cdL c32_14
noncomputable def c32_16 : Code := cdR c32_14
noncomputable def r32_1 : Array Oper := cdO c32_1
noncomputable def r32_4 : Array Oper := cdO c32_4
noncomputable def r32_7 : Array Oper := cdO c32_7
noncomputable def r32_9 : Array Oper := cdO c32_9
noncomputable def r32_13 : Array Oper := cdO c32_13
noncomputable def r32_15 : Array Oper := cdO c32_15
theorem c32_0e : c32_0 = .seq c32_1 c32_2 := by kernel_rfl
theorem c32_1e : c32_1 = .region 0 r32_1 false := by kernel_rfl
theorem c32_2e : c32_2 = .seq c32_3 c32_12 := by kernel_rfl
theorem c32_3e : c32_3 = .seq c32_4 c32_5 := by kernel_rfl
theorem c32_4e : c32_4 = .region 1 r32_4 false := by kernel_rfl
theorem c32_5e : c32_5 = .cond (cdC c32_5) c32_6 c32_11 := by kernel_rfl
theorem c32_6e : c32_6 = .seq c32_7 c32_8 := by kernel_rfl
theorem c32_7e : c32_7 = .region 2 r32_7 false := by kernel_rfl
theorem c32_8e : c32_8 = .seq c32_9 c32_10 := by kernel_rfl
theorem c32_9e : c32_9 = .region 3 r32_9 false := by kernel_rfl
theorem c32_10e : c32_10 = .ret := by kernel_rfl
theorem c32_11e : c32_11 = .skip := by kernel_rfl
theorem c32_12e : c32_12 = .seq c32_13 c32_14 := by kernel_rfl
theorem c32_13e : c32_13 = .region 4 r32_13 true := by kernel_rfl
theorem c32_14e : c32_14 = .seq c32_15 c32_16 := by kernel_rfl
theorem c32_15e : c32_15 = .region 5 r32_15 false := by kernel_rfl
theorem c32_16e : c32_16 = .ret := by kernel_rfl
noncomputable def tontineref10_Net_Send.R (b_2 : Nat) (A_3 : Option Addr) (c_4 : Nat) (A_6 : Option Addr) (c_7 : Nat) : Pst (Bool × T_tontineref10_Net) where
  ε := Option Addr × Nat
  v := fun r x => .bool r.1
  H := fun r x => [⟨1, b_2, [.slice x.1 r.2.L.length x.2, .int .i64 r.2.Lost]⟩]
  B := fun r x => [Ow 2 kT_api_Letter x.1 x.2 r.2.L]
noncomputable def tontineref10_Net_Send.cx (b_2 : Nat) (A_3 : Option Addr) (c_4 : Nat) (A_6 : Option Addr) (c_7 : Nat) (w0 : World) (S0 : Fam) : Cx (Bool × T_tontineref10_Net) := ⟨Try.prog, 32, Try.f32, 28, w0, S0, [1, 2], 2, tontineref10_Net_Send.R b_2 A_3 c_4 A_6 c_7⟩
theorem tontineref10_Net_Send_ok (n : Nat) (n_1 : T_tontineref10_Net) (x_5 : T_api_Letter) (b_2 : Nat) (A_3 : Option Addr) (c_4 : Nat) (A_6 : Option Addr) (c_7 : Nat) :
    Meets Try.prog 32 [.pointer (some ⟨b_2, 0, none⟩), .agg ⟨[.int .i64 x_5.Kind, .int .i64 x_5.From, .int .i64 x_5.To, .int .u64 x_5.Term, .int .u64 x_5.Index, .int .u64 x_5.Prev, .int .u64 x_5.Commit, .bool x_5.Ok, .slice A_6 x_5.Entries.length c_7, .string (bs x_5.Data)]⟩] 2 [1, 2] [⟨1, b_2, [.slice A_3 n_1.L.length c_4, .int .i64 n_1.Lost]⟩] [Ow 2 kT_api_Letter A_3 c_4 n_1.L, Rd 0 kT_api_Entry A_6 c_7 x_5.Entries] (tontineref10_Net_Send.f n n_1 x_5) (tontineref10_Net_Send.R b_2 A_3 c_4 A_6 c_7) := by
  refine Meets.of (c := c32_0) (n := 28) Try.func32 (by kernel_rfl) (by kernel_rfl) (by kernel_rfl) fun w0 S0 => ?_
  unfold tontineref10_Net_Send.f
  show GoO (tontineref10_Net_Send.cx b_2 A_3 c_4 A_6 c_7 w0 S0) [(0, .pointer (some ⟨b_2, 0, none⟩)), (1, .agg ⟨[.int .i64 x_5.Kind, .int .i64 x_5.From, .int .i64 x_5.To, .int .u64 x_5.Term, .int .u64 x_5.Index, .int .u64 x_5.Prev, .int .u64 x_5.Commit, .bool x_5.Ok, .slice A_6 x_5.Entries.length c_7, .string (bs x_5.Data)]⟩)] [⟨1, b_2, [.slice A_3 n_1.L.length c_4, .int .i64 n_1.Lost]⟩] [Ow 2 kT_api_Letter A_3 c_4 n_1.L, Rd 0 kT_api_Entry A_6 c_7 x_5.Entries] [.code c32_0] _
  refine GoO.seq' c32_0e ?_
  refine GoO.region' (is := [0, 1]) c32_1e (by kernel_rfl) ?_
  refine OpTo.go (GoO.new rfl 40 (cs := [.int .i64 x_5.Kind, .int .i64 x_5.From, .int .i64 x_5.To, .int .u64 x_5.Term, .int .u64 x_5.Index, .int .u64 x_5.Prev, .int .u64 x_5.Commit, .bool x_5.Ok, .slice A_6 x_5.Entries.length c_7, .string (bs x_5.Data)]) (by kernel_rfl) _ (fun _ => rfl) (fun b_8 => ?_))
  refine GoO.exec (is := [1]) (hs := [.p]) (rest := []) (ks := [0, 3]) (env' := [(0, .pointer (some ⟨b_2, 0, none⟩)), (3, .pointer (some ⟨b_8, 0, none⟩))]) (H' := [⟨40, b_8, [.int .i64 x_5.Kind, .int .i64 x_5.From, .int .i64 x_5.To, .int .u64 x_5.Term, .int .u64 x_5.Index, .int .u64 x_5.Prev, .int .u64 x_5.Commit, .bool x_5.Ok, .slice A_6 x_5.Entries.length c_7, .string (bs x_5.Data)]⟩, ⟨1, b_2, [.slice A_3 n_1.L.length c_4, .int .i64 n_1.Lost]⟩]) (ps := []) (by kernel_rfl) trivial ?_
  refine GoO.regionEnd ?_
  refine GoO.seq' c32_2e ?_
  refine GoO.seq' c32_3e ?_
  refine GoO.region' (is := [0, 1, 2, 3, 4, 5]) c32_4e (by kernel_rfl) ?_
  refine GoO.exec (is := [0, 1, 2, 3, 4, 5]) (hs := [.p, .p, .p, .b 1, .p, .p]) (rest := []) (ks := [0, 3, 10]) (env' := [(0, .pointer (some ⟨b_2, 0, none⟩)), (3, .pointer (some ⟨b_8, 0, none⟩)), (10, .bool (decide ((n_1.L.length : Int) ≥ 256)))]) (H' := [⟨40, b_8, [.int .i64 x_5.Kind, .int .i64 x_5.From, .int .i64 x_5.To, .int .u64 x_5.Term, .int .u64 x_5.Index, .int .u64 x_5.Prev, .int .u64 x_5.Commit, .bool x_5.Ok, .slice A_6 x_5.Entries.length c_7, .string (bs x_5.Data)]⟩, ⟨1, b_2, [.slice A_3 n_1.L.length c_4, .int .i64 n_1.Lost]⟩]) (ps := [b_2 = b_2]) (by kernel_rfl) (And.intro rfl trivial) ?_
  refine GoO.regionEnd ?_
  refine GoO.ite' c32_5e (by kernel_rfl) (fun h9 => ?_) (fun h9 => ?_)
  · refine GoO.seq' c32_6e ?_
    refine GoO.region' (is := [0, 1, 2, 3, 4, 5, 6, 7]) c32_7e (by kernel_rfl) ?_
    refine GoO.exec (is := [0, 1, 2, 3, 4, 5, 6, 7]) (hs := [.p, .p, .p, .b 1, .p, .p, .p, .b 1]) (rest := []) (ks := []) (env' := []) (H' := [⟨40, b_8, [.int .i64 x_5.Kind, .int .i64 x_5.From, .int .i64 x_5.To, .int .u64 x_5.Term, .int .u64 x_5.Index, .int .u64 x_5.Prev, .int .u64 x_5.Commit, .bool x_5.Ok, .slice A_6 x_5.Entries.length c_7, .string (bs x_5.Data)]⟩, ⟨1, b_2, [.slice A_3 n_1.L.length c_4, .int .i64 (wi64 (n_1.Lost + 1))]⟩]) (ps := [b_2 = b_2, b_2 = b_2]) (by kernel_rfl) (And.intro rfl (And.intro rfl trivial)) ?_
    refine GoO.regionEnd ?_
    refine GoO.seq' c32_8e ?_
    refine GoO.region' (is := [0]) c32_9e (by kernel_rfl) ?_
    refine GoO.exec (is := [0]) (hs := [.p]) (rest := []) (ks := [4]) (env' := [(4, .bool false)]) (H' := [⟨40, b_8, [.int .i64 x_5.Kind, .int .i64 x_5.From, .int .i64 x_5.To, .int .u64 x_5.Term, .int .u64 x_5.Index, .int .u64 x_5.Prev, .int .u64 x_5.Commit, .bool x_5.Ok, .slice A_6 x_5.Entries.length c_7, .string (bs x_5.Data)]⟩, ⟨1, b_2, [.slice A_3 n_1.L.length c_4, .int .i64 (wi64 (n_1.Lost + 1))]⟩]) (ps := []) (by kernel_rfl) trivial ?_
    refine GoO.regionEnd ?_
    exact GoO.ret' (h := c32_10e) (hs := []) (ps := []) (hk := [1]) (bk := [0]) Try.func32 (⟨A_3, c_4⟩ : Option Addr × Nat) (by kernel_rfl) trivial (by kernel_rfl) (by kernel_rfl)
  · refine GoO.skip' c32_11e ?_
    refine GoO.seq' c32_12e ?_
    refine GoO.draw c32_13e (by kernel_rfl) [8, 9, 10] [⟨40, b_8, [.int .i64 x_5.Kind, .int .i64 x_5.From, .int .i64 x_5.To, .int .u64 x_5.Term, .int .u64 x_5.Index, .int .u64 x_5.Prev, .int .u64 x_5.Commit, .bool x_5.Ok, .slice A_6 x_5.Entries.length c_7, .string (bs x_5.Data)]⟩, ⟨1, b_2, [.slice A_3 n_1.L.length c_4, .int .i64 n_1.Lost]⟩] [] (n := 11) (by kernel_rfl) ?_
    simp only [List.replicate]
    refine GoF.take [0, 1, 2, 3, 4, 5] [.p, .p, .p, .p, .b 1, .b 0] (ks := [18, 22, 23]) (fu := 5) (li := [true, true, true, true, true, true, false, false, false, false, false]) (env' := [(18, .pointer (some ⟨b_2, 0, none⟩)), (22, .slice A_3 n_1.L.length c_4), (23, .agg ⟨[.int .i64 x_5.Kind, .int .i64 x_5.From, .int .i64 x_5.To, .int .u64 x_5.Term, .int .u64 x_5.Index, .int .u64 x_5.Prev, .int .u64 x_5.Commit, .bool x_5.Ok, .slice A_6 x_5.Entries.length c_7, .string (bs x_5.Data)]⟩)]) (ps := [b_2 = b_2, b_8 = b_8]) (hk := [0, 1]) (bk := []) (by kernel_rfl) (And.intro rfl (And.intro rfl trivial)) rfl rfl ?_
    refine OpTo.goF (i := 6) (by kernel_rfl) (hk := [0, 1]) (bk := []) (GoO.lit (e := 29) (K := kT_api_Letter) rfl (by kernel_rfl) (by kernel_rfl) (cs := [.int .i64 x_5.Kind, .int .i64 x_5.From, .int .i64 x_5.To, .int .u64 x_5.Term, .int .u64 x_5.Index, .int .u64 x_5.Prev, .int .u64 x_5.Commit, .bool x_5.Ok, .slice A_6 x_5.Entries.length c_7, .string (bs x_5.Data)]) (by kernel_rfl) [x_5] (by kernel_rfl) (by kernel_rfl) (fun w S hB => ⟨[.int .i64 x_5.Kind, .int .i64 x_5.From, .int .i64 x_5.To, .int .u64 x_5.Term, .int .u64 x_5.Index, .int .u64 x_5.Prev, .int .u64 x_5.Commit, .bool x_5.Ok, .slice A_6 x_5.Entries.length c_7, .string (bs x_5.Data)], _, rfl, ⟨A_6, c_7, rfl, hB _ (List.mem_of_getElem? (i := 1) rfl)⟩, rfl⟩) 41 _ (fun _ _ => rfl) (fun A_10 c_11 => ⟨rfl, rfl, ?_⟩))
    refine GoF.guard (fun h12 => ?_)
    refine OpTo.goF (i := 7) (by kernel_rfl) (hk := [0, 1]) (bk := []) (GoO.appW (e := 29) (K := kT_api_Letter) (A := A_3) (c := c_4) (tg := 2) (bytes := 104) (zs := [.int .i64 0, .int .i64 0, .int .i64 0, .int .u64 0, .int .u64 0, .int .u64 0, .int .u64 0, .bool false, .slice none 0 0, .string (bs [])]) (xs := n_1.L) (ys := [x_5]) (xv := .slice A_10 [x_5].length c_11) (j := 1) (bk := [0, 2]) rfl (by kernel_rfl) (by kernel_rfl) (by kernel_rfl) (by kernel_rfl) rfl (by kernel_rfl) rfl (fun w S hB => SrcIs.row (Reads.own w S (hB _ (List.mem_of_getElem? (i := 0) rfl)))) h12 rfl rfl rfl rfl _ (fun _ _ => rfl) (fun A_13 c_14 => ⟨rfl, rfl, ?_⟩))
    refine GoF.fin1 (i := 8) (hint := .p) (ps := []) (hk := []) (bk := []) (by kernel_rfl) rfl trivial (.inl rfl) ?_
    refine GoF.fin1 (i := 9) (hint := .p) (ps := []) (hk := []) (bk := []) (by kernel_rfl) rfl trivial (.inl rfl) ?_
    refine GoF.fin1 (i := 10) (hint := .b 1) (ps := [b_2 = b_2]) (hk := []) (bk := []) (by kernel_rfl) rfl (And.intro rfl trivial) (.inl rfl) ?_
    refine GoF.done (by kernel_rfl) ?_
    refine GoO.seq' c32_14e ?_
    refine GoO.region' (is := [0]) c32_15e (by kernel_rfl) ?_
    refine GoO.exec (is := [0]) (hs := [.p]) (rest := []) (ks := [4]) (env' := [(4, .bool true)]) (H' := [⟨40, b_8, [.int .i64 x_5.Kind, .int .i64 x_5.From, .int .i64 x_5.To, .int .u64 x_5.Term, .int .u64 x_5.Index, .int .u64 x_5.Prev, .int .u64 x_5.Commit, .bool x_5.Ok, .slice A_6 x_5.Entries.length c_7, .string (bs x_5.Data)]⟩, ⟨1, b_2, [.slice A_13 (n_1.L ++ [x_5]).length c_14, .int .i64 n_1.Lost]⟩]) (ps := []) (by kernel_rfl) trivial ?_
    refine GoO.regionEnd ?_
    exact GoO.ret' (h := c32_16e) (hs := []) (ps := []) (hk := [1]) (bk := [0]) Try.func32 (⟨A_13, c_14⟩ : Option Addr × Nat) (by kernel_rfl) trivial (by kernel_rfl) (by kernel_rfl)

/-! (*tontine/tontineref10.Net).Place -/
noncomputable def c35_0 : Code := bodyOf Try.f35
noncomputable def c35_1 : Code := cdL c35_0
noncomputable def c35_2 : Code := cdR c35_0
noncomputable def c35_3 : Code := cdL c35_2
noncomputable def c35_4 : Code := cdR c35_2
noncomputable def c35_5 : Code := cdL c35_4
noncomputable def c35_6 : Code := cdL c35_5
noncomputable def c35_7 : Code := cdR c35_5
noncomputable def c35_8 : Code := cdL c35_7
noncomputable def c35_9 : Code := cdL c35_8
noncomputable def c35_10 : Code := cdR c35_8
noncomputable def c35_11 : Code := cdR c35_7
noncomputable def c35_12 : Code := cdR c35_4
noncomputable def c35_13 : Code := cdL c35_12
noncomputable def c35_14 : Code := cdR c35_12
noncomputable def r35_1 : Array Oper := cdO c35_1
noncomputable def r35_3 : Array Oper := cdO c35_3
noncomputable def r35_6 : Array Oper := cdO c35_6
noncomputable def r35_9 : Array Oper := cdO c35_9
noncomputable def r35_13 : Array Oper := cdO c35_13
theorem c35_0e : c35_0 = .seq c35_1 c35_2 := by kernel_rfl
theorem c35_1e : c35_1 = .region 0 r35_1 false := by kernel_rfl
theorem c35_2e : c35_2 = .seq c35_3 c35_4 := by kernel_rfl
theorem c35_3e : c35_3 = .region 1 r35_3 false := by kernel_rfl
theorem c35_4e : c35_4 = .seq c35_5 c35_12 := by kernel_rfl
theorem c35_5e : c35_5 = .seq c35_6 c35_7 := by kernel_rfl
theorem c35_6e : c35_6 = .region 2 r35_6 false := by kernel_rfl
theorem c35_7e : c35_7 = .cond (cdC c35_7) c35_8 c35_11 := by kernel_rfl
theorem c35_8e : c35_8 = .seq c35_9 c35_10 := by kernel_rfl
theorem c35_9e : c35_9 = .region 3 r35_9 false := by kernel_rfl
theorem c35_10e : c35_10 = .ret := by kernel_rfl
theorem c35_11e : c35_11 = .skip := by kernel_rfl
theorem c35_12e : c35_12 = .seq c35_13 c35_14 := by kernel_rfl
theorem c35_13e : c35_13 = .region 4 r35_13 false := by kernel_rfl
theorem c35_14e : c35_14 = .ret := by kernel_rfl
noncomputable def tontineref10_Net_Place.R (b_2 : Nat) (A_3 : Option Addr) (c_4 : Nat) : Pst Int where
  ε := Unit
  v := fun r x => .int .i64 r
  H := fun r x => []
  B := fun r x => []
noncomputable def tontineref10_Net_Place.cx (b_2 : Nat) (A_3 : Option Addr) (c_4 : Nat) (w0 : World) (S0 : Fam) : Cx Int := ⟨Try.prog, 35, Try.f35, 20, w0, S0, [], 2, tontineref10_Net_Place.R b_2 A_3 c_4⟩
theorem tontineref10_Net_Place_ok (n : Nat) (n_1 : T_tontineref10_Net) (i_5 : Int) (b_2 : Nat) (A_3 : Option Addr) (c_4 : Nat) :
    Meets Try.prog 35 [.pointer (some ⟨b_2, 0, none⟩), .int .i64 i_5] 2 [] [⟨1, b_2, [.slice A_3 n_1.L.length c_4, .int .i64 n_1.Lost]⟩] [Ow 2 kT_api_Letter A_3 c_4 n_1.L] (tontineref10_Net_Place.f n n_1 i_5) (tontineref10_Net_Place.R b_2 A_3 c_4) := by
  refine Meets.of (c := c35_0) (n := 20) Try.func35 (by kernel_rfl) (by kernel_rfl) (by kernel_rfl) fun w0 S0 => ?_
  unfold tontineref10_Net_Place.f
  show GoO (tontineref10_Net_Place.cx b_2 A_3 c_4 w0 S0) [(0, .pointer (some ⟨b_2, 0, none⟩)), (1, .int .i64 i_5)] [⟨1, b_2, [.slice A_3 n_1.L.length c_4, .int .i64 n_1.Lost]⟩] [Ow 2 kT_api_Letter A_3 c_4 n_1.L] [.code c35_0] _
  refine GoO.seq' c35_0e ?_
  refine GoO.region' (is := [0]) c35_1e (by kernel_rfl) ?_
  refine GoO.exec (is := [0]) (hs := [.p]) (rest := []) (ks := [0, 1]) (env' := [(0, .pointer (some ⟨b_2, 0, none⟩)), (1, .int .i64 i_5)]) (H' := [⟨1, b_2, [.slice A_3 n_1.L.length c_4, .int .i64 n_1.Lost]⟩]) (ps := []) (by kernel_rfl) trivial ?_
  refine GoO.regionEnd ?_
  refine GoO.seq' c35_2e ?_
  refine GoO.region' (is := [0, 1, 2, 3, 4, 5]) c35_3e (by kernel_rfl) ?_
  refine GoO.exec (is := [0, 1, 2, 3, 4, 5]) (hs := [.p, .p, .p, .b 0, .p, .p]) (rest := []) (ks := [1, 5]) (env' := [(1, .int .i64 i_5), (5, .int .i64 (n_1.L.length : Int))]) (H' := [⟨1, b_2, [.slice A_3 n_1.L.length c_4, .int .i64 n_1.Lost]⟩]) (ps := [b_2 = b_2]) (by kernel_rfl) (And.intro rfl trivial) ?_
  refine GoO.regionEnd ?_
  refine GoO.seq' c35_4e ?_
  refine GoO.seq' c35_5e ?_
  refine GoO.region' (is := [0, 1]) c35_6e (by kernel_rfl) ?_
  refine GoO.exec (is := [0, 1]) (hs := [.p, .p]) (rest := []) (ks := [1, 5, 12]) (env' := [(1, .int .i64 i_5), (5, .int .i64 (n_1.L.length : Int)), (12, .bool ((n_1.L.length : Int) == 0))]) (H' := [⟨1, b_2, [.slice A_3 n_1.L.length c_4, .int .i64 n_1.Lost]⟩]) (ps := []) (by kernel_rfl) trivial ?_
  refine GoO.regionEnd ?_
  refine GoO.ite' c35_7e (by kernel_rfl) (fun h6 => ?_) (fun h6 => ?_)
  · refine GoO.seq' c35_8e ?_
    refine GoO.region' (is := [0]) c35_9e (by kernel_rfl) ?_
    refine GoO.exec (is := [0]) (hs := [.p]) (rest := []) (ks := [4]) (env' := [(4, .int .i64 (-1))]) (H' := [⟨1, b_2, [.slice A_3 n_1.L.length c_4, .int .i64 n_1.Lost]⟩]) (ps := []) (by kernel_rfl) trivial ?_
    refine GoO.regionEnd ?_
    exact GoO.ret' (h := c35_10e) (hs := []) (ps := []) (hk := []) (bk := []) Try.func35 () (by kernel_rfl) trivial (by kernel_rfl) (by kernel_rfl)
  · refine GoO.skip' c35_11e ?_
    refine GoO.seq' c35_12e ?_
    refine GoO.region' (is := [0, 1, 2, 3, 4, 5, 6, 7]) c35_13e (by kernel_rfl) ?_
    refine GoO.guard (fun h7 => ?_)
    refine GoO.exec (is := [0, 1, 2, 3, 4, 5, 6, 7]) (hs := [.p, .p, .p, .p, .p, .p, .p, .p]) (rest := []) (ks := [4]) (env' := [(4, .int .i64 ((wi64 ((i_5.tmod (n_1.L.length : Int)) + (n_1.L.length : Int))).tmod (n_1.L.length : Int)))]) (H' := [⟨1, b_2, [.slice A_3 n_1.L.length c_4, .int .i64 n_1.Lost]⟩]) (ps := [(n_1.L.length : Int) ≠ 0, (n_1.L.length : Int) ≠ 0]) (by kernel_rfl) (And.intro h7 (And.intro h7 trivial)) ?_
    refine GoO.regionEnd ?_
    exact GoO.ret' (h := c35_14e) (hs := []) (ps := []) (hk := []) (bk := []) Try.func35 () (by kernel_rfl) trivial (by kernel_rfl) (by kernel_rfl)

/-! (*tontine/tontineref10.Net).Take -/
noncomputable def c33_0 : Code := bodyOf Try.f33
noncomputable def c33_1 : Code := cdL c33_0
noncomputable def c33_2 : Code := cdR c33_0
noncomputable def c33_3 : Code := cdL c33_2
noncomputable def c33_4 : Code := cdR c33_2
noncomputable def c33_5 : Code := cdL c33_4
noncomputable def c33_6 : Code := cdL c33_5
noncomputable def c33_7 : Code := cdR c33_5
noncomputable def c33_8 : Code := cdL c33_7
noncomputable def c33_9 : Code := cdL c33_8
noncomputable def c33_10 : Code := cdR c33_8
noncomputable def c33_11 : Code := cdR c33_7
noncomputable def c33_12 : Code := cdR c33_4
noncomputable def c33_13 : Code := cdL c33_12
noncomputable def c33_14 : Code := cdR c33_12
noncomputable def c33_15 : Code := cdL c33_14
noncomputable def c33_16 : Code := cdR c33_14
noncomputable def c33_17 : Code := cdL c33_16
noncomputable def c33_18 : Code := cdL c33_17
noncomputable def c33_19 : Code := cdR c33_17
noncomputable def c33_20 : Code := cdL c33_19
noncomputable def c33_21 : Code := cdL c33_20
noncomputable def c33_22 : Code := cdL c33_21
noncomputable def c33_23 : Code := cdL c33_22
noncomputable def c33_24 : Code := cdR c33_22
noncomputable def c33_25 : Code := cdL c33_24
noncomputable def c33_26 : Code := cdR c33_24
noncomputable def c33_27 : Code := cdR c33_21
noncomputable def c33_28 : Code := cdL c33_27
noncomputable def c33_29 : Code := cdL c33_28
noncomputable def c33_30 : Code := cdL c33_29
noncomputable def c33_31 : Code := cdR c33_29
noncomputable def c33_32 : Code := cdL c33_31
noncomputable def c33_33 : Code := cdR c33_31
noncomputable def c33_34 : Code := cdR c33_27
noncomputable def c33_35 : Code := cdR c33_16
noncomputable def c33_36 : Code := cdL c33_35
noncomputable def c33_37 : Code := cdR c33_35
noncomputable def c33_38 : Code := cdL c33_37
noncomputable def c33_39 : Code := cdR c33_37
noncomputable def r33_1 : Array Oper := cdO c33_1
noncomputable def r33_3 : Array Oper := cdO c33_3
noncomputable def r33_6 : Array Oper := cdO c33_6
noncomputable def r33_9 : Array Oper := cdO c33_9
noncomputable def r33_13 : Array Oper := cdO c33_13
noncomputable def r33_15 : Array Oper := cdO c33_15
noncomputable def r33_18 : Array Oper := cdO c33_18
noncomputable def r33_23 : Array Oper := cdO c33_23
noncomputable def r33_30 : Array Oper := cdO c33_30
noncomputable def r33_32 : Array Oper := cdO c33_32
noncomputable def r33_34 : Array Oper := cdO c33_34
noncomputable def r33_36 : Array Oper := cdO c33_36
noncomputable def r33_38 : Array Oper := cdO c33_38
theorem c33_0e : c33_0 = .seq c33_1 c33_2 := by kernel_rfl
theorem c33_1e : c33_1 = .region 0 r33_1 false := by kernel_rfl
theorem c33_2e : c33_2 = .seq c33_3 c33_4 := by kernel_rfl
theorem c33_3e : c33_3 = .region 1 r33_3 false := by kernel_rfl
theorem c33_4e : c33_4 = .seq c33_5 c33_12 := by kernel_rfl
theorem c33_5e : c33_5 = .seq c33_6 c33_7 := by kernel_rfl
theorem c33_6e : c33_6 = .region 2 r33_6 false := by kernel_rfl
theorem c33_7e : c33_7 = .cond (cdC c33_7) c33_8 c33_11 := by kernel_rfl
theorem c33_8e : c33_8 = .seq c33_9 c33_10 := by kernel_rfl
theorem c33_9e : c33_9 = .region 3 r33_9 false := by kernel_rfl
theorem c33_10e : c33_10 = .ret := by kernel_rfl
theorem c33_11e : c33_11 = .skip := by kernel_rfl
theorem c33_12e : c33_12 = .seq c33_13 c33_14 := by kernel_rfl
theorem c33_13e : c33_13 = .region 4 r33_13 false := by kernel_rfl
theorem c33_14e : c33_14 = .seq c33_15 c33_16 := by kernel_rfl
theorem c33_15e : c33_15 = .region 5 r33_15 false := by kernel_rfl
theorem c33_16e : c33_16 = .seq c33_17 c33_35 := by kernel_rfl
theorem c33_17e : c33_17 = .seq c33_18 c33_19 := by kernel_rfl
theorem c33_18e : c33_18 = .region 6 r33_18 false := by kernel_rfl
theorem c33_19e : c33_19 = .block 0 c33_20 := by kernel_rfl
theorem c33_20e : c33_20 = .loop c33_21 := by kernel_rfl
theorem c33_21e : c33_21 = .seq c33_22 c33_27 := by kernel_rfl
theorem c33_22e : c33_22 = .seq c33_23 c33_24 := by kernel_rfl
theorem c33_23e : c33_23 = .region 7 r33_23 false := by kernel_rfl
theorem c33_24e : c33_24 = .cond (cdC c33_24) c33_25 c33_26 := by kernel_rfl
theorem c33_25e : c33_25 = .skip := by kernel_rfl
theorem c33_26e : c33_26 = .exit 0 := by kernel_rfl
theorem c33_27e : c33_27 = .seq c33_28 c33_34 := by kernel_rfl
theorem c33_28e : c33_28 = .block 1 c33_29 := by kernel_rfl
theorem c33_29e : c33_29 = .seq c33_30 c33_31 := by kernel_rfl
theorem c33_30e : c33_30 = .region 9 r33_30 false := by kernel_rfl
theorem c33_31e : c33_31 = .cond (cdC c33_31) c33_32 c33_33 := by kernel_rfl
theorem c33_32e : c33_32 = .region 10 r33_32 false := by kernel_rfl
theorem c33_33e : c33_33 = .skip := by kernel_rfl
theorem c33_34e : c33_34 = .region 8 r33_34 false := by kernel_rfl
theorem c33_35e : c33_35 = .seq c33_36 c33_37 := by kernel_rfl
theorem c33_36e : c33_36 = .region 11 r33_36 false := by kernel_rfl
theorem c33_37e : c33_37 = .seq c33_38 c33_39 := by kernel_rfl
theorem c33_38e : c33_38 = .region 12 r33_38 false := by kernel_rfl
theorem c33_39e : c33_39 = .ret := by kernel_rfl
noncomputable def tontineref10_Net_Take.R (b_2 : Nat) (A_3 : Option Addr) (c_4 : Nat) : Pst (T_api_Letter × Bool × T_tontineref10_Net) where
  ε := Option Addr × Nat × Option Addr × Nat
  v := fun r x => .tuple ⟨[.agg ⟨[.int .i64 r.1.Kind, .int .i64 r.1.From, .int .i64 r.1.To, .int .u64 r.1.Term, .int .u64 r.1.Index, .int .u64 r.1.Prev, .int .u64 r.1.Commit, .bool r.1.Ok, .slice x.1 r.1.Entries.length x.2.1, .string (bs r.1.Data)]⟩, .bool r.2.1]⟩
  H := fun r x => [⟨1, b_2, [.slice x.2.2.1 r.2.2.L.length x.2.2.2, .int .i64 r.2.2.Lost]⟩]
  B := fun r x => [Rd 0 kT_api_Entry x.1 x.2.1 r.1.Entries, Ow 2 kT_api_Letter x.2.2.1 x.2.2.2 r.2.2.L]
noncomputable def tontineref10_Net_Take.cx (b_2 : Nat) (A_3 : Option Addr) (c_4 : Nat) (w0 : World) (S0 : Fam) : Cx (T_api_Letter × Bool × T_tontineref10_Net) := ⟨Try.prog, 33, Try.f33, 50, w0, S0, [1, 2], 2, tontineref10_Net_Take.R b_2 A_3 c_4⟩
theorem tontineref10_Net_Take_l0_ok (n : Nat) (n_1 : T_tontineref10_Net) (r_7 : Int) (b_2 : Nat) (A_3 : Option Addr) (c_4 : Nat) (b_6 : Nat) (A_10 : Option Addr) (c_11 : Nat) (b_12 : Nat) (w0 : World) (S0 : Fam) :
    ∀ (k : Nat) (l_13 : (List T_api_Letter)) (j_16 : Int) (A_14 : Option Addr) (c_15 : Nat), GoO (tontineref10_Net_Take.cx b_2 A_3 c_4 w0 S0) [(0, .pointer (some ⟨b_2, 0, none⟩)), (4, .pointer (some ⟨b_6, 0, none⟩)), (6, .int .i64 r_7), (7, .pointer (some ⟨b_12, 0, none⟩)), (8, .slice A_14 l_13.length c_15), (9, .int .i64 j_16)] [⟨1, b_2, [.slice A_3 n_1.L.length c_4, .int .i64 n_1.Lost]⟩, ⟨40, b_6, [.int .i64 0, .int .i64 0, .int .i64 0, .int .u64 0, .int .u64 0, .int .u64 0, .int .u64 0, .bool false, .slice none ([] : List T_api_Entry).length 0, .string (bs [])]⟩, ⟨41, b_12, [.int .i64 ((rdL n_1.L r_7).Kind), .int .i64 ((rdL n_1.L r_7).From), .int .i64 ((rdL n_1.L r_7).To), .int .u64 ((rdL n_1.L r_7).Term), .int .u64 ((rdL n_1.L r_7).Index), .int .u64 ((rdL n_1.L r_7).Prev), .int .u64 ((rdL n_1.L r_7).Commit), .bool ((rdL n_1.L r_7).Ok), .slice A_10 ((rdL n_1.L r_7).Entries).length c_11, .string (bs ((rdL n_1.L r_7).Data))]⟩] [Ow 2 kT_api_Letter A_3 c_4 n_1.L, Rd 0 kT_api_Entry A_10 c_11 ((rdL n_1.L r_7).Entries), Ow 43 kT_api_Letter A_14 c_15 l_13] [.code c33_21, .inLoop c33_21, .inBlock 0, .code c33_35] (tontineref10_Net_Take.l0 n n_1 r_7 k l_13 j_16) := by
  intro k
  induction k with
  | zero => intros; rw [tontineref10_Net_Take.l0.eq_1]; exact GoO.stop
  | succ k ih0 =>
    intro l_13 j_16 A_14 c_15
    rw [tontineref10_Net_Take.l0.eq_2]
    refine GoO.seq' c33_21e ?_
    refine GoO.seq' c33_22e ?_
    refine GoO.region' (is := [0, 1, 2, 3, 4, 5, 6]) c33_23e (by kernel_rfl) ?_
    refine GoO.exec (is := [0, 1, 2, 3, 4, 5, 6]) (hs := [.p, .p, .p, .p, .b 0, .p, .p]) (rest := []) (ks := [0, 4, 6, 7, 8, 9, 29]) (env' := [(0, .pointer (some ⟨b_2, 0, none⟩)), (4, .pointer (some ⟨b_6, 0, none⟩)), (6, .int .i64 r_7), (7, .pointer (some ⟨b_12, 0, none⟩)), (8, .slice A_14 l_13.length c_15), (9, .int .i64 j_16), (29, .bool (decide (j_16 < (n_1.L.length : Int))))]) (H' := [⟨1, b_2, [.slice A_3 n_1.L.length c_4, .int .i64 n_1.Lost]⟩, ⟨40, b_6, [.int .i64 0, .int .i64 0, .int .i64 0, .int .u64 0, .int .u64 0, .int .u64 0, .int .u64 0, .bool false, .slice none ([] : List T_api_Entry).length 0, .string (bs [])]⟩, ⟨41, b_12, [.int .i64 ((rdL n_1.L r_7).Kind), .int .i64 ((rdL n_1.L r_7).From), .int .i64 ((rdL n_1.L r_7).To), .int .u64 ((rdL n_1.L r_7).Term), .int .u64 ((rdL n_1.L r_7).Index), .int .u64 ((rdL n_1.L r_7).Prev), .int .u64 ((rdL n_1.L r_7).Commit), .bool ((rdL n_1.L r_7).Ok), .slice A_10 ((rdL n_1.L r_7).Entries).length c_11, .string (bs ((rdL n_1.L r_7).Data))]⟩]) (ps := [b_2 = b_2]) (by kernel_rfl) (And.intro rfl trivial) ?_
    refine GoO.regionEnd ?_
    refine GoO.ite' c33_24e (by kernel_rfl) (fun h17 => ?_) (fun h17 => ?_)
    · refine GoO.skip' c33_25e ?_
      refine GoO.seq' c33_27e ?_
      refine GoO.block' c33_28e ?_
      refine GoO.seq' c33_29e ?_
      refine GoO.region' (is := [0, 1, 2]) c33_30e (by kernel_rfl) ?_
      refine GoO.exec (is := [0, 1, 2]) (hs := [.p, .p, .p]) (rest := []) (ks := [0, 4, 6, 7, 8, 9, 34]) (env' := [(0, .pointer (some ⟨b_2, 0, none⟩)), (4, .pointer (some ⟨b_6, 0, none⟩)), (6, .int .i64 r_7), (7, .pointer (some ⟨b_12, 0, none⟩)), (8, .slice A_14 l_13.length c_15), (9, .int .i64 j_16), (34, .bool (j_16 != r_7))]) (H' := [⟨1, b_2, [.slice A_3 n_1.L.length c_4, .int .i64 n_1.Lost]⟩, ⟨40, b_6, [.int .i64 0, .int .i64 0, .int .i64 0, .int .u64 0, .int .u64 0, .int .u64 0, .int .u64 0, .bool false, .slice none ([] : List T_api_Entry).length 0, .string (bs [])]⟩, ⟨41, b_12, [.int .i64 ((rdL n_1.L r_7).Kind), .int .i64 ((rdL n_1.L r_7).From), .int .i64 ((rdL n_1.L r_7).To), .int .u64 ((rdL n_1.L r_7).Term), .int .u64 ((rdL n_1.L r_7).Index), .int .u64 ((rdL n_1.L r_7).Prev), .int .u64 ((rdL n_1.L r_7).Commit), .bool ((rdL n_1.L r_7).Ok), .slice A_10 ((rdL n_1.L r_7).Entries).length c_11, .string (bs ((rdL n_1.L r_7).Data))]⟩]) (ps := []) (by kernel_rfl) trivial ?_
      refine GoO.regionEnd ?_
      refine GoO.ite' c33_31e (by kernel_rfl) (fun h18 => ?_) (fun h18 => ?_)
      · refine GoO.region' (is := [0, 1, 2, 3, 4, 5, 6, 7, 8, 9, 10]) c33_32e (by kernel_rfl) ?_
        refine GoO.exec (is := [0, 1, 2, 3, 4, 5]) (hs := [.p, .p, .p, .p, .b 0, .p]) (rest := [6, 7, 8, 9, 10]) (ks := [0, 4, 6, 7, 9, 35, 39, 40]) (env' := [(0, .pointer (some ⟨b_2, 0, none⟩)), (4, .pointer (some ⟨b_6, 0, none⟩)), (6, .int .i64 r_7), (7, .pointer (some ⟨b_12, 0, none⟩)), (9, .int .i64 j_16), (35, .slice A_14 l_13.length c_15), (39, .slice A_3 n_1.L.length c_4), (40, .int .i64 j_16)]) (H' := [⟨1, b_2, [.slice A_3 n_1.L.length c_4, .int .i64 n_1.Lost]⟩, ⟨40, b_6, [.int .i64 0, .int .i64 0, .int .i64 0, .int .u64 0, .int .u64 0, .int .u64 0, .int .u64 0, .bool false, .slice none ([] : List T_api_Entry).length 0, .string (bs [])]⟩, ⟨41, b_12, [.int .i64 ((rdL n_1.L r_7).Kind), .int .i64 ((rdL n_1.L r_7).From), .int .i64 ((rdL n_1.L r_7).To), .int .u64 ((rdL n_1.L r_7).Term), .int .u64 ((rdL n_1.L r_7).Index), .int .u64 ((rdL n_1.L r_7).Prev), .int .u64 ((rdL n_1.L r_7).Commit), .bool ((rdL n_1.L r_7).Ok), .slice A_10 ((rdL n_1.L r_7).Entries).length c_11, .string (bs ((rdL n_1.L r_7).Data))]⟩]) (ps := [b_2 = b_2]) (by kernel_rfl) (And.intro rfl trivial) ?_
        refine GoO.guard (fun h19 => ?_)
        refine OpTo.go (GoO.idx (kk := .i64) (e := 29) (K := kT_api_Letter) (A := A_3) (c := c_4) (xs := n_1.L) (iv := j_16) (j := 0) rfl (by kernel_rfl) (by kernel_rfl) (by kernel_rfl) (by kernel_rfl) rfl Reads.own rfl h19.1 h19.2 (by decide) rfl ?_)
        refine OpTo.go (GoO.ldE' (K := kT_api_Letter) (A := A_3) (c := c_4) (xs := n_1.L) (iN := j_16.toNat) (off := 0) (j := 0) rfl (by kernel_rfl) rfl Reads.own (by first | exact idx_lt h19.1 h19.2 | (simp only [List.length_set]; exact idx_lt h19.1 h19.2)) (by decide) (oT_api_Letter _) (v := fun e => .agg ⟨[.int .i64 ((rdL n_1.L j_16).Kind), .int .i64 ((rdL n_1.L j_16).From), .int .i64 ((rdL n_1.L j_16).To), .int .u64 ((rdL n_1.L j_16).Term), .int .u64 ((rdL n_1.L j_16).Index), .int .u64 ((rdL n_1.L j_16).Prev), .int .u64 ((rdL n_1.L j_16).Commit), .bool ((rdL n_1.L j_16).Ok), .slice e.1 ((rdL n_1.L j_16).Entries).length e.2, .string (bs ((rdL n_1.L j_16).Data))]⟩) (fun _ => by kernel_rfl) _ (fun _ => rfl) ?_)
        rintro ⟨A_20, c_21⟩
        refine OpTo.go (GoO.lit (e := 29) (K := kT_api_Letter) rfl (by kernel_rfl) (by kernel_rfl) (cs := [.int .i64 ((rdL n_1.L j_16).Kind), .int .i64 ((rdL n_1.L j_16).From), .int .i64 ((rdL n_1.L j_16).To), .int .u64 ((rdL n_1.L j_16).Term), .int .u64 ((rdL n_1.L j_16).Index), .int .u64 ((rdL n_1.L j_16).Prev), .int .u64 ((rdL n_1.L j_16).Commit), .bool ((rdL n_1.L j_16).Ok), .slice A_20 ((rdL n_1.L j_16).Entries).length c_21, .string (bs ((rdL n_1.L j_16).Data))]) (by kernel_rfl) [(rdL n_1.L j_16)] (by kernel_rfl) (by kernel_rfl) (fun w S hB => ⟨[.int .i64 ((rdL n_1.L j_16).Kind), .int .i64 ((rdL n_1.L j_16).From), .int .i64 ((rdL n_1.L j_16).To), .int .u64 ((rdL n_1.L j_16).Term), .int .u64 ((rdL n_1.L j_16).Index), .int .u64 ((rdL n_1.L j_16).Prev), .int .u64 ((rdL n_1.L j_16).Commit), .bool ((rdL n_1.L j_16).Ok), .slice A_20 ((rdL n_1.L j_16).Entries).length c_21, .string (bs ((rdL n_1.L j_16).Data))], _, rfl, ⟨A_20, c_21, rfl, hB _ (List.mem_of_getElem? (i := 0) rfl)⟩, rfl⟩) 42 _ (fun _ _ => rfl) (fun A_22 c_23 => ?_))
        refine GoO.guard (fun h24 => ?_)
        refine OpTo.go (GoO.appW (e := 29) (K := kT_api_Letter) (A := A_14) (c := c_15) (tg := 43) (bytes := 104) (zs := [.int .i64 0, .int .i64 0, .int .i64 0, .int .u64 0, .int .u64 0, .int .u64 0, .int .u64 0, .bool false, .slice none 0 0, .string (bs [])]) (xs := l_13) (ys := [(rdL n_1.L j_16)]) (xv := .slice A_22 [(rdL n_1.L j_16)].length c_23) (j := 4) (bk := [0, 1, 2, 3]) rfl (by kernel_rfl) (by kernel_rfl) (by kernel_rfl) (by kernel_rfl) rfl (by kernel_rfl) rfl (fun w S hB => SrcIs.row (Reads.own w S (hB _ (List.mem_of_getElem? (i := 0) rfl)))) h24 rfl rfl rfl rfl _ (fun _ _ => rfl) (fun A_25 c_26 => ?_))
        refine GoO.exec (is := [10]) (hs := [.p]) (rest := []) (ks := [0, 4, 6, 7, 8, 9]) (env' := [(0, .pointer (some ⟨b_2, 0, none⟩)), (4, .pointer (some ⟨b_6, 0, none⟩)), (6, .int .i64 r_7), (7, .pointer (some ⟨b_12, 0, none⟩)), (8, .slice A_25 (l_13 ++ [(rdL n_1.L j_16)]).length c_26), (9, .int .i64 j_16)]) (H' := [⟨1, b_2, [.slice A_3 n_1.L.length c_4, .int .i64 n_1.Lost]⟩, ⟨40, b_6, [.int .i64 0, .int .i64 0, .int .i64 0, .int .u64 0, .int .u64 0, .int .u64 0, .int .u64 0, .bool false, .slice none ([] : List T_api_Entry).length 0, .string (bs [])]⟩, ⟨41, b_12, [.int .i64 ((rdL n_1.L r_7).Kind), .int .i64 ((rdL n_1.L r_7).From), .int .i64 ((rdL n_1.L r_7).To), .int .u64 ((rdL n_1.L r_7).Term), .int .u64 ((rdL n_1.L r_7).Index), .int .u64 ((rdL n_1.L r_7).Prev), .int .u64 ((rdL n_1.L r_7).Commit), .bool ((rdL n_1.L r_7).Ok), .slice A_10 ((rdL n_1.L r_7).Entries).length c_11, .string (bs ((rdL n_1.L r_7).Data))]⟩]) (ps := []) (by kernel_rfl) trivial ?_
        refine GoO.regionEnd ?_
        refine GoO.inBlock ?_
        refine GoO.region' (is := [0, 1, 2]) c33_34e (by kernel_rfl) ?_
        refine GoO.exec (is := [0, 1, 2]) (hs := [.p, .p, .p]) (rest := []) (ks := [0, 4, 6, 7, 8, 9]) (env' := [(0, .pointer (some ⟨b_2, 0, none⟩)), (4, .pointer (some ⟨b_6, 0, none⟩)), (6, .int .i64 r_7), (7, .pointer (some ⟨b_12, 0, none⟩)), (8, .slice A_25 (l_13 ++ [(rdL n_1.L j_16)]).length c_26), (9, .int .i64 (wi64 (j_16 + 1)))]) (H' := [⟨1, b_2, [.slice A_3 n_1.L.length c_4, .int .i64 n_1.Lost]⟩, ⟨40, b_6, [.int .i64 0, .int .i64 0, .int .i64 0, .int .u64 0, .int .u64 0, .int .u64 0, .int .u64 0, .bool false, .slice none ([] : List T_api_Entry).length 0, .string (bs [])]⟩, ⟨41, b_12, [.int .i64 ((rdL n_1.L r_7).Kind), .int .i64 ((rdL n_1.L r_7).From), .int .i64 ((rdL n_1.L r_7).To), .int .u64 ((rdL n_1.L r_7).Term), .int .u64 ((rdL n_1.L r_7).Index), .int .u64 ((rdL n_1.L r_7).Prev), .int .u64 ((rdL n_1.L r_7).Commit), .bool ((rdL n_1.L r_7).Ok), .slice A_10 ((rdL n_1.L r_7).Entries).length c_11, .string (bs ((rdL n_1.L r_7).Data))]⟩]) (ps := []) (by kernel_rfl) trivial ?_
        refine GoO.regionEnd ?_
        refine GoO.inLoop ?_
        exact GoO.sub (ks := [0, 4, 6, 7, 8, 9]) (hk := [0, 1, 2]) (bk := [3, 4, 0]) (by kernel_rfl) (by kernel_rfl) (by kernel_rfl) (ih0 (l_13 ++ [(rdL n_1.L j_16)]) (wi64 (j_16 + 1)) A_25 c_26)
      · refine GoO.skip' c33_33e ?_
        refine GoO.inBlock ?_
        refine GoO.region' (is := [0, 1, 2]) c33_34e (by kernel_rfl) ?_
        refine GoO.exec (is := [0, 1, 2]) (hs := [.p, .p, .p]) (rest := []) (ks := [0, 4, 6, 7, 8, 9]) (env' := [(0, .pointer (some ⟨b_2, 0, none⟩)), (4, .pointer (some ⟨b_6, 0, none⟩)), (6, .int .i64 r_7), (7, .pointer (some ⟨b_12, 0, none⟩)), (8, .slice A_14 l_13.length c_15), (9, .int .i64 (wi64 (j_16 + 1)))]) (H' := [⟨1, b_2, [.slice A_3 n_1.L.length c_4, .int .i64 n_1.Lost]⟩, ⟨40, b_6, [.int .i64 0, .int .i64 0, .int .i64 0, .int .u64 0, .int .u64 0, .int .u64 0, .int .u64 0, .bool false, .slice none ([] : List T_api_Entry).length 0, .string (bs [])]⟩, ⟨41, b_12, [.int .i64 ((rdL n_1.L r_7).Kind), .int .i64 ((rdL n_1.L r_7).From), .int .i64 ((rdL n_1.L r_7).To), .int .u64 ((rdL n_1.L r_7).Term), .int .u64 ((rdL n_1.L r_7).Index), .int .u64 ((rdL n_1.L r_7).Prev), .int .u64 ((rdL n_1.L r_7).Commit), .bool ((rdL n_1.L r_7).Ok), .slice A_10 ((rdL n_1.L r_7).Entries).length c_11, .string (bs ((rdL n_1.L r_7).Data))]⟩]) (ps := []) (by kernel_rfl) trivial ?_
        refine GoO.regionEnd ?_
        refine GoO.inLoop ?_
        exact GoO.sub (ks := [0, 4, 6, 7, 8, 9]) (hk := [0, 1, 2]) (bk := [0, 1, 2]) (by kernel_rfl) (by kernel_rfl) (by kernel_rfl) (ih0 l_13 (wi64 (j_16 + 1)) A_14 c_15)
    · refine GoO.exit' c33_26e rfl ?_
      refine GoO.seq' c33_35e ?_
      refine GoO.region' (is := [0, 1, 2, 3, 4]) c33_36e (by kernel_rfl) ?_
      refine GoO.exec (is := [0, 1, 2, 3, 4]) (hs := [.p, .p, .p, .p, .b 0]) (rest := []) (ks := [4, 7]) (env' := [(4, .pointer (some ⟨b_6, 0, none⟩)), (7, .pointer (some ⟨b_12, 0, none⟩))]) (H' := [⟨1, b_2, [.slice A_14 l_13.length c_15, .int .i64 n_1.Lost]⟩, ⟨40, b_6, [.int .i64 0, .int .i64 0, .int .i64 0, .int .u64 0, .int .u64 0, .int .u64 0, .int .u64 0, .bool false, .slice none ([] : List T_api_Entry).length 0, .string (bs [])]⟩, ⟨41, b_12, [.int .i64 ((rdL n_1.L r_7).Kind), .int .i64 ((rdL n_1.L r_7).From), .int .i64 ((rdL n_1.L r_7).To), .int .u64 ((rdL n_1.L r_7).Term), .int .u64 ((rdL n_1.L r_7).Index), .int .u64 ((rdL n_1.L r_7).Prev), .int .u64 ((rdL n_1.L r_7).Commit), .bool ((rdL n_1.L r_7).Ok), .slice A_10 ((rdL n_1.L r_7).Entries).length c_11, .string (bs ((rdL n_1.L r_7).Data))]⟩]) (ps := [b_2 = b_2]) (by kernel_rfl) (And.intro rfl trivial) ?_
      refine GoO.regionEnd ?_
      refine GoO.seq' c33_37e ?_
      refine GoO.region' (is := [0, 1, 2]) c33_38e (by kernel_rfl) ?_
      refine GoO.exec (is := [0, 1, 2]) (hs := [.b 2, .b 1, .p]) (rest := []) (ks := [4, 5]) (env' := [(4, .pointer (some ⟨b_6, 0, none⟩)), (5, .bool true)]) (H' := [⟨1, b_2, [.slice A_14 l_13.length c_15, .int .i64 n_1.Lost]⟩, ⟨40, b_6, [.int .i64 ((rdL n_1.L r_7).Kind), .int .i64 ((rdL n_1.L r_7).From), .int .i64 ((rdL n_1.L r_7).To), .int .u64 ((rdL n_1.L r_7).Term), .int .u64 ((rdL n_1.L r_7).Index), .int .u64 ((rdL n_1.L r_7).Prev), .int .u64 ((rdL n_1.L r_7).Commit), .bool ((rdL n_1.L r_7).Ok), .slice A_10 ((rdL n_1.L r_7).Entries).length c_11, .string (bs ((rdL n_1.L r_7).Data))]⟩, ⟨41, b_12, [.int .i64 ((rdL n_1.L r_7).Kind), .int .i64 ((rdL n_1.L r_7).From), .int .i64 ((rdL n_1.L r_7).To), .int .u64 ((rdL n_1.L r_7).Term), .int .u64 ((rdL n_1.L r_7).Index), .int .u64 ((rdL n_1.L r_7).Prev), .int .u64 ((rdL n_1.L r_7).Commit), .bool ((rdL n_1.L r_7).Ok), .slice A_10 ((rdL n_1.L r_7).Entries).length c_11, .string (bs ((rdL n_1.L r_7).Data))]⟩]) (ps := [b_12 = b_12, b_6 = b_6]) (by kernel_rfl) (And.intro rfl (And.intro rfl trivial)) ?_
      refine GoO.regionEnd ?_
      refine GoO.sub (ks := [4, 5]) (env' := [(4, .pointer (some ⟨b_6, 0, none⟩)), (5, .bool true)]) (hk := [0, 1, 2]) (bk := [1, 2]) (by kernel_rfl) rfl rfl ?_
      refine GoO.retag (t := 43) (u := 2) (j := 1) (hk := [0, 1, 2]) (bk := [0]) rfl rfl rfl rfl rfl rfl (by kernel_rfl) (by kernel_rfl) ?_
      exact GoO.ret' (h := c33_39e) (hs := [1]) (ps := [b_6 = b_6]) (hk := [0]) (bk := [1, 0]) Try.func33 (⟨A_10, c_11, A_14, c_15⟩ : Option Addr × Nat × Option Addr × Nat) (by kernel_rfl) (And.intro rfl trivial) (by kernel_rfl) (by kernel_rfl)
theorem tontineref10_Net_Take_ok (n : Nat) (n_1 : T_tontineref10_Net) (i_5 : Int) (b_2 : Nat) (A_3 : Option Addr) (c_4 : Nat) :
    Meets Try.prog 33 [.pointer (some ⟨b_2, 0, none⟩), .int .i64 i_5] 2 [1, 2] [⟨1, b_2, [.slice A_3 n_1.L.length c_4, .int .i64 n_1.Lost]⟩] [Ow 2 kT_api_Letter A_3 c_4 n_1.L] (tontineref10_Net_Take.f n n_1 i_5) (tontineref10_Net_Take.R b_2 A_3 c_4) := by
  refine Meets.of (c := c33_0) (n := 50) Try.func33 (by kernel_rfl) (by kernel_rfl) (by kernel_rfl) fun w0 S0 => ?_
  unfold tontineref10_Net_Take.f
  show GoO (tontineref10_Net_Take.cx b_2 A_3 c_4 w0 S0) [(0, .pointer (some ⟨b_2, 0, none⟩)), (1, .int .i64 i_5)] [⟨1, b_2, [.slice A_3 n_1.L.length c_4, .int .i64 n_1.Lost]⟩] [Ow 2 kT_api_Letter A_3 c_4 n_1.L] [.code c33_0] _
  refine GoO.seq' c33_0e ?_
  refine GoO.region' (is := [0, 1]) c33_1e (by kernel_rfl) ?_
  refine OpTo.go (GoO.new rfl 40 (cs := [.int .i64 0, .int .i64 0, .int .i64 0, .int .u64 0, .int .u64 0, .int .u64 0, .int .u64 0, .bool false, .slice none ([] : List T_api_Entry).length 0, .string (bs [])]) (by kernel_rfl) _ (fun _ => rfl) (fun b_6 => ?_))
  refine GoO.exec (is := [1]) (hs := [.p]) (rest := []) (ks := [0, 1, 4]) (env' := [(0, .pointer (some ⟨b_2, 0, none⟩)), (1, .int .i64 i_5), (4, .pointer (some ⟨b_6, 0, none⟩))]) (H' := [⟨40, b_6, [.int .i64 0, .int .i64 0, .int .i64 0, .int .u64 0, .int .u64 0, .int .u64 0, .int .u64 0, .bool false, .slice none ([] : List T_api_Entry).length 0, .string (bs [])]⟩, ⟨1, b_2, [.slice A_3 n_1.L.length c_4, .int .i64 n_1.Lost]⟩]) (ps := []) (by kernel_rfl) trivial ?_
  refine GoO.regionEnd ?_
  refine GoO.seq' c33_2e ?_
  refine GoO.region' (is := [0, 1, 2, 3]) c33_3e (by kernel_rfl) ?_
  refine GoO.exec (is := [0, 1]) (hs := [.p, .p]) (rest := [2, 3]) (ks := [0, 4, 10, 11]) (env' := [(0, .pointer (some ⟨b_2, 0, none⟩)), (4, .pointer (some ⟨b_6, 0, none⟩)), (10, .pointer (some ⟨b_2, 0, none⟩)), (11, .int .i64 i_5)]) (H' := [⟨40, b_6, [.int .i64 0, .int .i64 0, .int .i64 0, .int .u64 0, .int .u64 0, .int .u64 0, .int .u64 0, .bool false, .slice none ([] : List T_api_Entry).length 0, .string (bs [])]⟩, ⟨1, b_2, [.slice A_3 n_1.L.length c_4, .int .i64 n_1.Lost]⟩]) (ps := []) (by kernel_rfl) trivial ?_
  refine OpTo.go (GoO.call rfl (by kernel_rfl) (by kernel_rfl) (tontineref10_Net_Place_ok n n_1 i_5 b_2 A_3 c_4) [[0], [1], [2]] [] [(1, 1)] [(2, 0)] (hks := [0, 1]) (bks := [0]) (by kernel_rfl) (by kernel_rfl) (by kernel_rfl) (.inl rfl) rfl rfl (by kernel_rfl) (by kernel_rfl) _ (fun _ _ => rfl) _ _ (fun _ _ => rfl) (fun _ _ => rfl) (fun _ _ => by kernel_rfl) (fun _ _ => by kernel_rfl) (fun r_7 x_27 => ?_))
  refine GoO.shape (env' := [(0, .pointer (some ⟨b_2, 0, none⟩)), (4, .pointer (some ⟨b_6, 0, none⟩)), (10, .pointer (some ⟨b_2, 0, none⟩)), (11, .int .i64 i_5), (12, .int .i64 r_7)]) (H' := [⟨40, b_6, [.int .i64 0, .int .i64 0, .int .i64 0, .int .u64 0, .int .u64 0, .int .u64 0, .int .u64 0, .bool false, .slice none ([] : List T_api_Entry).length 0, .string (bs [])]⟩, ⟨1, b_2, [.slice A_3 n_1.L.length c_4, .int .i64 n_1.Lost]⟩]) (B' := [Ow 2 kT_api_Letter A_3 c_4 n_1.L]) (ks := [0, 4, 10, 11, 12]) (by kernel_rfl) (by kernel_rfl) (by kernel_rfl) ?_
  refine GoO.exec (is := [3]) (hs := [.p]) (rest := []) (ks := [0, 4, 6]) (env' := [(0, .pointer (some ⟨b_2, 0, none⟩)), (4, .pointer (some ⟨b_6, 0, none⟩)), (6, .int .i64 r_7)]) (H' := [⟨40, b_6, [.int .i64 0, .int .i64 0, .int .i64 0, .int .u64 0, .int .u64 0, .int .u64 0, .int .u64 0, .bool false, .slice none ([] : List T_api_Entry).length 0, .string (bs [])]⟩, ⟨1, b_2, [.slice A_3 n_1.L.length c_4, .int .i64 n_1.Lost]⟩]) (ps := []) (by kernel_rfl) trivial ?_
  refine GoO.regionEnd ?_
  refine GoO.seq' c33_4e ?_
  refine GoO.seq' c33_5e ?_
  refine GoO.region' (is := [0, 1]) c33_6e (by kernel_rfl) ?_
  refine GoO.exec (is := [0, 1]) (hs := [.p, .p]) (rest := []) (ks := [0, 4, 6, 14]) (env' := [(0, .pointer (some ⟨b_2, 0, none⟩)), (4, .pointer (some ⟨b_6, 0, none⟩)), (6, .int .i64 r_7), (14, .bool (decide (r_7 < 0)))]) (H' := [⟨40, b_6, [.int .i64 0, .int .i64 0, .int .i64 0, .int .u64 0, .int .u64 0, .int .u64 0, .int .u64 0, .bool false, .slice none ([] : List T_api_Entry).length 0, .string (bs [])]⟩, ⟨1, b_2, [.slice A_3 n_1.L.length c_4, .int .i64 n_1.Lost]⟩]) (ps := []) (by kernel_rfl) trivial ?_
  refine GoO.regionEnd ?_
  refine GoO.ite' c33_7e (by kernel_rfl) (fun h8 => ?_) (fun h8 => ?_)
  · refine GoO.seq' c33_8e ?_
    refine GoO.region' (is := [0, 1, 2]) c33_9e (by kernel_rfl) ?_
    refine GoO.exec (is := [0, 1, 2]) (hs := [.p, .b 0, .p]) (rest := []) (ks := [4, 5]) (env' := [(4, .pointer (some ⟨b_6, 0, none⟩)), (5, .bool false)]) (H' := [⟨40, b_6, [.int .i64 0, .int .i64 0, .int .i64 0, .int .u64 0, .int .u64 0, .int .u64 0, .int .u64 0, .bool false, .slice none ([] : List T_api_Entry).length 0, .string (bs [])]⟩, ⟨1, b_2, [.slice A_3 n_1.L.length c_4, .int .i64 n_1.Lost]⟩]) (ps := [b_6 = b_6]) (by kernel_rfl) (And.intro rfl trivial) ?_
    refine GoO.regionEnd ?_
    refine GoO.nilRd kT_api_Entry ?_
    exact GoO.ret' (h := c33_10e) (hs := [0]) (ps := [b_6 = b_6]) (hk := [1]) (bk := [0, 1]) Try.func33 (⟨none, 0, A_3, c_4⟩ : Option Addr × Nat × Option Addr × Nat) (by kernel_rfl) (And.intro rfl trivial) (by kernel_rfl) (by kernel_rfl)
  · refine GoO.skip' c33_11e ?_
    refine GoO.seq' c33_12e ?_
    refine GoO.region' (is := [0, 1, 2, 3, 4, 5, 6, 7, 8]) c33_13e (by kernel_rfl) ?_
    refine GoO.exec (is := [0, 1, 2, 3, 4]) (hs := [.p, .p, .p, .b 1, .p]) (rest := [5, 6, 7, 8]) (ks := [0, 4, 6, 19, 20]) (env' := [(0, .pointer (some ⟨b_2, 0, none⟩)), (4, .pointer (some ⟨b_6, 0, none⟩)), (6, .int .i64 r_7), (19, .slice A_3 n_1.L.length c_4), (20, .int .i64 r_7)]) (H' := [⟨40, b_6, [.int .i64 0, .int .i64 0, .int .i64 0, .int .u64 0, .int .u64 0, .int .u64 0, .int .u64 0, .bool false, .slice none ([] : List T_api_Entry).length 0, .string (bs [])]⟩, ⟨1, b_2, [.slice A_3 n_1.L.length c_4, .int .i64 n_1.Lost]⟩]) (ps := [b_2 = b_2]) (by kernel_rfl) (And.intro rfl trivial) ?_
    refine GoO.guard (fun h9 => ?_)
    refine OpTo.go (GoO.idx (kk := .i64) (e := 29) (K := kT_api_Letter) (A := A_3) (c := c_4) (xs := n_1.L) (iv := r_7) (j := 0) rfl (by kernel_rfl) (by kernel_rfl) (by kernel_rfl) (by kernel_rfl) rfl Reads.own rfl h9.1 h9.2 (by decide) rfl ?_)
    refine OpTo.go (GoO.ldE' (K := kT_api_Letter) (A := A_3) (c := c_4) (xs := n_1.L) (iN := r_7.toNat) (off := 0) (j := 0) rfl (by kernel_rfl) rfl Reads.own (by first | exact idx_lt h9.1 h9.2 | (simp only [List.length_set]; exact idx_lt h9.1 h9.2)) (by decide) (oT_api_Letter _) (v := fun e => .agg ⟨[.int .i64 ((rdL n_1.L r_7).Kind), .int .i64 ((rdL n_1.L r_7).From), .int .i64 ((rdL n_1.L r_7).To), .int .u64 ((rdL n_1.L r_7).Term), .int .u64 ((rdL n_1.L r_7).Index), .int .u64 ((rdL n_1.L r_7).Prev), .int .u64 ((rdL n_1.L r_7).Commit), .bool ((rdL n_1.L r_7).Ok), .slice e.1 ((rdL n_1.L r_7).Entries).length e.2, .string (bs ((rdL n_1.L r_7).Data))]⟩) (fun _ => by kernel_rfl) _ (fun _ => rfl) ?_)
    rintro ⟨A_10, c_11⟩
    refine OpTo.go (GoO.new rfl 41 (cs := [.int .i64 0, .int .i64 0, .int .i64 0, .int .u64 0, .int .u64 0, .int .u64 0, .int .u64 0, .bool false, .slice none ([] : List T_api_Entry).length 0, .string (bs [])]) (by kernel_rfl) _ (fun _ => rfl) (fun b_12 => ?_))
    refine GoO.exec (is := [8]) (hs := [.b 0]) (rest := []) (ks := [0, 4, 6, 7]) (env' := [(0, .pointer (some ⟨b_2, 0, none⟩)), (4, .pointer (some ⟨b_6, 0, none⟩)), (6, .int .i64 r_7), (7, .pointer (some ⟨b_12, 0, none⟩))]) (H' := [⟨41, b_12, [.int .i64 ((rdL n_1.L r_7).Kind), .int .i64 ((rdL n_1.L r_7).From), .int .i64 ((rdL n_1.L r_7).To), .int .u64 ((rdL n_1.L r_7).Term), .int .u64 ((rdL n_1.L r_7).Index), .int .u64 ((rdL n_1.L r_7).Prev), .int .u64 ((rdL n_1.L r_7).Commit), .bool ((rdL n_1.L r_7).Ok), .slice A_10 ((rdL n_1.L r_7).Entries).length c_11, .string (bs ((rdL n_1.L r_7).Data))]⟩, ⟨40, b_6, [.int .i64 0, .int .i64 0, .int .i64 0, .int .u64 0, .int .u64 0, .int .u64 0, .int .u64 0, .bool false, .slice none ([] : List T_api_Entry).length 0, .string (bs [])]⟩, ⟨1, b_2, [.slice A_3 n_1.L.length c_4, .int .i64 n_1.Lost]⟩]) (ps := [b_12 = b_12]) (by kernel_rfl) (And.intro rfl trivial) ?_
    refine GoO.regionEnd ?_
    refine GoO.seq' c33_14e ?_
    refine GoO.region' (is := [0]) c33_15e (by kernel_rfl) ?_
    refine GoO.exec (is := [0]) (hs := [.p]) (rest := []) (ks := [0, 4, 6, 7, 8]) (env' := [(0, .pointer (some ⟨b_2, 0, none⟩)), (4, .pointer (some ⟨b_6, 0, none⟩)), (6, .int .i64 r_7), (7, .pointer (some ⟨b_12, 0, none⟩)), (8, .slice none ([] : List T_api_Letter).length 0)]) (H' := [⟨41, b_12, [.int .i64 ((rdL n_1.L r_7).Kind), .int .i64 ((rdL n_1.L r_7).From), .int .i64 ((rdL n_1.L r_7).To), .int .u64 ((rdL n_1.L r_7).Term), .int .u64 ((rdL n_1.L r_7).Index), .int .u64 ((rdL n_1.L r_7).Prev), .int .u64 ((rdL n_1.L r_7).Commit), .bool ((rdL n_1.L r_7).Ok), .slice A_10 ((rdL n_1.L r_7).Entries).length c_11, .string (bs ((rdL n_1.L r_7).Data))]⟩, ⟨40, b_6, [.int .i64 0, .int .i64 0, .int .i64 0, .int .u64 0, .int .u64 0, .int .u64 0, .int .u64 0, .bool false, .slice none ([] : List T_api_Entry).length 0, .string (bs [])]⟩, ⟨1, b_2, [.slice A_3 n_1.L.length c_4, .int .i64 n_1.Lost]⟩]) (ps := []) (by kernel_rfl) trivial ?_
    refine GoO.regionEnd ?_
    refine GoO.seq' c33_16e ?_
    refine GoO.seq' c33_17e ?_
    refine GoO.region' (is := [0]) c33_18e (by kernel_rfl) ?_
    refine GoO.exec (is := [0]) (hs := [.p]) (rest := []) (ks := [0, 4, 6, 7, 8, 9]) (env' := [(0, .pointer (some ⟨b_2, 0, none⟩)), (4, .pointer (some ⟨b_6, 0, none⟩)), (6, .int .i64 r_7), (7, .pointer (some ⟨b_12, 0, none⟩)), (8, .slice none ([] : List T_api_Letter).length 0), (9, .int .i64 0)]) (H' := [⟨41, b_12, [.int .i64 ((rdL n_1.L r_7).Kind), .int .i64 ((rdL n_1.L r_7).From), .int .i64 ((rdL n_1.L r_7).To), .int .u64 ((rdL n_1.L r_7).Term), .int .u64 ((rdL n_1.L r_7).Index), .int .u64 ((rdL n_1.L r_7).Prev), .int .u64 ((rdL n_1.L r_7).Commit), .bool ((rdL n_1.L r_7).Ok), .slice A_10 ((rdL n_1.L r_7).Entries).length c_11, .string (bs ((rdL n_1.L r_7).Data))]⟩, ⟨40, b_6, [.int .i64 0, .int .i64 0, .int .i64 0, .int .u64 0, .int .u64 0, .int .u64 0, .int .u64 0, .bool false, .slice none ([] : List T_api_Entry).length 0, .string (bs [])]⟩, ⟨1, b_2, [.slice A_3 n_1.L.length c_4, .int .i64 n_1.Lost]⟩]) (ps := []) (by kernel_rfl) trivial ?_
    refine GoO.regionEnd ?_
    refine GoO.block' c33_19e ?_
    refine GoO.loop' c33_20e ?_
    refine GoO.nilOwn kT_api_Letter 43 ?_
    exact GoO.sub (ks := [0, 4, 6, 7, 8, 9]) (hk := [2, 1, 0]) (bk := [2, 1, 0]) (by kernel_rfl) (by kernel_rfl) (by kernel_rfl) (tontineref10_Net_Take_l0_ok n n_1 r_7 b_2 A_3 c_4 b_6 A_10 c_11 b_12 w0 S0 n ([] : List T_api_Letter) 0 none 0)

/-! tontine/tontineref07.Same -/
noncomputable def c40_0 : Code := bodyOf Try.f40
noncomputable def c40_1 : Code := cdL c40_0
noncomputable def c40_2 : Code := cdR c40_0
noncomputable def c40_3 : Code := cdL c40_2
noncomputable def c40_4 : Code := cdL c40_3
noncomputable def c40_5 : Code := cdR c40_3
noncomputable def c40_6 : Code := cdL c40_5
noncomputable def c40_7 : Code := cdL c40_6
noncomputable def c40_8 : Code := cdR c40_6
noncomputable def c40_9 : Code := cdR c40_5
noncomputable def c40_10 : Code := cdR c40_2
noncomputable def c40_11 : Code := cdL c40_10
noncomputable def c40_12 : Code := cdL c40_11
noncomputable def c40_13 : Code := cdR c40_11
noncomputable def c40_14 : Code := cdL c40_13
noncomputable def c40_15 : Code := cdL c40_14
noncomputable def c40_16 : Code := cdL c40_15
noncomputable def c40_17 : Code := cdL c40_16
noncomputable def c40_18 : Code := cdR c40_16
noncomputable def c40_19 : Code := cdL c40_18
noncomputable def c40_20 : Code := cdR c40_18
noncomputable def c40_21 : Code := cdR c40_15
noncomputable def c40_22 : Code := cdL c40_21
noncomputable def c40_23 : Code := cdL c40_22
noncomputable def c40_24 : Code := cdL c40_23
noncomputable def c40_25 : Code := cdR c40_23
noncomputable def c40_26 : Code := cdL c40_25
noncomputable def c40_27 : Code := cdL c40_26
noncomputable def c40_28 : Code := cdR c40_26
noncomputable def c40_29 : Code := cdR c40_25
noncomputable def c40_30 : Code := cdR c40_21
noncomputable def c40_31 : Code := cdR c40_10
noncomputable def c40_32 : Code := cdL c40_31
noncomputable def c40_33 : Code := cdR c40_31
noncomputable def r40_1 : Array Oper := cdO c40_1
noncomputable def r40_4 : Array Oper := cdO c40_4
noncomputable def r40_7 : Array Oper := cdO c40_7
noncomputable def r40_12 : Array Oper := cdO c40_12
noncomputable def r40_17 : Array Oper := cdO c40_17
noncomputable def r40_24 : Array Oper := cdO c40_24
noncomputable def r40_27 : Array Oper := cdO c40_27
noncomputable def r40_30 : Array Oper := cdO c40_30
noncomputable def r40_32 : Array Oper := cdO c40_32
theorem c40_0e : c40_0 = .seq c40_1 c40_2 := by kernel_rfl
theorem c40_1e : c40_1 = .region 0 r40_1 false := by kernel_rfl
theorem c40_2e : c40_2 = .seq c40_3 c40_10 := by kernel_rfl
theorem c40_3e : c40_3 = .seq c40_4 c40_5 := by kernel_rfl
theorem c40_4e : c40_4 = .region 1 r40_4 false := by kernel_rfl
theorem c40_5e : c40_5 = .cond (cdC c40_5) c40_6 c40_9 := by kernel_rfl
theorem c40_6e : c40_6 = .seq c40_7 c40_8 := by kernel_rfl
theorem c40_7e : c40_7 = .region 2 r40_7 false := by kernel_rfl
theorem c40_8e : c40_8 = .ret := by kernel_rfl
theorem c40_9e : c40_9 = .skip := by kernel_rfl
theorem c40_10e : c40_10 = .seq c40_11 c40_31 := by kernel_rfl
theorem c40_11e : c40_11 = .seq c40_12 c40_13 := by kernel_rfl
theorem c40_12e : c40_12 = .region 3 r40_12 false := by kernel_rfl
theorem c40_13e : c40_13 = .block 0 c40_14 := by kernel_rfl
theorem c40_14e : c40_14 = .loop c40_15 := by kernel_rfl
theorem c40_15e : c40_15 = .seq c40_16 c40_21 := by kernel_rfl
theorem c40_16e : c40_16 = .seq c40_17 c40_18 := by kernel_rfl
theorem c40_17e : c40_17 = .region 4 r40_17 false := by kernel_rfl
theorem c40_18e : c40_18 = .cond (cdC c40_18) c40_19 c40_20 := by kernel_rfl
theorem c40_19e : c40_19 = .skip := by kernel_rfl
theorem c40_20e : c40_20 = .exit 0 := by kernel_rfl
theorem c40_21e : c40_21 = .seq c40_22 c40_30 := by kernel_rfl
theorem c40_22e : c40_22 = .block 1 c40_23 := by kernel_rfl
theorem c40_23e : c40_23 = .seq c40_24 c40_25 := by kernel_rfl
theorem c40_24e : c40_24 = .region 6 r40_24 true := by kernel_rfl
theorem c40_25e : c40_25 = .cond (cdC c40_25) c40_26 c40_29 := by kernel_rfl
theorem c40_26e : c40_26 = .seq c40_27 c40_28 := by kernel_rfl
theorem c40_27e : c40_27 = .region 7 r40_27 false := by kernel_rfl
theorem c40_28e : c40_28 = .ret := by kernel_rfl
theorem c40_29e : c40_29 = .skip := by kernel_rfl
theorem c40_30e : c40_30 = .region 5 r40_30 false := by kernel_rfl
theorem c40_31e : c40_31 = .seq c40_32 c40_33 := by kernel_rfl
theorem c40_32e : c40_32 = .region 8 r40_32 false := by kernel_rfl
theorem c40_33e : c40_33 = .ret := by kernel_rfl
noncomputable def tontineref07_Same.R (A_2 : Option Addr) (c_3 : Nat) (A_5 : Option Addr) (c_6 : Nat) : Pst Bool where
  ε := Unit
  v := fun r x => .bool r
  H := fun r x => []
  B := fun r x => []
noncomputable def tontineref07_Same.cx (A_2 : Option Addr) (c_3 : Nat) (A_5 : Option Addr) (c_6 : Nat) (w0 : World) (S0 : Fam) : Cx Bool := ⟨Try.prog, 40, Try.f40, 26, w0, S0, [], 0, tontineref07_Same.R A_2 c_3 A_5 c_6⟩
theorem tontineref07_Same_l0_ok (n : Nat) (a_1 : (List T_api_Entry)) (b_4 : (List T_api_Entry)) (A_2 : Option Addr) (c_3 : Nat) (A_5 : Option Addr) (c_6 : Nat) (w0 : World) (S0 : Fam) :
    ∀ (k : Nat) (i_8 : Int), GoO (tontineref07_Same.cx A_2 c_3 A_5 c_6 w0 S0) [(0, .slice A_2 a_1.length c_3), (1, .slice A_5 b_4.length c_6), (5, .int .i64 i_8)] [] [Rd 0 kT_api_Entry A_2 c_3 a_1, Rd 0 kT_api_Entry A_5 c_6 b_4] [.code c40_15, .inLoop c40_15, .inBlock 0, .code c40_31] (tontineref07_Same.l0 n a_1 b_4 k i_8) := by
  intro k
  induction k with
  | zero => intros; rw [tontineref07_Same.l0.eq_1]; exact GoO.stop
  | succ k ih0 =>
    intro i_8
    rw [tontineref07_Same.l0.eq_2]
    refine GoO.seq' c40_15e ?_
    refine GoO.seq' c40_16e ?_
    refine GoO.region' (is := [0, 1, 2, 3]) c40_17e (by kernel_rfl) ?_
    refine GoO.exec (is := [0, 1, 2, 3]) (hs := [.p, .p, .p, .p]) (rest := []) (ks := [0, 1, 5, 14]) (env' := [(0, .slice A_2 a_1.length c_3), (1, .slice A_5 b_4.length c_6), (5, .int .i64 i_8), (14, .bool (decide (i_8 < (a_1.length : Int))))]) (H' := []) (ps := []) (by kernel_rfl) trivial ?_
    refine GoO.regionEnd ?_
    refine GoO.ite' c40_18e (by kernel_rfl) (fun h9 => ?_) (fun h9 => ?_)
    · refine GoO.skip' c40_19e ?_
      refine GoO.seq' c40_21e ?_
      refine GoO.block' c40_22e ?_
      refine GoO.seq' c40_23e ?_
      refine GoO.draw c40_24e (by kernel_rfl) [] [] [Rd 0 kT_api_Entry A_2 c_3 a_1, Rd 0 kT_api_Entry A_5 c_6 b_4] (n := 9) (by kernel_rfl) ?_
      simp only [List.replicate]
      refine GoF.take [0, 1, 4, 5] [.p, .p, .p, .p] (ks := [0, 1, 5, 17, 18, 21, 22]) (fu := 5) (li := [true, true, false, false, true, true, false, false, false]) (env' := [(0, .slice A_2 a_1.length c_3), (1, .slice A_5 b_4.length c_6), (5, .int .i64 i_8), (17, .slice A_2 a_1.length c_3), (18, .int .i64 i_8), (21, .slice A_5 b_4.length c_6), (22, .int .i64 i_8)]) (ps := []) (hk := []) (bk := [0, 1]) (by kernel_rfl) trivial rfl rfl ?_
      refine GoF.guard (fun h10 => ?_)
      refine GoF.idx (i := 2) (hk := []) (bk := [0, 1]) (kk := .i64) (e := 88) (K := kT_api_Entry) (A := A_2) (c := c_3) (xs := a_1) (iv := i_8) (j := 0) (by kernel_rfl) rfl rfl rfl (by kernel_rfl) (by kernel_rfl) (by kernel_rfl) (by kernel_rfl) rfl Reads.rd rfl h10.1 h10.2 (by decide) rfl ?_
      refine GoF.ldE (i := 3) (hk := []) (bk := [0, 1]) (K := kT_api_Entry) (A := A_2) (c := c_3) (xs := a_1) (iN := i_8.toNat) (off := 0) (j := 0) (v := .agg ⟨[.int .u64 ((rdL a_1 i_8).Term), .int .u64 ((rdL a_1 i_8).Index), .int .i64 ((rdL a_1 i_8).Kind), .string (bs ((rdL a_1 i_8).Data))]⟩) (by kernel_rfl) rfl rfl rfl (hK := rfl) (by kernel_rfl) rfl Reads.rd (by first | exact idx_lt h10.1 h10.2 | (simp only [List.length_set]; exact idx_lt h10.1 h10.2)) (by decide) (by kernel_rfl) rfl ?_
      refine GoF.guard (fun h11 => ?_)
      refine GoF.idx (i := 6) (hk := []) (bk := [0, 1]) (kk := .i64) (e := 88) (K := kT_api_Entry) (A := A_5) (c := c_6) (xs := b_4) (iv := i_8) (j := 1) (by kernel_rfl) rfl rfl rfl (by kernel_rfl) (by kernel_rfl) (by kernel_rfl) (by kernel_rfl) rfl Reads.rd rfl h11.1 h11.2 (by decide) rfl ?_
      refine GoF.ldE (i := 7) (hk := []) (bk := [0, 1]) (K := kT_api_Entry) (A := A_5) (c := c_6) (xs := b_4) (iN := i_8.toNat) (off := 0) (j := 1) (v := .agg ⟨[.int .u64 ((rdL b_4 i_8).Term), .int .u64 ((rdL b_4 i_8).Index), .int .i64 ((rdL b_4 i_8).Kind), .string (bs ((rdL b_4 i_8).Data))]⟩) (by kernel_rfl) rfl rfl rfl (hK := rfl) (by kernel_rfl) rfl Reads.rd (by first | exact idx_lt h11.1 h11.2 | (simp only [List.length_set]; exact idx_lt h11.1 h11.2)) (by decide) (by kernel_rfl) rfl ?_
      refine GoF.take [8] [.p] (ks := [0, 1, 5, 25]) (fu := 0) (li := [true, true, true, true, true, true, true, true, true]) (env' := [(0, .slice A_2 a_1.length c_3), (1, .slice A_5 b_4.length c_6), (5, .int .i64 i_8), (25, .bool (!((((rdL a_1 i_8).Term) == ((rdL b_4 i_8).Term)) && ((((rdL a_1 i_8).Index) == ((rdL b_4 i_8).Index)) && ((((rdL a_1 i_8).Kind) == ((rdL b_4 i_8).Kind)) && ((((rdL a_1 i_8).Data) == ((rdL b_4 i_8).Data)) && true))))))]) (ps := []) (hk := []) (bk := [0, 1]) (by kernel_rfl) trivial rfl rfl ?_
      refine GoF.done (by kernel_rfl) ?_
      refine GoO.ite' c40_25e (by kernel_rfl) (fun h12 => ?_) (fun h12 => ?_)
      · refine GoO.seq' c40_26e ?_
        refine GoO.region' (is := [0]) c40_27e (by kernel_rfl) ?_
        refine GoO.exec (is := [0]) (hs := [.p]) (rest := []) (ks := [4]) (env' := [(4, .bool false)]) (H' := []) (ps := []) (by kernel_rfl) trivial ?_
        refine GoO.regionEnd ?_
        exact GoO.ret' (h := c40_28e) (hs := []) (ps := []) (hk := []) (bk := []) Try.func40 () (by kernel_rfl) trivial (by kernel_rfl) (by kernel_rfl)
      · refine GoO.skip' c40_29e ?_
        refine GoO.inBlock ?_
        refine GoO.region' (is := [0, 1, 2]) c40_30e (by kernel_rfl) ?_
        refine GoO.exec (is := [0, 1, 2]) (hs := [.p, .p, .p]) (rest := []) (ks := [0, 1, 5]) (env' := [(0, .slice A_2 a_1.length c_3), (1, .slice A_5 b_4.length c_6), (5, .int .i64 (wi64 (i_8 + 1)))]) (H' := []) (ps := []) (by kernel_rfl) trivial ?_
        refine GoO.regionEnd ?_
        refine GoO.inLoop ?_
        exact GoO.sub (ks := [0, 1, 5]) (hk := []) (bk := [0, 1]) (by kernel_rfl) (by kernel_rfl) (by kernel_rfl) (ih0 (wi64 (i_8 + 1)))
    · refine GoO.exit' c40_20e rfl ?_
      refine GoO.seq' c40_31e ?_
      refine GoO.region' (is := [0]) c40_32e (by kernel_rfl) ?_
      refine GoO.exec (is := [0]) (hs := [.p]) (rest := []) (ks := [4]) (env' := [(4, .bool true)]) (H' := []) (ps := []) (by kernel_rfl) trivial ?_
      refine GoO.regionEnd ?_
      exact GoO.ret' (h := c40_33e) (hs := []) (ps := []) (hk := []) (bk := []) Try.func40 () (by kernel_rfl) trivial (by kernel_rfl) (by kernel_rfl)
theorem tontineref07_Same_ok (n : Nat) (a_1 : (List T_api_Entry)) (b_4 : (List T_api_Entry)) (A_2 : Option Addr) (c_3 : Nat) (A_5 : Option Addr) (c_6 : Nat) :
    Meets Try.prog 40 [.slice A_2 a_1.length c_3, .slice A_5 b_4.length c_6] 0 [] [] [Rd 0 kT_api_Entry A_2 c_3 a_1, Rd 0 kT_api_Entry A_5 c_6 b_4] (tontineref07_Same.f n a_1 b_4) (tontineref07_Same.R A_2 c_3 A_5 c_6) := by
  refine Meets.of (c := c40_0) (n := 26) Try.func40 (by kernel_rfl) (by kernel_rfl) (by kernel_rfl) fun w0 S0 => ?_
  unfold tontineref07_Same.f
  show GoO (tontineref07_Same.cx A_2 c_3 A_5 c_6 w0 S0) [(0, .slice A_2 a_1.length c_3), (1, .slice A_5 b_4.length c_6)] [] [Rd 0 kT_api_Entry A_2 c_3 a_1, Rd 0 kT_api_Entry A_5 c_6 b_4] [.code c40_0] _
  refine GoO.seq' c40_0e ?_
  refine GoO.region' (is := [0]) c40_1e (by kernel_rfl) ?_
  refine GoO.exec (is := [0]) (hs := [.p]) (rest := []) (ks := [0, 1]) (env' := [(0, .slice A_2 a_1.length c_3), (1, .slice A_5 b_4.length c_6)]) (H' := []) (ps := []) (by kernel_rfl) trivial ?_
  refine GoO.regionEnd ?_
  refine GoO.seq' c40_2e ?_
  refine GoO.seq' c40_3e ?_
  refine GoO.region' (is := [0, 1, 2, 3, 4]) c40_4e (by kernel_rfl) ?_
  refine GoO.exec (is := [0, 1, 2, 3, 4]) (hs := [.p, .p, .p, .p, .p]) (rest := []) (ks := [0, 1, 10]) (env' := [(0, .slice A_2 a_1.length c_3), (1, .slice A_5 b_4.length c_6), (10, .bool ((a_1.length : Int) != (b_4.length : Int)))]) (H' := []) (ps := []) (by kernel_rfl) trivial ?_
  refine GoO.regionEnd ?_
  refine GoO.ite' c40_5e (by kernel_rfl) (fun h7 => ?_) (fun h7 => ?_)
  · refine GoO.seq' c40_6e ?_
    refine GoO.region' (is := [0]) c40_7e (by kernel_rfl) ?_
    refine GoO.exec (is := [0]) (hs := [.p]) (rest := []) (ks := [4]) (env' := [(4, .bool false)]) (H' := []) (ps := []) (by kernel_rfl) trivial ?_
    refine GoO.regionEnd ?_
    exact GoO.ret' (h := c40_8e) (hs := []) (ps := []) (hk := []) (bk := []) Try.func40 () (by kernel_rfl) trivial (by kernel_rfl) (by kernel_rfl)
  · refine GoO.skip' c40_9e ?_
    refine GoO.seq' c40_10e ?_
    refine GoO.seq' c40_11e ?_
    refine GoO.region' (is := [0]) c40_12e (by kernel_rfl) ?_
    refine GoO.exec (is := [0]) (hs := [.p]) (rest := []) (ks := [0, 1, 5]) (env' := [(0, .slice A_2 a_1.length c_3), (1, .slice A_5 b_4.length c_6), (5, .int .i64 0)]) (H' := []) (ps := []) (by kernel_rfl) trivial ?_
    refine GoO.regionEnd ?_
    refine GoO.block' c40_13e ?_
    refine GoO.loop' c40_14e ?_
    exact GoO.sub (ks := [0, 1, 5]) (hk := []) (bk := [0, 1]) (by kernel_rfl) (by kernel_rfl) (by kernel_rfl) (tontineref07_Same_l0_ok n a_1 b_4 A_2 c_3 A_5 c_6 w0 S0 n 0)

/-! tontine/tontineref10.Same -/
noncomputable def c20_0 : Code := bodyOf Try.f20
noncomputable def c20_1 : Code := cdL c20_0
noncomputable def c20_2 : Code := cdR c20_0
noncomputable def c20_3 : Code := cdL c20_2
noncomputable def c20_4 : Code := cdR c20_2
noncomputable def r20_1 : Array Oper := cdO c20_1
noncomputable def r20_3 : Array Oper := cdO c20_3
theorem c20_0e : c20_0 = .seq c20_1 c20_2 := by kernel_rfl
theorem c20_1e : c20_1 = .region 0 r20_1 false := by kernel_rfl
theorem c20_2e : c20_2 = .seq c20_3 c20_4 := by kernel_rfl
theorem c20_3e : c20_3 = .region 1 r20_3 false := by kernel_rfl
theorem c20_4e : c20_4 = .ret := by kernel_rfl
noncomputable def tontineref10_Same.R (A_2 : Option Addr) (c_3 : Nat) (A_5 : Option Addr) (c_6 : Nat) : Pst Bool where
  ε := Unit
  v := fun r x => .bool r
  H := fun r x => []
  B := fun r x => []
noncomputable def tontineref10_Same.cx (A_2 : Option Addr) (c_3 : Nat) (A_5 : Option Addr) (c_6 : Nat) (w0 : World) (S0 : Fam) : Cx Bool := ⟨Try.prog, 20, Try.f20, 73, w0, S0, [], 0, tontineref10_Same.R A_2 c_3 A_5 c_6⟩
theorem tontineref10_Same_ok (n : Nat) (a_1 : T_api_Letter) (b_4 : T_api_Letter) (A_2 : Option Addr) (c_3 : Nat) (A_5 : Option Addr) (c_6 : Nat) :
    Meets Try.prog 20 [.agg ⟨[.int .i64 a_1.Kind, .int .i64 a_1.From, .int .i64 a_1.To, .int .u64 a_1.Term, .int .u64 a_1.Index, .int .u64 a_1.Prev, .int .u64 a_1.Commit, .bool a_1.Ok, .slice A_2 a_1.Entries.length c_3, .string (bs a_1.Data)]⟩, .agg ⟨[.int .i64 b_4.Kind, .int .i64 b_4.From, .int .i64 b_4.To, .int .u64 b_4.Term, .int .u64 b_4.Index, .int .u64 b_4.Prev, .int .u64 b_4.Commit, .bool b_4.Ok, .slice A_5 b_4.Entries.length c_6, .string (bs b_4.Data)]⟩] 0 [] [] [Rd 0 kT_api_Entry A_2 c_3 a_1.Entries, Rd 0 kT_api_Entry A_5 c_6 b_4.Entries] (tontineref10_Same.f n a_1 b_4) (tontineref10_Same.R A_2 c_3 A_5 c_6) := by
  refine Meets.of (c := c20_0) (n := 73) Try.func20 (by kernel_rfl) (by kernel_rfl) (by kernel_rfl) fun w0 S0 => ?_
  unfold tontineref10_Same.f
  show GoO (tontineref10_Same.cx A_2 c_3 A_5 c_6 w0 S0) [(0, .agg ⟨[.int .i64 a_1.Kind, .int .i64 a_1.From, .int .i64 a_1.To, .int .u64 a_1.Term, .int .u64 a_1.Index, .int .u64 a_1.Prev, .int .u64 a_1.Commit, .bool a_1.Ok, .slice A_2 a_1.Entries.length c_3, .string (bs a_1.Data)]⟩), (1, .agg ⟨[.int .i64 b_4.Kind, .int .i64 b_4.From, .int .i64 b_4.To, .int .u64 b_4.Term, .int .u64 b_4.Index, .int .u64 b_4.Prev, .int .u64 b_4.Commit, .bool b_4.Ok, .slice A_5 b_4.Entries.length c_6, .string (bs b_4.Data)]⟩)] [] [Rd 0 kT_api_Entry A_2 c_3 a_1.Entries, Rd 0 kT_api_Entry A_5 c_6 b_4.Entries] [.code c20_0] _
  refine GoO.seq' c20_0e ?_
  refine GoO.region' (is := [0, 1, 2]) c20_1e (by kernel_rfl) ?_
  refine OpTo.go (GoO.new rfl 40 (cs := [.int .i64 a_1.Kind, .int .i64 a_1.From, .int .i64 a_1.To, .int .u64 a_1.Term, .int .u64 a_1.Index, .int .u64 a_1.Prev, .int .u64 a_1.Commit, .bool a_1.Ok, .slice A_2 a_1.Entries.length c_3, .string (bs a_1.Data)]) (by kernel_rfl) _ (fun _ => rfl) (fun b_7 => ?_))
  refine OpTo.go (GoO.new rfl 41 (cs := [.int .i64 b_4.Kind, .int .i64 b_4.From, .int .i64 b_4.To, .int .u64 b_4.Term, .int .u64 b_4.Index, .int .u64 b_4.Prev, .int .u64 b_4.Commit, .bool b_4.Ok, .slice A_5 b_4.Entries.length c_6, .string (bs b_4.Data)]) (by kernel_rfl) _ (fun _ => rfl) (fun b_8 => ?_))
  refine GoO.exec (is := [2]) (hs := [.p]) (rest := []) (ks := [2, 3]) (env' := [(2, .pointer (some ⟨b_7, 0, none⟩)), (3, .pointer (some ⟨b_8, 0, none⟩))]) (H' := [⟨41, b_8, [.int .i64 b_4.Kind, .int .i64 b_4.From, .int .i64 b_4.To, .int .u64 b_4.Term, .int .u64 b_4.Index, .int .u64 b_4.Prev, .int .u64 b_4.Commit, .bool b_4.Ok, .slice A_5 b_4.Entries.length c_6, .string (bs b_4.Data)]⟩, ⟨40, b_7, [.int .i64 a_1.Kind, .int .i64 a_1.From, .int .i64 a_1.To, .int .u64 a_1.Term, .int .u64 a_1.Index, .int .u64 a_1.Prev, .int .u64 a_1.Commit, .bool a_1.Ok, .slice A_2 a_1.Entries.length c_3, .string (bs a_1.Data)]⟩]) (ps := []) (by kernel_rfl) trivial ?_
  refine GoO.regionEnd ?_
  refine GoO.seq' c20_2e ?_
  refine GoO.region' (is := [0, 1, 2, 3, 4, 5, 6, 7, 8, 9, 10, 11, 12, 13, 14, 15, 16, 17, 18, 19, 20, 21, 22, 23, 24, 25, 26, 27, 28, 29, 30, 31, 32, 33, 34, 35, 36, 37, 38, 39, 40, 41, 42, 43, 44, 45, 46, 47, 48, 49, 50, 51, 52, 53, 54, 55, 56, 57, 58, 59, 60, 61, 62, 63, 64, 65, 66, 67, 68]) c20_3e (by kernel_rfl) ?_
  refine GoO.exec (is := [0, 1, 2, 3, 4, 5]) (hs := [.p, .b 1, .p, .b 0, .p, .p]) (rest := [6, 7, 8, 9, 10, 11, 12, 13, 14, 15, 16, 17, 18, 19, 20, 21, 22, 23, 24, 25, 26, 27, 28, 29, 30, 31, 32, 33, 34, 35, 36, 37, 38, 39, 40, 41, 42, 43, 44, 45, 46, 47, 48, 49, 50, 51, 52, 53, 54, 55, 56, 57, 58, 59, 60, 61, 62, 63, 64, 65, 66, 67, 68]) (ks := [2, 3, 10]) (env' := [(2, .pointer (some ⟨b_7, 0, none⟩)), (3, .pointer (some ⟨b_8, 0, none⟩)), (10, .bool (a_1.Kind == b_4.Kind))]) (H' := [⟨41, b_8, [.int .i64 b_4.Kind, .int .i64 b_4.From, .int .i64 b_4.To, .int .u64 b_4.Term, .int .u64 b_4.Index, .int .u64 b_4.Prev, .int .u64 b_4.Commit, .bool b_4.Ok, .slice A_5 b_4.Entries.length c_6, .string (bs b_4.Data)]⟩, ⟨40, b_7, [.int .i64 a_1.Kind, .int .i64 a_1.From, .int .i64 a_1.To, .int .u64 a_1.Term, .int .u64 a_1.Index, .int .u64 a_1.Prev, .int .u64 a_1.Commit, .bool a_1.Ok, .slice A_2 a_1.Entries.length c_3, .string (bs a_1.Data)]⟩]) (ps := [b_7 = b_7, b_8 = b_8]) (by kernel_rfl) (And.intro rfl (And.intro rfl trivial)) ?_
  refine GoO.bsplit (t := 10) (by kernel_rfl) (fun h9 => ?_) (fun h9 => ?_)
  · refine GoO.exec (is := [6, 7, 8, 9, 10, 11, 12]) (hs := [.p, .b 1, .p, .b 0, .p, .p, .p]) (rest := [13, 14, 15, 16, 17, 18, 19, 20, 21, 22, 23, 24, 25, 26, 27, 28, 29, 30, 31, 32, 33, 34, 35, 36, 37, 38, 39, 40, 41, 42, 43, 44, 45, 46, 47, 48, 49, 50, 51, 52, 53, 54, 55, 56, 57, 58, 59, 60, 61, 62, 63, 64, 65, 66, 67, 68]) (ks := [2, 3, 17]) (env' := [(2, .pointer (some ⟨b_7, 0, none⟩)), (3, .pointer (some ⟨b_8, 0, none⟩)), (17, .bool (a_1.From == b_4.From))]) (H' := [⟨41, b_8, [.int .i64 b_4.Kind, .int .i64 b_4.From, .int .i64 b_4.To, .int .u64 b_4.Term, .int .u64 b_4.Index, .int .u64 b_4.Prev, .int .u64 b_4.Commit, .bool b_4.Ok, .slice A_5 b_4.Entries.length c_6, .string (bs b_4.Data)]⟩, ⟨40, b_7, [.int .i64 a_1.Kind, .int .i64 a_1.From, .int .i64 a_1.To, .int .u64 a_1.Term, .int .u64 a_1.Index, .int .u64 a_1.Prev, .int .u64 a_1.Commit, .bool a_1.Ok, .slice A_2 a_1.Entries.length c_3, .string (bs a_1.Data)]⟩]) (ps := [b_7 = b_7, b_8 = b_8]) (by kernel_rfl) (And.intro rfl (And.intro rfl trivial)) ?_
    refine GoO.bsplit (t := 17) (by kernel_rfl) (fun h10 => ?_) (fun h10 => ?_)
    · refine GoO.exec (is := [13, 14, 15, 16, 17, 18, 19]) (hs := [.p, .b 1, .p, .b 0, .p, .p, .p]) (rest := [20, 21, 22, 23, 24, 25, 26, 27, 28, 29, 30, 31, 32, 33, 34, 35, 36, 37, 38, 39, 40, 41, 42, 43, 44, 45, 46, 47, 48, 49, 50, 51, 52, 53, 54, 55, 56, 57, 58, 59, 60, 61, 62, 63, 64, 65, 66, 67, 68]) (ks := [2, 3, 24]) (env' := [(2, .pointer (some ⟨b_7, 0, none⟩)), (3, .pointer (some ⟨b_8, 0, none⟩)), (24, .bool (a_1.To == b_4.To))]) (H' := [⟨41, b_8, [.int .i64 b_4.Kind, .int .i64 b_4.From, .int .i64 b_4.To, .int .u64 b_4.Term, .int .u64 b_4.Index, .int .u64 b_4.Prev, .int .u64 b_4.Commit, .bool b_4.Ok, .slice A_5 b_4.Entries.length c_6, .string (bs b_4.Data)]⟩, ⟨40, b_7, [.int .i64 a_1.Kind, .int .i64 a_1.From, .int .i64 a_1.To, .int .u64 a_1.Term, .int .u64 a_1.Index, .int .u64 a_1.Prev, .int .u64 a_1.Commit, .bool a_1.Ok, .slice A_2 a_1.Entries.length c_3, .string (bs a_1.Data)]⟩]) (ps := [b_7 = b_7, b_8 = b_8]) (by kernel_rfl) (And.intro rfl (And.intro rfl trivial)) ?_
      refine GoO.bsplit (t := 24) (by kernel_rfl) (fun h11 => ?_) (fun h11 => ?_)
      · refine GoO.exec (is := [20, 21, 22, 23, 24, 25, 26]) (hs := [.p, .b 1, .p, .b 0, .p, .p, .p]) (rest := [27, 28, 29, 30, 31, 32, 33, 34, 35, 36, 37, 38, 39, 40, 41, 42, 43, 44, 45, 46, 47, 48, 49, 50, 51, 52, 53, 54, 55, 56, 57, 58, 59, 60, 61, 62, 63, 64, 65, 66, 67, 68]) (ks := [2, 3, 31]) (env' := [(2, .pointer (some ⟨b_7, 0, none⟩)), (3, .pointer (some ⟨b_8, 0, none⟩)), (31, .bool (a_1.Term == b_4.Term))]) (H' := [⟨41, b_8, [.int .i64 b_4.Kind, .int .i64 b_4.From, .int .i64 b_4.To, .int .u64 b_4.Term, .int .u64 b_4.Index, .int .u64 b_4.Prev, .int .u64 b_4.Commit, .bool b_4.Ok, .slice A_5 b_4.Entries.length c_6, .string (bs b_4.Data)]⟩, ⟨40, b_7, [.int .i64 a_1.Kind, .int .i64 a_1.From, .int .i64 a_1.To, .int .u64 a_1.Term, .int .u64 a_1.Index, .int .u64 a_1.Prev, .int .u64 a_1.Commit, .bool a_1.Ok, .slice A_2 a_1.Entries.length c_3, .string (bs a_1.Data)]⟩]) (ps := [b_7 = b_7, b_8 = b_8]) (by kernel_rfl) (And.intro rfl (And.intro rfl trivial)) ?_
        refine GoO.bsplit (t := 31) (by kernel_rfl) (fun h12 => ?_) (fun h12 => ?_)
        · refine GoO.exec (is := [27, 28, 29, 30, 31, 32, 33]) (hs := [.p, .b 1, .p, .b 0, .p, .p, .p]) (rest := [34, 35, 36, 37, 38, 39, 40, 41, 42, 43, 44, 45, 46, 47, 48, 49, 50, 51, 52, 53, 54, 55, 56, 57, 58, 59, 60, 61, 62, 63, 64, 65, 66, 67, 68]) (ks := [2, 3, 38]) (env' := [(2, .pointer (some ⟨b_7, 0, none⟩)), (3, .pointer (some ⟨b_8, 0, none⟩)), (38, .bool (a_1.Index == b_4.Index))]) (H' := [⟨41, b_8, [.int .i64 b_4.Kind, .int .i64 b_4.From, .int .i64 b_4.To, .int .u64 b_4.Term, .int .u64 b_4.Index, .int .u64 b_4.Prev, .int .u64 b_4.Commit, .bool b_4.Ok, .slice A_5 b_4.Entries.length c_6, .string (bs b_4.Data)]⟩, ⟨40, b_7, [.int .i64 a_1.Kind, .int .i64 a_1.From, .int .i64 a_1.To, .int .u64 a_1.Term, .int .u64 a_1.Index, .int .u64 a_1.Prev, .int .u64 a_1.Commit, .bool a_1.Ok, .slice A_2 a_1.Entries.length c_3, .string (bs a_1.Data)]⟩]) (ps := [b_7 = b_7, b_8 = b_8]) (by kernel_rfl) (And.intro rfl (And.intro rfl trivial)) ?_
          refine GoO.bsplit (t := 38) (by kernel_rfl) (fun h13 => ?_) (fun h13 => ?_)
          · refine GoO.exec (is := [34, 35, 36, 37, 38, 39, 40]) (hs := [.p, .b 1, .p, .b 0, .p, .p, .p]) (rest := [41, 42, 43, 44, 45, 46, 47, 48, 49, 50, 51, 52, 53, 54, 55, 56, 57, 58, 59, 60, 61, 62, 63, 64, 65, 66, 67, 68]) (ks := [2, 3, 45]) (env' := [(2, .pointer (some ⟨b_7, 0, none⟩)), (3, .pointer (some ⟨b_8, 0, none⟩)), (45, .bool (a_1.Prev == b_4.Prev))]) (H' := [⟨41, b_8, [.int .i64 b_4.Kind, .int .i64 b_4.From, .int .i64 b_4.To, .int .u64 b_4.Term, .int .u64 b_4.Index, .int .u64 b_4.Prev, .int .u64 b_4.Commit, .bool b_4.Ok, .slice A_5 b_4.Entries.length c_6, .string (bs b_4.Data)]⟩, ⟨40, b_7, [.int .i64 a_1.Kind, .int .i64 a_1.From, .int .i64 a_1.To, .int .u64 a_1.Term, .int .u64 a_1.Index, .int .u64 a_1.Prev, .int .u64 a_1.Commit, .bool a_1.Ok, .slice A_2 a_1.Entries.length c_3, .string (bs a_1.Data)]⟩]) (ps := [b_7 = b_7, b_8 = b_8]) (by kernel_rfl) (And.intro rfl (And.intro rfl trivial)) ?_
            refine GoO.bsplit (t := 45) (by kernel_rfl) (fun h14 => ?_) (fun h14 => ?_)
            · refine GoO.exec (is := [41, 42, 43, 44, 45, 46, 47]) (hs := [.p, .b 1, .p, .b 0, .p, .p, .p]) (rest := [48, 49, 50, 51, 52, 53, 54, 55, 56, 57, 58, 59, 60, 61, 62, 63, 64, 65, 66, 67, 68]) (ks := [2, 3, 52]) (env' := [(2, .pointer (some ⟨b_7, 0, none⟩)), (3, .pointer (some ⟨b_8, 0, none⟩)), (52, .bool (a_1.Commit == b_4.Commit))]) (H' := [⟨41, b_8, [.int .i64 b_4.Kind, .int .i64 b_4.From, .int .i64 b_4.To, .int .u64 b_4.Term, .int .u64 b_4.Index, .int .u64 b_4.Prev, .int .u64 b_4.Commit, .bool b_4.Ok, .slice A_5 b_4.Entries.length c_6, .string (bs b_4.Data)]⟩, ⟨40, b_7, [.int .i64 a_1.Kind, .int .i64 a_1.From, .int .i64 a_1.To, .int .u64 a_1.Term, .int .u64 a_1.Index, .int .u64 a_1.Prev, .int .u64 a_1.Commit, .bool a_1.Ok, .slice A_2 a_1.Entries.length c_3, .string (bs a_1.Data)]⟩]) (ps := [b_7 = b_7, b_8 = b_8]) (by kernel_rfl) (And.intro rfl (And.intro rfl trivial)) ?_
              refine GoO.bsplit (t := 52) (by kernel_rfl) (fun h15 => ?_) (fun h15 => ?_)
              · refine GoO.exec (is := [48, 49, 50, 51, 52, 53, 54]) (hs := [.p, .b 1, .p, .b 0, .p, .p, .p]) (rest := [55, 56, 57, 58, 59, 60, 61, 62, 63, 64, 65, 66, 67, 68]) (ks := [2, 3, 59]) (env' := [(2, .pointer (some ⟨b_7, 0, none⟩)), (3, .pointer (some ⟨b_8, 0, none⟩)), (59, .bool (a_1.Ok == b_4.Ok))]) (H' := [⟨41, b_8, [.int .i64 b_4.Kind, .int .i64 b_4.From, .int .i64 b_4.To, .int .u64 b_4.Term, .int .u64 b_4.Index, .int .u64 b_4.Prev, .int .u64 b_4.Commit, .bool b_4.Ok, .slice A_5 b_4.Entries.length c_6, .string (bs b_4.Data)]⟩, ⟨40, b_7, [.int .i64 a_1.Kind, .int .i64 a_1.From, .int .i64 a_1.To, .int .u64 a_1.Term, .int .u64 a_1.Index, .int .u64 a_1.Prev, .int .u64 a_1.Commit, .bool a_1.Ok, .slice A_2 a_1.Entries.length c_3, .string (bs a_1.Data)]⟩]) (ps := [b_7 = b_7, b_8 = b_8]) (by kernel_rfl) (And.intro rfl (And.intro rfl trivial)) ?_
                refine GoO.bsplit (t := 59) (by kernel_rfl) (fun h16 => ?_) (fun h16 => ?_)
                · refine GoO.exec (is := [55, 56, 57, 58, 59, 60, 61]) (hs := [.p, .b 1, .p, .b 0, .p, .p, .p]) (rest := [62, 63, 64, 65, 66, 67, 68]) (ks := [2, 3, 66]) (env' := [(2, .pointer (some ⟨b_7, 0, none⟩)), (3, .pointer (some ⟨b_8, 0, none⟩)), (66, .bool (a_1.Data == b_4.Data))]) (H' := [⟨41, b_8, [.int .i64 b_4.Kind, .int .i64 b_4.From, .int .i64 b_4.To, .int .u64 b_4.Term, .int .u64 b_4.Index, .int .u64 b_4.Prev, .int .u64 b_4.Commit, .bool b_4.Ok, .slice A_5 b_4.Entries.length c_6, .string (bs b_4.Data)]⟩, ⟨40, b_7, [.int .i64 a_1.Kind, .int .i64 a_1.From, .int .i64 a_1.To, .int .u64 a_1.Term, .int .u64 a_1.Index, .int .u64 a_1.Prev, .int .u64 a_1.Commit, .bool a_1.Ok, .slice A_2 a_1.Entries.length c_3, .string (bs a_1.Data)]⟩]) (ps := [b_7 = b_7, b_8 = b_8]) (by kernel_rfl) (And.intro rfl (And.intro rfl trivial)) ?_
                  refine GoO.bsplit (t := 66) (by kernel_rfl) (fun h17 => ?_) (fun h17 => ?_)
                  · refine GoO.exec (is := [62, 63, 64, 65]) (hs := [.p, .b 1, .p, .b 0]) (rest := [66, 67, 68]) (ks := [66, 68, 70]) (env' := [(66, .bool true), (68, .slice A_2 a_1.Entries.length c_3), (70, .slice A_5 b_4.Entries.length c_6)]) (H' := [⟨41, b_8, [.int .i64 b_4.Kind, .int .i64 b_4.From, .int .i64 b_4.To, .int .u64 b_4.Term, .int .u64 b_4.Index, .int .u64 b_4.Prev, .int .u64 b_4.Commit, .bool b_4.Ok, .slice A_5 b_4.Entries.length c_6, .string (bs b_4.Data)]⟩, ⟨40, b_7, [.int .i64 a_1.Kind, .int .i64 a_1.From, .int .i64 a_1.To, .int .u64 a_1.Term, .int .u64 a_1.Index, .int .u64 a_1.Prev, .int .u64 a_1.Commit, .bool a_1.Ok, .slice A_2 a_1.Entries.length c_3, .string (bs a_1.Data)]⟩]) (ps := [b_7 = b_7, b_8 = b_8]) (by kernel_rfl) (And.intro rfl (And.intro rfl trivial)) ?_
                    refine OpTo.go (GoO.call rfl (by kernel_rfl) (by kernel_rfl) (tontineref07_Same_ok n a_1.Entries b_4.Entries A_2 c_3 A_5 c_6) [[0]] [] [] [(0, 0), (0, 1)] (hks := [0, 1]) (bks := [0, 1]) (by kernel_rfl) (by kernel_rfl) (by kernel_rfl) (.inl rfl) rfl rfl (by kernel_rfl) (by kernel_rfl) _ (fun _ _ => rfl) _ _ (fun _ _ => rfl) (fun _ _ => rfl) (fun _ _ => by kernel_rfl) (fun _ _ => by kernel_rfl) (fun r_18 x_19 => ?_))
                    refine GoO.shape (env' := [(66, .bool true), (68, .slice A_2 a_1.Entries.length c_3), (70, .slice A_5 b_4.Entries.length c_6), (71, .bool r_18)]) (H' := [⟨41, b_8, [.int .i64 b_4.Kind, .int .i64 b_4.From, .int .i64 b_4.To, .int .u64 b_4.Term, .int .u64 b_4.Index, .int .u64 b_4.Prev, .int .u64 b_4.Commit, .bool b_4.Ok, .slice A_5 b_4.Entries.length c_6, .string (bs b_4.Data)]⟩, ⟨40, b_7, [.int .i64 a_1.Kind, .int .i64 a_1.From, .int .i64 a_1.To, .int .u64 a_1.Term, .int .u64 a_1.Index, .int .u64 a_1.Prev, .int .u64 a_1.Commit, .bool a_1.Ok, .slice A_2 a_1.Entries.length c_3, .string (bs a_1.Data)]⟩]) (B' := [Rd 0 kT_api_Entry A_2 c_3 a_1.Entries, Rd 0 kT_api_Entry A_5 c_6 b_4.Entries]) (ks := [66, 68, 70, 71]) (by kernel_rfl) (by kernel_rfl) (by kernel_rfl) ?_
                    refine GoO.exec (is := [67, 68]) (hs := [.p, .p]) (rest := []) (ks := [4]) (env' := [(4, .bool r_18)]) (H' := [⟨41, b_8, [.int .i64 b_4.Kind, .int .i64 b_4.From, .int .i64 b_4.To, .int .u64 b_4.Term, .int .u64 b_4.Index, .int .u64 b_4.Prev, .int .u64 b_4.Commit, .bool b_4.Ok, .slice A_5 b_4.Entries.length c_6, .string (bs b_4.Data)]⟩, ⟨40, b_7, [.int .i64 a_1.Kind, .int .i64 a_1.From, .int .i64 a_1.To, .int .u64 a_1.Term, .int .u64 a_1.Index, .int .u64 a_1.Prev, .int .u64 a_1.Commit, .bool a_1.Ok, .slice A_2 a_1.Entries.length c_3, .string (bs a_1.Data)]⟩]) (ps := []) (by kernel_rfl) trivial ?_
                    refine GoO.regionEnd ?_
                    exact GoO.ret' (h := c20_4e) (hs := []) (ps := []) (hk := []) (bk := []) Try.func20 () (by kernel_rfl) trivial (by kernel_rfl) (by kernel_rfl)
                  · refine GoO.exec (is := [62, 63, 64, 65, 66, 67, 68]) (hs := [.p, .p, .p, .p, .p, .p, .p]) (rest := []) (ks := [4]) (env' := [(4, .bool false)]) (H' := [⟨41, b_8, [.int .i64 b_4.Kind, .int .i64 b_4.From, .int .i64 b_4.To, .int .u64 b_4.Term, .int .u64 b_4.Index, .int .u64 b_4.Prev, .int .u64 b_4.Commit, .bool b_4.Ok, .slice A_5 b_4.Entries.length c_6, .string (bs b_4.Data)]⟩, ⟨40, b_7, [.int .i64 a_1.Kind, .int .i64 a_1.From, .int .i64 a_1.To, .int .u64 a_1.Term, .int .u64 a_1.Index, .int .u64 a_1.Prev, .int .u64 a_1.Commit, .bool a_1.Ok, .slice A_2 a_1.Entries.length c_3, .string (bs a_1.Data)]⟩]) (ps := []) (by kernel_rfl) trivial ?_
                    refine GoO.regionEnd ?_
                    exact GoO.ret' (h := c20_4e) (hs := []) (ps := []) (hk := []) (bk := []) Try.func20 () (by kernel_rfl) trivial (by kernel_rfl) (by kernel_rfl)
                · refine GoO.exec (is := [55, 56, 57, 58, 59, 60, 61, 62, 63, 64, 65, 66, 67, 68]) (hs := [.p, .p, .p, .p, .p, .p, .p, .p, .p, .p, .p, .p, .p, .p]) (rest := []) (ks := [4]) (env' := [(4, .bool false)]) (H' := [⟨41, b_8, [.int .i64 b_4.Kind, .int .i64 b_4.From, .int .i64 b_4.To, .int .u64 b_4.Term, .int .u64 b_4.Index, .int .u64 b_4.Prev, .int .u64 b_4.Commit, .bool b_4.Ok, .slice A_5 b_4.Entries.length c_6, .string (bs b_4.Data)]⟩, ⟨40, b_7, [.int .i64 a_1.Kind, .int .i64 a_1.From, .int .i64 a_1.To, .int .u64 a_1.Term, .int .u64 a_1.Index, .int .u64 a_1.Prev, .int .u64 a_1.Commit, .bool a_1.Ok, .slice A_2 a_1.Entries.length c_3, .string (bs a_1.Data)]⟩]) (ps := []) (by kernel_rfl) trivial ?_
                  refine GoO.regionEnd ?_
                  exact GoO.ret' (h := c20_4e) (hs := []) (ps := []) (hk := []) (bk := []) Try.func20 () (by kernel_rfl) trivial (by kernel_rfl) (by kernel_rfl)
              · refine GoO.exec (is := [48, 49, 50, 51, 52, 53, 54, 55, 56, 57, 58, 59, 60, 61, 62, 63, 64, 65, 66, 67, 68]) (hs := [.p, .p, .p, .p, .p, .p, .p, .p, .p, .p, .p, .p, .p, .p, .p, .p, .p, .p, .p, .p, .p]) (rest := []) (ks := [4]) (env' := [(4, .bool false)]) (H' := [⟨41, b_8, [.int .i64 b_4.Kind, .int .i64 b_4.From, .int .i64 b_4.To, .int .u64 b_4.Term, .int .u64 b_4.Index, .int .u64 b_4.Prev, .int .u64 b_4.Commit, .bool b_4.Ok, .slice A_5 b_4.Entries.length c_6, .string (bs b_4.Data)]⟩, ⟨40, b_7, [.int .i64 a_1.Kind, .int .i64 a_1.From, .int .i64 a_1.To, .int .u64 a_1.Term, .int .u64 a_1.Index, .int .u64 a_1.Prev, .int .u64 a_1.Commit, .bool a_1.Ok, .slice A_2 a_1.Entries.length c_3, .string (bs a_1.Data)]⟩]) (ps := []) (by kernel_rfl) trivial ?_
                refine GoO.regionEnd ?_
                exact GoO.ret' (h := c20_4e) (hs := []) (ps := []) (hk := []) (bk := []) Try.func20 () (by kernel_rfl) trivial (by kernel_rfl) (by kernel_rfl)
            · refine GoO.exec (is := [41, 42, 43, 44, 45, 46, 47, 48, 49, 50, 51, 52, 53, 54, 55, 56, 57, 58, 59, 60, 61, 62, 63, 64, 65, 66, 67, 68]) (hs := [.p, .p, .p, .p, .p, .p, .p, .p, .p, .p, .p, .p, .p, .p, .p, .p, .p, .p, .p, .p, .p, .p, .p, .p, .p, .p, .p, .p]) (rest := []) (ks := [4]) (env' := [(4, .bool false)]) (H' := [⟨41, b_8, [.int .i64 b_4.Kind, .int .i64 b_4.From, .int .i64 b_4.To, .int .u64 b_4.Term, .int .u64 b_4.Index, .int .u64 b_4.Prev, .int .u64 b_4.Commit, .bool b_4.Ok, .slice A_5 b_4.Entries.length c_6, .string (bs b_4.Data)]⟩, ⟨40, b_7, [.int .i64 a_1.Kind, .int .i64 a_1.From, .int .i64 a_1.To, .int .u64 a_1.Term, .int .u64 a_1.Index, .int .u64 a_1.Prev, .int .u64 a_1.Commit, .bool a_1.Ok, .slice A_2 a_1.Entries.length c_3, .string (bs a_1.Data)]⟩]) (ps := []) (by kernel_rfl) trivial ?_
              refine GoO.regionEnd ?_
              exact GoO.ret' (h := c20_4e) (hs := []) (ps := []) (hk := []) (bk := []) Try.func20 () (by kernel_rfl) trivial (by kernel_rfl) (by kernel_rfl)
          · refine GoO.exec (is := [34, 35, 36, 37, 38, 39, 40, 41, 42, 43, 44, 45, 46, 47, 48, 49, 50, 51, 52, 53, 54, 55, 56, 57, 58, 59, 60, 61, 62, 63, 64, 65, 66, 67, 68]) (hs := [.p, .p, .p, .p, .p, .p, .p, .p, .p, .p, .p, .p, .p, .p, .p, .p, .p, .p, .p, .p, .p, .p, .p, .p, .p, .p, .p, .p, .p, .p, .p, .p, .p, .p, .p]) (rest := []) (ks := [4]) (env' := [(4, .bool false)]) (H' := [⟨41, b_8, [.int .i64 b_4.Kind, .int .i64 b_4.From, .int .i64 b_4.To, .int .u64 b_4.Term, .int .u64 b_4.Index, .int .u64 b_4.Prev, .int .u64 b_4.Commit, .bool b_4.Ok, .slice A_5 b_4.Entries.length c_6, .string (bs b_4.Data)]⟩, ⟨40, b_7, [.int .i64 a_1.Kind, .int .i64 a_1.From, .int .i64 a_1.To, .int .u64 a_1.Term, .int .u64 a_1.Index, .int .u64 a_1.Prev, .int .u64 a_1.Commit, .bool a_1.Ok, .slice A_2 a_1.Entries.length c_3, .string (bs a_1.Data)]⟩]) (ps := []) (by kernel_rfl) trivial ?_
            refine GoO.regionEnd ?_
            exact GoO.ret' (h := c20_4e) (hs := []) (ps := []) (hk := []) (bk := []) Try.func20 () (by kernel_rfl) trivial (by kernel_rfl) (by kernel_rfl)
        · refine GoO.exec (is := [27, 28, 29, 30, 31, 32, 33, 34, 35, 36, 37, 38, 39, 40, 41, 42, 43, 44, 45, 46, 47, 48, 49, 50, 51, 52, 53, 54, 55, 56, 57, 58, 59, 60, 61, 62, 63, 64, 65, 66, 67, 68]) (hs := [.p, .p, .p, .p, .p, .p, .p, .p, .p, .p, .p, .p, .p, .p, .p, .p, .p, .p, .p, .p, .p, .p, .p, .p, .p, .p, .p, .p, .p, .p, .p, .p, .p, .p, .p, .p, .p, .p, .p, .p, .p, .p]) (rest := []) (ks := [4]) (env' := [(4, .bool false)]) (H' := [⟨41, b_8, [.int .i64 b_4.Kind, .int .i64 b_4.From, .int .i64 b_4.To, .int .u64 b_4.Term, .int .u64 b_4.Index, .int .u64 b_4.Prev, .int .u64 b_4.Commit, .bool b_4.Ok, .slice A_5 b_4.Entries.length c_6, .string (bs b_4.Data)]⟩, ⟨40, b_7, [.int .i64 a_1.Kind, .int .i64 a_1.From, .int .i64 a_1.To, .int .u64 a_1.Term, .int .u64 a_1.Index, .int .u64 a_1.Prev, .int .u64 a_1.Commit, .bool a_1.Ok, .slice A_2 a_1.Entries.length c_3, .string (bs a_1.Data)]⟩]) (ps := []) (by kernel_rfl) trivial ?_
          refine GoO.regionEnd ?_
          exact GoO.ret' (h := c20_4e) (hs := []) (ps := []) (hk := []) (bk := []) Try.func20 () (by kernel_rfl) trivial (by kernel_rfl) (by kernel_rfl)
      · refine GoO.exec (is := [20, 21, 22, 23, 24, 25, 26, 27, 28, 29, 30, 31, 32, 33, 34, 35, 36, 37, 38, 39, 40, 41, 42, 43, 44, 45, 46, 47, 48, 49, 50, 51, 52, 53, 54, 55, 56, 57, 58, 59, 60, 61, 62, 63, 64, 65, 66, 67, 68]) (hs := [.p, .p, .p, .p, .p, .p, .p, .p, .p, .p, .p, .p, .p, .p, .p, .p, .p, .p, .p, .p, .p, .p, .p, .p, .p, .p, .p, .p, .p, .p, .p, .p, .p, .p, .p, .p, .p, .p, .p, .p, .p, .p, .p, .p, .p, .p, .p, .p, .p]) (rest := []) (ks := [4]) (env' := [(4, .bool false)]) (H' := [⟨41, b_8, [.int .i64 b_4.Kind, .int .i64 b_4.From, .int .i64 b_4.To, .int .u64 b_4.Term, .int .u64 b_4.Index, .int .u64 b_4.Prev, .int .u64 b_4.Commit, .bool b_4.Ok, .slice A_5 b_4.Entries.length c_6, .string (bs b_4.Data)]⟩, ⟨40, b_7, [.int .i64 a_1.Kind, .int .i64 a_1.From, .int .i64 a_1.To, .int .u64 a_1.Term, .int .u64 a_1.Index, .int .u64 a_1.Prev, .int .u64 a_1.Commit, .bool a_1.Ok, .slice A_2 a_1.Entries.length c_3, .string (bs a_1.Data)]⟩]) (ps := []) (by kernel_rfl) trivial ?_
        refine GoO.regionEnd ?_
        exact GoO.ret' (h := c20_4e) (hs := []) (ps := []) (hk := []) (bk := []) Try.func20 () (by kernel_rfl) trivial (by kernel_rfl) (by kernel_rfl)
    · refine GoO.exec (is := [13, 14, 15, 16, 17, 18, 19, 20, 21, 22, 23, 24, 25, 26, 27, 28, 29, 30, 31, 32, 33, 34, 35, 36, 37, 38, 39, 40, 41, 42, 43, 44, 45, 46, 47, 48, 49, 50, 51, 52, 53, 54, 55, 56, 57, 58, 59, 60, 61, 62, 63, 64, 65, 66, 67, 68]) (hs := [.p, .p, .p, .p, .p, .p, .p, .p, .p, .p, .p, .p, .p, .p, .p, .p, .p, .p, .p, .p, .p, .p, .p, .p, .p, .p, .p, .p, .p, .p, .p, .p, .p, .p, .p, .p, .p, .p, .p, .p, .p, .p, .p, .p, .p, .p, .p, .p, .p, .p, .p, .p, .p, .p, .p, .p]) (rest := []) (ks := [4]) (env' := [(4, .bool false)]) (H' := [⟨41, b_8, [.int .i64 b_4.Kind, .int .i64 b_4.From, .int .i64 b_4.To, .int .u64 b_4.Term, .int .u64 b_4.Index, .int .u64 b_4.Prev, .int .u64 b_4.Commit, .bool b_4.Ok, .slice A_5 b_4.Entries.length c_6, .string (bs b_4.Data)]⟩, ⟨40, b_7, [.int .i64 a_1.Kind, .int .i64 a_1.From, .int .i64 a_1.To, .int .u64 a_1.Term, .int .u64 a_1.Index, .int .u64 a_1.Prev, .int .u64 a_1.Commit, .bool a_1.Ok, .slice A_2 a_1.Entries.length c_3, .string (bs a_1.Data)]⟩]) (ps := []) (by kernel_rfl) trivial ?_
      refine GoO.regionEnd ?_
      exact GoO.ret' (h := c20_4e) (hs := []) (ps := []) (hk := []) (bk := []) Try.func20 () (by kernel_rfl) trivial (by kernel_rfl) (by kernel_rfl)
  · refine GoO.exec (is := [6, 7, 8, 9, 10, 11, 12, 13, 14, 15, 16, 17, 18, 19, 20, 21, 22, 23, 24, 25, 26, 27, 28, 29, 30, 31, 32, 33, 34, 35, 36, 37, 38, 39, 40, 41, 42, 43, 44, 45, 46, 47, 48, 49, 50, 51, 52, 53, 54, 55, 56, 57, 58, 59, 60, 61, 62, 63, 64, 65, 66, 67, 68]) (hs := [.p, .p, .p, .p, .p, .p, .p, .p, .p, .p, .p, .p, .p, .p, .p, .p, .p, .p, .p, .p, .p, .p, .p, .p, .p, .p, .p, .p, .p, .p, .p, .p, .p, .p, .p, .p, .p, .p, .p, .p, .p, .p, .p, .p, .p, .p, .p, .p, .p, .p, .p, .p, .p, .p, .p, .p, .p, .p, .p, .p, .p, .p, .p]) (rest := []) (ks := [4]) (env' := [(4, .bool false)]) (H' := [⟨41, b_8, [.int .i64 b_4.Kind, .int .i64 b_4.From, .int .i64 b_4.To, .int .u64 b_4.Term, .int .u64 b_4.Index, .int .u64 b_4.Prev, .int .u64 b_4.Commit, .bool b_4.Ok, .slice A_5 b_4.Entries.length c_6, .string (bs b_4.Data)]⟩, ⟨40, b_7, [.int .i64 a_1.Kind, .int .i64 a_1.From, .int .i64 a_1.To, .int .u64 a_1.Term, .int .u64 a_1.Index, .int .u64 a_1.Prev, .int .u64 a_1.Commit, .bool a_1.Ok, .slice A_2 a_1.Entries.length c_3, .string (bs a_1.Data)]⟩]) (ps := []) (by kernel_rfl) trivial ?_
    refine GoO.regionEnd ?_
    exact GoO.ret' (h := c20_4e) (hs := []) (ps := []) (hk := []) (bk := []) Try.func20 () (by kernel_rfl) trivial (by kernel_rfl) (by kernel_rfl)

/-! (*tontine/net.Net).Lose -/
noncomputable def c34_0 : Code := bodyOf Try.f34
noncomputable def c34_1 : Code := cdL c34_0
noncomputable def c34_2 : Code := cdR c34_0
noncomputable def c34_3 : Code := cdL c34_2
noncomputable def c34_4 : Code := cdR c34_2
noncomputable def c34_5 : Code := cdL c34_4
noncomputable def c34_6 : Code := cdL c34_5
noncomputable def c34_7 : Code := cdR c34_5
noncomputable def c34_8 : Code := cdL c34_7
noncomputable def c34_9 : Code := cdR c34_7
noncomputable def c34_10 : Code := cdR c34_4
noncomputable def c34_11 : Code := cdL c34_10
noncomputable def c34_12 : Code := cdR c34_10
noncomputable def r34_1 : Array Oper := cdO c34_1
noncomputable def r34_3 : Array Oper := cdO c34_3
noncomputable def r34_6 : Array Oper := cdO c34_6
noncomputable def r34_8 : Array Oper := cdO c34_8
noncomputable def r34_11 : Array Oper := cdO c34_11
theorem c34_0e : c34_0 = .seq c34_1 c34_2 := by kernel_rfl
theorem c34_1e : c34_1 = .region 0 r34_1 false := by kernel_rfl
theorem c34_2e : c34_2 = .seq c34_3 c34_4 := by kernel_rfl
theorem c34_3e : c34_3 = .region 1 r34_3 false := by kernel_rfl
theorem c34_4e : c34_4 = .seq c34_5 c34_10 := by kernel_rfl
theorem c34_5e : c34_5 = .seq c34_6 c34_7 := by kernel_rfl
theorem c34_6e : c34_6 = .region 2 r34_6 false := by kernel_rfl
theorem c34_7e : c34_7 = .cond (cdC c34_7) c34_8 c34_9 := by kernel_rfl
theorem c34_8e : c34_8 = .region 3 r34_8 false := by kernel_rfl
theorem c34_9e : c34_9 = .skip := by kernel_rfl
theorem c34_10e : c34_10 = .seq c34_11 c34_12 := by kernel_rfl
theorem c34_11e : c34_11 = .region 4 r34_11 false := by kernel_rfl
theorem c34_12e : c34_12 = .ret := by kernel_rfl
noncomputable def net_Net_Lose.R (b_2 : Nat) (A_3 : Option Addr) (c_4 : Nat) : Pst (Bool × T_net_Net) where
  ε := Option Addr × Nat
  v := fun r x => .bool r.1
  H := fun r x => [⟨1, b_2, [.slice x.1 r.2.l.length x.2, .int .i64 r.2.lost]⟩]
  B := fun r x => [Ow 2 kT_api_Letter x.1 x.2 r.2.l]
noncomputable def net_Net_Lose.cx (b_2 : Nat) (A_3 : Option Addr) (c_4 : Nat) (w0 : World) (S0 : Fam) : Cx (Bool × T_net_Net) := ⟨Try.prog, 34, Try.f34, 22, w0, S0, [1, 2], 2, net_Net_Lose.R b_2 A_3 c_4⟩
theorem net_Net_Lose_ok (n : Nat) (n_1 : T_net_Net) (i_5 : Int) (b_2 : Nat) (A_3 : Option Addr) (c_4 : Nat) :
    Meets Try.prog 34 [.pointer (some ⟨b_2, 0, none⟩), .int .i64 i_5] 2 [1, 2] [⟨1, b_2, [.slice A_3 n_1.l.length c_4, .int .i64 n_1.lost]⟩] [Ow 2 kT_api_Letter A_3 c_4 n_1.l] (net_Net_Lose.f n n_1 i_5) (net_Net_Lose.R b_2 A_3 c_4) := by
  refine Meets.of (c := c34_0) (n := 22) Try.func34 (by kernel_rfl) (by kernel_rfl) (by kernel_rfl) fun w0 S0 => ?_
  unfold net_Net_Lose.f
  show GoO (net_Net_Lose.cx b_2 A_3 c_4 w0 S0) [(0, .pointer (some ⟨b_2, 0, none⟩)), (1, .int .i64 i_5)] [⟨1, b_2, [.slice A_3 n_1.l.length c_4, .int .i64 n_1.lost]⟩] [Ow 2 kT_api_Letter A_3 c_4 n_1.l] [.code c34_0] _
  refine GoO.seq' c34_0e ?_
  refine GoO.region' (is := [0]) c34_1e (by kernel_rfl) ?_
  refine GoO.exec (is := [0]) (hs := [.p]) (rest := []) (ks := [0, 1]) (env' := [(0, .pointer (some ⟨b_2, 0, none⟩)), (1, .int .i64 i_5)]) (H' := [⟨1, b_2, [.slice A_3 n_1.l.length c_4, .int .i64 n_1.lost]⟩]) (ps := []) (by kernel_rfl) trivial ?_
  refine GoO.regionEnd ?_
  refine GoO.seq' c34_2e ?_
  refine GoO.region' (is := [0, 1, 2, 3, 4, 5, 6, 7, 8]) c34_3e (by kernel_rfl) ?_
  refine GoO.exec (is := [0, 1]) (hs := [.p, .p]) (rest := [2, 3, 4, 5, 6, 7, 8]) (ks := [0, 8, 9]) (env' := [(0, .pointer (some ⟨b_2, 0, none⟩)), (8, .pointer (some ⟨b_2, 0, none⟩)), (9, .int .i64 i_5)]) (H' := [⟨1, b_2, [.slice A_3 n_1.l.length c_4, .int .i64 n_1.lost]⟩]) (ps := []) (by kernel_rfl) trivial ?_
  refine OpTo.go (GoO.call rfl (by kernel_rfl) (by kernel_rfl) (net_Net_Take_ok n n_1 i_5 b_2 A_3 c_4) [[0], [1], [2]] [(1, 1), (2, 2)] [(1, 0)] [(2, 0)] (hks := []) (bks := []) (by kernel_rfl) (by kernel_rfl) (by kernel_rfl) (.inl rfl) rfl rfl (by kernel_rfl) (by kernel_rfl) _ (fun _ _ => rfl) _ _ (fun _ _ => rfl) (fun _ _ => rfl) (fun _ _ => by kernel_rfl) (fun _ _ => by kernel_rfl) (fun r_6 x_13 => ?_))
  obtain ⟨A_7, c_8, A_9, c_10⟩ := x_13
  refine GoO.shape (env' := [(0, .pointer (some ⟨b_2, 0, none⟩)), (8, .pointer (some ⟨b_2, 0, none⟩)), (9, .int .i64 i_5), (10, .tuple ⟨[.agg ⟨[.int .i64 r_6.1.Kind, .int .i64 r_6.1.From, .int .i64 r_6.1.To, .int .u64 r_6.1.Term, .int .u64 r_6.1.Index, .int .u64 r_6.1.Prev, .int .u64 r_6.1.Commit, .bool r_6.1.Ok, .slice A_7 r_6.1.Entries.length c_8, .string (bs r_6.1.Data)]⟩, .bool r_6.2.1]⟩)]) (H' := [⟨1, b_2, [.slice A_9 r_6.2.2.l.length c_10, .int .i64 r_6.2.2.lost]⟩]) (B' := [Rd 0 kT_api_Entry A_7 c_8 r_6.1.Entries, Ow 2 kT_api_Letter A_9 c_10 r_6.2.2.l]) (ks := [0, 8, 9, 10]) (by kernel_rfl) (by kernel_rfl) (by kernel_rfl) ?_
  refine GoO.exec (is := [3, 4, 5]) (hs := [.p, .p, .p]) (rest := [6, 7, 8]) (ks := [0, 11, 12]) (env' := [(0, .pointer (some ⟨b_2, 0, none⟩)), (11, .agg ⟨[.int .i64 r_6.1.Kind, .int .i64 r_6.1.From, .int .i64 r_6.1.To, .int .u64 r_6.1.Term, .int .u64 r_6.1.Index, .int .u64 r_6.1.Prev, .int .u64 r_6.1.Commit, .bool r_6.1.Ok, .slice A_7 r_6.1.Entries.length c_8, .string (bs r_6.1.Data)]⟩), (12, .bool r_6.2.1)]) (H' := [⟨1, b_2, [.slice A_9 r_6.2.2.l.length c_10, .int .i64 r_6.2.2.lost]⟩]) (ps := []) (by kernel_rfl) trivial ?_
  refine OpTo.go (GoO.new rfl 40 (cs := [.int .i64 0, .int .i64 0, .int .i64 0, .int .u64 0, .int .u64 0, .int .u64 0, .int .u64 0, .bool false, .slice none ([] : List T_api_Entry).length 0, .string (bs [])]) (by kernel_rfl) _ (fun _ => rfl) (fun b_11 => ?_))
  refine GoO.exec (is := [7, 8]) (hs := [.b 0, .p]) (rest := []) (ks := [0, 6]) (env' := [(0, .pointer (some ⟨b_2, 0, none⟩)), (6, .bool r_6.2.1)]) (H' := [⟨40, b_11, [.int .i64 r_6.1.Kind, .int .i64 r_6.1.From, .int .i64 r_6.1.To, .int .u64 r_6.1.Term, .int .u64 r_6.1.Index, .int .u64 r_6.1.Prev, .int .u64 r_6.1.Commit, .bool r_6.1.Ok, .slice A_7 r_6.1.Entries.length c_8, .string (bs r_6.1.Data)]⟩, ⟨1, b_2, [.slice A_9 r_6.2.2.l.length c_10, .int .i64 r_6.2.2.lost]⟩]) (ps := [b_11 = b_11]) (by kernel_rfl) (And.intro rfl trivial) ?_
  refine GoO.regionEnd ?_
  refine GoO.seq' c34_4e ?_
  refine GoO.seq' c34_5e ?_
  refine GoO.region' (is := [0]) c34_6e (by kernel_rfl) ?_
  refine GoO.exec (is := [0]) (hs := [.p]) (rest := []) (ks := [0, 6, 13]) (env' := [(0, .pointer (some ⟨b_2, 0, none⟩)), (6, .bool r_6.2.1), (13, .bool r_6.2.1)]) (H' := [⟨40, b_11, [.int .i64 r_6.1.Kind, .int .i64 r_6.1.From, .int .i64 r_6.1.To, .int .u64 r_6.1.Term, .int .u64 r_6.1.Index, .int .u64 r_6.1.Prev, .int .u64 r_6.1.Commit, .bool r_6.1.Ok, .slice A_7 r_6.1.Entries.length c_8, .string (bs r_6.1.Data)]⟩, ⟨1, b_2, [.slice A_9 r_6.2.2.l.length c_10, .int .i64 r_6.2.2.lost]⟩]) (ps := []) (by kernel_rfl) trivial ?_
  refine GoO.regionEnd ?_
  refine GoO.ite' c34_7e (by kernel_rfl) (fun h12 => ?_) (fun h12 => ?_)
  · refine GoO.region' (is := [0, 1, 2, 3, 4, 5, 6, 7]) c34_8e (by kernel_rfl) ?_
    refine GoO.exec (is := [0, 1, 2, 3, 4, 5, 6, 7]) (hs := [.p, .p, .p, .b 1, .p, .p, .p, .b 1]) (rest := []) (ks := [6]) (env' := [(6, .bool r_6.2.1)]) (H' := [⟨40, b_11, [.int .i64 r_6.1.Kind, .int .i64 r_6.1.From, .int .i64 r_6.1.To, .int .u64 r_6.1.Term, .int .u64 r_6.1.Index, .int .u64 r_6.1.Prev, .int .u64 r_6.1.Commit, .bool r_6.1.Ok, .slice A_7 r_6.1.Entries.length c_8, .string (bs r_6.1.Data)]⟩, ⟨1, b_2, [.slice A_9 r_6.2.2.l.length c_10, .int .i64 (wi64 (r_6.2.2.lost + 1))]⟩]) (ps := [b_2 = b_2, b_2 = b_2]) (by kernel_rfl) (And.intro rfl (And.intro rfl trivial)) ?_
    refine GoO.regionEnd ?_
    refine GoO.seq' c34_10e ?_
    refine GoO.region' (is := [0, 1]) c34_11e (by kernel_rfl) ?_
    refine GoO.exec (is := [0, 1]) (hs := [.p, .p]) (rest := []) (ks := [4]) (env' := [(4, .bool r_6.2.1)]) (H' := [⟨40, b_11, [.int .i64 r_6.1.Kind, .int .i64 r_6.1.From, .int .i64 r_6.1.To, .int .u64 r_6.1.Term, .int .u64 r_6.1.Index, .int .u64 r_6.1.Prev, .int .u64 r_6.1.Commit, .bool r_6.1.Ok, .slice A_7 r_6.1.Entries.length c_8, .string (bs r_6.1.Data)]⟩, ⟨1, b_2, [.slice A_9 r_6.2.2.l.length c_10, .int .i64 (wi64 (r_6.2.2.lost + 1))]⟩]) (ps := []) (by kernel_rfl) trivial ?_
    refine GoO.regionEnd ?_
    exact GoO.ret' (h := c34_12e) (hs := []) (ps := []) (hk := [1]) (bk := [1]) Try.func34 (⟨A_9, c_10⟩ : Option Addr × Nat) (by kernel_rfl) trivial (by kernel_rfl) (by kernel_rfl)
  · refine GoO.skip' c34_9e ?_
    refine GoO.seq' c34_10e ?_
    refine GoO.region' (is := [0, 1]) c34_11e (by kernel_rfl) ?_
    refine GoO.exec (is := [0, 1]) (hs := [.p, .p]) (rest := []) (ks := [4]) (env' := [(4, .bool r_6.2.1)]) (H' := [⟨40, b_11, [.int .i64 r_6.1.Kind, .int .i64 r_6.1.From, .int .i64 r_6.1.To, .int .u64 r_6.1.Term, .int .u64 r_6.1.Index, .int .u64 r_6.1.Prev, .int .u64 r_6.1.Commit, .bool r_6.1.Ok, .slice A_7 r_6.1.Entries.length c_8, .string (bs r_6.1.Data)]⟩, ⟨1, b_2, [.slice A_9 r_6.2.2.l.length c_10, .int .i64 r_6.2.2.lost]⟩]) (ps := []) (by kernel_rfl) trivial ?_
    refine GoO.regionEnd ?_
    exact GoO.ret' (h := c34_12e) (hs := []) (ps := []) (hk := [1]) (bk := [1]) Try.func34 (⟨A_9, c_10⟩ : Option Addr × Nat) (by kernel_rfl) trivial (by kernel_rfl) (by kernel_rfl)

/-! (*tontine/net.Net).Double -/
noncomputable def c18_0 : Code := bodyOf Try.f18
noncomputable def c18_1 : Code := cdL c18_0
noncomputable def c18_2 : Code := cdR c18_0
noncomputable def c18_3 : Code := cdL c18_2
noncomputable def c18_4 : Code := cdR c18_2
noncomputable def c18_5 : Code := cdL c18_4
noncomputable def c18_6 : Code := cdL c18_5
noncomputable def c18_7 : Code := cdR c18_5
noncomputable def c18_8 : Code := cdL c18_7
noncomputable def c18_9 : Code := cdL c18_8
noncomputable def c18_10 : Code := cdR c18_8
noncomputable def c18_11 : Code := cdR c18_7
noncomputable def c18_12 : Code := cdR c18_4
noncomputable def c18_13 : Code := cdL c18_12
noncomputable def c18_14 : Code := cdR c18_12
noncomputable def r18_1 : Array Oper := cdO c18_1
noncomputable def r18_3 : Array Oper := cdO c18_3
noncomputable def r18_6 : Array Oper := cdO c18_6
noncomputable def r18_9 : Array Oper := cdO c18_9
noncomputable def r18_13 : Array Oper := cdO c18_13
theorem c18_0e : c18_0 = .seq c18_1 c18_2 := by kernel_rfl
theorem c18_1e : c18_1 = .region 0 r18_1 false := by kernel_rfl
theorem c18_2e : c18_2 = .seq c18_3 c18_4 := by kernel_rfl
theorem c18_3e : c18_3 = .region 1 r18_3 false := by kernel_rfl
theorem c18_4e : c18_4 = .seq c18_5 c18_12 := by kernel_rfl
theorem c18_5e : c18_5 = .seq c18_6 c18_7 := by kernel_rfl
theorem c18_6e : c18_6 = .region 2 r18_6 false := by kernel_rfl
theorem c18_7e : c18_7 = .cond (cdC c18_7) c18_8 c18_11 := by kernel_rfl
theorem c18_8e : c18_8 = .seq c18_9 c18_10 := by kernel_rfl
theorem c18_9e : c18_9 = .region 3 r18_9 false := by kernel_rfl
theorem c18_10e : c18_10 = .ret := by kernel_rfl
theorem c18_11e : c18_11 = .skip := by kernel_rfl
theorem c18_12e : c18_12 = .seq c18_13 c18_14 := by kernel_rfl
theorem c18_13e : c18_13 = .region 4 r18_13 false := by kernel_rfl
theorem c18_14e : c18_14 = .ret := by kernel_rfl
noncomputable def net_Net_Double.R (b_2 : Nat) (A_3 : Option Addr) (c_4 : Nat) : Pst (Bool × T_net_Net) where
  ε := Option Addr × Nat
  v := fun r x => .bool r.1
  H := fun r x => [⟨1, b_2, [.slice x.1 r.2.l.length x.2, .int .i64 r.2.lost]⟩]
  B := fun r x => [Ow 2 kT_api_Letter x.1 x.2 r.2.l]
noncomputable def net_Net_Double.cx (b_2 : Nat) (A_3 : Option Addr) (c_4 : Nat) (w0 : World) (S0 : Fam) : Cx (Bool × T_net_Net) := ⟨Try.prog, 18, Try.f18, 20, w0, S0, [1, 2], 2, net_Net_Double.R b_2 A_3 c_4⟩
theorem net_Net_Double_ok (n : Nat) (n_1 : T_net_Net) (i_5 : Int) (b_2 : Nat) (A_3 : Option Addr) (c_4 : Nat) :
    Meets Try.prog 18 [.pointer (some ⟨b_2, 0, none⟩), .int .i64 i_5] 2 [1, 2] [⟨1, b_2, [.slice A_3 n_1.l.length c_4, .int .i64 n_1.lost]⟩] [Ow 2 kT_api_Letter A_3 c_4 n_1.l] (net_Net_Double.f n n_1 i_5) (net_Net_Double.R b_2 A_3 c_4) := by
  refine Meets.of (c := c18_0) (n := 20) Try.func18 (by kernel_rfl) (by kernel_rfl) (by kernel_rfl) fun w0 S0 => ?_
  unfold net_Net_Double.f
  show GoO (net_Net_Double.cx b_2 A_3 c_4 w0 S0) [(0, .pointer (some ⟨b_2, 0, none⟩)), (1, .int .i64 i_5)] [⟨1, b_2, [.slice A_3 n_1.l.length c_4, .int .i64 n_1.lost]⟩] [Ow 2 kT_api_Letter A_3 c_4 n_1.l] [.code c18_0] _
  refine GoO.seq' c18_0e ?_
  refine GoO.region' (is := [0]) c18_1e (by kernel_rfl) ?_
  refine GoO.exec (is := [0]) (hs := [.p]) (rest := []) (ks := [0, 1]) (env' := [(0, .pointer (some ⟨b_2, 0, none⟩)), (1, .int .i64 i_5)]) (H' := [⟨1, b_2, [.slice A_3 n_1.l.length c_4, .int .i64 n_1.lost]⟩]) (ps := []) (by kernel_rfl) trivial ?_
  refine GoO.regionEnd ?_
  refine GoO.seq' c18_2e ?_
  refine GoO.region' (is := [0, 1, 2, 3]) c18_3e (by kernel_rfl) ?_
  refine GoO.exec (is := [0, 1]) (hs := [.p, .p]) (rest := [2, 3]) (ks := [0, 6, 7]) (env' := [(0, .pointer (some ⟨b_2, 0, none⟩)), (6, .pointer (some ⟨b_2, 0, none⟩)), (7, .int .i64 i_5)]) (H' := [⟨1, b_2, [.slice A_3 n_1.l.length c_4, .int .i64 n_1.lost]⟩]) (ps := []) (by kernel_rfl) trivial ?_
  refine OpTo.go (GoO.call rfl (by kernel_rfl) (by kernel_rfl) (net_Net_place_ok n n_1 i_5 b_2 A_3 c_4) [[0], [1], [2]] [] [(1, 0)] [(2, 0)] (hks := [0]) (bks := [0]) (by kernel_rfl) (by kernel_rfl) (by kernel_rfl) (.inl rfl) rfl rfl (by kernel_rfl) (by kernel_rfl) _ (fun _ _ => rfl) _ _ (fun _ _ => rfl) (fun _ _ => rfl) (fun _ _ => by kernel_rfl) (fun _ _ => by kernel_rfl) (fun r_6 x_15 => ?_))
  refine GoO.shape (env' := [(0, .pointer (some ⟨b_2, 0, none⟩)), (6, .pointer (some ⟨b_2, 0, none⟩)), (7, .int .i64 i_5), (8, .int .i64 r_6)]) (H' := [⟨1, b_2, [.slice A_3 n_1.l.length c_4, .int .i64 n_1.lost]⟩]) (B' := [Ow 2 kT_api_Letter A_3 c_4 n_1.l]) (ks := [0, 6, 7, 8]) (by kernel_rfl) (by kernel_rfl) (by kernel_rfl) ?_
  refine GoO.exec (is := [3]) (hs := [.p]) (rest := []) (ks := [0, 5]) (env' := [(0, .pointer (some ⟨b_2, 0, none⟩)), (5, .int .i64 r_6)]) (H' := [⟨1, b_2, [.slice A_3 n_1.l.length c_4, .int .i64 n_1.lost]⟩]) (ps := []) (by kernel_rfl) trivial ?_
  refine GoO.regionEnd ?_
  refine GoO.seq' c18_4e ?_
  refine GoO.seq' c18_5e ?_
  refine GoO.region' (is := [0, 1]) c18_6e (by kernel_rfl) ?_
  refine GoO.exec (is := [0, 1]) (hs := [.p, .p]) (rest := []) (ks := [0, 5, 10]) (env' := [(0, .pointer (some ⟨b_2, 0, none⟩)), (5, .int .i64 r_6), (10, .bool (decide (r_6 < 0)))]) (H' := [⟨1, b_2, [.slice A_3 n_1.l.length c_4, .int .i64 n_1.lost]⟩]) (ps := []) (by kernel_rfl) trivial ?_
  refine GoO.regionEnd ?_
  refine GoO.ite' c18_7e (by kernel_rfl) (fun h7 => ?_) (fun h7 => ?_)
  · refine GoO.seq' c18_8e ?_
    refine GoO.region' (is := [0]) c18_9e (by kernel_rfl) ?_
    refine GoO.exec (is := [0]) (hs := [.p]) (rest := []) (ks := [4]) (env' := [(4, .bool false)]) (H' := [⟨1, b_2, [.slice A_3 n_1.l.length c_4, .int .i64 n_1.lost]⟩]) (ps := []) (by kernel_rfl) trivial ?_
    refine GoO.regionEnd ?_
    exact GoO.ret' (h := c18_10e) (hs := []) (ps := []) (hk := [0]) (bk := [0]) Try.func18 (⟨A_3, c_4⟩ : Option Addr × Nat) (by kernel_rfl) trivial (by kernel_rfl) (by kernel_rfl)
  · refine GoO.skip' c18_11e ?_
    refine GoO.seq' c18_12e ?_
    refine GoO.region' (is := [0, 1, 2, 3, 4, 5, 6, 7, 8, 9]) c18_13e (by kernel_rfl) ?_
    refine GoO.exec (is := [0, 1, 2, 3, 4, 5]) (hs := [.p, .p, .p, .p, .b 0, .p]) (rest := [6, 7, 8, 9]) (ks := [11, 15, 16]) (env' := [(11, .pointer (some ⟨b_2, 0, none⟩)), (15, .slice A_3 n_1.l.length c_4), (16, .int .i64 r_6)]) (H' := [⟨1, b_2, [.slice A_3 n_1.l.length c_4, .int .i64 n_1.lost]⟩]) (ps := [b_2 = b_2]) (by kernel_rfl) (And.intro rfl trivial) ?_
    refine GoO.guard (fun h8 => ?_)
    refine OpTo.go (GoO.idx (kk := .i64) (e := 29) (K := kT_api_Letter) (A := A_3) (c := c_4) (xs := n_1.l) (iv := r_6) (j := 0) rfl (by kernel_rfl) (by kernel_rfl) (by kernel_rfl) (by kernel_rfl) rfl Reads.own rfl h8.1 h8.2 (by decide) rfl ?_)
    refine OpTo.go (GoO.ldE' (K := kT_api_Letter) (A := A_3) (c := c_4) (xs := n_1.l) (iN := r_6.toNat) (off := 0) (j := 0) rfl (by kernel_rfl) rfl Reads.own (by first | exact idx_lt h8.1 h8.2 | (simp only [List.length_set]; exact idx_lt h8.1 h8.2)) (by decide) (oT_api_Letter _) (v := fun e => .agg ⟨[.int .i64 ((rdL n_1.l r_6).Kind), .int .i64 ((rdL n_1.l r_6).From), .int .i64 ((rdL n_1.l r_6).To), .int .u64 ((rdL n_1.l r_6).Term), .int .u64 ((rdL n_1.l r_6).Index), .int .u64 ((rdL n_1.l r_6).Prev), .int .u64 ((rdL n_1.l r_6).Commit), .bool ((rdL n_1.l r_6).Ok), .slice e.1 ((rdL n_1.l r_6).Entries).length e.2, .string (bs ((rdL n_1.l r_6).Data))]⟩) (fun _ => by kernel_rfl) _ (fun _ => rfl) ?_)
    rintro ⟨A_9, c_10⟩
    refine OpTo.go (GoO.call rfl (by kernel_rfl) (by kernel_rfl) (net_Net_Send_ok n n_1 (rdL n_1.l r_6) b_2 A_3 c_4 A_9 c_10) [[0], [1], [2]] [(1, 1), (2, 2)] [(1, 0)] [(2, 1), (0, 0)] (hks := []) (bks := [0]) (by kernel_rfl) (by kernel_rfl) (by kernel_rfl) (.inl rfl) rfl rfl (by kernel_rfl) (by kernel_rfl) _ (fun _ _ => rfl) _ _ (fun _ _ => rfl) (fun _ _ => rfl) (fun _ _ => by kernel_rfl) (fun _ _ => by kernel_rfl) (fun r_11 x_14 => ?_))
    obtain ⟨A_12, c_13⟩ := x_14
    refine GoO.shape (env' := [(11, .pointer (some ⟨b_2, 0, none⟩)), (16, .int .i64 r_6), (18, .agg ⟨[.int .i64 ((rdL n_1.l r_6).Kind), .int .i64 ((rdL n_1.l r_6).From), .int .i64 ((rdL n_1.l r_6).To), .int .u64 ((rdL n_1.l r_6).Term), .int .u64 ((rdL n_1.l r_6).Index), .int .u64 ((rdL n_1.l r_6).Prev), .int .u64 ((rdL n_1.l r_6).Commit), .bool ((rdL n_1.l r_6).Ok), .slice A_9 ((rdL n_1.l r_6).Entries).length c_10, .string (bs ((rdL n_1.l r_6).Data))]⟩), (19, .bool r_11.1)]) (H' := [⟨1, b_2, [.slice A_12 r_11.2.l.length c_13, .int .i64 r_11.2.lost]⟩]) (B' := [Ow 2 kT_api_Letter A_12 c_13 r_11.2.l, Rd 0 kT_api_Entry A_9 c_10 ((rdL n_1.l r_6).Entries)]) (ks := [11, 16, 18, 19]) (by kernel_rfl) (by kernel_rfl) (by kernel_rfl) ?_
    refine GoO.exec (is := [9]) (hs := [.p]) (rest := []) (ks := [4]) (env' := [(4, .bool r_11.1)]) (H' := [⟨1, b_2, [.slice A_12 r_11.2.l.length c_13, .int .i64 r_11.2.lost]⟩]) (ps := []) (by kernel_rfl) trivial ?_
    refine GoO.regionEnd ?_
    exact GoO.ret' (h := c18_14e) (hs := []) (ps := []) (hk := [0]) (bk := [0]) Try.func18 (⟨A_12, c_13⟩ : Option Addr × Nat) (by kernel_rfl) trivial (by kernel_rfl) (by kernel_rfl)

/-! (*tontine/net.Net).All -/
noncomputable def c37_0 : Code := bodyOf Try.f37
noncomputable def c37_1 : Code := cdL c37_0
noncomputable def c37_2 : Code := cdR c37_0
noncomputable def c37_3 : Code := cdL c37_2
noncomputable def c37_4 : Code := cdL c37_3
noncomputable def c37_5 : Code := cdR c37_3
noncomputable def c37_9 : Code := cdR c37_5
noncomputable def c37_10 : Code := cdR c37_2
noncomputable def c37_11 : Code := cdL c37_10
noncomputable def c37_12 : Code := cdR c37_10
noncomputable def c37_13 : Code := cdL c37_12
noncomputable def c37_14 : Code := cdL c37_13
noncomputable def c37_15 : Code := cdR c37_13
noncomputable def c37_16 : Code := cdL c37_15
noncomputable def c37_17 : Code := cdL c37_16
noncomputable def c37_18 : Code := cdL c37_17
noncomputable def c37_19 : Code := cdR c37_17
noncomputable def c37_20 : Code := cdL c37_19
noncomputable def c37_21 : Code := cdL c37_20
noncomputable def c37_22 : Code := cdR c37_20
noncomputable def c37_23 : Code := cdR c37_19
noncomputable def c37_24 : Code := cdL c37_23
noncomputable def c37_25 : Code := cdL c37_24
noncomputable def c37_26 : Code := cdL c37_25
noncomputable def c37_27 : Code := cdR c37_25
noncomputable def c37_28 : Code := cdR c37_23
noncomputable def c37_29 : Code := cdR c37_12
noncomputable def c37_30 : Code := cdL c37_29
noncomputable def c37_31 : Code := cdR c37_29
noncomputable def c37_6 : Code := cdL c37_5
noncomputable def r37_1 : Array Oper := cdO c37_1
noncomputable def r37_4 : Array Oper := cdO c37_4
noncomputable def r37_11 : Array Oper := cdO c37_11
noncomputable def r37_14 : Array Oper := cdO c37_14
noncomputable def r37_18 : Array Oper := cdO c37_18
noncomputable def r37_26 : Array Oper := cdO c37_26
noncomputable def r37_27 : Array Oper := cdO c37_27
noncomputable def r37_28 : Array Oper := cdO c37_28
noncomputable def r37_30 : Array Oper := cdO c37_30
theorem c37_0e : c37_0 = .seq c37_1 c37_2 := by kernel_rfl
theorem c37_1e : c37_1 = .region 0 r37_1 false := by kernel_rfl
theorem c37_2e : c37_2 = .seq c37_3 c37_10 := by kernel_rfl
theorem c37_3e : c37_3 = .seq c37_4 c37_5 := by kernel_rfl
theorem c37_4e : c37_4 = .region 1 r37_4 false := by kernel_rfl
theorem c37_5e : c37_5 = .cond (cdC c37_5) c37_6 c37_9 := by kernel_rfl
theorem c37_9e : c37_9 = .skip := by kernel_rfl
theorem c37_10e : c37_10 = .seq c37_11 c37_12 := by kernel_rfl
theorem c37_11e : c37_11 = .region 3 r37_11 false := by kernel_rfl
theorem c37_12e : c37_12 = .seq c37_13 c37_29 := by kernel_rfl
theorem c37_13e : c37_13 = .seq c37_14 c37_15 := by kernel_rfl
theorem c37_14e : c37_14 = .region 4 r37_14 false := by kernel_rfl
theorem c37_15e : c37_15 = .block 0 c37_16 := by kernel_rfl
theorem c37_16e : c37_16 = .loop c37_17 := by kernel_rfl
theorem c37_17e : c37_17 = .seq c37_18 c37_19 := by kernel_rfl
theorem c37_18e : c37_18 = .region 5 r37_18 false := by kernel_rfl
theorem c37_19e : c37_19 = .seq c37_20 c37_23 := by kernel_rfl
theorem c37_20e : c37_20 = .cond (cdC c37_20) c37_21 c37_22 := by kernel_rfl
theorem c37_21e : c37_21 = .skip := by kernel_rfl
theorem c37_22e : c37_22 = .exit 0 := by kernel_rfl
theorem c37_23e : c37_23 = .seq c37_24 c37_28 := by kernel_rfl
theorem c37_24e : c37_24 = .block 1 c37_25 := by kernel_rfl
theorem c37_25e : c37_25 = .seq c37_26 c37_27 := by kernel_rfl
theorem c37_26e : c37_26 = .region 6 r37_26 false := by kernel_rfl
theorem c37_27e : c37_27 = .region 7 r37_27 false := by kernel_rfl
theorem c37_28e : c37_28 = .region 8 r37_28 false := by kernel_rfl
theorem c37_29e : c37_29 = .seq c37_30 c37_31 := by kernel_rfl
theorem c37_30e : c37_30 = .region 9 r37_30 false := by kernel_rfl
theorem c37_31e : c37_31 = .ret := by kernel_rfl
noncomputable def net_Net_All.R (b_2 : Nat) (A_3 : Option Addr) (c_4 : Nat) : Pst (List T_api_Letter) where
  ε := Option Addr × Nat
  v := fun r x => .slice x.1 r.length x.2
  H := fun r x => []
  B := fun r x => [Ow 3 kT_api_Letter x.1 x.2 r]
noncomputable def net_Net_All.cx (b_2 : Nat) (A_3 : Option Addr) (c_4 : Nat) (w0 : World) (S0 : Fam) : Cx (List T_api_Letter) := ⟨Try.prog, 37, Try.f37, 24, w0, S0, [], 2, net_Net_All.R b_2 A_3 c_4⟩
theorem net_Net_All_l0_ok (n : Nat) (n_1 : T_net_Net) (b_2 : Nat) (A_3 : Option Addr) (c_4 : Nat) (w0 : World) (S0 : Fam) :
    ∀ (k : Nat) (l_5 : (List T_api_Letter)) (x_8 : Int) (A_6 : Option Addr) (c_7 : Nat), GoO (net_Net_All.cx b_2 A_3 c_4 w0 S0) [(3, .slice A_6 l_5.length c_7), (11, .slice A_3 n_1.l.length c_4), (12, .int .i64 (n_1.l.length : Int)), (13, .int .i64 x_8)] [⟨1, b_2, [.slice A_3 n_1.l.length c_4, .int .i64 n_1.lost]⟩] [Ow 42 kT_api_Letter A_6 c_7 l_5, Ow 2 kT_api_Letter A_3 c_4 n_1.l] [.code c37_17, .inLoop c37_17, .inBlock 0, .code c37_29] (net_Net_All.l0 n n_1 k l_5 x_8) := by
  intro k
  induction k with
  | zero => intros; rw [net_Net_All.l0.eq_1]; exact GoO.stop
  | succ k ih0 =>
    intro l_5 x_8 A_6 c_7
    rw [net_Net_All.l0.eq_2]
    refine GoO.seq' c37_17e ?_
    refine GoO.region' (is := [0]) c37_18e (by kernel_rfl) ?_
    refine GoO.exec (is := [0]) (hs := [.p]) (rest := []) (ks := [3, 11, 12, 13, 14]) (env' := [(3, .slice A_6 l_5.length c_7), (11, .slice A_3 n_1.l.length c_4), (12, .int .i64 (n_1.l.length : Int)), (13, .int .i64 x_8), (14, .bool (decide (x_8 < (n_1.l.length : Int))))]) (H' := [⟨1, b_2, [.slice A_3 n_1.l.length c_4, .int .i64 n_1.lost]⟩]) (ps := []) (by kernel_rfl) trivial ?_
    refine GoO.regionEnd ?_
    refine GoO.seq' c37_19e ?_
    refine GoO.ite' c37_20e (by kernel_rfl) (fun h9 => ?_) (fun h9 => ?_)
    · refine GoO.skip' c37_21e ?_
      refine GoO.seq' c37_23e ?_
      refine GoO.block' c37_24e ?_
      refine GoO.seq' c37_25e ?_
      refine GoO.region' (is := [0, 1, 2, 3]) c37_26e (by kernel_rfl) ?_
      refine GoO.guard (fun h10 => ?_)
      refine OpTo.go (GoO.idx (kk := .i64) (e := 29) (K := kT_api_Letter) (A := A_3) (c := c_4) (xs := n_1.l) (iv := x_8) (j := 1) rfl (by kernel_rfl) (by kernel_rfl) (by kernel_rfl) (by kernel_rfl) rfl Reads.own rfl h10.1 h10.2 (by decide) rfl ?_)
      refine OpTo.go (GoO.ldE' (K := kT_api_Letter) (A := A_3) (c := c_4) (xs := n_1.l) (iN := x_8.toNat) (off := 0) (j := 1) rfl (by kernel_rfl) rfl Reads.own (by first | exact idx_lt h10.1 h10.2 | (simp only [List.length_set]; exact idx_lt h10.1 h10.2)) (by decide) (oT_api_Letter _) (v := fun e => .agg ⟨[.int .i64 ((rdL n_1.l x_8).Kind), .int .i64 ((rdL n_1.l x_8).From), .int .i64 ((rdL n_1.l x_8).To), .int .u64 ((rdL n_1.l x_8).Term), .int .u64 ((rdL n_1.l x_8).Index), .int .u64 ((rdL n_1.l x_8).Prev), .int .u64 ((rdL n_1.l x_8).Commit), .bool ((rdL n_1.l x_8).Ok), .slice e.1 ((rdL n_1.l x_8).Entries).length e.2, .string (bs ((rdL n_1.l x_8).Data))]⟩) (fun _ => by kernel_rfl) _ (fun _ => rfl) ?_)
      rintro ⟨A_11, c_12⟩
      refine OpTo.go (GoO.new rfl 40 (cs := [.int .i64 0, .int .i64 0, .int .i64 0, .int .u64 0, .int .u64 0, .int .u64 0, .int .u64 0, .bool false, .slice none ([] : List T_api_Entry).length 0, .string (bs [])]) (by kernel_rfl) _ (fun _ => rfl) (fun b_13 => ?_))
      refine GoO.exec (is := [3]) (hs := [.b 0]) (rest := []) (ks := [3, 5, 11, 12, 13]) (env' := [(3, .slice A_6 l_5.length c_7), (5, .pointer (some ⟨b_13, 0, none⟩)), (11, .slice A_3 n_1.l.length c_4), (12, .int .i64 (n_1.l.length : Int)), (13, .int .i64 x_8)]) (H' := [⟨40, b_13, [.int .i64 ((rdL n_1.l x_8).Kind), .int .i64 ((rdL n_1.l x_8).From), .int .i64 ((rdL n_1.l x_8).To), .int .u64 ((rdL n_1.l x_8).Term), .int .u64 ((rdL n_1.l x_8).Index), .int .u64 ((rdL n_1.l x_8).Prev), .int .u64 ((rdL n_1.l x_8).Commit), .bool ((rdL n_1.l x_8).Ok), .slice A_11 ((rdL n_1.l x_8).Entries).length c_12, .string (bs ((rdL n_1.l x_8).Data))]⟩, ⟨1, b_2, [.slice A_3 n_1.l.length c_4, .int .i64 n_1.lost]⟩]) (ps := [b_13 = b_13]) (by kernel_rfl) (And.intro rfl trivial) ?_
      refine GoO.regionEnd ?_
      refine GoO.region' (is := [0, 1, 2, 3, 4, 5]) c37_27e (by kernel_rfl) ?_
      refine GoO.exec (is := [0, 1]) (hs := [.p, .b 0]) (rest := [2, 3, 4, 5]) (ks := [11, 12, 13, 17, 18]) (env' := [(11, .slice A_3 n_1.l.length c_4), (12, .int .i64 (n_1.l.length : Int)), (13, .int .i64 x_8), (17, .slice A_6 l_5.length c_7), (18, .agg ⟨[.int .i64 ((rdL n_1.l x_8).Kind), .int .i64 ((rdL n_1.l x_8).From), .int .i64 ((rdL n_1.l x_8).To), .int .u64 ((rdL n_1.l x_8).Term), .int .u64 ((rdL n_1.l x_8).Index), .int .u64 ((rdL n_1.l x_8).Prev), .int .u64 ((rdL n_1.l x_8).Commit), .bool ((rdL n_1.l x_8).Ok), .slice A_11 ((rdL n_1.l x_8).Entries).length c_12, .string (bs ((rdL n_1.l x_8).Data))]⟩)]) (H' := [⟨40, b_13, [.int .i64 ((rdL n_1.l x_8).Kind), .int .i64 ((rdL n_1.l x_8).From), .int .i64 ((rdL n_1.l x_8).To), .int .u64 ((rdL n_1.l x_8).Term), .int .u64 ((rdL n_1.l x_8).Index), .int .u64 ((rdL n_1.l x_8).Prev), .int .u64 ((rdL n_1.l x_8).Commit), .bool ((rdL n_1.l x_8).Ok), .slice A_11 ((rdL n_1.l x_8).Entries).length c_12, .string (bs ((rdL n_1.l x_8).Data))]⟩, ⟨1, b_2, [.slice A_3 n_1.l.length c_4, .int .i64 n_1.lost]⟩]) (ps := [b_13 = b_13]) (by kernel_rfl) (And.intro rfl trivial) ?_
      refine OpTo.go (GoO.call rfl (by kernel_rfl) (by kernel_rfl) (net_copied_ok n (rdL n_1.l x_8) A_11 c_12) [[0]] [] [] [(0, 0)] (hks := [0, 1]) (bks := [0, 1, 2]) (by kernel_rfl) (by kernel_rfl) (by kernel_rfl) (.inl rfl) rfl rfl (by kernel_rfl) (by kernel_rfl) _ (fun _ _ => rfl) _ _ (fun _ _ => rfl) (fun _ _ => rfl) (fun _ _ => by kernel_rfl) (fun _ _ => by kernel_rfl) (fun r_14 x_22 => ?_))
      obtain ⟨A_15, c_16⟩ := x_22
      refine GoO.shape (env' := [(11, .slice A_3 n_1.l.length c_4), (12, .int .i64 (n_1.l.length : Int)), (13, .int .i64 x_8), (17, .slice A_6 l_5.length c_7), (18, .agg ⟨[.int .i64 ((rdL n_1.l x_8).Kind), .int .i64 ((rdL n_1.l x_8).From), .int .i64 ((rdL n_1.l x_8).To), .int .u64 ((rdL n_1.l x_8).Term), .int .u64 ((rdL n_1.l x_8).Index), .int .u64 ((rdL n_1.l x_8).Prev), .int .u64 ((rdL n_1.l x_8).Commit), .bool ((rdL n_1.l x_8).Ok), .slice A_11 ((rdL n_1.l x_8).Entries).length c_12, .string (bs ((rdL n_1.l x_8).Data))]⟩), (19, .agg ⟨[.int .i64 r_14.Kind, .int .i64 r_14.From, .int .i64 r_14.To, .int .u64 r_14.Term, .int .u64 r_14.Index, .int .u64 r_14.Prev, .int .u64 r_14.Commit, .bool r_14.Ok, .slice A_15 r_14.Entries.length c_16, .string (bs r_14.Data)]⟩)]) (H' := [⟨40, b_13, [.int .i64 ((rdL n_1.l x_8).Kind), .int .i64 ((rdL n_1.l x_8).From), .int .i64 ((rdL n_1.l x_8).To), .int .u64 ((rdL n_1.l x_8).Term), .int .u64 ((rdL n_1.l x_8).Index), .int .u64 ((rdL n_1.l x_8).Prev), .int .u64 ((rdL n_1.l x_8).Commit), .bool ((rdL n_1.l x_8).Ok), .slice A_11 ((rdL n_1.l x_8).Entries).length c_12, .string (bs ((rdL n_1.l x_8).Data))]⟩, ⟨1, b_2, [.slice A_3 n_1.l.length c_4, .int .i64 n_1.lost]⟩]) (B' := [Rd 0 kT_api_Entry A_15 c_16 r_14.Entries, Rd 0 kT_api_Entry A_11 c_12 ((rdL n_1.l x_8).Entries), Ow 42 kT_api_Letter A_6 c_7 l_5, Ow 2 kT_api_Letter A_3 c_4 n_1.l]) (ks := [11, 12, 13, 17, 18, 19]) (by kernel_rfl) (by kernel_rfl) (by kernel_rfl) ?_
      refine OpTo.go (GoO.lit (e := 29) (K := kT_api_Letter) rfl (by kernel_rfl) (by kernel_rfl) (cs := [.int .i64 r_14.Kind, .int .i64 r_14.From, .int .i64 r_14.To, .int .u64 r_14.Term, .int .u64 r_14.Index, .int .u64 r_14.Prev, .int .u64 r_14.Commit, .bool r_14.Ok, .slice A_15 r_14.Entries.length c_16, .string (bs r_14.Data)]) (by kernel_rfl) [r_14] (by kernel_rfl) (by kernel_rfl) (fun w S hB => ⟨[.int .i64 r_14.Kind, .int .i64 r_14.From, .int .i64 r_14.To, .int .u64 r_14.Term, .int .u64 r_14.Index, .int .u64 r_14.Prev, .int .u64 r_14.Commit, .bool r_14.Ok, .slice A_15 r_14.Entries.length c_16, .string (bs r_14.Data)], _, rfl, ⟨A_15, c_16, rfl, hB _ (List.mem_of_getElem? (i := 0) rfl)⟩, rfl⟩) 41 _ (fun _ _ => rfl) (fun A_17 c_18 => ?_))
      refine GoO.guard (fun h19 => ?_)
      refine OpTo.go (GoO.appW (e := 29) (K := kT_api_Letter) (A := A_6) (c := c_7) (tg := 42) (bytes := 104) (zs := [.int .i64 0, .int .i64 0, .int .i64 0, .int .u64 0, .int .u64 0, .int .u64 0, .int .u64 0, .bool false, .slice none 0 0, .string (bs [])]) (xs := l_5) (ys := [r_14]) (xv := .slice A_17 [r_14].length c_18) (j := 3) (bk := [0, 1, 2, 4]) rfl (by kernel_rfl) (by kernel_rfl) (by kernel_rfl) (by kernel_rfl) rfl (by kernel_rfl) rfl (fun w S hB => SrcIs.row (Reads.own w S (hB _ (List.mem_of_getElem? (i := 0) rfl)))) h19 rfl rfl rfl rfl _ (fun _ _ => rfl) (fun A_20 c_21 => ?_))
      refine GoO.exec (is := [5]) (hs := [.p]) (rest := []) (ks := [3, 11, 12, 13]) (env' := [(3, .slice A_20 (l_5 ++ [r_14]).length c_21), (11, .slice A_3 n_1.l.length c_4), (12, .int .i64 (n_1.l.length : Int)), (13, .int .i64 x_8)]) (H' := [⟨40, b_13, [.int .i64 ((rdL n_1.l x_8).Kind), .int .i64 ((rdL n_1.l x_8).From), .int .i64 ((rdL n_1.l x_8).To), .int .u64 ((rdL n_1.l x_8).Term), .int .u64 ((rdL n_1.l x_8).Index), .int .u64 ((rdL n_1.l x_8).Prev), .int .u64 ((rdL n_1.l x_8).Commit), .bool ((rdL n_1.l x_8).Ok), .slice A_11 ((rdL n_1.l x_8).Entries).length c_12, .string (bs ((rdL n_1.l x_8).Data))]⟩, ⟨1, b_2, [.slice A_3 n_1.l.length c_4, .int .i64 n_1.lost]⟩]) (ps := []) (by kernel_rfl) trivial ?_
      refine GoO.regionEnd ?_
      refine GoO.inBlock ?_
      refine GoO.region' (is := [0, 1]) c37_28e (by kernel_rfl) ?_
      refine GoO.exec (is := [0, 1]) (hs := [.p, .p]) (rest := []) (ks := [3, 11, 12, 13]) (env' := [(3, .slice A_20 (l_5 ++ [r_14]).length c_21), (11, .slice A_3 n_1.l.length c_4), (12, .int .i64 (n_1.l.length : Int)), (13, .int .i64 (wi64 (x_8 + 1)))]) (H' := [⟨40, b_13, [.int .i64 ((rdL n_1.l x_8).Kind), .int .i64 ((rdL n_1.l x_8).From), .int .i64 ((rdL n_1.l x_8).To), .int .u64 ((rdL n_1.l x_8).Term), .int .u64 ((rdL n_1.l x_8).Index), .int .u64 ((rdL n_1.l x_8).Prev), .int .u64 ((rdL n_1.l x_8).Commit), .bool ((rdL n_1.l x_8).Ok), .slice A_11 ((rdL n_1.l x_8).Entries).length c_12, .string (bs ((rdL n_1.l x_8).Data))]⟩, ⟨1, b_2, [.slice A_3 n_1.l.length c_4, .int .i64 n_1.lost]⟩]) (ps := []) (by kernel_rfl) trivial ?_
      refine GoO.regionEnd ?_
      refine GoO.inLoop ?_
      exact GoO.sub (ks := [3, 11, 12, 13]) (hk := [1]) (bk := [0, 4]) (by kernel_rfl) (by kernel_rfl) (by kernel_rfl) (ih0 (l_5 ++ [r_14]) (wi64 (x_8 + 1)) A_20 c_21)
    · refine GoO.exit' c37_22e rfl ?_
      refine GoO.seq' c37_29e ?_
      refine GoO.region' (is := [0, 1]) c37_30e (by kernel_rfl) ?_
      refine GoO.exec (is := [0, 1]) (hs := [.p, .p]) (rest := []) (ks := [2]) (env' := [(2, .slice A_6 l_5.length c_7)]) (H' := [⟨1, b_2, [.slice A_3 n_1.l.length c_4, .int .i64 n_1.lost]⟩]) (ps := []) (by kernel_rfl) trivial ?_
      refine GoO.regionEnd ?_
      refine GoO.retag (t := 42) (u := 3) (j := 0) (hk := [0]) (bk := [1]) rfl rfl rfl rfl rfl rfl (by kernel_rfl) (by kernel_rfl) ?_
      exact GoO.ret' (h := c37_31e) (hs := []) (ps := []) (hk := []) (bk := [0]) Try.func37 (⟨A_6, c_7⟩ : Option Addr × Nat) (by kernel_rfl) trivial (by kernel_rfl) (by kernel_rfl)
theorem net_Net_All_ok (n : Nat) (n_1 : T_net_Net) (b_2 : Nat) (A_3 : Option Addr) (c_4 : Nat) :
    Meets Try.prog 37 [.pointer (some ⟨b_2, 0, none⟩)] 2 [] [⟨1, b_2, [.slice A_3 n_1.l.length c_4, .int .i64 n_1.lost]⟩] [Ow 2 kT_api_Letter A_3 c_4 n_1.l] (net_Net_All.f n n_1) (net_Net_All.R b_2 A_3 c_4) := by
  refine Meets.of (c := c37_0) (n := 24) Try.func37 (by kernel_rfl) (by kernel_rfl) (by kernel_rfl) fun w0 S0 => ?_
  unfold net_Net_All.f
  show GoO (net_Net_All.cx b_2 A_3 c_4 w0 S0) [(0, .pointer (some ⟨b_2, 0, none⟩))] [⟨1, b_2, [.slice A_3 n_1.l.length c_4, .int .i64 n_1.lost]⟩] [Ow 2 kT_api_Letter A_3 c_4 n_1.l] [.code c37_0] _
  refine GoO.seq' c37_0e ?_
  refine GoO.region' (is := [0]) c37_1e (by kernel_rfl) ?_
  refine GoO.exec (is := [0]) (hs := [.p]) (rest := []) (ks := [0]) (env' := [(0, .pointer (some ⟨b_2, 0, none⟩))]) (H' := [⟨1, b_2, [.slice A_3 n_1.l.length c_4, .int .i64 n_1.lost]⟩]) (ps := []) (by kernel_rfl) trivial ?_
  refine GoO.regionEnd ?_
  refine GoO.seq' c37_2e ?_
  refine GoO.seq' c37_3e ?_
  refine GoO.region' (is := [0, 1]) c37_4e (by kernel_rfl) ?_
  refine GoO.exec (is := [0, 1]) (hs := [.p, .p]) (rest := []) (ks := [0, 7]) (env' := [(0, .pointer (some ⟨b_2, 0, none⟩)), (7, .bool false)]) (H' := [⟨1, b_2, [.slice A_3 n_1.l.length c_4, .int .i64 n_1.lost]⟩]) (ps := []) (by kernel_rfl) trivial ?_
  refine GoO.regionEnd ?_
  refine GoO.condF c37_5e (by kernel_rfl) ?_
  refine GoO.skip' c37_9e ?_
  refine GoO.seq' c37_10e ?_
  refine GoO.region' (is := [0]) c37_11e (by kernel_rfl) ?_
  refine GoO.exec (is := [0]) (hs := [.p]) (rest := []) (ks := [0, 3]) (env' := [(0, .pointer (some ⟨b_2, 0, none⟩)), (3, .slice none ([] : List T_api_Letter).length 0)]) (H' := [⟨1, b_2, [.slice A_3 n_1.l.length c_4, .int .i64 n_1.lost]⟩]) (ps := []) (by kernel_rfl) trivial ?_
  refine GoO.regionEnd ?_
  refine GoO.seq' c37_12e ?_
  refine GoO.seq' c37_13e ?_
  refine GoO.region' (is := [0, 1, 2, 3, 4, 5]) c37_14e (by kernel_rfl) ?_
  refine GoO.exec (is := [0, 1, 2, 3, 4, 5]) (hs := [.p, .p, .p, .b 0, .p, .p]) (rest := []) (ks := [3, 11, 12, 13]) (env' := [(3, .slice none ([] : List T_api_Letter).length 0), (11, .slice A_3 n_1.l.length c_4), (12, .int .i64 (n_1.l.length : Int)), (13, .int .i64 0)]) (H' := [⟨1, b_2, [.slice A_3 n_1.l.length c_4, .int .i64 n_1.lost]⟩]) (ps := [b_2 = b_2]) (by kernel_rfl) (And.intro rfl trivial) ?_
  refine GoO.regionEnd ?_
  refine GoO.block' c37_15e ?_
  refine GoO.loop' c37_16e ?_
  refine GoO.nilOwn kT_api_Letter 42 ?_
  exact GoO.sub (ks := [3, 11, 12, 13]) (hk := [0]) (bk := [0, 1]) (by kernel_rfl) (by kernel_rfl) (by kernel_rfl) (net_Net_All_l0_ok n n_1 b_2 A_3 c_4 w0 S0 n ([] : List T_api_Letter) 0 none 0)

/-! tontine/tontineref10.All -/
noncomputable def c36_0 : Code := bodyOf Try.f36
noncomputable def c36_1 : Code := cdL c36_0
noncomputable def c36_2 : Code := cdR c36_0
noncomputable def c36_3 : Code := cdL c36_2
noncomputable def c36_4 : Code := cdL c36_3
noncomputable def c36_5 : Code := cdR c36_3
noncomputable def c36_6 : Code := cdL c36_5
noncomputable def c36_7 : Code := cdL c36_6
noncomputable def c36_8 : Code := cdR c36_6
noncomputable def c36_9 : Code := cdR c36_5
noncomputable def c36_10 : Code := cdR c36_2
noncomputable def c36_11 : Code := cdL c36_10
noncomputable def c36_12 : Code := cdL c36_11
noncomputable def c36_13 : Code := cdR c36_11
noncomputable def c36_14 : Code := cdL c36_13
noncomputable def c36_15 : Code := cdL c36_14
noncomputable def c36_16 : Code := cdL c36_15
noncomputable def c36_17 : Code := cdL c36_16
noncomputable def c36_18 : Code := cdR c36_16
noncomputable def c36_19 : Code := cdL c36_18
noncomputable def c36_20 : Code := cdR c36_18
noncomputable def c36_21 : Code := cdR c36_15
noncomputable def c36_22 : Code := cdL c36_21
noncomputable def c36_23 : Code := cdL c36_22
noncomputable def c36_24 : Code := cdL c36_23
noncomputable def c36_25 : Code := cdR c36_23
noncomputable def c36_26 : Code := cdL c36_25
noncomputable def c36_27 : Code := cdL c36_26
noncomputable def c36_28 : Code := cdR c36_26
noncomputable def c36_29 : Code := cdR c36_25
noncomputable def c36_30 : Code := cdR c36_21
noncomputable def c36_31 : Code := cdR c36_10
noncomputable def c36_32 : Code := cdL c36_31
noncomputable def c36_33 : Code := cdR c36_31
noncomputable def r36_1 : Array Oper := cdO c36_1
noncomputable def r36_4 : Array Oper := cdO c36_4
noncomputable def r36_7 : Array Oper := cdO c36_7
noncomputable def r36_12 : Array Oper := cdO c36_12
noncomputable def r36_17 : Array Oper := cdO c36_17
noncomputable def r36_24 : Array Oper := cdO c36_24
noncomputable def r36_27 : Array Oper := cdO c36_27
noncomputable def r36_30 : Array Oper := cdO c36_30
noncomputable def r36_32 : Array Oper := cdO c36_32
theorem c36_0e : c36_0 = .seq c36_1 c36_2 := by kernel_rfl
theorem c36_1e : c36_1 = .region 0 r36_1 false := by kernel_rfl
theorem c36_2e : c36_2 = .seq c36_3 c36_10 := by kernel_rfl
theorem c36_3e : c36_3 = .seq c36_4 c36_5 := by kernel_rfl
theorem c36_4e : c36_4 = .region 1 r36_4 false := by kernel_rfl
theorem c36_5e : c36_5 = .cond (cdC c36_5) c36_6 c36_9 := by kernel_rfl
theorem c36_6e : c36_6 = .seq c36_7 c36_8 := by kernel_rfl
theorem c36_7e : c36_7 = .region 2 r36_7 false := by kernel_rfl
theorem c36_8e : c36_8 = .ret := by kernel_rfl
theorem c36_9e : c36_9 = .skip := by kernel_rfl
theorem c36_10e : c36_10 = .seq c36_11 c36_31 := by kernel_rfl
theorem c36_11e : c36_11 = .seq c36_12 c36_13 := by kernel_rfl
theorem c36_12e : c36_12 = .region 3 r36_12 false := by kernel_rfl
theorem c36_13e : c36_13 = .block 0 c36_14 := by kernel_rfl
theorem c36_14e : c36_14 = .loop c36_15 := by kernel_rfl
theorem c36_15e : c36_15 = .seq c36_16 c36_21 := by kernel_rfl
theorem c36_16e : c36_16 = .seq c36_17 c36_18 := by kernel_rfl
theorem c36_17e : c36_17 = .region 4 r36_17 false := by kernel_rfl
theorem c36_18e : c36_18 = .cond (cdC c36_18) c36_19 c36_20 := by kernel_rfl
theorem c36_19e : c36_19 = .skip := by kernel_rfl
theorem c36_20e : c36_20 = .exit 0 := by kernel_rfl
theorem c36_21e : c36_21 = .seq c36_22 c36_30 := by kernel_rfl
theorem c36_22e : c36_22 = .block 1 c36_23 := by kernel_rfl
theorem c36_23e : c36_23 = .seq c36_24 c36_25 := by kernel_rfl
theorem c36_24e : c36_24 = .region 6 r36_24 true := by kernel_rfl
theorem c36_25e : c36_25 = .cond (cdC c36_25) c36_26 c36_29 := by kernel_rfl
theorem c36_26e : c36_26 = .seq c36_27 c36_28 := by kernel_rfl
theorem c36_27e : c36_27 = .region 7 r36_27 false := by kernel_rfl
theorem c36_28e : c36_28 = .ret := by kernel_rfl
theorem c36_29e : c36_29 = .skip := by kernel_rfl
theorem c36_30e : c36_30 = .region 5 r36_30 false := by kernel_rfl
theorem c36_31e : c36_31 = .seq c36_32 c36_33 := by kernel_rfl
theorem c36_32e : c36_32 = .region 8 r36_32 false := by kernel_rfl
theorem c36_33e : c36_33 = .ret := by kernel_rfl
noncomputable def tontineref10_All.R (A_2 : Option Addr) (c_3 : Nat) (A_5 : Option Addr) (c_6 : Nat) : Pst Bool where
  ε := Unit
  v := fun r x => .bool r
  H := fun r x => []
  B := fun r x => []
noncomputable def tontineref10_All.cx (A_2 : Option Addr) (c_3 : Nat) (A_5 : Option Addr) (c_6 : Nat) (w0 : World) (S0 : Fam) : Cx Bool := ⟨Try.prog, 36, Try.f36, 27, w0, S0, [], 0, tontineref10_All.R A_2 c_3 A_5 c_6⟩
theorem tontineref10_All_l0_ok (n : Nat) (a_1 : (List T_api_Letter)) (b_4 : (List T_api_Letter)) (A_2 : Option Addr) (c_3 : Nat) (A_5 : Option Addr) (c_6 : Nat) (w0 : World) (S0 : Fam) :
    ∀ (k : Nat) (i_8 : Int), GoO (tontineref10_All.cx A_2 c_3 A_5 c_6 w0 S0) [(0, .slice A_2 a_1.length c_3), (1, .slice A_5 b_4.length c_6), (5, .int .i64 i_8)] [] [Rd 0 kT_api_Letter A_2 c_3 a_1, Rd 0 kT_api_Letter A_5 c_6 b_4] [.code c36_15, .inLoop c36_15, .inBlock 0, .code c36_31] (tontineref10_All.l0 n a_1 b_4 k i_8) := by
  intro k
  induction k with
  | zero => intros; rw [tontineref10_All.l0.eq_1]; exact GoO.stop
  | succ k ih0 =>
    intro i_8
    rw [tontineref10_All.l0.eq_2]
    refine GoO.seq' c36_15e ?_
    refine GoO.seq' c36_16e ?_
    refine GoO.region' (is := [0, 1, 2, 3]) c36_17e (by kernel_rfl) ?_
    refine GoO.exec (is := [0, 1, 2, 3]) (hs := [.p, .p, .p, .p]) (rest := []) (ks := [0, 1, 5, 14]) (env' := [(0, .slice A_2 a_1.length c_3), (1, .slice A_5 b_4.length c_6), (5, .int .i64 i_8), (14, .bool (decide (i_8 < (a_1.length : Int))))]) (H' := []) (ps := []) (by kernel_rfl) trivial ?_
    refine GoO.regionEnd ?_
    refine GoO.ite' c36_18e (by kernel_rfl) (fun h9 => ?_) (fun h9 => ?_)
    · refine GoO.skip' c36_19e ?_
      refine GoO.seq' c36_21e ?_
      refine GoO.block' c36_22e ?_
      refine GoO.seq' c36_23e ?_
      refine GoO.draw c36_24e (by kernel_rfl) [] [] [Rd 0 kT_api_Letter A_2 c_3 a_1, Rd 0 kT_api_Letter A_5 c_6 b_4] (n := 10) (by kernel_rfl) ?_
      simp only [List.replicate]
      refine GoF.take [0, 1, 4, 5] [.p, .p, .p, .p] (ks := [0, 1, 5, 17, 18, 21, 22]) (fu := 6) (li := [true, true, false, false, true, true, false, false, false, false]) (env' := [(0, .slice A_2 a_1.length c_3), (1, .slice A_5 b_4.length c_6), (5, .int .i64 i_8), (17, .slice A_2 a_1.length c_3), (18, .int .i64 i_8), (21, .slice A_5 b_4.length c_6), (22, .int .i64 i_8)]) (ps := []) (hk := []) (bk := [0, 1]) (by kernel_rfl) trivial rfl rfl ?_
      refine GoF.guard (fun h10 => ?_)
      refine GoF.idx (i := 2) (hk := []) (bk := [0, 1]) (kk := .i64) (e := 29) (K := kT_api_Letter) (A := A_2) (c := c_3) (xs := a_1) (iv := i_8) (j := 0) (by kernel_rfl) rfl rfl rfl (by kernel_rfl) (by kernel_rfl) (by kernel_rfl) (by kernel_rfl) rfl Reads.rd rfl h10.1 h10.2 (by decide) rfl ?_
      refine GoF.opn (K := kT_api_Letter) (A := A_2) (c := c_3) (xs := a_1) (iN := i_8.toNat) (j := 0) (tg := 0) rfl rfl Reads.rd (by first | exact idx_lt h10.1 h10.2 | (simp only [List.length_set]; exact idx_lt h10.1 h10.2)) (by decide) (oT_api_Letter _) ?_
      rintro ⟨A_11, c_12⟩
      refine GoF.shape (env' := [(0, .slice A_2 a_1.length c_3), (1, .slice A_5 b_4.length c_6), (5, .int .i64 i_8), (17, .slice A_2 a_1.length c_3), (18, .int .i64 i_8), (19, elemP A_2 i_8.toNat 10 0), (21, .slice A_5 b_4.length c_6), (22, .int .i64 i_8)]) (H' := []) (B' := [Ce 0 A_2 (i_8.toNat * 10) [.int .i64 ((rdL a_1 i_8).Kind), .int .i64 ((rdL a_1 i_8).From), .int .i64 ((rdL a_1 i_8).To), .int .u64 ((rdL a_1 i_8).Term), .int .u64 ((rdL a_1 i_8).Index), .int .u64 ((rdL a_1 i_8).Prev), .int .u64 ((rdL a_1 i_8).Commit), .bool ((rdL a_1 i_8).Ok), .slice A_11 ((rdL a_1 i_8).Entries).length c_12, .string (bs ((rdL a_1 i_8).Data))], Rd 0 kT_api_Entry A_11 c_12 ((rdL a_1 i_8).Entries), Rd 0 kT_api_Letter A_2 c_3 a_1, Rd 0 kT_api_Letter A_5 c_6 b_4]) (ks := [0, 1, 5, 17, 18, 19, 21, 22]) (by kernel_rfl) (by kernel_rfl) (by kernel_rfl) ?_
      refine GoF.more [] [Rd 0 kT_api_Letter A_2 c_3 a_1, Rd 0 kT_api_Letter A_5 c_6 b_4, Ce 0 A_2 (i_8.toNat * 10) [.int .i64 ((rdL a_1 i_8).Kind), .int .i64 ((rdL a_1 i_8).From), .int .i64 ((rdL a_1 i_8).To), .int .u64 ((rdL a_1 i_8).Term), .int .u64 ((rdL a_1 i_8).Index), .int .u64 ((rdL a_1 i_8).Prev), .int .u64 ((rdL a_1 i_8).Commit), .bool ((rdL a_1 i_8).Ok), .slice A_11 ((rdL a_1 i_8).Entries).length c_12, .string (bs ((rdL a_1 i_8).Data))]] (hk := []) (bk := [0, 1]) rfl rfl ?_
      refine GoF.ldC (i := 3) (hk := []) (bk := [2, 3, 0]) (A := A_2) (iN := i_8.toNat) (sz := 10) (off := 0) (tg := 0) (cs := [.int .i64 ((rdL a_1 i_8).Kind), .int .i64 ((rdL a_1 i_8).From), .int .i64 ((rdL a_1 i_8).To), .int .u64 ((rdL a_1 i_8).Term), .int .u64 ((rdL a_1 i_8).Index), .int .u64 ((rdL a_1 i_8).Prev), .int .u64 ((rdL a_1 i_8).Commit), .bool ((rdL a_1 i_8).Ok), .slice A_11 ((rdL a_1 i_8).Entries).length c_12, .string (bs ((rdL a_1 i_8).Data))]) (j := 2) (v := .agg ⟨[.int .i64 ((rdL a_1 i_8).Kind), .int .i64 ((rdL a_1 i_8).From), .int .i64 ((rdL a_1 i_8).To), .int .u64 ((rdL a_1 i_8).Term), .int .u64 ((rdL a_1 i_8).Index), .int .u64 ((rdL a_1 i_8).Prev), .int .u64 ((rdL a_1 i_8).Commit), .bool ((rdL a_1 i_8).Ok), .slice A_11 ((rdL a_1 i_8).Entries).length c_12, .string (bs ((rdL a_1 i_8).Data))]⟩) (by kernel_rfl) rfl rfl rfl (by kernel_rfl) rfl (by kernel_rfl) rfl ?_
      refine GoF.guard (fun h13 => ?_)
      refine GoF.idx (i := 6) (hk := []) (bk := [2, 3, 0]) (kk := .i64) (e := 29) (K := kT_api_Letter) (A := A_5) (c := c_6) (xs := b_4) (iv := i_8) (j := 1) (by kernel_rfl) rfl rfl rfl (by kernel_rfl) (by kernel_rfl) (by kernel_rfl) (by kernel_rfl) rfl Reads.rd rfl h13.1 h13.2 (by decide) rfl ?_
      refine GoF.opn (K := kT_api_Letter) (A := A_5) (c := c_6) (xs := b_4) (iN := i_8.toNat) (j := 3) (tg := 0) rfl rfl Reads.rd (by first | exact idx_lt h13.1 h13.2 | (simp only [List.length_set]; exact idx_lt h13.1 h13.2)) (by decide) (oT_api_Letter _) ?_
      rintro ⟨A_14, c_15⟩
      refine GoF.shape (env' := [(0, .slice A_2 a_1.length c_3), (1, .slice A_5 b_4.length c_6), (5, .int .i64 i_8), (17, .slice A_2 a_1.length c_3), (18, .int .i64 i_8), (19, elemP A_2 i_8.toNat 10 0), (20, .agg ⟨[.int .i64 ((rdL a_1 i_8).Kind), .int .i64 ((rdL a_1 i_8).From), .int .i64 ((rdL a_1 i_8).To), .int .u64 ((rdL a_1 i_8).Term), .int .u64 ((rdL a_1 i_8).Index), .int .u64 ((rdL a_1 i_8).Prev), .int .u64 ((rdL a_1 i_8).Commit), .bool ((rdL a_1 i_8).Ok), .slice A_11 ((rdL a_1 i_8).Entries).length c_12, .string (bs ((rdL a_1 i_8).Data))]⟩), (21, .slice A_5 b_4.length c_6), (22, .int .i64 i_8), (23, elemP A_5 i_8.toNat 10 0)]) (H' := []) (B' := [Ce 0 A_5 (i_8.toNat * 10) [.int .i64 ((rdL b_4 i_8).Kind), .int .i64 ((rdL b_4 i_8).From), .int .i64 ((rdL b_4 i_8).To), .int .u64 ((rdL b_4 i_8).Term), .int .u64 ((rdL b_4 i_8).Index), .int .u64 ((rdL b_4 i_8).Prev), .int .u64 ((rdL b_4 i_8).Commit), .bool ((rdL b_4 i_8).Ok), .slice A_14 ((rdL b_4 i_8).Entries).length c_15, .string (bs ((rdL b_4 i_8).Data))], Rd 0 kT_api_Entry A_14 c_15 ((rdL b_4 i_8).Entries), Ce 0 A_2 (i_8.toNat * 10) [.int .i64 ((rdL a_1 i_8).Kind), .int .i64 ((rdL a_1 i_8).From), .int .i64 ((rdL a_1 i_8).To), .int .u64 ((rdL a_1 i_8).Term), .int .u64 ((rdL a_1 i_8).Index), .int .u64 ((rdL a_1 i_8).Prev), .int .u64 ((rdL a_1 i_8).Commit), .bool ((rdL a_1 i_8).Ok), .slice A_11 ((rdL a_1 i_8).Entries).length c_12, .string (bs ((rdL a_1 i_8).Data))], Rd 0 kT_api_Entry A_11 c_12 ((rdL a_1 i_8).Entries), Rd 0 kT_api_Letter A_2 c_3 a_1, Rd 0 kT_api_Letter A_5 c_6 b_4]) (ks := [0, 1, 5, 17, 18, 19, 20, 21, 22, 23]) (by kernel_rfl) (by kernel_rfl) (by kernel_rfl) ?_
      refine GoF.more [] [Rd 0 kT_api_Letter A_2 c_3 a_1, Rd 0 kT_api_Letter A_5 c_6 b_4, Ce 0 A_2 (i_8.toNat * 10) [.int .i64 ((rdL a_1 i_8).Kind), .int .i64 ((rdL a_1 i_8).From), .int .i64 ((rdL a_1 i_8).To), .int .u64 ((rdL a_1 i_8).Term), .int .u64 ((rdL a_1 i_8).Index), .int .u64 ((rdL a_1 i_8).Prev), .int .u64 ((rdL a_1 i_8).Commit), .bool ((rdL a_1 i_8).Ok), .slice A_11 ((rdL a_1 i_8).Entries).length c_12, .string (bs ((rdL a_1 i_8).Data))], Ce 0 A_5 (i_8.toNat * 10) [.int .i64 ((rdL b_4 i_8).Kind), .int .i64 ((rdL b_4 i_8).From), .int .i64 ((rdL b_4 i_8).To), .int .u64 ((rdL b_4 i_8).Term), .int .u64 ((rdL b_4 i_8).Index), .int .u64 ((rdL b_4 i_8).Prev), .int .u64 ((rdL b_4 i_8).Commit), .bool ((rdL b_4 i_8).Ok), .slice A_14 ((rdL b_4 i_8).Entries).length c_15, .string (bs ((rdL b_4 i_8).Data))]] (hk := []) (bk := [0, 1, 2]) rfl rfl ?_
      refine GoF.ldC (i := 7) (hk := []) (bk := [4, 5, 2, 0]) (A := A_5) (iN := i_8.toNat) (sz := 10) (off := 0) (tg := 0) (cs := [.int .i64 ((rdL b_4 i_8).Kind), .int .i64 ((rdL b_4 i_8).From), .int .i64 ((rdL b_4 i_8).To), .int .u64 ((rdL b_4 i_8).Term), .int .u64 ((rdL b_4 i_8).Index), .int .u64 ((rdL b_4 i_8).Prev), .int .u64 ((rdL b_4 i_8).Commit), .bool ((rdL b_4 i_8).Ok), .slice A_14 ((rdL b_4 i_8).Entries).length c_15, .string (bs ((rdL b_4 i_8).Data))]) (j := 3) (v := .agg ⟨[.int .i64 ((rdL b_4 i_8).Kind), .int .i64 ((rdL b_4 i_8).From), .int .i64 ((rdL b_4 i_8).To), .int .u64 ((rdL b_4 i_8).Term), .int .u64 ((rdL b_4 i_8).Index), .int .u64 ((rdL b_4 i_8).Prev), .int .u64 ((rdL b_4 i_8).Commit), .bool ((rdL b_4 i_8).Ok), .slice A_14 ((rdL b_4 i_8).Entries).length c_15, .string (bs ((rdL b_4 i_8).Data))]⟩) (by kernel_rfl) rfl rfl rfl (by kernel_rfl) rfl (by kernel_rfl) rfl ?_
      refine OpTo.goF (i := 8) (by kernel_rfl) (hk := []) (bk := [4, 5, 2, 0]) (GoO.call rfl (by kernel_rfl) (by kernel_rfl) (tontineref10_Same_ok n (rdL a_1 i_8) (rdL b_4 i_8) A_11 c_12 A_14 c_15) [[0]] [] [] [(0, 3), (0, 1)] (hks := []) (bks := [0, 1, 2, 3, 4, 5]) (by kernel_rfl) (by kernel_rfl) (by kernel_rfl) (.inl rfl) rfl rfl (by kernel_rfl) (by kernel_rfl) _ (fun _ _ => rfl) _ _ (fun _ _ => rfl) (fun _ _ => rfl) (fun _ _ => by kernel_rfl) (fun _ _ => by kernel_rfl) (fun r_16 x_18 => ⟨rfl, rfl, ?_⟩))
      refine GoF.shape (env' := [(0, .slice A_2 a_1.length c_3), (1, .slice A_5 b_4.length c_6), (5, .int .i64 i_8), (17, .slice A_2 a_1.length c_3), (18, .int .i64 i_8), (19, elemP A_2 i_8.toNat 10 0), (20, .agg ⟨[.int .i64 ((rdL a_1 i_8).Kind), .int .i64 ((rdL a_1 i_8).From), .int .i64 ((rdL a_1 i_8).To), .int .u64 ((rdL a_1 i_8).Term), .int .u64 ((rdL a_1 i_8).Index), .int .u64 ((rdL a_1 i_8).Prev), .int .u64 ((rdL a_1 i_8).Commit), .bool ((rdL a_1 i_8).Ok), .slice A_11 ((rdL a_1 i_8).Entries).length c_12, .string (bs ((rdL a_1 i_8).Data))]⟩), (21, .slice A_5 b_4.length c_6), (22, .int .i64 i_8), (23, elemP A_5 i_8.toNat 10 0), (24, .agg ⟨[.int .i64 ((rdL b_4 i_8).Kind), .int .i64 ((rdL b_4 i_8).From), .int .i64 ((rdL b_4 i_8).To), .int .u64 ((rdL b_4 i_8).Term), .int .u64 ((rdL b_4 i_8).Index), .int .u64 ((rdL b_4 i_8).Prev), .int .u64 ((rdL b_4 i_8).Commit), .bool ((rdL b_4 i_8).Ok), .slice A_14 ((rdL b_4 i_8).Entries).length c_15, .string (bs ((rdL b_4 i_8).Data))]⟩), (25, .bool r_16)]) (H' := []) (B' := [Ce 0 A_5 (i_8.toNat * 10) [.int .i64 ((rdL b_4 i_8).Kind), .int .i64 ((rdL b_4 i_8).From), .int .i64 ((rdL b_4 i_8).To), .int .u64 ((rdL b_4 i_8).Term), .int .u64 ((rdL b_4 i_8).Index), .int .u64 ((rdL b_4 i_8).Prev), .int .u64 ((rdL b_4 i_8).Commit), .bool ((rdL b_4 i_8).Ok), .slice A_14 ((rdL b_4 i_8).Entries).length c_15, .string (bs ((rdL b_4 i_8).Data))], Rd 0 kT_api_Entry A_14 c_15 ((rdL b_4 i_8).Entries), Ce 0 A_2 (i_8.toNat * 10) [.int .i64 ((rdL a_1 i_8).Kind), .int .i64 ((rdL a_1 i_8).From), .int .i64 ((rdL a_1 i_8).To), .int .u64 ((rdL a_1 i_8).Term), .int .u64 ((rdL a_1 i_8).Index), .int .u64 ((rdL a_1 i_8).Prev), .int .u64 ((rdL a_1 i_8).Commit), .bool ((rdL a_1 i_8).Ok), .slice A_11 ((rdL a_1 i_8).Entries).length c_12, .string (bs ((rdL a_1 i_8).Data))], Rd 0 kT_api_Entry A_11 c_12 ((rdL a_1 i_8).Entries), Rd 0 kT_api_Letter A_2 c_3 a_1, Rd 0 kT_api_Letter A_5 c_6 b_4]) (ks := [0, 1, 5, 17, 18, 19, 20, 21, 22, 23, 24, 25]) (by kernel_rfl) (by kernel_rfl) (by kernel_rfl) ?_
      refine GoF.take [9] [.p] (ks := [0, 1, 5, 26]) (fu := 0) (li := [true, true, true, true, true, true, true, true, true, true]) (env' := [(0, .slice A_2 a_1.length c_3), (1, .slice A_5 b_4.length c_6), (5, .int .i64 i_8), (26, .bool (!r_16))]) (ps := []) (hk := []) (bk := [4, 5, 2, 0]) (by kernel_rfl) trivial rfl rfl ?_
      refine GoF.done (by kernel_rfl) ?_
      refine GoO.ite' c36_25e (by kernel_rfl) (fun h17 => ?_) (fun h17 => ?_)
      · refine GoO.seq' c36_26e ?_
        refine GoO.region' (is := [0]) c36_27e (by kernel_rfl) ?_
        refine GoO.exec (is := [0]) (hs := [.p]) (rest := []) (ks := [4]) (env' := [(4, .bool false)]) (H' := []) (ps := []) (by kernel_rfl) trivial ?_
        refine GoO.regionEnd ?_
        exact GoO.ret' (h := c36_28e) (hs := []) (ps := []) (hk := []) (bk := []) Try.func36 () (by kernel_rfl) trivial (by kernel_rfl) (by kernel_rfl)
      · refine GoO.skip' c36_29e ?_
        refine GoO.inBlock ?_
        refine GoO.region' (is := [0, 1, 2]) c36_30e (by kernel_rfl) ?_
        refine GoO.exec (is := [0, 1, 2]) (hs := [.p, .p, .p]) (rest := []) (ks := [0, 1, 5]) (env' := [(0, .slice A_2 a_1.length c_3), (1, .slice A_5 b_4.length c_6), (5, .int .i64 (wi64 (i_8 + 1)))]) (H' := []) (ps := []) (by kernel_rfl) trivial ?_
        refine GoO.regionEnd ?_
        refine GoO.inLoop ?_
        exact GoO.sub (ks := [0, 1, 5]) (hk := []) (bk := [4, 5]) (by kernel_rfl) (by kernel_rfl) (by kernel_rfl) (ih0 (wi64 (i_8 + 1)))
    · refine GoO.exit' c36_20e rfl ?_
      refine GoO.seq' c36_31e ?_
      refine GoO.region' (is := [0]) c36_32e (by kernel_rfl) ?_
      refine GoO.exec (is := [0]) (hs := [.p]) (rest := []) (ks := [4]) (env' := [(4, .bool true)]) (H' := []) (ps := []) (by kernel_rfl) trivial ?_
      refine GoO.regionEnd ?_
      exact GoO.ret' (h := c36_33e) (hs := []) (ps := []) (hk := []) (bk := []) Try.func36 () (by kernel_rfl) trivial (by kernel_rfl) (by kernel_rfl)
theorem tontineref10_All_ok (n : Nat) (a_1 : (List T_api_Letter)) (b_4 : (List T_api_Letter)) (A_2 : Option Addr) (c_3 : Nat) (A_5 : Option Addr) (c_6 : Nat) :
    Meets Try.prog 36 [.slice A_2 a_1.length c_3, .slice A_5 b_4.length c_6] 0 [] [] [Rd 0 kT_api_Letter A_2 c_3 a_1, Rd 0 kT_api_Letter A_5 c_6 b_4] (tontineref10_All.f n a_1 b_4) (tontineref10_All.R A_2 c_3 A_5 c_6) := by
  refine Meets.of (c := c36_0) (n := 27) Try.func36 (by kernel_rfl) (by kernel_rfl) (by kernel_rfl) fun w0 S0 => ?_
  unfold tontineref10_All.f
  show GoO (tontineref10_All.cx A_2 c_3 A_5 c_6 w0 S0) [(0, .slice A_2 a_1.length c_3), (1, .slice A_5 b_4.length c_6)] [] [Rd 0 kT_api_Letter A_2 c_3 a_1, Rd 0 kT_api_Letter A_5 c_6 b_4] [.code c36_0] _
  refine GoO.seq' c36_0e ?_
  refine GoO.region' (is := [0]) c36_1e (by kernel_rfl) ?_
  refine GoO.exec (is := [0]) (hs := [.p]) (rest := []) (ks := [0, 1]) (env' := [(0, .slice A_2 a_1.length c_3), (1, .slice A_5 b_4.length c_6)]) (H' := []) (ps := []) (by kernel_rfl) trivial ?_
  refine GoO.regionEnd ?_
  refine GoO.seq' c36_2e ?_
  refine GoO.seq' c36_3e ?_
  refine GoO.region' (is := [0, 1, 2, 3, 4]) c36_4e (by kernel_rfl) ?_
  refine GoO.exec (is := [0, 1, 2, 3, 4]) (hs := [.p, .p, .p, .p, .p]) (rest := []) (ks := [0, 1, 10]) (env' := [(0, .slice A_2 a_1.length c_3), (1, .slice A_5 b_4.length c_6), (10, .bool ((a_1.length : Int) != (b_4.length : Int)))]) (H' := []) (ps := []) (by kernel_rfl) trivial ?_
  refine GoO.regionEnd ?_
  refine GoO.ite' c36_5e (by kernel_rfl) (fun h7 => ?_) (fun h7 => ?_)
  · refine GoO.seq' c36_6e ?_
    refine GoO.region' (is := [0]) c36_7e (by kernel_rfl) ?_
    refine GoO.exec (is := [0]) (hs := [.p]) (rest := []) (ks := [4]) (env' := [(4, .bool false)]) (H' := []) (ps := []) (by kernel_rfl) trivial ?_
    refine GoO.regionEnd ?_
    exact GoO.ret' (h := c36_8e) (hs := []) (ps := []) (hk := []) (bk := []) Try.func36 () (by kernel_rfl) trivial (by kernel_rfl) (by kernel_rfl)
  · refine GoO.skip' c36_9e ?_
    refine GoO.seq' c36_10e ?_
    refine GoO.seq' c36_11e ?_
    refine GoO.region' (is := [0]) c36_12e (by kernel_rfl) ?_
    refine GoO.exec (is := [0]) (hs := [.p]) (rest := []) (ks := [0, 1, 5]) (env' := [(0, .slice A_2 a_1.length c_3), (1, .slice A_5 b_4.length c_6), (5, .int .i64 0)]) (H' := []) (ps := []) (by kernel_rfl) trivial ?_
    refine GoO.regionEnd ?_
    refine GoO.block' c36_13e ?_
    refine GoO.loop' c36_14e ?_
    exact GoO.sub (ks := [0, 1, 5]) (hk := []) (bk := [0, 1]) (by kernel_rfl) (by kernel_rfl) (by kernel_rfl) (tontineref10_All_l0_ok n a_1 b_4 A_2 c_3 A_5 c_6 w0 S0 n 0)

/-! tontine/tontinelaw10.NetRuns -/
noncomputable def c11_0 : Code := bodyOf Try.f11
noncomputable def c11_1 : Code := cdL c11_0
noncomputable def c11_2 : Code := cdR c11_0
noncomputable def c11_3 : Code := cdL c11_2
noncomputable def c11_4 : Code := cdL c11_3
noncomputable def c11_5 : Code := cdR c11_3
noncomputable def c11_6 : Code := cdL c11_5
noncomputable def c11_7 : Code := cdL c11_6
noncomputable def c11_8 : Code := cdR c11_6
noncomputable def c11_9 : Code := cdR c11_5
noncomputable def c11_10 : Code := cdR c11_2
noncomputable def c11_11 : Code := cdL c11_10
noncomputable def c11_12 : Code := cdL c11_11
noncomputable def c11_13 : Code := cdR c11_11
noncomputable def c11_14 : Code := cdL c11_13
noncomputable def c11_15 : Code := cdL c11_14
noncomputable def c11_16 : Code := cdR c11_14
noncomputable def c11_17 : Code := cdR c11_13
noncomputable def c11_18 : Code := cdR c11_10
noncomputable def c11_19 : Code := cdL c11_18
noncomputable def c11_20 : Code := cdR c11_18
noncomputable def c11_21 : Code := cdL c11_20
noncomputable def c11_22 : Code := cdL c11_21
noncomputable def c11_23 : Code := cdR c11_21
noncomputable def c11_24 : Code := cdL c11_23
noncomputable def c11_25 : Code := cdL c11_24
noncomputable def c11_26 : Code := cdL c11_25
noncomputable def c11_27 : Code := cdR c11_25
noncomputable def c11_28 : Code := cdL c11_27
noncomputable def c11_29 : Code := cdL c11_28
noncomputable def c11_30 : Code := cdR c11_28
noncomputable def c11_31 : Code := cdR c11_27
noncomputable def c11_32 : Code := cdL c11_31
noncomputable def c11_33 : Code := cdL c11_32
noncomputable def c11_34 : Code := cdL c11_33
noncomputable def c11_35 : Code := cdR c11_33
noncomputable def c11_36 : Code := cdL c11_35
noncomputable def c11_37 : Code := cdL c11_36
noncomputable def c11_38 : Code := cdR c11_36
noncomputable def c11_39 : Code := cdL c11_38
noncomputable def c11_40 : Code := cdR c11_38
noncomputable def c11_41 : Code := cdR c11_35
noncomputable def c11_42 : Code := cdL c11_41
noncomputable def c11_43 : Code := cdL c11_42
noncomputable def c11_44 : Code := cdR c11_42
noncomputable def c11_45 : Code := cdL c11_44
noncomputable def c11_46 : Code := cdL c11_45
noncomputable def c11_47 : Code := cdR c11_45
noncomputable def c11_48 : Code := cdL c11_47
noncomputable def c11_49 : Code := cdL c11_48
noncomputable def c11_50 : Code := cdR c11_48
noncomputable def c11_51 : Code := cdL c11_50
noncomputable def c11_52 : Code := cdL c11_51
noncomputable def c11_53 : Code := cdR c11_51
noncomputable def c11_54 : Code := cdR c11_50
noncomputable def c11_55 : Code := cdR c11_47
noncomputable def c11_56 : Code := cdL c11_55
noncomputable def c11_57 : Code := cdR c11_55
noncomputable def c11_58 : Code := cdL c11_57
noncomputable def c11_59 : Code := cdL c11_58
noncomputable def c11_60 : Code := cdR c11_58
noncomputable def c11_61 : Code := cdL c11_60
noncomputable def c11_62 : Code := cdR c11_60
noncomputable def c11_63 : Code := cdL c11_62
noncomputable def c11_64 : Code := cdR c11_62
noncomputable def c11_65 : Code := cdL c11_64
noncomputable def c11_66 : Code := cdL c11_65
noncomputable def c11_67 : Code := cdR c11_65
noncomputable def c11_68 : Code := cdR c11_64
noncomputable def c11_69 : Code := cdR c11_57
noncomputable def c11_70 : Code := cdL c11_69
noncomputable def c11_71 : Code := cdR c11_69
noncomputable def c11_72 : Code := cdL c11_71
noncomputable def c11_73 : Code := cdL c11_72
noncomputable def c11_74 : Code := cdR c11_72
noncomputable def c11_75 : Code := cdL c11_74
noncomputable def c11_76 : Code := cdL c11_75
noncomputable def c11_77 : Code := cdR c11_75
noncomputable def c11_78 : Code := cdL c11_77
noncomputable def c11_79 : Code := cdR c11_77
noncomputable def c11_80 : Code := cdR c11_74
noncomputable def c11_81 : Code := cdL c11_80
noncomputable def c11_82 : Code := cdR c11_80
noncomputable def c11_83 : Code := cdL c11_82
noncomputable def c11_84 : Code := cdL c11_83
noncomputable def c11_85 : Code := cdR c11_83
noncomputable def c11_86 : Code := cdR c11_82
noncomputable def c11_87 : Code := cdR c11_71
noncomputable def c11_88 : Code := cdL c11_87
noncomputable def c11_89 : Code := cdR c11_87
noncomputable def c11_90 : Code := cdL c11_89
noncomputable def c11_91 : Code := cdR c11_89
noncomputable def c11_92 : Code := cdL c11_91
noncomputable def c11_93 : Code := cdL c11_92
noncomputable def c11_94 : Code := cdR c11_92
noncomputable def c11_95 : Code := cdR c11_91
noncomputable def c11_96 : Code := cdR c11_41
noncomputable def c11_97 : Code := cdL c11_96
noncomputable def c11_98 : Code := cdR c11_96
noncomputable def c11_99 : Code := cdL c11_98
noncomputable def c11_100 : Code := cdR c11_98
noncomputable def c11_101 : Code := cdL c11_100
noncomputable def c11_102 : Code := cdL c11_101
noncomputable def c11_103 : Code := cdR c11_101
noncomputable def c11_104 : Code := cdR c11_100
noncomputable def c11_105 : Code := cdR c11_31
noncomputable def c11_106 : Code := cdR c11_20
noncomputable def c11_107 : Code := cdL c11_106
noncomputable def c11_108 : Code := cdR c11_106
noncomputable def r11_1 : Array Oper := cdO c11_1
noncomputable def r11_4 : Array Oper := cdO c11_4
noncomputable def r11_7 : Array Oper := cdO c11_7
noncomputable def r11_12 : Array Oper := cdO c11_12
noncomputable def r11_15 : Array Oper := cdO c11_15
noncomputable def r11_19 : Array Oper := cdO c11_19
noncomputable def r11_22 : Array Oper := cdO c11_22
noncomputable def r11_26 : Array Oper := cdO c11_26
noncomputable def r11_34 : Array Oper := cdO c11_34
noncomputable def r11_37 : Array Oper := cdO c11_37
noncomputable def r11_43 : Array Oper := cdO c11_43
noncomputable def r11_46 : Array Oper := cdO c11_46
noncomputable def r11_49 : Array Oper := cdO c11_49
noncomputable def r11_52 : Array Oper := cdO c11_52
noncomputable def r11_56 : Array Oper := cdO c11_56
noncomputable def r11_59 : Array Oper := cdO c11_59
noncomputable def r11_61 : Array Oper := cdO c11_61
noncomputable def r11_63 : Array Oper := cdO c11_63
noncomputable def r11_66 : Array Oper := cdO c11_66
noncomputable def r11_70 : Array Oper := cdO c11_70
noncomputable def r11_73 : Array Oper := cdO c11_73
noncomputable def r11_76 : Array Oper := cdO c11_76
noncomputable def r11_78 : Array Oper := cdO c11_78
noncomputable def r11_81 : Array Oper := cdO c11_81
noncomputable def r11_84 : Array Oper := cdO c11_84
noncomputable def r11_88 : Array Oper := cdO c11_88
noncomputable def r11_90 : Array Oper := cdO c11_90
noncomputable def r11_93 : Array Oper := cdO c11_93
noncomputable def r11_97 : Array Oper := cdO c11_97
noncomputable def r11_99 : Array Oper := cdO c11_99
noncomputable def r11_102 : Array Oper := cdO c11_102
noncomputable def r11_105 : Array Oper := cdO c11_105
noncomputable def r11_107 : Array Oper := cdO c11_107
theorem c11_0e : c11_0 = .seq c11_1 c11_2 := by kernel_rfl
theorem c11_1e : c11_1 = .region 0 r11_1 false := by kernel_rfl
theorem c11_2e : c11_2 = .seq c11_3 c11_10 := by kernel_rfl
theorem c11_3e : c11_3 = .seq c11_4 c11_5 := by kernel_rfl
theorem c11_4e : c11_4 = .region 1 r11_4 false := by kernel_rfl
theorem c11_5e : c11_5 = .cond (cdC c11_5) c11_6 c11_9 := by kernel_rfl
theorem c11_6e : c11_6 = .seq c11_7 c11_8 := by kernel_rfl
theorem c11_7e : c11_7 = .region 2 r11_7 false := by kernel_rfl
theorem c11_8e : c11_8 = .ret := by kernel_rfl
theorem c11_9e : c11_9 = .skip := by kernel_rfl
theorem c11_10e : c11_10 = .seq c11_11 c11_18 := by kernel_rfl
theorem c11_11e : c11_11 = .seq c11_12 c11_13 := by kernel_rfl
theorem c11_12e : c11_12 = .region 3 r11_12 false := by kernel_rfl
theorem c11_13e : c11_13 = .cond (cdC c11_13) c11_14 c11_17 := by kernel_rfl
theorem c11_14e : c11_14 = .seq c11_15 c11_16 := by kernel_rfl
theorem c11_15e : c11_15 = .region 4 r11_15 false := by kernel_rfl
theorem c11_16e : c11_16 = .ret := by kernel_rfl
theorem c11_17e : c11_17 = .skip := by kernel_rfl
theorem c11_18e : c11_18 = .seq c11_19 c11_20 := by kernel_rfl
theorem c11_19e : c11_19 = .region 5 r11_19 false := by kernel_rfl
theorem c11_20e : c11_20 = .seq c11_21 c11_106 := by kernel_rfl
theorem c11_21e : c11_21 = .seq c11_22 c11_23 := by kernel_rfl
theorem c11_22e : c11_22 = .region 6 r11_22 false := by kernel_rfl
theorem c11_23e : c11_23 = .block 0 c11_24 := by kernel_rfl
theorem c11_24e : c11_24 = .loop c11_25 := by kernel_rfl
theorem c11_25e : c11_25 = .seq c11_26 c11_27 := by kernel_rfl
theorem c11_26e : c11_26 = .region 7 r11_26 false := by kernel_rfl
theorem c11_27e : c11_27 = .seq c11_28 c11_31 := by kernel_rfl
theorem c11_28e : c11_28 = .cond (cdC c11_28) c11_29 c11_30 := by kernel_rfl
theorem c11_29e : c11_29 = .skip := by kernel_rfl
theorem c11_30e : c11_30 = .exit 0 := by kernel_rfl
theorem c11_31e : c11_31 = .seq c11_32 c11_105 := by kernel_rfl
theorem c11_32e : c11_32 = .block 1 c11_33 := by kernel_rfl
theorem c11_33e : c11_33 = .seq c11_34 c11_35 := by kernel_rfl
theorem c11_34e : c11_34 = .region 8 r11_34 false := by kernel_rfl
theorem c11_35e : c11_35 = .seq c11_36 c11_41 := by kernel_rfl
theorem c11_36e : c11_36 = .seq c11_37 c11_38 := by kernel_rfl
theorem c11_37e : c11_37 = .region 9 r11_37 false := by kernel_rfl
theorem c11_38e : c11_38 = .cond (cdC c11_38) c11_39 c11_40 := by kernel_rfl
theorem c11_39e : c11_39 = .exit 0 := by kernel_rfl
theorem c11_40e : c11_40 = .skip := by kernel_rfl
theorem c11_41e : c11_41 = .seq c11_42 c11_96 := by kernel_rfl
theorem c11_42e : c11_42 = .seq c11_43 c11_44 := by kernel_rfl
theorem c11_43e : c11_43 = .region 10 r11_43 false := by kernel_rfl
theorem c11_44e : c11_44 = .block 2 c11_45 := by kernel_rfl
theorem c11_45e : c11_45 = .seq c11_46 c11_47 := by kernel_rfl
theorem c11_46e : c11_46 = .region 14 r11_46 false := by kernel_rfl
theorem c11_47e : c11_47 = .cond (cdC c11_47) c11_48 c11_55 := by kernel_rfl
theorem c11_48e : c11_48 = .seq c11_49 c11_50 := by kernel_rfl
theorem c11_49e : c11_49 = .region 15 r11_49 true := by kernel_rfl
theorem c11_50e : c11_50 = .cond (cdC c11_50) c11_51 c11_54 := by kernel_rfl
theorem c11_51e : c11_51 = .seq c11_52 c11_53 := by kernel_rfl
theorem c11_52e : c11_52 = .region 16 r11_52 false := by kernel_rfl
theorem c11_53e : c11_53 = .ret := by kernel_rfl
theorem c11_54e : c11_54 = .skip := by kernel_rfl
theorem c11_55e : c11_55 = .seq c11_56 c11_57 := by kernel_rfl
theorem c11_56e : c11_56 = .region 17 r11_56 false := by kernel_rfl
theorem c11_57e : c11_57 = .cond (cdC c11_57) c11_58 c11_69 := by kernel_rfl
theorem c11_58e : c11_58 = .seq c11_59 c11_60 := by kernel_rfl
theorem c11_59e : c11_59 = .region 18 r11_59 false := by kernel_rfl
theorem c11_60e : c11_60 = .seq c11_61 c11_62 := by kernel_rfl
theorem c11_61e : c11_61 = .region 19 r11_61 false := by kernel_rfl
theorem c11_62e : c11_62 = .seq c11_63 c11_64 := by kernel_rfl
theorem c11_63e : c11_63 = .region 20 r11_63 false := by kernel_rfl
theorem c11_64e : c11_64 = .cond (cdC c11_64) c11_65 c11_68 := by kernel_rfl
theorem c11_65e : c11_65 = .seq c11_66 c11_67 := by kernel_rfl
theorem c11_66e : c11_66 = .region 21 r11_66 false := by kernel_rfl
theorem c11_67e : c11_67 = .ret := by kernel_rfl
theorem c11_68e : c11_68 = .skip := by kernel_rfl
theorem c11_69e : c11_69 = .seq c11_70 c11_71 := by kernel_rfl
theorem c11_70e : c11_70 = .region 22 r11_70 false := by kernel_rfl
theorem c11_71e : c11_71 = .cond (cdC c11_71) c11_72 c11_87 := by kernel_rfl
theorem c11_72e : c11_72 = .seq c11_73 c11_74 := by kernel_rfl
theorem c11_73e : c11_73 = .region 23 r11_73 false := by kernel_rfl
theorem c11_74e : c11_74 = .seq c11_75 c11_80 := by kernel_rfl
theorem c11_75e : c11_75 = .seq c11_76 c11_77 := by kernel_rfl
theorem c11_76e : c11_76 = .region 24 r11_76 false := by kernel_rfl
theorem c11_77e : c11_77 = .cond (cdC c11_77) c11_78 c11_79 := by kernel_rfl
theorem c11_78e : c11_78 = .region 25 r11_78 false := by kernel_rfl
theorem c11_79e : c11_79 = .skip := by kernel_rfl
theorem c11_80e : c11_80 = .seq c11_81 c11_82 := by kernel_rfl
theorem c11_81e : c11_81 = .region 26 r11_81 false := by kernel_rfl
theorem c11_82e : c11_82 = .cond (cdC c11_82) c11_83 c11_86 := by kernel_rfl
theorem c11_83e : c11_83 = .seq c11_84 c11_85 := by kernel_rfl
theorem c11_84e : c11_84 = .region 27 r11_84 false := by kernel_rfl
theorem c11_85e : c11_85 = .ret := by kernel_rfl
theorem c11_86e : c11_86 = .skip := by kernel_rfl
theorem c11_87e : c11_87 = .seq c11_88 c11_89 := by kernel_rfl
theorem c11_88e : c11_88 = .region 11 r11_88 false := by kernel_rfl
theorem c11_89e : c11_89 = .seq c11_90 c11_91 := by kernel_rfl
theorem c11_90e : c11_90 = .region 12 r11_90 false := by kernel_rfl
theorem c11_91e : c11_91 = .cond (cdC c11_91) c11_92 c11_95 := by kernel_rfl
theorem c11_92e : c11_92 = .seq c11_93 c11_94 := by kernel_rfl
theorem c11_93e : c11_93 = .region 13 r11_93 false := by kernel_rfl
theorem c11_94e : c11_94 = .ret := by kernel_rfl
theorem c11_95e : c11_95 = .skip := by kernel_rfl
theorem c11_96e : c11_96 = .seq c11_97 c11_98 := by kernel_rfl
theorem c11_97e : c11_97 = .region 28 r11_97 false := by kernel_rfl
theorem c11_98e : c11_98 = .seq c11_99 c11_100 := by kernel_rfl
theorem c11_99e : c11_99 = .region 29 r11_99 true := by kernel_rfl
theorem c11_100e : c11_100 = .cond (cdC c11_100) c11_101 c11_104 := by kernel_rfl
theorem c11_101e : c11_101 = .seq c11_102 c11_103 := by kernel_rfl
theorem c11_102e : c11_102 = .region 30 r11_102 false := by kernel_rfl
theorem c11_103e : c11_103 = .ret := by kernel_rfl
theorem c11_104e : c11_104 = .skip := by kernel_rfl
theorem c11_105e : c11_105 = .region 31 r11_105 false := by kernel_rfl
theorem c11_106e : c11_106 = .seq c11_107 c11_108 := by kernel_rfl
theorem c11_107e : c11_107 = .region 32 r11_107 true := by kernel_rfl
theorem c11_108e : c11_108 = .ret := by kernel_rfl
noncomputable def tontinelaw10_NetRuns.R (A_2 : Option Addr) (c_3 : Nat) : Pst Bool where
  ε := Unit
  v := fun r x => .bool r
  H := fun r x => []
  B := fun r x => []
noncomputable def tontinelaw10_NetRuns.cx (A_2 : Option Addr) (c_3 : Nat) (w0 : World) (S0 : Fam) : Cx Bool := ⟨Try.prog, 11, Try.f11, 160, w0, S0, [], 0, tontinelaw10_NetRuns.R A_2 c_3⟩
theorem tontinelaw10_NetRuns_j0_ok (n : Nat) (f_13 : (List T_api_Letter)) (f_16 : Int) (f_17 : (List T_api_Letter)) (f_20 : Int) (b_9 : Nat) (b_12 : Nat) (A_14 : Option Addr) (c_15 : Nat) (A_18 : Option Addr) (c_19 : Nat) (A_2 : Option Addr) (c_3 : Nat) (w0 : World) (S0 : Fam) :
    GoO (tontinelaw10_NetRuns.cx A_2 c_3 w0 S0) [(3, .pointer (some ⟨b_9, 0, none⟩)), (4, .pointer (some ⟨b_12, 0, none⟩))] [⟨40, b_9, [.slice A_14 f_13.length c_15, .int .i64 f_16]⟩, ⟨42, b_12, [.slice A_18 f_17.length c_19, .int .i64 f_20]⟩] [Ow 41 kT_api_Letter A_14 c_15 f_13, Ow 44 kT_api_Letter A_18 c_19 f_17] [.code c11_106] (tontinelaw10_NetRuns.j0 n f_13 f_16 f_17) := by
  unfold tontinelaw10_NetRuns.j0
  refine GoO.seq' c11_106e ?_
  refine GoO.draw c11_107e (by kernel_rfl) [7] [⟨42, b_12, [.slice A_18 f_17.length c_19, .int .i64 f_20]⟩] [] (n := 8) (by kernel_rfl) ?_
  simp only [List.replicate]
  refine GoF.take [0, 2, 3, 4, 5] [.p, .p, .p, .p, .b 0] (ks := [153, 158]) (fu := 3) (li := [true, false, true, true, true, true, false, false]) (env' := [(153, .pointer (some ⟨b_9, 0, none⟩)), (158, .slice A_18 f_17.length c_19)]) (ps := [b_12 = b_12]) (hk := [1]) (bk := []) (by kernel_rfl) (And.intro rfl trivial) rfl rfl ?_
  refine OpTo.goF (i := 1) (by kernel_rfl) (hk := [1]) (bk := []) (GoO.call rfl (by kernel_rfl) (by kernel_rfl) (net_Net_All_ok n (⟨f_13, f_16⟩ : T_net_Net) b_9 A_14 c_15) [[0], [40], [41]] [(52, 3)] [(1, 0)] [(2, 0)] (hks := [0, 1]) (bks := [0, 1]) (by kernel_rfl) (by kernel_rfl) (by kernel_rfl) (.inl rfl) rfl rfl (by kernel_rfl) (by kernel_rfl) _ (fun _ _ => rfl) _ _ (fun _ _ => rfl) (fun _ _ => rfl) (fun _ _ => by kernel_rfl) (fun _ _ => by kernel_rfl) (fun r_101 x_106 => ⟨rfl, rfl, ?_⟩))
  obtain ⟨A_102, c_103⟩ := x_106
  refine GoF.shape (env' := [(153, .pointer (some ⟨b_9, 0, none⟩)), (154, .slice A_102 r_101.length c_103), (158, .slice A_18 f_17.length c_19)]) (H' := [⟨40, b_9, [.slice A_14 f_13.length c_15, .int .i64 f_16]⟩, ⟨42, b_12, [.slice A_18 f_17.length c_19, .int .i64 f_20]⟩]) (B' := [Ow 52 kT_api_Letter A_102 c_103 r_101, Ow 41 kT_api_Letter A_14 c_15 f_13, Ow 44 kT_api_Letter A_18 c_19 f_17]) (ks := [153, 154, 158]) (by kernel_rfl) (by kernel_rfl) (by kernel_rfl) ?_
  refine GoF.view (j := 0) rfl ?_
  refine GoF.view (j := 2) rfl ?_
  refine OpTo.goF (i := 6) (by kernel_rfl) (hk := [1]) (bk := []) (GoO.call rfl (by kernel_rfl) (by kernel_rfl) (tontineref10_All_ok n r_101 f_17 A_102 c_103 A_18 c_19) [[0, 52, 44]] [] [] [(0, 3), (0, 4)] (hks := [0, 1]) (bks := [0, 1, 2]) (by kernel_rfl) (by kernel_rfl) (by kernel_rfl) (.inr (fun _ _ => by simp [tontineref10_All.R])) rfl rfl (by kernel_rfl) (by kernel_rfl) _ (fun _ _ => rfl) _ _ (fun _ _ => rfl) (fun _ _ => rfl) (fun _ _ => by kernel_rfl) (fun _ _ => by kernel_rfl) (fun r_104 x_105 => ⟨rfl, rfl, ?_⟩))
  refine GoF.shape (env' := [(153, .pointer (some ⟨b_9, 0, none⟩)), (154, .slice A_102 r_101.length c_103), (158, .slice A_18 f_17.length c_19), (159, .bool r_104)]) (H' := [⟨40, b_9, [.slice A_14 f_13.length c_15, .int .i64 f_16]⟩, ⟨42, b_12, [.slice A_18 f_17.length c_19, .int .i64 f_20]⟩]) (B' := [Ow 52 kT_api_Letter A_102 c_103 r_101, Ow 41 kT_api_Letter A_14 c_15 f_13, Ow 44 kT_api_Letter A_18 c_19 f_17]) (ks := [153, 154, 158, 159]) (by kernel_rfl) (by kernel_rfl) (by kernel_rfl) ?_
  refine GoF.fin1 (i := 7) (hint := .p) (ps := []) (hk := []) (bk := []) (by kernel_rfl) rfl trivial (.inl rfl) ?_
  refine GoF.done (by kernel_rfl) ?_
  exact GoO.ret' (h := c11_108e) (hs := []) (ps := []) (hk := []) (bk := []) Try.func11 () (by kernel_rfl) trivial (by kernel_rfl) (by kernel_rfl)
theorem tontinelaw10_NetRuns_j2_ok (n : Nat) (L0 : (List T_api_Letter) → Int → (List T_api_Letter) → Int → Int → Option Bool) (calls_1 : (List T_tontinelaw10_Call)) (f_13 : (List T_api_Letter)) (f_16 : Int) (f_17 : (List T_api_Letter)) (f_20 : Int) (x_21 : Int) (f_83 : (List T_api_Letter)) (f_86 : Int) (f_87 : (List T_api_Letter)) (f_90 : Int) (A_2 : Option Addr) (c_3 : Nat) (b_9 : Nat) (b_12 : Nat) (A_14 : Option Addr) (c_15 : Nat) (A_18 : Option Addr) (c_19 : Nat) (A_84 : Option Addr) (c_85 : Nat) (A_88 : Option Addr) (c_89 : Nat) (w0 : World) (S0 : Fam) (ih0 : ∀ (f_13 : (List T_api_Letter)) (f_16 : Int) (f_17 : (List T_api_Letter)) (f_20 : Int) (x_21 : Int) (A_14 : Option Addr) (c_15 : Nat) (A_18 : Option Addr) (c_19 : Nat), GoO (tontinelaw10_NetRuns.cx A_2 c_3 w0 S0) [(3, .pointer (some ⟨b_9, 0, none⟩)), (4, .pointer (some ⟨b_12, 0, none⟩)), (24, .slice A_2 calls_1.length c_3), (25, .int .i64 (calls_1.length : Int)), (26, .int .i64 x_21)] [⟨40, b_9, [.slice A_14 f_13.length c_15, .int .i64 f_16]⟩, ⟨42, b_12, [.slice A_18 f_17.length c_19, .int .i64 f_20]⟩] [Ow 41 kT_api_Letter A_14 c_15 f_13, Ow 44 kT_api_Letter A_18 c_19 f_17, Rd 0 kT_tontinelaw10_Call A_2 c_3 calls_1] [.code c11_25, .inLoop c11_25, .inBlock 0, .code c11_106] (L0 f_13 f_16 f_17 f_20 x_21)) (b_99 : Bool) :
    GoO (tontinelaw10_NetRuns.cx A_2 c_3 w0 S0) [(3, .pointer (some ⟨b_9, 0, none⟩)), (4, .pointer (some ⟨b_12, 0, none⟩)), (24, .slice A_2 calls_1.length c_3), (25, .int .i64 (calls_1.length : Int)), (26, .int .i64 x_21), (151, .bool b_99)] [⟨40, b_9, [.slice A_84 f_83.length c_85, .int .i64 f_86]⟩, ⟨42, b_12, [.slice A_88 f_87.length c_89, .int .i64 f_90]⟩] [Ow 41 kT_api_Letter A_84 c_85 f_83, Ow 44 kT_api_Letter A_88 c_89 f_87, Rd 0 kT_tontinelaw10_Call A_2 c_3 calls_1] [.code c11_100, .inBlock 1, .code c11_105, .inLoop c11_25, .inBlock 0, .code c11_106] (tontinelaw10_NetRuns.j2 n L0 x_21 f_83 f_86 f_87 f_90 b_99) := by
  unfold tontinelaw10_NetRuns.j2
  refine GoO.ite' c11_100e (by kernel_rfl) (fun h100 => ?_) (fun h100 => ?_)
  · refine GoO.seq' c11_101e ?_
    refine GoO.region' (is := [0]) c11_102e (by kernel_rfl) ?_
    refine GoO.exec (is := [0]) (hs := [.p]) (rest := []) (ks := [2]) (env' := [(2, .bool false)]) (H' := [⟨40, b_9, [.slice A_84 f_83.length c_85, .int .i64 f_86]⟩, ⟨42, b_12, [.slice A_88 f_87.length c_89, .int .i64 f_90]⟩]) (ps := []) (by kernel_rfl) trivial ?_
    refine GoO.regionEnd ?_
    exact GoO.ret' (h := c11_103e) (hs := []) (ps := []) (hk := []) (bk := []) Try.func11 () (by kernel_rfl) trivial (by kernel_rfl) (by kernel_rfl)
  · refine GoO.skip' c11_104e ?_
    refine GoO.inBlock ?_
    refine GoO.region' (is := [0, 1]) c11_105e (by kernel_rfl) ?_
    refine GoO.exec (is := [0, 1]) (hs := [.p, .p]) (rest := []) (ks := [3, 4, 24, 25, 26]) (env' := [(3, .pointer (some ⟨b_9, 0, none⟩)), (4, .pointer (some ⟨b_12, 0, none⟩)), (24, .slice A_2 calls_1.length c_3), (25, .int .i64 (calls_1.length : Int)), (26, .int .i64 (wi64 (x_21 + 1)))]) (H' := [⟨40, b_9, [.slice A_84 f_83.length c_85, .int .i64 f_86]⟩, ⟨42, b_12, [.slice A_88 f_87.length c_89, .int .i64 f_90]⟩]) (ps := []) (by kernel_rfl) trivial ?_
    refine GoO.regionEnd ?_
    refine GoO.inLoop ?_
    exact GoO.sub (ks := [3, 4, 24, 25, 26]) (hk := [0, 1]) (bk := [0, 1, 2]) (by kernel_rfl) (by kernel_rfl) (by kernel_rfl) (ih0 f_83 f_86 f_87 f_90 (wi64 (x_21 + 1)) A_84 c_85 A_88 c_89)
theorem tontinelaw10_NetRuns_j1_ok (n : Nat) (L0 : (List T_api_Letter) → Int → (List T_api_Letter) → Int → Int → Option Bool) (calls_1 : (List T_tontinelaw10_Call)) (f_13 : (List T_api_Letter)) (f_16 : Int) (f_17 : (List T_api_Letter)) (f_20 : Int) (x_21 : Int) (A_2 : Option Addr) (c_3 : Nat) (b_9 : Nat) (b_12 : Nat) (A_14 : Option Addr) (c_15 : Nat) (A_18 : Option Addr) (c_19 : Nat) (w0 : World) (S0 : Fam) (ih0 : ∀ (f_13 : (List T_api_Letter)) (f_16 : Int) (f_17 : (List T_api_Letter)) (f_20 : Int) (x_21 : Int) (A_14 : Option Addr) (c_15 : Nat) (A_18 : Option Addr) (c_19 : Nat), GoO (tontinelaw10_NetRuns.cx A_2 c_3 w0 S0) [(3, .pointer (some ⟨b_9, 0, none⟩)), (4, .pointer (some ⟨b_12, 0, none⟩)), (24, .slice A_2 calls_1.length c_3), (25, .int .i64 (calls_1.length : Int)), (26, .int .i64 x_21)] [⟨40, b_9, [.slice A_14 f_13.length c_15, .int .i64 f_16]⟩, ⟨42, b_12, [.slice A_18 f_17.length c_19, .int .i64 f_20]⟩] [Ow 41 kT_api_Letter A_14 c_15 f_13, Ow 44 kT_api_Letter A_18 c_19 f_17, Rd 0 kT_tontinelaw10_Call A_2 c_3 calls_1] [.code c11_25, .inLoop c11_25, .inBlock 0, .code c11_106] (L0 f_13 f_16 f_17 f_20 x_21)) (f_83 : (List T_api_Letter)) (f_86 : Int) (f_87 : (List T_api_Letter)) (f_90 : Int) (A_84 : Option Addr) (c_85 : Nat) (A_88 : Option Addr) (c_89 : Nat) :
    GoO (tontinelaw10_NetRuns.cx A_2 c_3 w0 S0) [(3, .pointer (some ⟨b_9, 0, none⟩)), (4, .pointer (some ⟨b_12, 0, none⟩)), (5, .int .i64 x_21), (24, .slice A_2 calls_1.length c_3), (25, .int .i64 (calls_1.length : Int)), (26, .int .i64 x_21)] [⟨40, b_9, [.slice A_84 f_83.length c_85, .int .i64 f_86]⟩, ⟨42, b_12, [.slice A_88 f_87.length c_89, .int .i64 f_90]⟩] [Ow 41 kT_api_Letter A_84 c_85 f_83, Ow 44 kT_api_Letter A_88 c_89 f_87, Rd 0 kT_tontinelaw10_Call A_2 c_3 calls_1] [.inBlock 2, .code c11_96, .inBlock 1, .code c11_105, .inLoop c11_25, .inBlock 0, .code c11_106] (tontinelaw10_NetRuns.j1 n L0 x_21 f_83 f_86 f_87 f_90) := by
  unfold tontinelaw10_NetRuns.j1
  refine GoO.inBlock ?_
  refine GoO.seq' c11_96e ?_
  refine GoO.region' (is := [0, 1, 2, 3, 4, 5, 6]) c11_97e (by kernel_rfl) ?_
  refine GoO.exec (is := [0]) (hs := [.p]) (rest := [1, 2, 3, 4, 5, 6]) (ks := [3, 4, 5, 24, 25, 26, 118]) (env' := [(3, .pointer (some ⟨b_9, 0, none⟩)), (4, .pointer (some ⟨b_12, 0, none⟩)), (5, .int .i64 x_21), (24, .slice A_2 calls_1.length c_3), (25, .int .i64 (calls_1.length : Int)), (26, .int .i64 x_21), (118, .pointer (some ⟨b_9, 0, none⟩))]) (H' := [⟨40, b_9, [.slice A_84 f_83.length c_85, .int .i64 f_86]⟩, ⟨42, b_12, [.slice A_88 f_87.length c_89, .int .i64 f_90]⟩]) (ps := []) (by kernel_rfl) trivial ?_
  refine OpTo.go (GoO.call rfl (by kernel_rfl) (by kernel_rfl) (net_Net_Count_ok n (⟨f_83, f_86⟩ : T_net_Net) b_9 A_84 c_85) [[0], [40], [41]] [] [(1, 0)] [(2, 0)] (hks := [0, 1]) (bks := [0, 1, 2]) (by kernel_rfl) (by kernel_rfl) (by kernel_rfl) (.inl rfl) rfl rfl (by kernel_rfl) (by kernel_rfl) _ (fun _ _ => rfl) _ _ (fun _ _ => rfl) (fun _ _ => rfl) (fun _ _ => by kernel_rfl) (fun _ _ => by kernel_rfl) (fun r_91 x_101 => ?_))
  refine GoO.shape (env' := [(3, .pointer (some ⟨b_9, 0, none⟩)), (4, .pointer (some ⟨b_12, 0, none⟩)), (5, .int .i64 x_21), (24, .slice A_2 calls_1.length c_3), (25, .int .i64 (calls_1.length : Int)), (26, .int .i64 x_21), (118, .pointer (some ⟨b_9, 0, none⟩)), (119, .tuple ⟨[.int .i64 r_91.1, .int .i64 r_91.2]⟩)]) (H' := [⟨40, b_9, [.slice A_84 f_83.length c_85, .int .i64 f_86]⟩, ⟨42, b_12, [.slice A_88 f_87.length c_89, .int .i64 f_90]⟩]) (B' := [Ow 41 kT_api_Letter A_84 c_85 f_83, Ow 44 kT_api_Letter A_88 c_89 f_87, Rd 0 kT_tontinelaw10_Call A_2 c_3 calls_1]) (ks := [3, 4, 5, 24, 25, 26, 118, 119]) (by kernel_rfl) (by kernel_rfl) (by kernel_rfl) ?_
  refine GoO.exec (is := [2, 3, 4, 5, 6]) (hs := [.p, .p, .p, .p, .p]) (rest := []) (ks := [3, 4, 5, 14, 15, 24, 25, 26]) (env' := [(3, .pointer (some ⟨b_9, 0, none⟩)), (4, .pointer (some ⟨b_12, 0, none⟩)), (5, .int .i64 x_21), (14, .int .i64 r_91.1), (15, .int .i64 r_91.2), (24, .slice A_2 calls_1.length c_3), (25, .int .i64 (calls_1.length : Int)), (26, .int .i64 x_21)]) (H' := [⟨40, b_9, [.slice A_84 f_83.length c_85, .int .i64 f_86]⟩, ⟨42, b_12, [.slice A_88 f_87.length c_89, .int .i64 f_90]⟩]) (ps := []) (by kernel_rfl) trivial ?_
  refine GoO.regionEnd ?_
  refine GoO.seq' c11_98e ?_
  refine GoO.draw c11_99e (by kernel_rfl) [] [⟨42, b_12, [.slice A_88 f_87.length c_89, .int .i64 f_90]⟩] [] (n := 30) (by kernel_rfl) ?_
  simp only [List.replicate]
  refine GoF.take [0, 1, 2, 3, 4, 5, 6, 7] [.p, .p, .p, .p, .b 0, .p, .p, .p] (ks := [3, 4, 5, 15, 24, 25, 26, 129]) (fu := 22) (li := [true, true, true, true, true, true, true, true, false, false, false, false, false, false, false, false, false, false, false, false, false, false, false, false, false, false, false, false, false, false]) (env' := [(3, .pointer (some ⟨b_9, 0, none⟩)), (4, .pointer (some ⟨b_12, 0, none⟩)), (5, .int .i64 x_21), (15, .int .i64 r_91.2), (24, .slice A_2 calls_1.length c_3), (25, .int .i64 (calls_1.length : Int)), (26, .int .i64 x_21), (129, .bool (r_91.1 != (f_87.length : Int)))]) (ps := [b_12 = b_12]) (hk := [1]) (bk := []) (by kernel_rfl) (And.intro rfl trivial) rfl rfl ?_
  refine GoF.bsplit (t := 129) (by kernel_rfl) (fun h92 => ?_) (fun h92 => ?_)
  · refine GoF.take [8, 9, 10, 11, 12, 13, 14, 15, 16, 17, 18, 19, 20, 21, 22, 23, 24, 25, 26, 27, 28, 29] [.p, .p, .p, .p, .p, .p, .p, .p, .p, .p, .p, .p, .p, .p, .p, .p, .p, .p, .p, .p, .p, .p] (ks := [3, 4, 24, 25, 26, 151]) (fu := 0) (li := [true, true, true, true, true, true, true, true, true, true, true, true, true, true, true, true, true, true, true, true, true, true, true, true, true, true, true, true, true, true]) (env' := [(3, .pointer (some ⟨b_9, 0, none⟩)), (4, .pointer (some ⟨b_12, 0, none⟩)), (24, .slice A_2 calls_1.length c_3), (25, .int .i64 (calls_1.length : Int)), (26, .int .i64 x_21), (151, .bool true)]) (ps := []) (hk := [1]) (bk := []) (by kernel_rfl) trivial rfl rfl ?_
    refine GoF.done (by kernel_rfl) ?_
    exact GoO.sub (ks := [3, 4, 24, 25, 26, 151]) (hk := [0, 1]) (bk := [0, 1, 2]) (by kernel_rfl) (by kernel_rfl) (by kernel_rfl) (tontinelaw10_NetRuns_j2_ok n L0 calls_1 f_13 f_16 f_17 f_20 x_21 f_83 f_86 f_87 f_90 A_2 c_3 b_9 b_12 A_14 c_15 A_18 c_19 A_84 c_85 A_88 c_89 w0 S0 ih0 true)
  · refine GoF.take [8, 9, 10, 11, 12, 13, 14, 15] [.p, .p, .p, .p, .b 0, .p, .p, .p] (ks := [3, 4, 5, 24, 25, 26, 137]) (fu := 14) (li := [true, true, true, true, true, true, true, true, true, true, true, true, true, true, true, true, false, false, false, false, false, false, false, false, false, false, false, false, false, false]) (env' := [(3, .pointer (some ⟨b_9, 0, none⟩)), (4, .pointer (some ⟨b_12, 0, none⟩)), (5, .int .i64 x_21), (24, .slice A_2 calls_1.length c_3), (25, .int .i64 (calls_1.length : Int)), (26, .int .i64 x_21), (137, .bool (r_91.2 != f_90))]) (ps := [b_12 = b_12]) (hk := [1]) (bk := []) (by kernel_rfl) (And.intro rfl trivial) rfl rfl ?_
    refine GoF.bsplit (t := 137) (by kernel_rfl) (fun h93 => ?_) (fun h93 => ?_)
    · refine GoF.take [16, 17, 18, 19, 20, 21, 22, 23, 24, 25, 26, 27, 28, 29] [.p, .p, .p, .p, .p, .p, .p, .p, .p, .p, .p, .p, .p, .p] (ks := [3, 4, 24, 25, 26, 151]) (fu := 0) (li := [true, true, true, true, true, true, true, true, true, true, true, true, true, true, true, true, true, true, true, true, true, true, true, true, true, true, true, true, true, true]) (env' := [(3, .pointer (some ⟨b_9, 0, none⟩)), (4, .pointer (some ⟨b_12, 0, none⟩)), (24, .slice A_2 calls_1.length c_3), (25, .int .i64 (calls_1.length : Int)), (26, .int .i64 x_21), (151, .bool true)]) (ps := []) (hk := [1]) (bk := []) (by kernel_rfl) trivial rfl rfl ?_
      refine GoF.done (by kernel_rfl) ?_
      exact GoO.sub (ks := [3, 4, 24, 25, 26, 151]) (hk := [0, 1]) (bk := [0, 1, 2]) (by kernel_rfl) (by kernel_rfl) (by kernel_rfl) (tontinelaw10_NetRuns_j2_ok n L0 calls_1 f_13 f_16 f_17 f_20 x_21 f_83 f_86 f_87 f_90 A_2 c_3 b_9 b_12 A_14 c_15 A_18 c_19 A_84 c_85 A_88 c_89 w0 S0 ih0 true)
    · refine GoF.take [16, 17, 18, 19] [.p, .p, .p, .p] (ks := [3, 4, 24, 25, 26, 137, 141]) (fu := 10) (li := [true, true, true, true, true, true, true, true, true, true, true, true, true, true, true, true, true, true, true, true, false, false, false, false, false, false, false, false, false, false]) (env' := [(3, .pointer (some ⟨b_9, 0, none⟩)), (4, .pointer (some ⟨b_12, 0, none⟩)), (24, .slice A_2 calls_1.length c_3), (25, .int .i64 (calls_1.length : Int)), (26, .int .i64 x_21), (137, .bool false), (141, .bool ((x_21.tmod 8) == 0))]) (ps := [(8 : Int) ≠ 0]) (hk := [1]) (bk := []) (by kernel_rfl) (And.intro (by decide) trivial) rfl rfl ?_
      refine GoF.bsplit (t := 141) (by kernel_rfl) (fun h94 => ?_) (fun h94 => ?_)
      · refine GoF.take [20, 22, 23, 24, 25] [.p, .p, .p, .p, .b 0] (ks := [3, 4, 24, 25, 26, 137, 141, 142, 147]) (fu := 5) (li := [true, true, true, true, true, true, true, true, true, true, true, true, true, true, true, true, true, true, true, true, true, false, true, true, true, true, false, false, false, false]) (env' := [(3, .pointer (some ⟨b_9, 0, none⟩)), (4, .pointer (some ⟨b_12, 0, none⟩)), (24, .slice A_2 calls_1.length c_3), (25, .int .i64 (calls_1.length : Int)), (26, .int .i64 x_21), (137, .bool false), (141, .bool true), (142, .pointer (some ⟨b_9, 0, none⟩)), (147, .slice A_88 f_87.length c_89)]) (ps := [b_12 = b_12]) (hk := [1]) (bk := []) (by kernel_rfl) (And.intro rfl trivial) rfl rfl ?_
        refine OpTo.goF (i := 21) (by kernel_rfl) (hk := [1]) (bk := []) (GoO.call rfl (by kernel_rfl) (by kernel_rfl) (net_Net_All_ok n (⟨f_83, f_86⟩ : T_net_Net) b_9 A_84 c_85) [[0], [40], [41]] [(51, 3)] [(1, 0)] [(2, 0)] (hks := [0, 1]) (bks := [0, 1, 2]) (by kernel_rfl) (by kernel_rfl) (by kernel_rfl) (.inl rfl) rfl rfl (by kernel_rfl) (by kernel_rfl) _ (fun _ _ => rfl) _ _ (fun _ _ => rfl) (fun _ _ => rfl) (fun _ _ => by kernel_rfl) (fun _ _ => by kernel_rfl) (fun r_95 x_100 => ⟨rfl, rfl, ?_⟩))
        obtain ⟨A_96, c_97⟩ := x_100
        refine GoF.shape (env' := [(3, .pointer (some ⟨b_9, 0, none⟩)), (4, .pointer (some ⟨b_12, 0, none⟩)), (24, .slice A_2 calls_1.length c_3), (25, .int .i64 (calls_1.length : Int)), (26, .int .i64 x_21), (137, .bool false), (141, .bool true), (142, .pointer (some ⟨b_9, 0, none⟩)), (143, .slice A_96 r_95.length c_97), (147, .slice A_88 f_87.length c_89)]) (H' := [⟨40, b_9, [.slice A_84 f_83.length c_85, .int .i64 f_86]⟩, ⟨42, b_12, [.slice A_88 f_87.length c_89, .int .i64 f_90]⟩]) (B' := [Ow 51 kT_api_Letter A_96 c_97 r_95, Ow 41 kT_api_Letter A_84 c_85 f_83, Ow 44 kT_api_Letter A_88 c_89 f_87, Rd 0 kT_tontinelaw10_Call A_2 c_3 calls_1]) (ks := [3, 4, 24, 25, 26, 137, 141, 142, 143, 147]) (by kernel_rfl) (by kernel_rfl) (by kernel_rfl) ?_
        refine GoF.view (j := 0) rfl ?_
        refine GoF.view (j := 2) rfl ?_
        refine OpTo.goF (i := 26) (by kernel_rfl) (hk := [1]) (bk := []) (GoO.call rfl (by kernel_rfl) (by kernel_rfl) (tontineref10_All_ok n r_95 f_87 A_96 c_97 A_88 c_89) [[0, 51, 44]] [] [] [(0, 4), (0, 5)] (hks := [0, 1]) (bks := [0, 1, 2, 3]) (by kernel_rfl) (by kernel_rfl) (by kernel_rfl) (.inr (fun _ _ => by simp [tontineref10_All.R])) rfl rfl (by kernel_rfl) (by kernel_rfl) _ (fun _ _ => rfl) _ _ (fun _ _ => rfl) (fun _ _ => rfl) (fun _ _ => by kernel_rfl) (fun _ _ => by kernel_rfl) (fun r_98 x_99 => ⟨rfl, rfl, ?_⟩))
        refine GoF.shape (env' := [(3, .pointer (some ⟨b_9, 0, none⟩)), (4, .pointer (some ⟨b_12, 0, none⟩)), (24, .slice A_2 calls_1.length c_3), (25, .int .i64 (calls_1.length : Int)), (26, .int .i64 x_21), (137, .bool false), (141, .bool true), (142, .pointer (some ⟨b_9, 0, none⟩)), (143, .slice A_96 r_95.length c_97), (147, .slice A_88 f_87.length c_89), (148, .bool r_98)]) (H' := [⟨40, b_9, [.slice A_84 f_83.length c_85, .int .i64 f_86]⟩, ⟨42, b_12, [.slice A_88 f_87.length c_89, .int .i64 f_90]⟩]) (B' := [Ow 51 kT_api_Letter A_96 c_97 r_95, Ow 41 kT_api_Letter A_84 c_85 f_83, Ow 44 kT_api_Letter A_88 c_89 f_87, Rd 0 kT_tontinelaw10_Call A_2 c_3 calls_1]) (ks := [3, 4, 24, 25, 26, 137, 141, 142, 143, 147, 148]) (by kernel_rfl) (by kernel_rfl) (by kernel_rfl) ?_
        refine GoF.take [27, 28, 29] [.p, .p, .p] (ks := [3, 4, 24, 25, 26, 151]) (fu := 0) (li := [true, true, true, true, true, true, true, true, true, true, true, true, true, true, true, true, true, true, true, true, true, true, true, true, true, true, true, true, true, true]) (env' := [(3, .pointer (some ⟨b_9, 0, none⟩)), (4, .pointer (some ⟨b_12, 0, none⟩)), (24, .slice A_2 calls_1.length c_3), (25, .int .i64 (calls_1.length : Int)), (26, .int .i64 x_21), (151, .bool (!r_98))]) (ps := []) (hk := [1]) (bk := []) (by kernel_rfl) trivial rfl rfl ?_
        refine GoF.done (by kernel_rfl) ?_
        exact GoO.sub (ks := [3, 4, 24, 25, 26, 151]) (hk := [0, 1]) (bk := [1, 2, 3]) (by kernel_rfl) (by kernel_rfl) (by kernel_rfl) (tontinelaw10_NetRuns_j2_ok n L0 calls_1 f_13 f_16 f_17 f_20 x_21 f_83 f_86 f_87 f_90 A_2 c_3 b_9 b_12 A_14 c_15 A_18 c_19 A_84 c_85 A_88 c_89 w0 S0 ih0 (!r_98))
      · refine GoF.take [20, 21, 22, 23, 24, 25, 26, 27, 28, 29] [.p, .p, .p, .p, .p, .p, .p, .p, .p, .p] (ks := [3, 4, 24, 25, 26, 151]) (fu := 0) (li := [true, true, true, true, true, true, true, true, true, true, true, true, true, true, true, true, true, true, true, true, true, true, true, true, true, true, true, true, true, true]) (env' := [(3, .pointer (some ⟨b_9, 0, none⟩)), (4, .pointer (some ⟨b_12, 0, none⟩)), (24, .slice A_2 calls_1.length c_3), (25, .int .i64 (calls_1.length : Int)), (26, .int .i64 x_21), (151, .bool false)]) (ps := []) (hk := [1]) (bk := []) (by kernel_rfl) trivial rfl rfl ?_
        refine GoF.done (by kernel_rfl) ?_
        exact GoO.sub (ks := [3, 4, 24, 25, 26, 151]) (hk := [0, 1]) (bk := [0, 1, 2]) (by kernel_rfl) (by kernel_rfl) (by kernel_rfl) (tontinelaw10_NetRuns_j2_ok n L0 calls_1 f_13 f_16 f_17 f_20 x_21 f_83 f_86 f_87 f_90 A_2 c_3 b_9 b_12 A_14 c_15 A_18 c_19 A_84 c_85 A_88 c_89 w0 S0 ih0 false)
theorem tontinelaw10_NetRuns_j3_ok (n : Nat) (L0 : (List T_api_Letter) → Int → (List T_api_Letter) → Int → Int → Option Bool) (calls_1 : (List T_tontinelaw10_Call)) (f_13 : (List T_api_Letter)) (f_16 : Int) (f_17 : (List T_api_Letter)) (f_20 : Int) (x_21 : Int) (r_39 : T_api_Letter × Bool × T_net_Net) (r_45 : T_api_Letter × Bool × T_tontineref10_Net) (A_2 : Option Addr) (c_3 : Nat) (b_9 : Nat) (b_12 : Nat) (A_14 : Option Addr) (c_15 : Nat) (A_18 : Option Addr) (c_19 : Nat) (A_42 : Option Addr) (c_43 : Nat) (A_48 : Option Addr) (c_49 : Nat) (w0 : World) (S0 : Fam) (ih0 : ∀ (f_13 : (List T_api_Letter)) (f_16 : Int) (f_17 : (List T_api_Letter)) (f_20 : Int) (x_21 : Int) (A_14 : Option Addr) (c_15 : Nat) (A_18 : Option Addr) (c_19 : Nat), GoO (tontinelaw10_NetRuns.cx A_2 c_3 w0 S0) [(3, .pointer (some ⟨b_9, 0, none⟩)), (4, .pointer (some ⟨b_12, 0, none⟩)), (24, .slice A_2 calls_1.length c_3), (25, .int .i64 (calls_1.length : Int)), (26, .int .i64 x_21)] [⟨40, b_9, [.slice A_14 f_13.length c_15, .int .i64 f_16]⟩, ⟨42, b_12, [.slice A_18 f_17.length c_19, .int .i64 f_20]⟩] [Ow 41 kT_api_Letter A_14 c_15 f_13, Ow 44 kT_api_Letter A_18 c_19 f_17, Rd 0 kT_tontinelaw10_Call A_2 c_3 calls_1] [.code c11_25, .inLoop c11_25, .inBlock 0, .code c11_106] (L0 f_13 f_16 f_17 f_20 x_21)) (b_53 : Bool) :
    GoO (tontinelaw10_NetRuns.cx A_2 c_3 w0 S0) [(3, .pointer (some ⟨b_9, 0, none⟩)), (4, .pointer (some ⟨b_12, 0, none⟩)), (5, .int .i64 x_21), (24, .slice A_2 calls_1.length c_3), (25, .int .i64 (calls_1.length : Int)), (26, .int .i64 x_21), (93, .bool b_53)] [⟨40, b_9, [.slice A_42 r_39.2.2.l.length c_43, .int .i64 r_39.2.2.lost]⟩, ⟨42, b_12, [.slice A_48 r_45.2.2.L.length c_49, .int .i64 r_45.2.2.Lost]⟩] [Ow 41 kT_api_Letter A_42 c_43 r_39.2.2.l, Ow 44 kT_api_Letter A_48 c_49 r_45.2.2.L, Rd 0 kT_tontinelaw10_Call A_2 c_3 calls_1] [.code c11_64, .inBlock 2, .code c11_96, .inBlock 1, .code c11_105, .inLoop c11_25, .inBlock 0, .code c11_106] (tontinelaw10_NetRuns.j3 n L0 x_21 r_39 r_45 b_53) := by
  unfold tontinelaw10_NetRuns.j3
  refine GoO.ite' c11_64e (by kernel_rfl) (fun h54 => ?_) (fun h54 => ?_)
  · refine GoO.seq' c11_65e ?_
    refine GoO.region' (is := [0]) c11_66e (by kernel_rfl) ?_
    refine GoO.exec (is := [0]) (hs := [.p]) (rest := []) (ks := [2]) (env' := [(2, .bool false)]) (H' := [⟨40, b_9, [.slice A_42 r_39.2.2.l.length c_43, .int .i64 r_39.2.2.lost]⟩, ⟨42, b_12, [.slice A_48 r_45.2.2.L.length c_49, .int .i64 r_45.2.2.Lost]⟩]) (ps := []) (by kernel_rfl) trivial ?_
    refine GoO.regionEnd ?_
    exact GoO.ret' (h := c11_67e) (hs := []) (ps := []) (hk := []) (bk := []) Try.func11 () (by kernel_rfl) trivial (by kernel_rfl) (by kernel_rfl)
  · refine GoO.skip' c11_68e ?_
    exact GoO.sub (ks := [3, 4, 5, 24, 25, 26]) (hk := [0, 1]) (bk := [0, 1, 2]) (by kernel_rfl) (by kernel_rfl) (by kernel_rfl) (tontinelaw10_NetRuns_j1_ok n L0 calls_1 f_13 f_16 f_17 f_20 x_21 A_2 c_3 b_9 b_12 A_14 c_15 A_18 c_19 w0 S0 ih0 r_39.2.2.l r_39.2.2.lost r_45.2.2.L r_45.2.2.Lost A_42 c_43 A_48 c_49)
end Go.GL
