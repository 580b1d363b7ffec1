import Derived.Test.YtmpockelhphkdaaKindsT1
import Derived.Test.YtmpockelhphkdaaProg
set_option linter.unusedVariables false
set_option linter.unusedSimpArgs false
set_option maxRecDepth 100000
namespace Go.GL
open Go Go.Proofs

/-! tontine/net.New -/
noncomputable def c15_0 : Code := bodyOf Try.f15
noncomputable def c15_1 : Code := cdL c15_0
noncomputable def c15_2 : Code := cdR c15_0
noncomputable def c15_3 : Code := cdL c15_2
noncomputable def c15_4 : Code := cdR c15_2
noncomputable def r15_1 : Array Oper := cdO c15_1
noncomputable def r15_3 : Array Oper := cdO c15_3
theorem c15_0e : c15_0 = .seq c15_1 c15_2 := by kernel_rfl
theorem c15_1e : c15_1 = .region 0 r15_1 false := by kernel_rfl
theorem c15_2e : c15_2 = .seq c15_3 c15_4 := by kernel_rfl
theorem c15_3e : c15_3 = .region 1 r15_3 false := by kernel_rfl
theorem c15_4e : c15_4 = .ret := by kernel_rfl
noncomputable def net_New.R : Pst T_net_Net where
  ε := Nat × Option Addr × Nat
  v := fun r x => .pointer (some ⟨x.1, 0, none⟩)
  H := fun r x => [⟨1, x.1, [.slice x.2.1 r.l.length x.2.2, .int .i64 r.lost]⟩]
  B := fun r x => [Ow 2 kT_api_Letter x.2.1 x.2.2 r.l]
noncomputable def net_New.cx (w0 : World) (S0 : Fam) : Cx T_net_Net := ⟨Try.prog, 15, Try.f15, 3, w0, S0, [], 0, net_New.R⟩
theorem net_New_ok (n : Nat) :
    Meets Try.prog 15 [] 0 [] [] [] (net_New.f n) (net_New.R) := by
  refine Meets.of (c := c15_0) (n := 3) Try.func15 (by kernel_rfl) (by kernel_rfl) (by kernel_rfl) fun w0 S0 => ?_
  unfold net_New.f
  show GoO (net_New.cx w0 S0) [] [] [] [.code c15_0] _
  refine GoO.seq' c15_0e ?_
  refine GoO.region' (is := [0]) c15_1e (by kernel_rfl) ?_
  refine GoO.exec (is := [0]) (hs := [.p]) (rest := []) (ks := []) (env' := []) (H' := []) (ps := []) (by kernel_rfl) trivial ?_
  refine GoO.regionEnd ?_
  refine GoO.seq' c15_2e ?_
  refine GoO.region' (is := [0, 1, 2]) c15_3e (by kernel_rfl) ?_
  refine GoO.exec (is := [0]) (hs := [.p]) (rest := [1, 2]) (ks := [1]) (env' := [(1, .agg ⟨[.slice none ([] : List T_api_Letter).length 0, .int .i64 0]⟩)]) (H' := []) (ps := []) (by kernel_rfl) trivial ?_
  refine OpTo.go (GoO.new rfl 40 (cs := [.slice none ([] : List T_api_Letter).length 0, .int .i64 0]) (by kernel_rfl) _ (fun _ => rfl) (fun b_1 => ?_))
  refine GoO.exec (is := [2]) (hs := [.p]) (rest := []) (ks := [0]) (env' := [(0, .pointer (some ⟨b_1, 0, none⟩))]) (H' := [⟨40, b_1, [.slice none ([] : List T_api_Letter).length 0, .int .i64 0]⟩]) (ps := []) (by kernel_rfl) trivial ?_
  refine GoO.regionEnd ?_
  refine GoO.nilOwn kT_api_Letter 2 ?_
  refine GoO.retagB (t := 40) (u := 1) (j := 0) (hk := []) (bk := [0]) rfl rfl rfl rfl rfl rfl (by kernel_rfl) (by kernel_rfl) ?_
  exact GoO.ret' (h := c15_4e) (hs := []) (ps := []) (hk := [0]) (bk := [0]) Try.func15 (⟨b_1, none, 0⟩ : Nat × Option Addr × Nat) (by kernel_rfl) trivial (by kernel_rfl) (by kernel_rfl)

/-! tontine/net.copied -/
noncomputable def c38_0 : Code := bodyOf Try.f38
noncomputable def c38_1 : Code := cdL c38_0
noncomputable def c38_2 : Code := cdR c38_0
noncomputable def c38_3 : Code := cdL c38_2
noncomputable def c38_4 : Code := cdR c38_2
noncomputable def c38_5 : Code := cdL c38_4
noncomputable def c38_6 : Code := cdR c38_4
noncomputable def r38_1 : Array Oper := cdO c38_1
noncomputable def r38_3 : Array Oper := cdO c38_3
noncomputable def r38_5 : Array Oper := cdO c38_5
theorem c38_0e : c38_0 = .seq c38_1 c38_2 := by kernel_rfl
theorem c38_1e : c38_1 = .region 0 r38_1 false := by kernel_rfl
theorem c38_2e : c38_2 = .seq c38_3 c38_4 := by kernel_rfl
theorem c38_3e : c38_3 = .region 1 r38_3 false := by kernel_rfl
theorem c38_4e : c38_4 = .seq c38_5 c38_6 := by kernel_rfl
theorem c38_5e : c38_5 = .region 2 r38_5 false := by kernel_rfl
theorem c38_6e : c38_6 = .ret := by kernel_rfl
noncomputable def net_copied.R (A_2 : Option Addr) (c_3 : Nat) : Pst T_api_Letter where
  ε := Option Addr × Nat
  v := fun r x => .agg ⟨[.int .i64 r.Kind, .int .i64 r.From, .int .i64 r.To, .int .u64 r.Term, .int .u64 r.Index, .int .u64 r.Prev, .int .u64 r.Commit, .bool r.Ok, .slice x.1 r.Entries.length x.2, .string (bs r.Data)]⟩
  H := fun r x => []
  B := fun r x => [Rd 0 kT_api_Entry x.1 x.2 r.Entries]
noncomputable def net_copied.cx (A_2 : Option Addr) (c_3 : Nat) (w0 : World) (S0 : Fam) : Cx T_api_Letter := ⟨Try.prog, 38, Try.f38, 8, w0, S0, [], 0, net_copied.R A_2 c_3⟩
theorem net_copied_ok (n : Nat) (x_1 : T_api_Letter) (A_2 : Option Addr) (c_3 : Nat) :
    Meets Try.prog 38 [.agg ⟨[.int .i64 x_1.Kind, .int .i64 x_1.From, .int .i64 x_1.To, .int .u64 x_1.Term, .int .u64 x_1.Index, .int .u64 x_1.Prev, .int .u64 x_1.Commit, .bool x_1.Ok, .slice A_2 x_1.Entries.length c_3, .string (bs x_1.Data)]⟩] 0 [] [] [Rd 0 kT_api_Entry A_2 c_3 x_1.Entries] (net_copied.f n x_1) (net_copied.R A_2 c_3) := by
  refine Meets.of (c := c38_0) (n := 8) Try.func38 (by kernel_rfl) (by kernel_rfl) (by kernel_rfl) fun w0 S0 => ?_
  unfold net_copied.f
  show GoO (net_copied.cx A_2 c_3 w0 S0) [(0, .agg ⟨[.int .i64 x_1.Kind, .int .i64 x_1.From, .int .i64 x_1.To, .int .u64 x_1.Term, .int .u64 x_1.Index, .int .u64 x_1.Prev, .int .u64 x_1.Commit, .bool x_1.Ok, .slice A_2 x_1.Entries.length c_3, .string (bs x_1.Data)]⟩)] [] [Rd 0 kT_api_Entry A_2 c_3 x_1.Entries] [.code c38_0] _
  refine GoO.seq' c38_0e ?_
  refine GoO.region' (is := [0, 1]) c38_1e (by kernel_rfl) ?_
  refine OpTo.go (GoO.new rfl 40 (cs := [.int .i64 x_1.Kind, .int .i64 x_1.From, .int .i64 x_1.To, .int .u64 x_1.Term, .int .u64 x_1.Index, .int .u64 x_1.Prev, .int .u64 x_1.Commit, .bool x_1.Ok, .slice A_2 x_1.Entries.length c_3, .string (bs x_1.Data)]) (by kernel_rfl) _ (fun _ => rfl) (fun b_4 => ?_))
  refine OpTo.go (GoO.new rfl 41 (cs := [.int .i64 0, .int .i64 0, .int .i64 0, .int .u64 0, .int .u64 0, .int .u64 0, .int .u64 0, .bool false, .slice none ([] : List T_api_Entry).length 0, .string (bs [])]) (by kernel_rfl) _ (fun _ => rfl) (fun b_5 => ?_))
  refine GoO.regionEnd ?_
  refine GoO.seq' c38_2e ?_
  refine GoO.region' (is := [0, 1, 2, 3, 4]) c38_3e (by kernel_rfl) ?_
  refine GoO.exec (is := [0, 1]) (hs := [.p, .b 1]) (rest := [2, 3, 4]) (ks := [1, 2, 4]) (env' := [(1, .pointer (some ⟨b_4, 0, none⟩)), (2, .pointer (some ⟨b_5, 0, none⟩)), (4, .slice A_2 x_1.Entries.length c_3)]) (H' := [⟨41, b_5, [.int .i64 0, .int .i64 0, .int .i64 0, .int .u64 0, .int .u64 0, .int .u64 0, .int .u64 0, .bool false, .slice none ([] : List T_api_Entry).length 0, .string (bs [])]⟩, ⟨40, b_4, [.int .i64 x_1.Kind, .int .i64 x_1.From, .int .i64 x_1.To, .int .u64 x_1.Term, .int .u64 x_1.Index, .int .u64 x_1.Prev, .int .u64 x_1.Commit, .bool x_1.Ok, .slice A_2 x_1.Entries.length c_3, .string (bs x_1.Data)]⟩]) (ps := [b_4 = b_4]) (by kernel_rfl) (And.intro rfl trivial) ?_
  refine GoO.nilOwn kT_api_Entry 42 ?_
  refine GoO.guard (fun h6 => ?_)
  refine OpTo.go (GoO.appW (e := 88) (K := kT_api_Entry) (A := none) (c := 0) (tg := 42) (bytes := 40) (zs := [.int .u64 0, .int .u64 0, .int .i64 0, .string (bs [])]) (xs := ([] : List T_api_Entry)) (ys := x_1.Entries) (xv := .slice A_2 x_1.Entries.length c_3) (j := 0) (bk := [1]) rfl (by kernel_rfl) (by kernel_rfl) (by kernel_rfl) (by kernel_rfl) rfl (by kernel_rfl) rfl (fun w S hB => SrcIs.row (Reads.rd w S (hB _ (List.mem_of_getElem? (i := 1) rfl)))) h6 rfl rfl rfl rfl _ (fun _ _ => rfl) (fun A_7 c_8 => ?_))
  refine GoO.exec (is := [3, 4]) (hs := [.p, .b 1]) (rest := []) (ks := [1, 2]) (env' := [(1, .pointer (some ⟨b_4, 0, none⟩)), (2, .pointer (some ⟨b_5, 0, none⟩))]) (H' := [⟨41, b_5, [.int .i64 0, .int .i64 0, .int .i64 0, .int .u64 0, .int .u64 0, .int .u64 0, .int .u64 0, .bool false, .slice none ([] : List T_api_Entry).length 0, .string (bs [])]⟩, ⟨40, b_4, [.int .i64 x_1.Kind, .int .i64 x_1.From, .int .i64 x_1.To, .int .u64 x_1.Term, .int .u64 x_1.Index, .int .u64 x_1.Prev, .int .u64 x_1.Commit, .bool x_1.Ok, .slice A_7 (([] : List T_api_Entry) ++ x_1.Entries).length c_8, .string (bs x_1.Data)]⟩]) (ps := [b_4 = b_4]) (by kernel_rfl) (And.intro rfl trivial) ?_
  refine GoO.regionEnd ?_
  refine GoO.seq' c38_4e ?_
  refine GoO.region' (is := [0, 1]) c38_5e (by kernel_rfl) ?_
  refine GoO.exec (is := [0, 1]) (hs := [.b 1, .b 0]) (rest := []) (ks := [2]) (env' := [(2, .pointer (some ⟨b_5, 0, none⟩))]) (H' := [⟨41, b_5, [.int .i64 x_1.Kind, .int .i64 x_1.From, .int .i64 x_1.To, .int .u64 x_1.Term, .int .u64 x_1.Index, .int .u64 x_1.Prev, .int .u64 x_1.Commit, .bool x_1.Ok, .slice A_7 (([] : List T_api_Entry) ++ x_1.Entries).length c_8, .string (bs x_1.Data)]⟩, ⟨40, b_4, [.int .i64 x_1.Kind, .int .i64 x_1.From, .int .i64 x_1.To, .int .u64 x_1.Term, .int .u64 x_1.Index, .int .u64 x_1.Prev, .int .u64 x_1.Commit, .bool x_1.Ok, .slice A_7 (([] : List T_api_Entry) ++ x_1.Entries).length c_8, .string (bs x_1.Data)]⟩]) (ps := [b_4 = b_4, b_5 = b_5]) (by kernel_rfl) (And.intro rfl (And.intro rfl trivial)) ?_
  refine GoO.regionEnd ?_
  refine GoO.retag (t := 42) (u := 0) (j := 0) (hk := [0, 1]) (bk := [1]) rfl rfl rfl rfl rfl rfl (by kernel_rfl) (by kernel_rfl) ?_
  refine GoO.own2rd (j := 0) rfl ?_
  exact GoO.ret' (h := c38_6e) (hs := [0]) (ps := [b_5 = b_5]) (hk := []) (bk := [0]) Try.func38 (⟨A_7, c_8⟩ : Option Addr × Nat) (by kernel_rfl) (And.intro rfl trivial) (by kernel_rfl) (by kernel_rfl)

/-! (*tontine/net.Net).Send -/
noncomputable def c16_0 : Code := bodyOf Try.f16
noncomputable def c16_1 : Code := cdL c16_0
noncomputable def c16_2 : Code := cdR c16_0
noncomputable def c16_3 : Code := cdL c16_2
noncomputable def c16_4 : Code := cdL c16_3
noncomputable def c16_5 : Code := cdR c16_3
noncomputable def c16_9 : Code := cdR c16_5
noncomputable def c16_10 : Code := cdR c16_2
noncomputable def c16_11 : Code := cdL c16_10
noncomputable def c16_12 : Code := cdL c16_11
noncomputable def c16_13 : Code := cdR c16_11
noncomputable def c16_14 : Code := cdL c16_13
noncomputable def c16_15 : Code := cdL c16_14
noncomputable def c16_16 : Code := cdR c16_14
noncomputable def c16_17 : Code := cdL c16_16
noncomputable def c16_18 : Code := cdR c16_16
noncomputable def c16_19 : Code := cdR c16_13
noncomputable def c16_20 : Code := cdR c16_10
noncomputable def c16_21 : Code := cdL c16_20
noncomputable def c16_22 : Code := cdR c16_20
noncomputable def c16_23 : Code := cdL c16_22
noncomputable def c16_24 : Code := cdR c16_22
noncomputable def c16_6 : Code := cdL c16_5
noncomputable def r16_1 : Array Oper := cdO c16_1
noncomputable def r16_4 : Array Oper := cdO c16_4
noncomputable def r16_12 : Array Oper := cdO c16_12
noncomputable def r16_15 : Array Oper := cdO c16_15
noncomputable def r16_17 : Array Oper := cdO c16_17
noncomputable def r16_21 : Array Oper := cdO c16_21
noncomputable def r16_23 : Array Oper := cdO c16_23
theorem c16_0e : c16_0 = .seq c16_1 c16_2 := by kernel_rfl
theorem c16_1e : c16_1 = .region 0 r16_1 false := by kernel_rfl
theorem c16_2e : c16_2 = .seq c16_3 c16_10 := by kernel_rfl
theorem c16_3e : c16_3 = .seq c16_4 c16_5 := by kernel_rfl
theorem c16_4e : c16_4 = .region 1 r16_4 false := by kernel_rfl
theorem c16_5e : c16_5 = .cond (cdC c16_5) c16_6 c16_9 := by kernel_rfl
theorem c16_9e : c16_9 = .skip := by kernel_rfl
theorem c16_10e : c16_10 = .seq c16_11 c16_20 := by kernel_rfl
theorem c16_11e : c16_11 = .seq c16_12 c16_13 := by kernel_rfl
theorem c16_12e : c16_12 = .region 3 r16_12 false := by kernel_rfl
theorem c16_13e : c16_13 = .cond (cdC c16_13) c16_14 c16_19 := by kernel_rfl
theorem c16_14e : c16_14 = .seq c16_15 c16_16 := by kernel_rfl
theorem c16_15e : c16_15 = .region 4 r16_15 false := by kernel_rfl
theorem c16_16e : c16_16 = .seq c16_17 c16_18 := by kernel_rfl
theorem c16_17e : c16_17 = .region 5 r16_17 false := by kernel_rfl
theorem c16_18e : c16_18 = .ret := by kernel_rfl
theorem c16_19e : c16_19 = .skip := by kernel_rfl
theorem c16_20e : c16_20 = .seq c16_21 c16_22 := by kernel_rfl
theorem c16_21e : c16_21 = .region 6 r16_21 true := by kernel_rfl
theorem c16_22e : c16_22 = .seq c16_23 c16_24 := by kernel_rfl
theorem c16_23e : c16_23 = .region 7 r16_23 false := by kernel_rfl
theorem c16_24e : c16_24 = .ret := by kernel_rfl
noncomputable def net_Net_Send.R (b_2 : Nat) (A_3 : Option Addr) (c_4 : Nat) (A_6 : Option Addr) (c_7 : Nat) : Pst (Bool × T_net_Net) where
  ε := Option Addr × Nat
  v := fun r x => .bool r.1
  H := fun r x => [⟨1, b_2, [.slice x.1 r.2.l.length x.2, .int .i64 r.2.lost]⟩]
  B := fun r x => [Ow 2 kT_api_Letter x.1 x.2 r.2.l]
noncomputable def net_Net_Send.cx (b_2 : Nat) (A_3 : Option Addr) (c_4 : Nat) (A_6 : Option Addr) (c_7 : Nat) (w0 : World) (S0 : Fam) : Cx (Bool × T_net_Net) := ⟨Try.prog, 16, Try.f16, 31, w0, S0, [1, 2], 2, net_Net_Send.R b_2 A_3 c_4 A_6 c_7⟩
theorem net_Net_Send_ok (n : Nat) (n_1 : T_net_Net) (x_5 : T_api_Letter) (b_2 : Nat) (A_3 : Option Addr) (c_4 : Nat) (A_6 : Option Addr) (c_7 : Nat) :
    Meets Try.prog 16 [.pointer (some ⟨b_2, 0, none⟩), .agg ⟨[.int .i64 x_5.Kind, .int .i64 x_5.From, .int .i64 x_5.To, .int .u64 x_5.Term, .int .u64 x_5.Index, .int .u64 x_5.Prev, .int .u64 x_5.Commit, .bool x_5.Ok, .slice A_6 x_5.Entries.length c_7, .string (bs x_5.Data)]⟩] 2 [1, 2] [⟨1, b_2, [.slice A_3 n_1.l.length c_4, .int .i64 n_1.lost]⟩] [Ow 2 kT_api_Letter A_3 c_4 n_1.l, Rd 0 kT_api_Entry A_6 c_7 x_5.Entries] (net_Net_Send.f n n_1 x_5) (net_Net_Send.R b_2 A_3 c_4 A_6 c_7) := by
  refine Meets.of (c := c16_0) (n := 31) Try.func16 (by kernel_rfl) (by kernel_rfl) (by kernel_rfl) fun w0 S0 => ?_
  unfold net_Net_Send.f
  show GoO (net_Net_Send.cx b_2 A_3 c_4 A_6 c_7 w0 S0) [(0, .pointer (some ⟨b_2, 0, none⟩)), (1, .agg ⟨[.int .i64 x_5.Kind, .int .i64 x_5.From, .int .i64 x_5.To, .int .u64 x_5.Term, .int .u64 x_5.Index, .int .u64 x_5.Prev, .int .u64 x_5.Commit, .bool x_5.Ok, .slice A_6 x_5.Entries.length c_7, .string (bs x_5.Data)]⟩)] [⟨1, b_2, [.slice A_3 n_1.l.length c_4, .int .i64 n_1.lost]⟩] [Ow 2 kT_api_Letter A_3 c_4 n_1.l, Rd 0 kT_api_Entry A_6 c_7 x_5.Entries] [.code c16_0] _
  refine GoO.seq' c16_0e ?_
  refine GoO.region' (is := [0, 1]) c16_1e (by kernel_rfl) ?_
  refine OpTo.go (GoO.new rfl 40 (cs := [.int .i64 x_5.Kind, .int .i64 x_5.From, .int .i64 x_5.To, .int .u64 x_5.Term, .int .u64 x_5.Index, .int .u64 x_5.Prev, .int .u64 x_5.Commit, .bool x_5.Ok, .slice A_6 x_5.Entries.length c_7, .string (bs x_5.Data)]) (by kernel_rfl) _ (fun _ => rfl) (fun b_8 => ?_))
  refine GoO.exec (is := [1]) (hs := [.p]) (rest := []) (ks := [0, 3]) (env' := [(0, .pointer (some ⟨b_2, 0, none⟩)), (3, .pointer (some ⟨b_8, 0, none⟩))]) (H' := [⟨40, b_8, [.int .i64 x_5.Kind, .int .i64 x_5.From, .int .i64 x_5.To, .int .u64 x_5.Term, .int .u64 x_5.Index, .int .u64 x_5.Prev, .int .u64 x_5.Commit, .bool x_5.Ok, .slice A_6 x_5.Entries.length c_7, .string (bs x_5.Data)]⟩, ⟨1, b_2, [.slice A_3 n_1.l.length c_4, .int .i64 n_1.lost]⟩]) (ps := []) (by kernel_rfl) trivial ?_
  refine GoO.regionEnd ?_
  refine GoO.seq' c16_2e ?_
  refine GoO.seq' c16_3e ?_
  refine GoO.region' (is := [0, 1]) c16_4e (by kernel_rfl) ?_
  refine GoO.exec (is := [0, 1]) (hs := [.p, .p]) (rest := []) (ks := [0, 3, 6]) (env' := [(0, .pointer (some ⟨b_2, 0, none⟩)), (3, .pointer (some ⟨b_8, 0, none⟩)), (6, .bool false)]) (H' := [⟨40, b_8, [.int .i64 x_5.Kind, .int .i64 x_5.From, .int .i64 x_5.To, .int .u64 x_5.Term, .int .u64 x_5.Index, .int .u64 x_5.Prev, .int .u64 x_5.Commit, .bool x_5.Ok, .slice A_6 x_5.Entries.length c_7, .string (bs x_5.Data)]⟩, ⟨1, b_2, [.slice A_3 n_1.l.length c_4, .int .i64 n_1.lost]⟩]) (ps := []) (by kernel_rfl) trivial ?_
  refine GoO.regionEnd ?_
  refine GoO.condF c16_5e (by kernel_rfl) ?_
  refine GoO.skip' c16_9e ?_
  refine GoO.seq' c16_10e ?_
  refine GoO.seq' c16_11e ?_
  refine GoO.region' (is := [0, 1, 2, 3, 4, 5]) c16_12e (by kernel_rfl) ?_
  refine GoO.exec (is := [0, 1, 2, 3, 4, 5]) (hs := [.p, .p, .p, .b 1, .p, .p]) (rest := []) (ks := [0, 3, 12]) (env' := [(0, .pointer (some ⟨b_2, 0, none⟩)), (3, .pointer (some ⟨b_8, 0, none⟩)), (12, .bool ((n_1.l.length : Int) == 256))]) (H' := [⟨40, b_8, [.int .i64 x_5.Kind, .int .i64 x_5.From, .int .i64 x_5.To, .int .u64 x_5.Term, .int .u64 x_5.Index, .int .u64 x_5.Prev, .int .u64 x_5.Commit, .bool x_5.Ok, .slice A_6 x_5.Entries.length c_7, .string (bs x_5.Data)]⟩, ⟨1, b_2, [.slice A_3 n_1.l.length c_4, .int .i64 n_1.lost]⟩]) (ps := [b_2 = b_2]) (by kernel_rfl) (And.intro rfl trivial) ?_
  refine GoO.regionEnd ?_
  refine GoO.ite' c16_13e (by kernel_rfl) (fun h9 => ?_) (fun h9 => ?_)
  · refine GoO.seq' c16_14e ?_
    refine GoO.region' (is := [0, 1, 2, 3, 4, 5, 6, 7]) c16_15e (by kernel_rfl) ?_
    refine GoO.exec (is := [0, 1, 2, 3, 4, 5, 6, 7]) (hs := [.p, .p, .p, .b 1, .p, .p, .p, .b 1]) (rest := []) (ks := []) (env' := []) (H' := [⟨40, b_8, [.int .i64 x_5.Kind, .int .i64 x_5.From, .int .i64 x_5.To, .int .u64 x_5.Term, .int .u64 x_5.Index, .int .u64 x_5.Prev, .int .u64 x_5.Commit, .bool x_5.Ok, .slice A_6 x_5.Entries.length c_7, .string (bs x_5.Data)]⟩, ⟨1, b_2, [.slice A_3 n_1.l.length c_4, .int .i64 (wi64 (n_1.lost + 1))]⟩]) (ps := [b_2 = b_2, b_2 = b_2]) (by kernel_rfl) (And.intro rfl (And.intro rfl trivial)) ?_
    refine GoO.regionEnd ?_
    refine GoO.seq' c16_16e ?_
    refine GoO.region' (is := [0]) c16_17e (by kernel_rfl) ?_
    refine GoO.exec (is := [0]) (hs := [.p]) (rest := []) (ks := [4]) (env' := [(4, .bool false)]) (H' := [⟨40, b_8, [.int .i64 x_5.Kind, .int .i64 x_5.From, .int .i64 x_5.To, .int .u64 x_5.Term, .int .u64 x_5.Index, .int .u64 x_5.Prev, .int .u64 x_5.Commit, .bool x_5.Ok, .slice A_6 x_5.Entries.length c_7, .string (bs x_5.Data)]⟩, ⟨1, b_2, [.slice A_3 n_1.l.length c_4, .int .i64 (wi64 (n_1.lost + 1))]⟩]) (ps := []) (by kernel_rfl) trivial ?_
    refine GoO.regionEnd ?_
    exact GoO.ret' (h := c16_18e) (hs := []) (ps := []) (hk := [1]) (bk := [0]) Try.func16 (⟨A_3, c_4⟩ : Option Addr × Nat) (by kernel_rfl) trivial (by kernel_rfl) (by kernel_rfl)
  · refine GoO.skip' c16_19e ?_
    refine GoO.seq' c16_20e ?_
    refine GoO.draw c16_21e (by kernel_rfl) [9, 10, 11] [⟨40, b_8, [.int .i64 x_5.Kind, .int .i64 x_5.From, .int .i64 x_5.To, .int .u64 x_5.Term, .int .u64 x_5.Index, .int .u64 x_5.Prev, .int .u64 x_5.Commit, .bool x_5.Ok, .slice A_6 x_5.Entries.length c_7, .string (bs x_5.Data)]⟩, ⟨1, b_2, [.slice A_3 n_1.l.length c_4, .int .i64 n_1.lost]⟩] [] (n := 12) (by kernel_rfl) ?_
    simp only [List.replicate]
    refine GoF.take [0, 1, 2, 3, 4, 5] [.p, .p, .p, .p, .b 1, .b 0] (ks := [20, 24, 25]) (fu := 6) (li := [true, true, true, true, true, true, false, false, false, false, false, false]) (env' := [(20, .pointer (some ⟨b_2, 0, none⟩)), (24, .slice A_3 n_1.l.length c_4), (25, .agg ⟨[.int .i64 x_5.Kind, .int .i64 x_5.From, .int .i64 x_5.To, .int .u64 x_5.Term, .int .u64 x_5.Index, .int .u64 x_5.Prev, .int .u64 x_5.Commit, .bool x_5.Ok, .slice A_6 x_5.Entries.length c_7, .string (bs x_5.Data)]⟩)]) (ps := [b_2 = b_2, b_8 = b_8]) (hk := [0, 1]) (bk := []) (by kernel_rfl) (And.intro rfl (And.intro rfl trivial)) rfl rfl ?_
    refine OpTo.goF (i := 6) (by kernel_rfl) (hk := [0, 1]) (bk := []) (GoO.call rfl (by kernel_rfl) (by kernel_rfl) (net_copied_ok n x_5 A_6 c_7) [[0]] [] [] [(0, 1)] (hks := [0, 1]) (bks := [0, 1]) (by kernel_rfl) (by kernel_rfl) (by kernel_rfl) (.inl rfl) rfl rfl (by kernel_rfl) (by kernel_rfl) _ (fun _ _ => rfl) _ _ (fun _ _ => rfl) (fun _ _ => rfl) (fun _ _ => by kernel_rfl) (fun _ _ => by kernel_rfl) (fun r_10 x_18 => ⟨rfl, rfl, ?_⟩))
    obtain ⟨A_11, c_12⟩ := x_18
    refine GoF.shape (env' := [(20, .pointer (some ⟨b_2, 0, none⟩)), (24, .slice A_3 n_1.l.length c_4), (25, .agg ⟨[.int .i64 x_5.Kind, .int .i64 x_5.From, .int .i64 x_5.To, .int .u64 x_5.Term, .int .u64 x_5.Index, .int .u64 x_5.Prev, .int .u64 x_5.Commit, .bool x_5.Ok, .slice A_6 x_5.Entries.length c_7, .string (bs x_5.Data)]⟩), (26, .agg ⟨[.int .i64 r_10.Kind, .int .i64 r_10.From, .int .i64 r_10.To, .int .u64 r_10.Term, .int .u64 r_10.Index, .int .u64 r_10.Prev, .int .u64 r_10.Commit, .bool r_10.Ok, .slice A_11 r_10.Entries.length c_12, .string (bs r_10.Data)]⟩)]) (H' := [⟨40, b_8, [.int .i64 x_5.Kind, .int .i64 x_5.From, .int .i64 x_5.To, .int .u64 x_5.Term, .int .u64 x_5.Index, .int .u64 x_5.Prev, .int .u64 x_5.Commit, .bool x_5.Ok, .slice A_6 x_5.Entries.length c_7, .string (bs x_5.Data)]⟩, ⟨1, b_2, [.slice A_3 n_1.l.length c_4, .int .i64 n_1.lost]⟩]) (B' := [Rd 0 kT_api_Entry A_11 c_12 r_10.Entries, Ow 2 kT_api_Letter A_3 c_4 n_1.l, Rd 0 kT_api_Entry A_6 c_7 x_5.Entries]) (ks := [20, 24, 25, 26]) (by kernel_rfl) (by kernel_rfl) (by kernel_rfl) ?_
    refine OpTo.goF (i := 7) (by kernel_rfl) (hk := [0, 1]) (bk := []) (GoO.lit (e := 29) (K := kT_api_Letter) rfl (by kernel_rfl) (by kernel_rfl) (cs := [.int .i64 r_10.Kind, .int .i64 r_10.From, .int .i64 r_10.To, .int .u64 r_10.Term, .int .u64 r_10.Index, .int .u64 r_10.Prev, .int .u64 r_10.Commit, .bool r_10.Ok, .slice A_11 r_10.Entries.length c_12, .string (bs r_10.Data)]) (by kernel_rfl) [r_10] (by kernel_rfl) (by kernel_rfl) (fun w S hB => ⟨[.int .i64 r_10.Kind, .int .i64 r_10.From, .int .i64 r_10.To, .int .u64 r_10.Term, .int .u64 r_10.Index, .int .u64 r_10.Prev, .int .u64 r_10.Commit, .bool r_10.Ok, .slice A_11 r_10.Entries.length c_12, .string (bs r_10.Data)], _, rfl, ⟨A_11, c_12, rfl, hB _ (List.mem_of_getElem? (i := 0) rfl)⟩, rfl⟩) 41 _ (fun _ _ => rfl) (fun A_13 c_14 => ⟨rfl, rfl, ?_⟩))
    refine GoF.guard (fun h15 => ?_)
    refine OpTo.goF (i := 8) (by kernel_rfl) (hk := [0, 1]) (bk := []) (GoO.appW (e := 29) (K := kT_api_Letter) (A := A_3) (c := c_4) (tg := 2) (bytes := 104) (zs := [.int .i64 0, .int .i64 0, .int .i64 0, .int .u64 0, .int .u64 0, .int .u64 0, .int .u64 0, .bool false, .slice none 0 0, .string (bs [])]) (xs := n_1.l) (ys := [r_10]) (xv := .slice A_13 [r_10].length c_14) (j := 2) (bk := [0, 1, 3]) rfl (by kernel_rfl) (by kernel_rfl) (by kernel_rfl) (by kernel_rfl) rfl (by kernel_rfl) rfl (fun w S hB => SrcIs.row (Reads.own w S (hB _ (List.mem_of_getElem? (i := 0) rfl)))) h15 rfl rfl rfl rfl _ (fun _ _ => rfl) (fun A_16 c_17 => ⟨rfl, rfl, ?_⟩))
    refine GoF.fin1 (i := 9) (hint := .p) (ps := []) (hk := []) (bk := []) (by kernel_rfl) rfl trivial (.inl rfl) ?_
    refine GoF.fin1 (i := 10) (hint := .p) (ps := []) (hk := []) (bk := []) (by kernel_rfl) rfl trivial (.inl rfl) ?_
    refine GoF.fin1 (i := 11) (hint := .b 1) (ps := [b_2 = b_2]) (hk := []) (bk := []) (by kernel_rfl) rfl (And.intro rfl trivial) (.inl rfl) ?_
    refine GoF.done (by kernel_rfl) ?_
    refine GoO.seq' c16_22e ?_
    refine GoO.region' (is := [0]) c16_23e (by kernel_rfl) ?_
    refine GoO.exec (is := [0]) (hs := [.p]) (rest := []) (ks := [4]) (env' := [(4, .bool true)]) (H' := [⟨40, b_8, [.int .i64 x_5.Kind, .int .i64 x_5.From, .int .i64 x_5.To, .int .u64 x_5.Term, .int .u64 x_5.Index, .int .u64 x_5.Prev, .int .u64 x_5.Commit, .bool x_5.Ok, .slice A_6 x_5.Entries.length c_7, .string (bs x_5.Data)]⟩, ⟨1, b_2, [.slice A_16 (n_1.l ++ [r_10]).length c_17, .int .i64 n_1.lost]⟩]) (ps := []) (by kernel_rfl) trivial ?_
    refine GoO.regionEnd ?_
    exact GoO.ret' (h := c16_24e) (hs := []) (ps := []) (hk := [1]) (bk := [0]) Try.func16 (⟨A_16, c_17⟩ : Option Addr × Nat) (by kernel_rfl) trivial (by kernel_rfl) (by kernel_rfl)

/-! (*tontine/net.Net).place -/
noncomputable def c39_0 : Code := bodyOf Try.f39
noncomputable def c39_1 : Code := cdL c39_0
noncomputable def c39_2 : Code := cdR c39_0
noncomputable def c39_3 : Code := cdL c39_2
noncomputable def c39_4 : Code := cdL c39_3
noncomputable def c39_5 : Code := cdR c39_3
noncomputable def c39_6 : Code := cdL c39_5
noncomputable def c39_7 : Code := cdL c39_6
noncomputable def c39_8 : Code := cdR c39_6
noncomputable def c39_9 : Code := cdR c39_5
noncomputable def c39_10 : Code := cdR c39_2
noncomputable def c39_11 : Code := cdL c39_10
noncomputable def c39_12 : Code := cdR c39_10
noncomputable def c39_13 : Code := cdL c39_12
noncomputable def c39_14 : Code := cdL c39_13
noncomputable def c39_15 : Code := cdR c39_13
noncomputable def c39_16 : Code := cdL c39_15
noncomputable def c39_17 : Code := cdR c39_15
noncomputable def c39_18 : Code := cdR c39_12
noncomputable def c39_19 : Code := cdL c39_18
noncomputable def c39_20 : Code := cdR c39_18
noncomputable def r39_1 : Array Oper := cdO c39_1
noncomputable def r39_4 : Array Oper := cdO c39_4
noncomputable def r39_7 : Array Oper := cdO c39_7
noncomputable def r39_11 : Array Oper := cdO c39_11
noncomputable def r39_14 : Array Oper := cdO c39_14
noncomputable def r39_16 : Array Oper := cdO c39_16
noncomputable def r39_19 : Array Oper := cdO c39_19
theorem c39_0e : c39_0 = .seq c39_1 c39_2 := by kernel_rfl
theorem c39_1e : c39_1 = .region 0 r39_1 false := by kernel_rfl
theorem c39_2e : c39_2 = .seq c39_3 c39_10 := by kernel_rfl
theorem c39_3e : c39_3 = .seq c39_4 c39_5 := by kernel_rfl
theorem c39_4e : c39_4 = .region 1 r39_4 false := by kernel_rfl
theorem c39_5e : c39_5 = .cond (cdC c39_5) c39_6 c39_9 := by kernel_rfl
theorem c39_6e : c39_6 = .seq c39_7 c39_8 := by kernel_rfl
theorem c39_7e : c39_7 = .region 2 r39_7 false := by kernel_rfl
theorem c39_8e : c39_8 = .ret := by kernel_rfl
theorem c39_9e : c39_9 = .skip := by kernel_rfl
theorem c39_10e : c39_10 = .seq c39_11 c39_12 := by kernel_rfl
theorem c39_11e : c39_11 = .region 3 r39_11 false := by kernel_rfl
theorem c39_12e : c39_12 = .seq c39_13 c39_18 := by kernel_rfl
theorem c39_13e : c39_13 = .seq c39_14 c39_15 := by kernel_rfl
theorem c39_14e : c39_14 = .region 4 r39_14 false := by kernel_rfl
theorem c39_15e : c39_15 = .cond (cdC c39_15) c39_16 c39_17 := by kernel_rfl
theorem c39_16e : c39_16 = .region 5 r39_16 false := by kernel_rfl
theorem c39_17e : c39_17 = .skip := by kernel_rfl
theorem c39_18e : c39_18 = .seq c39_19 c39_20 := by kernel_rfl
theorem c39_19e : c39_19 = .region 6 r39_19 false := by kernel_rfl
theorem c39_20e : c39_20 = .ret := by kernel_rfl
noncomputable def net_Net_place.R (b_2 : Nat) (A_3 : Option Addr) (c_4 : Nat) : Pst Int where
  ε := Unit
  v := fun r x => .int .i64 r
  H := fun r x => []
  B := fun r x => []
noncomputable def net_Net_place.cx (b_2 : Nat) (A_3 : Option Addr) (c_4 : Nat) (w0 : World) (S0 : Fam) : Cx Int := ⟨Try.prog, 39, Try.f39, 33, w0, S0, [], 2, net_Net_place.R b_2 A_3 c_4⟩
theorem net_Net_place_ok (n : Nat) (n_1 : T_net_Net) (i_5 : Int) (b_2 : Nat) (A_3 : Option Addr) (c_4 : Nat) :
    Meets Try.prog 39 [.pointer (some ⟨b_2, 0, none⟩), .int .i64 i_5] 2 [] [⟨1, b_2, [.slice A_3 n_1.l.length c_4, .int .i64 n_1.lost]⟩] [Ow 2 kT_api_Letter A_3 c_4 n_1.l] (net_Net_place.f n n_1 i_5) (net_Net_place.R b_2 A_3 c_4) := by
  refine Meets.of (c := c39_0) (n := 33) Try.func39 (by kernel_rfl) (by kernel_rfl) (by kernel_rfl) fun w0 S0 => ?_
  unfold net_Net_place.f
  show GoO (net_Net_place.cx b_2 A_3 c_4 w0 S0) [(0, .pointer (some ⟨b_2, 0, none⟩)), (1, .int .i64 i_5)] [⟨1, b_2, [.slice A_3 n_1.l.length c_4, .int .i64 n_1.lost]⟩] [Ow 2 kT_api_Letter A_3 c_4 n_1.l] [.code c39_0] _
  refine GoO.seq' c39_0e ?_
  refine GoO.region' (is := [0]) c39_1e (by kernel_rfl) ?_
  refine GoO.exec (is := [0]) (hs := [.p]) (rest := []) (ks := [0, 1]) (env' := [(0, .pointer (some ⟨b_2, 0, none⟩)), (1, .int .i64 i_5)]) (H' := [⟨1, b_2, [.slice A_3 n_1.l.length c_4, .int .i64 n_1.lost]⟩]) (ps := []) (by kernel_rfl) trivial ?_
  refine GoO.regionEnd ?_
  refine GoO.seq' c39_2e ?_
  refine GoO.seq' c39_3e ?_
  refine GoO.region' (is := [0, 1, 2, 3, 4, 5, 6, 7, 8, 9]) c39_4e (by kernel_rfl) ?_
  refine GoO.exec (is := [0, 1, 2, 3, 4, 5, 6, 7, 8, 9]) (hs := [.p, .p, .p, .p, .p, .p, .b 0, .p, .p, .p]) (rest := []) (ks := [0, 1, 15]) (env' := [(0, .pointer (some ⟨b_2, 0, none⟩)), (1, .int .i64 i_5), (15, .bool ((n_1.l.length : Int) == 0))]) (H' := [⟨1, b_2, [.slice A_3 n_1.l.length c_4, .int .i64 n_1.lost]⟩]) (ps := [b_2 = b_2]) (by kernel_rfl) (And.intro rfl trivial) ?_
  refine GoO.regionEnd ?_
  refine GoO.ite' c39_5e (by kernel_rfl) (fun h6 => ?_) (fun h6 => ?_)
  · refine GoO.seq' c39_6e ?_
    refine GoO.region' (is := [0]) c39_7e (by kernel_rfl) ?_
    refine GoO.exec (is := [0]) (hs := [.p]) (rest := []) (ks := [4]) (env' := [(4, .int .i64 (-1))]) (H' := [⟨1, b_2, [.slice A_3 n_1.l.length c_4, .int .i64 n_1.lost]⟩]) (ps := []) (by kernel_rfl) trivial ?_
    refine GoO.regionEnd ?_
    exact GoO.ret' (h := c39_8e) (hs := []) (ps := []) (hk := []) (bk := []) Try.func39 () (by kernel_rfl) trivial (by kernel_rfl) (by kernel_rfl)
  · refine GoO.skip' c39_9e ?_
    refine GoO.seq' c39_10e ?_
    refine GoO.region' (is := [0, 1, 2, 3, 4, 5, 6, 7]) c39_11e (by kernel_rfl) ?_
    refine GoO.guard (fun h7 => ?_)
    refine GoO.exec (is := [0, 1, 2, 3, 4, 5, 6, 7]) (hs := [.p, .p, .p, .p, .b 0, .p, .p, .p]) (rest := []) (ks := [0, 5]) (env' := [(0, .pointer (some ⟨b_2, 0, none⟩)), (5, .int .i64 (i_5.tmod (n_1.l.length : Int)))]) (H' := [⟨1, b_2, [.slice A_3 n_1.l.length c_4, .int .i64 n_1.lost]⟩]) (ps := [b_2 = b_2, (n_1.l.length : Int) ≠ 0]) (by kernel_rfl) (And.intro rfl (And.intro h7 trivial)) ?_
    refine GoO.regionEnd ?_
    refine GoO.seq' c39_12e ?_
    refine GoO.seq' c39_13e ?_
    refine GoO.region' (is := [0, 1]) c39_14e (by kernel_rfl) ?_
    refine GoO.exec (is := [0, 1]) (hs := [.p, .p]) (rest := []) (ks := [0, 5, 24]) (env' := [(0, .pointer (some ⟨b_2, 0, none⟩)), (5, .int .i64 (i_5.tmod (n_1.l.length : Int))), (24, .bool (decide ((i_5.tmod (n_1.l.length : Int)) < 0)))]) (H' := [⟨1, b_2, [.slice A_3 n_1.l.length c_4, .int .i64 n_1.lost]⟩]) (ps := []) (by kernel_rfl) trivial ?_
    refine GoO.regionEnd ?_
    refine GoO.ite' c39_15e (by kernel_rfl) (fun h8 => ?_) (fun h8 => ?_)
    · refine GoO.region' (is := [0, 1, 2, 3, 4, 5, 6, 7]) c39_16e (by kernel_rfl) ?_
      refine GoO.exec (is := [0, 1, 2, 3, 4, 5, 6, 7]) (hs := [.p, .p, .p, .p, .b 0, .p, .p, .p]) (rest := []) (ks := [5]) (env' := [(5, .int .i64 (wi64 ((i_5.tmod (n_1.l.length : Int)) + (n_1.l.length : Int))))]) (H' := [⟨1, b_2, [.slice A_3 n_1.l.length c_4, .int .i64 n_1.lost]⟩]) (ps := [b_2 = b_2]) (by kernel_rfl) (And.intro rfl trivial) ?_
      refine GoO.regionEnd ?_
      refine GoO.seq' c39_18e ?_
      refine GoO.region' (is := [0, 1]) c39_19e (by kernel_rfl) ?_
      refine GoO.exec (is := [0, 1]) (hs := [.p, .p]) (rest := []) (ks := [4]) (env' := [(4, .int .i64 (wi64 ((i_5.tmod (n_1.l.length : Int)) + (n_1.l.length : Int))))]) (H' := [⟨1, b_2, [.slice A_3 n_1.l.length c_4, .int .i64 n_1.lost]⟩]) (ps := []) (by kernel_rfl) trivial ?_
      refine GoO.regionEnd ?_
      exact GoO.ret' (h := c39_20e) (hs := []) (ps := []) (hk := []) (bk := []) Try.func39 () (by kernel_rfl) trivial (by kernel_rfl) (by kernel_rfl)
    · refine GoO.skip' c39_17e ?_
      refine GoO.seq' c39_18e ?_
      refine GoO.region' (is := [0, 1]) c39_19e (by kernel_rfl) ?_
      refine GoO.exec (is := [0, 1]) (hs := [.p, .p]) (rest := []) (ks := [4]) (env' := [(4, .int .i64 (i_5.tmod (n_1.l.length : Int)))]) (H' := [⟨1, b_2, [.slice A_3 n_1.l.length c_4, .int .i64 n_1.lost]⟩]) (ps := []) (by kernel_rfl) trivial ?_
      refine GoO.regionEnd ?_
      exact GoO.ret' (h := c39_20e) (hs := []) (ps := []) (hk := []) (bk := []) Try.func39 () (by kernel_rfl) trivial (by kernel_rfl) (by kernel_rfl)

/-! (*tontine/net.Net).Take -/
noncomputable def c17_0 : Code := bodyOf Try.f17
noncomputable def c17_1 : Code := cdL c17_0
noncomputable def c17_2 : Code := cdR c17_0
noncomputable def c17_3 : Code := cdL c17_2
noncomputable def c17_4 : Code := cdR c17_2
noncomputable def c17_5 : Code := cdL c17_4
noncomputable def c17_6 : Code := cdL c17_5
noncomputable def c17_7 : Code := cdR c17_5
noncomputable def c17_8 : Code := cdL c17_7
noncomputable def c17_9 : Code := cdL c17_8
noncomputable def c17_10 : Code := cdR c17_8
noncomputable def c17_11 : Code := cdR c17_7
noncomputable def c17_12 : Code := cdR c17_4
noncomputable def c17_13 : Code := cdL c17_12
noncomputable def c17_14 : Code := cdR c17_12
noncomputable def c17_15 : Code := cdL c17_14
noncomputable def c17_16 : Code := cdR c17_14
noncomputable def c17_17 : Code := cdL c17_16
noncomputable def c17_18 : Code := cdR c17_16
noncomputable def r17_1 : Array Oper := cdO c17_1
noncomputable def r17_3 : Array Oper := cdO c17_3
noncomputable def r17_6 : Array Oper := cdO c17_6
noncomputable def r17_9 : Array Oper := cdO c17_9
noncomputable def r17_13 : Array Oper := cdO c17_13
noncomputable def r17_15 : Array Oper := cdO c17_15
noncomputable def r17_17 : Array Oper := cdO c17_17
theorem c17_0e : c17_0 = .seq c17_1 c17_2 := by kernel_rfl
theorem c17_1e : c17_1 = .region 0 r17_1 false := by kernel_rfl
theorem c17_2e : c17_2 = .seq c17_3 c17_4 := by kernel_rfl
theorem c17_3e : c17_3 = .region 1 r17_3 false := by kernel_rfl
theorem c17_4e : c17_4 = .seq c17_5 c17_12 := by kernel_rfl
theorem c17_5e : c17_5 = .seq c17_6 c17_7 := by kernel_rfl
theorem c17_6e : c17_6 = .region 2 r17_6 false := by kernel_rfl
theorem c17_7e : c17_7 = .cond (cdC c17_7) c17_8 c17_11 := by kernel_rfl
theorem c17_8e : c17_8 = .seq c17_9 c17_10 := by kernel_rfl
theorem c17_9e : c17_9 = .region 3 r17_9 false := by kernel_rfl
theorem c17_10e : c17_10 = .ret := by kernel_rfl
theorem c17_11e : c17_11 = .skip := by kernel_rfl
theorem c17_12e : c17_12 = .seq c17_13 c17_14 := by kernel_rfl
theorem c17_13e : c17_13 = .region 4 r17_13 false := by kernel_rfl
theorem c17_14e : c17_14 = .seq c17_15 c17_16 := by kernel_rfl
theorem c17_15e : c17_15 = .region 5 r17_15 true := by kernel_rfl
theorem c17_16e : c17_16 = .seq c17_17 c17_18 := by kernel_rfl
theorem c17_17e : c17_17 = .region 6 r17_17 false := by kernel_rfl
theorem c17_18e : c17_18 = .ret := by kernel_rfl
noncomputable def net_Net_Take.R (b_2 : Nat) (A_3 : Option Addr) (c_4 : Nat) : Pst (T_api_Letter × Bool × T_net_Net) where
  ε := Option Addr × Nat × Option Addr × Nat
  v := fun r x => .tuple ⟨[.agg ⟨[.int .i64 r.1.Kind, .int .i64 r.1.From, .int .i64 r.1.To, .int .u64 r.1.Term, .int .u64 r.1.Index, .int .u64 r.1.Prev, .int .u64 r.1.Commit, .bool r.1.Ok, .slice x.1 r.1.Entries.length x.2.1, .string (bs r.1.Data)]⟩, .bool r.2.1]⟩
  H := fun r x => [⟨1, b_2, [.slice x.2.2.1 r.2.2.l.length x.2.2.2, .int .i64 r.2.2.lost]⟩]
  B := fun r x => [Rd 0 kT_api_Entry x.1 x.2.1 r.1.Entries, Ow 2 kT_api_Letter x.2.2.1 x.2.2.2 r.2.2.l]
noncomputable def net_Net_Take.cx (b_2 : Nat) (A_3 : Option Addr) (c_4 : Nat) (w0 : World) (S0 : Fam) : Cx (T_api_Letter × Bool × T_net_Net) := ⟨Try.prog, 17, Try.f17, 40, w0, S0, [1, 2], 2, net_Net_Take.R b_2 A_3 c_4⟩
theorem net_Net_Take_ok (n : Nat) (n_1 : T_net_Net) (i_5 : Int) (b_2 : Nat) (A_3 : Option Addr) (c_4 : Nat) :
    Meets Try.prog 17 [.pointer (some ⟨b_2, 0, none⟩), .int .i64 i_5] 2 [1, 2] [⟨1, b_2, [.slice A_3 n_1.l.length c_4, .int .i64 n_1.lost]⟩] [Ow 2 kT_api_Letter A_3 c_4 n_1.l] (net_Net_Take.f n n_1 i_5) (net_Net_Take.R b_2 A_3 c_4) := by
  refine Meets.of (c := c17_0) (n := 40) Try.func17 (by kernel_rfl) (by kernel_rfl) (by kernel_rfl) fun w0 S0 => ?_
  unfold net_Net_Take.f
  show GoO (net_Net_Take.cx b_2 A_3 c_4 w0 S0) [(0, .pointer (some ⟨b_2, 0, none⟩)), (1, .int .i64 i_5)] [⟨1, b_2, [.slice A_3 n_1.l.length c_4, .int .i64 n_1.lost]⟩] [Ow 2 kT_api_Letter A_3 c_4 n_1.l] [.code c17_0] _
  refine GoO.seq' c17_0e ?_
  refine GoO.region' (is := [0, 1]) c17_1e (by kernel_rfl) ?_
  refine OpTo.go (GoO.new rfl 40 (cs := [.int .i64 0, .int .i64 0, .int .i64 0, .int .u64 0, .int .u64 0, .int .u64 0, .int .u64 0, .bool false, .slice none ([] : List T_api_Entry).length 0, .string (bs [])]) (by kernel_rfl) _ (fun _ => rfl) (fun b_6 => ?_))
  refine GoO.exec (is := [1]) (hs := [.p]) (rest := []) (ks := [0, 1, 4]) (env' := [(0, .pointer (some ⟨b_2, 0, none⟩)), (1, .int .i64 i_5), (4, .pointer (some ⟨b_6, 0, none⟩))]) (H' := [⟨40, b_6, [.int .i64 0, .int .i64 0, .int .i64 0, .int .u64 0, .int .u64 0, .int .u64 0, .int .u64 0, .bool false, .slice none ([] : List T_api_Entry).length 0, .string (bs [])]⟩, ⟨1, b_2, [.slice A_3 n_1.l.length c_4, .int .i64 n_1.lost]⟩]) (ps := []) (by kernel_rfl) trivial ?_
  refine GoO.regionEnd ?_
  refine GoO.seq' c17_2e ?_
  refine GoO.region' (is := [0, 1, 2, 3]) c17_3e (by kernel_rfl) ?_
  refine GoO.exec (is := [0, 1]) (hs := [.p, .p]) (rest := [2, 3]) (ks := [0, 4, 8, 9]) (env' := [(0, .pointer (some ⟨b_2, 0, none⟩)), (4, .pointer (some ⟨b_6, 0, none⟩)), (8, .pointer (some ⟨b_2, 0, none⟩)), (9, .int .i64 i_5)]) (H' := [⟨40, b_6, [.int .i64 0, .int .i64 0, .int .i64 0, .int .u64 0, .int .u64 0, .int .u64 0, .int .u64 0, .bool false, .slice none ([] : List T_api_Entry).length 0, .string (bs [])]⟩, ⟨1, b_2, [.slice A_3 n_1.l.length c_4, .int .i64 n_1.lost]⟩]) (ps := []) (by kernel_rfl) trivial ?_
  refine OpTo.go (GoO.call rfl (by kernel_rfl) (by kernel_rfl) (net_Net_place_ok n n_1 i_5 b_2 A_3 c_4) [[0], [1], [2]] [] [(1, 1)] [(2, 0)] (hks := [0, 1]) (bks := [0]) (by kernel_rfl) (by kernel_rfl) (by kernel_rfl) (.inl rfl) rfl rfl (by kernel_rfl) (by kernel_rfl) _ (fun _ _ => rfl) _ _ (fun _ _ => rfl) (fun _ _ => rfl) (fun _ _ => by kernel_rfl) (fun _ _ => by kernel_rfl) (fun r_7 x_20 => ?_))
  refine GoO.shape (env' := [(0, .pointer (some ⟨b_2, 0, none⟩)), (4, .pointer (some ⟨b_6, 0, none⟩)), (8, .pointer (some ⟨b_2, 0, none⟩)), (9, .int .i64 i_5), (10, .int .i64 r_7)]) (H' := [⟨40, b_6, [.int .i64 0, .int .i64 0, .int .i64 0, .int .u64 0, .int .u64 0, .int .u64 0, .int .u64 0, .bool false, .slice none ([] : List T_api_Entry).length 0, .string (bs [])]⟩, ⟨1, b_2, [.slice A_3 n_1.l.length c_4, .int .i64 n_1.lost]⟩]) (B' := [Ow 2 kT_api_Letter A_3 c_4 n_1.l]) (ks := [0, 4, 8, 9, 10]) (by kernel_rfl) (by kernel_rfl) (by kernel_rfl) ?_
  refine GoO.exec (is := [3]) (hs := [.p]) (rest := []) (ks := [0, 4, 6]) (env' := [(0, .pointer (some ⟨b_2, 0, none⟩)), (4, .pointer (some ⟨b_6, 0, none⟩)), (6, .int .i64 r_7)]) (H' := [⟨40, b_6, [.int .i64 0, .int .i64 0, .int .i64 0, .int .u64 0, .int .u64 0, .int .u64 0, .int .u64 0, .bool false, .slice none ([] : List T_api_Entry).length 0, .string (bs [])]⟩, ⟨1, b_2, [.slice A_3 n_1.l.length c_4, .int .i64 n_1.lost]⟩]) (ps := []) (by kernel_rfl) trivial ?_
  refine GoO.regionEnd ?_
  refine GoO.seq' c17_4e ?_
  refine GoO.seq' c17_5e ?_
  refine GoO.region' (is := [0, 1]) c17_6e (by kernel_rfl) ?_
  refine GoO.exec (is := [0, 1]) (hs := [.p, .p]) (rest := []) (ks := [0, 4, 6, 12]) (env' := [(0, .pointer (some ⟨b_2, 0, none⟩)), (4, .pointer (some ⟨b_6, 0, none⟩)), (6, .int .i64 r_7), (12, .bool (decide (r_7 < 0)))]) (H' := [⟨40, b_6, [.int .i64 0, .int .i64 0, .int .i64 0, .int .u64 0, .int .u64 0, .int .u64 0, .int .u64 0, .bool false, .slice none ([] : List T_api_Entry).length 0, .string (bs [])]⟩, ⟨1, b_2, [.slice A_3 n_1.l.length c_4, .int .i64 n_1.lost]⟩]) (ps := []) (by kernel_rfl) trivial ?_
  refine GoO.regionEnd ?_
  refine GoO.ite' c17_7e (by kernel_rfl) (fun h8 => ?_) (fun h8 => ?_)
  · refine GoO.seq' c17_8e ?_
    refine GoO.region' (is := [0, 1, 2]) c17_9e (by kernel_rfl) ?_
    refine GoO.exec (is := [0, 1, 2]) (hs := [.p, .b 0, .p]) (rest := []) (ks := [4, 5]) (env' := [(4, .pointer (some ⟨b_6, 0, none⟩)), (5, .bool false)]) (H' := [⟨40, b_6, [.int .i64 0, .int .i64 0, .int .i64 0, .int .u64 0, .int .u64 0, .int .u64 0, .int .u64 0, .bool false, .slice none ([] : List T_api_Entry).length 0, .string (bs [])]⟩, ⟨1, b_2, [.slice A_3 n_1.l.length c_4, .int .i64 n_1.lost]⟩]) (ps := [b_6 = b_6]) (by kernel_rfl) (And.intro rfl trivial) ?_
    refine GoO.regionEnd ?_
    refine GoO.nilRd kT_api_Entry ?_
    exact GoO.ret' (h := c17_10e) (hs := [0]) (ps := [b_6 = b_6]) (hk := [1]) (bk := [0, 1]) Try.func17 (⟨none, 0, A_3, c_4⟩ : Option Addr × Nat × Option Addr × Nat) (by kernel_rfl) (And.intro rfl trivial) (by kernel_rfl) (by kernel_rfl)
  · refine GoO.skip' c17_11e ?_
    refine GoO.seq' c17_12e ?_
    refine GoO.region' (is := [0, 1, 2, 3, 4, 5, 6, 7, 8]) c17_13e (by kernel_rfl) ?_
    refine GoO.exec (is := [0, 1, 2, 3, 4]) (hs := [.p, .p, .p, .b 1, .p]) (rest := [5, 6, 7, 8]) (ks := [0, 4, 6, 17, 18]) (env' := [(0, .pointer (some ⟨b_2, 0, none⟩)), (4, .pointer (some ⟨b_6, 0, none⟩)), (6, .int .i64 r_7), (17, .slice A_3 n_1.l.length c_4), (18, .int .i64 r_7)]) (H' := [⟨40, b_6, [.int .i64 0, .int .i64 0, .int .i64 0, .int .u64 0, .int .u64 0, .int .u64 0, .int .u64 0, .bool false, .slice none ([] : List T_api_Entry).length 0, .string (bs [])]⟩, ⟨1, b_2, [.slice A_3 n_1.l.length c_4, .int .i64 n_1.lost]⟩]) (ps := [b_2 = b_2]) (by kernel_rfl) (And.intro rfl trivial) ?_
    refine GoO.guard (fun h9 => ?_)
    refine OpTo.go (GoO.idx (kk := .i64) (e := 29) (K := kT_api_Letter) (A := A_3) (c := c_4) (xs := n_1.l) (iv := r_7) (j := 0) rfl (by kernel_rfl) (by kernel_rfl) (by kernel_rfl) (by kernel_rfl) rfl Reads.own rfl h9.1 h9.2 (by decide) rfl ?_)
    refine OpTo.go (GoO.ldE' (K := kT_api_Letter) (A := A_3) (c := c_4) (xs := n_1.l) (iN := r_7.toNat) (off := 0) (j := 0) rfl (by kernel_rfl) rfl Reads.own (idx_lt h9.1 h9.2) (by decide) (oT_api_Letter _) (v := fun e => .agg ⟨[.int .i64 ((rdL n_1.l r_7).Kind), .int .i64 ((rdL n_1.l r_7).From), .int .i64 ((rdL n_1.l r_7).To), .int .u64 ((rdL n_1.l r_7).Term), .int .u64 ((rdL n_1.l r_7).Index), .int .u64 ((rdL n_1.l r_7).Prev), .int .u64 ((rdL n_1.l r_7).Commit), .bool ((rdL n_1.l r_7).Ok), .slice e.1 ((rdL n_1.l r_7).Entries).length e.2, .string (bs ((rdL n_1.l r_7).Data))]⟩) (fun _ => by kernel_rfl) _ (fun _ => rfl) ?_)
    rintro ⟨A_10, c_11⟩
    refine OpTo.go (GoO.new rfl 41 (cs := [.int .i64 0, .int .i64 0, .int .i64 0, .int .u64 0, .int .u64 0, .int .u64 0, .int .u64 0, .bool false, .slice none ([] : List T_api_Entry).length 0, .string (bs [])]) (by kernel_rfl) _ (fun _ => rfl) (fun b_12 => ?_))
    refine GoO.exec (is := [8]) (hs := [.b 0]) (rest := []) (ks := [0, 4, 6, 7]) (env' := [(0, .pointer (some ⟨b_2, 0, none⟩)), (4, .pointer (some ⟨b_6, 0, none⟩)), (6, .int .i64 r_7), (7, .pointer (some ⟨b_12, 0, none⟩))]) (H' := [⟨41, b_12, [.int .i64 ((rdL n_1.l r_7).Kind), .int .i64 ((rdL n_1.l r_7).From), .int .i64 ((rdL n_1.l r_7).To), .int .u64 ((rdL n_1.l r_7).Term), .int .u64 ((rdL n_1.l r_7).Index), .int .u64 ((rdL n_1.l r_7).Prev), .int .u64 ((rdL n_1.l r_7).Commit), .bool ((rdL n_1.l r_7).Ok), .slice A_10 ((rdL n_1.l r_7).Entries).length c_11, .string (bs ((rdL n_1.l r_7).Data))]⟩, ⟨40, b_6, [.int .i64 0, .int .i64 0, .int .i64 0, .int .u64 0, .int .u64 0, .int .u64 0, .int .u64 0, .bool false, .slice none ([] : List T_api_Entry).length 0, .string (bs [])]⟩, ⟨1, b_2, [.slice A_3 n_1.l.length c_4, .int .i64 n_1.lost]⟩]) (ps := [b_12 = b_12]) (by kernel_rfl) (And.intro rfl trivial) ?_
    refine GoO.regionEnd ?_
    refine GoO.seq' c17_14e ?_
    refine GoO.draw c17_15e (by kernel_rfl) [16, 17, 18] [⟨1, b_2, [.slice A_3 n_1.l.length c_4, .int .i64 n_1.lost]⟩] [] (n := 19) (by kernel_rfl) ?_
    simp only [List.replicate]
    refine GoF.take [0, 1, 2, 3, 4, 5, 6, 8, 9, 10, 11, 12, 13] [.p, .p, .p, .p, .b 0, .p, .p, .p, .p, .p, .b 0, .p, .p] (ks := [4, 7, 21, 25, 26, 27, 32, 34]) (fu := 6) (li := [true, true, true, true, true, true, true, false, true, true, true, true, true, true, false, false, false, false, false]) (env' := [(4, .pointer (some ⟨b_6, 0, none⟩)), (7, .pointer (some ⟨b_12, 0, none⟩)), (21, .pointer (some ⟨b_2, 0, none⟩)), (25, .slice A_3 n_1.l.length c_4), (26, .int .i64 r_7), (27, .int .i64 r_7), (32, .slice A_3 n_1.l.length c_4), (34, .int .i64 (wi64 (r_7 + 1)))]) (ps := [b_2 = b_2, b_2 = b_2]) (hk := [2]) (bk := []) (by kernel_rfl) (And.intro rfl (And.intro rfl trivial)) rfl rfl ?_
    refine GoF.guard (fun h13 => ?_)
    refine GoF.cut1 (i := 7) (hk := [2]) (bk := []) (e := 29) (K := kT_api_Letter) (A := A_3) (c := c_4) (xs := n_1.l) (h := r_7) (tg := 2) (j := 1) (by kernel_rfl) rfl rfl rfl (by kernel_rfl) (by kernel_rfl) (by kernel_rfl) rfl rfl (by kernel_rfl) (by kernel_rfl) h13.1 h13.2 rfl ?_
    refine GoF.guard (fun h16 => ?_)
    refine GoF.slc1 (i := 14) (hk := [2]) (bk := []) (e := 29) (K := kT_api_Letter) (A := A_3) (c := c_4) (xs := n_1.l) (j := 1) (l := (wi64 (r_7 + 1))) (h := (n_1.l.length : Int)) (by kernel_rfl) rfl rfl rfl (by kernel_rfl) (by kernel_rfl) (by kernel_rfl) rfl Reads.own rfl (by kernel_rfl) (by kernel_rfl) h16.1 h16.2.1 h16.2.2 _ (fun _ _ => rfl) (fun A_14 c_15 => ?_)
    refine GoF.guard (fun h17 => ?_)
    refine OpTo.goF (i := 15) (by kernel_rfl) (hk := [2]) (bk := []) (GoO.appC (e := 29) (K := kT_api_Letter) (A := A_3) (c0 := c_4) (m := r_7.toNat) (tg := 2) (bytes := 104) (zs := [.int .i64 0, .int .i64 0, .int .i64 0, .int .u64 0, .int .u64 0, .int .u64 0, .int .u64 0, .bool false, .slice none 0 0, .string (bs [])]) (xs := n_1.l) (ys := (n_1.l.take (n_1.l.length : Int).toNat).drop (wi64 (r_7 + 1)).toNat) (xv := .slice A_14 ((n_1.l.take (n_1.l.length : Int).toNat).drop (wi64 (r_7 + 1)).toNat).length c_15) (j := 2) (bk := [1]) rfl (by kernel_rfl) (by kernel_rfl) (by kernel_rfl) (by kernel_rfl) rfl (by kernel_rfl) rfl (by omega) (fun w S hB => SrcIs.row (Reads.rd w S (hB _ (List.mem_of_getElem? (i := 0) rfl)))) h17 rfl rfl rfl rfl _ (fun _ _ => rfl) (fun A_18 c_19 => ⟨rfl, rfl, ?_⟩))
    refine GoF.fin1 (i := 16) (hint := .p) (ps := []) (hk := []) (bk := []) (by kernel_rfl) rfl trivial (.inl rfl) ?_
    refine GoF.fin1 (i := 17) (hint := .p) (ps := []) (hk := []) (bk := []) (by kernel_rfl) rfl trivial (.inl rfl) ?_
    refine GoF.fin1 (i := 18) (hint := .b 2) (ps := [b_2 = b_2]) (hk := []) (bk := []) (by kernel_rfl) rfl (And.intro rfl trivial) (.inl rfl) ?_
    refine GoF.done (by kernel_rfl) ?_
    refine GoO.seq' c17_16e ?_
    refine GoO.region' (is := [0, 1, 2]) c17_17e (by kernel_rfl) ?_
    refine GoO.exec (is := [0, 1, 2]) (hs := [.b 0, .b 1, .p]) (rest := []) (ks := [4, 5]) (env' := [(4, .pointer (some ⟨b_6, 0, none⟩)), (5, .bool true)]) (H' := [⟨41, b_12, [.int .i64 ((rdL n_1.l r_7).Kind), .int .i64 ((rdL n_1.l r_7).From), .int .i64 ((rdL n_1.l r_7).To), .int .u64 ((rdL n_1.l r_7).Term), .int .u64 ((rdL n_1.l r_7).Index), .int .u64 ((rdL n_1.l r_7).Prev), .int .u64 ((rdL n_1.l r_7).Commit), .bool ((rdL n_1.l r_7).Ok), .slice A_10 ((rdL n_1.l r_7).Entries).length c_11, .string (bs ((rdL n_1.l r_7).Data))]⟩, ⟨40, b_6, [.int .i64 ((rdL n_1.l r_7).Kind), .int .i64 ((rdL n_1.l r_7).From), .int .i64 ((rdL n_1.l r_7).To), .int .u64 ((rdL n_1.l r_7).Term), .int .u64 ((rdL n_1.l r_7).Index), .int .u64 ((rdL n_1.l r_7).Prev), .int .u64 ((rdL n_1.l r_7).Commit), .bool ((rdL n_1.l r_7).Ok), .slice A_10 ((rdL n_1.l r_7).Entries).length c_11, .string (bs ((rdL n_1.l r_7).Data))]⟩, ⟨1, b_2, [.slice A_18 (n_1.l.take r_7.toNat ++ ((n_1.l.take (n_1.l.length : Int).toNat).drop (wi64 (r_7 + 1)).toNat)).length c_19, .int .i64 n_1.lost]⟩]) (ps := [b_12 = b_12, b_6 = b_6]) (by kernel_rfl) (And.intro rfl (And.intro rfl trivial)) ?_
    refine GoO.regionEnd ?_
    exact GoO.ret' (h := c17_18e) (hs := [1]) (ps := [b_6 = b_6]) (hk := [2]) (bk := [1, 0]) Try.func17 (⟨A_10, c_11, A_18, c_19⟩ : Option Addr × Nat × Option Addr × Nat) (by kernel_rfl) (And.intro rfl trivial) (by kernel_rfl) (by kernel_rfl)

/-! (*tontine/net.Net).Count -/
noncomputable def c19_0 : Code := bodyOf Try.f19
noncomputable def c19_1 : Code := cdL c19_0
noncomputable def c19_2 : Code := cdR c19_0
noncomputable def c19_3 : Code := cdL c19_2
noncomputable def c19_4 : Code := cdL c19_3
noncomputable def c19_5 : Code := cdR c19_3
noncomputable def c19_9 : Code := cdR c19_5
noncomputable def c19_10 : Code := cdR c19_2
noncomputable def c19_11 : Code := cdL c19_10
noncomputable def c19_12 : Code := cdR c19_10
noncomputable def c19_6 : Code := cdL c19_5
noncomputable def r19_1 : Array Oper := cdO c19_1
noncomputable def r19_4 : Array Oper := cdO c19_4
noncomputable def r19_11 : Array Oper := cdO c19_11
theorem c19_0e : c19_0 = .seq c19_1 c19_2 := by kernel_rfl
theorem c19_1e : c19_1 = .region 0 r19_1 false := by kernel_rfl
theorem c19_2e : c19_2 = .seq c19_3 c19_10 := by kernel_rfl
theorem c19_3e : c19_3 = .seq c19_4 c19_5 := by kernel_rfl
theorem c19_4e : c19_4 = .region 1 r19_4 false := by kernel_rfl
theorem c19_5e : c19_5 = .cond (cdC c19_5) c19_6 c19_9 := by kernel_rfl
theorem c19_9e : c19_9 = .skip := by kernel_rfl
theorem c19_10e : c19_10 = .seq c19_11 c19_12 := by kernel_rfl
theorem c19_11e : c19_11 = .region 3 r19_11 true := by kernel_rfl
theorem c19_12e : c19_12 = .ret := by kernel_rfl
noncomputable def net_Net_Count.R (b_2 : Nat) (A_3 : Option Addr) (c_4 : Nat) : Pst (Int × Int) where
  ε := Unit
  v := fun r x => .tuple ⟨[.int .i64 r.1, .int .i64 r.2]⟩
  H := fun r x => []
  B := fun r x => []
noncomputable def net_Net_Count.cx (b_2 : Nat) (A_3 : Option Addr) (c_4 : Nat) (w0 : World) (S0 : Fam) : Cx (Int × Int) := ⟨Try.prog, 19, Try.f19, 15, w0, S0, [], 2, net_Net_Count.R b_2 A_3 c_4⟩
theorem net_Net_Count_ok (n : Nat) (n_1 : T_net_Net) (b_2 : Nat) (A_3 : Option Addr) (c_4 : Nat) :
    Meets Try.prog 19 [.pointer (some ⟨b_2, 0, none⟩)] 2 [] [⟨1, b_2, [.slice A_3 n_1.l.length c_4, .int .i64 n_1.lost]⟩] [Ow 2 kT_api_Letter A_3 c_4 n_1.l] (net_Net_Count.f n n_1) (net_Net_Count.R b_2 A_3 c_4) := by
  refine Meets.of (c := c19_0) (n := 15) Try.func19 (by kernel_rfl) (by kernel_rfl) (by kernel_rfl) fun w0 S0 => ?_
  unfold net_Net_Count.f
  show GoO (net_Net_Count.cx b_2 A_3 c_4 w0 S0) [(0, .pointer (some ⟨b_2, 0, none⟩))] [⟨1, b_2, [.slice A_3 n_1.l.length c_4, .int .i64 n_1.lost]⟩] [Ow 2 kT_api_Letter A_3 c_4 n_1.l] [.code c19_0] _
  refine GoO.seq' c19_0e ?_
  refine GoO.region' (is := [0, 1]) c19_1e (by kernel_rfl) ?_
  refine GoO.exec (is := [0, 1]) (hs := [.p, .p]) (rest := []) (ks := [0]) (env' := [(0, .pointer (some ⟨b_2, 0, none⟩))]) (H' := [⟨1, b_2, [.slice A_3 n_1.l.length c_4, .int .i64 n_1.lost]⟩]) (ps := []) (by kernel_rfl) trivial ?_
  refine GoO.regionEnd ?_
  refine GoO.seq' c19_2e ?_
  refine GoO.seq' c19_3e ?_
  refine GoO.region' (is := [0, 1]) c19_4e (by kernel_rfl) ?_
  refine GoO.exec (is := [0, 1]) (hs := [.p, .p]) (rest := []) (ks := [0, 5]) (env' := [(0, .pointer (some ⟨b_2, 0, none⟩)), (5, .bool false)]) (H' := [⟨1, b_2, [.slice A_3 n_1.l.length c_4, .int .i64 n_1.lost]⟩]) (ps := []) (by kernel_rfl) trivial ?_
  refine GoO.regionEnd ?_
  refine GoO.condF c19_5e (by kernel_rfl) ?_
  refine GoO.skip' c19_9e ?_
  refine GoO.seq' c19_10e ?_
  refine GoO.draw c19_11e (by kernel_rfl) [10] [⟨1, b_2, [.slice A_3 n_1.l.length c_4, .int .i64 n_1.lost]⟩] [] (n := 11) (by kernel_rfl) ?_
  simp only [List.replicate]
  refine GoF.take [0, 1, 2, 3, 4, 5, 6, 7, 8, 9] [.p, .p, .p, .b 0, .p, .p, .p, .p, .b 0, .p] (ks := [2, 14]) (fu := 1) (li := [true, true, true, true, true, true, true, true, true, true, false]) (env' := [(2, .int .i64 (n_1.l.length : Int)), (14, .int .i64 n_1.lost)]) (ps := [b_2 = b_2, b_2 = b_2]) (hk := [0]) (bk := []) (by kernel_rfl) (And.intro rfl (And.intro rfl trivial)) rfl rfl ?_
  refine GoF.fin1 (i := 10) (hint := .p) (ps := []) (hk := []) (bk := []) (by kernel_rfl) rfl trivial (.inl rfl) ?_
  refine GoF.done (by kernel_rfl) ?_
  exact GoO.ret' (h := c19_12e) (hs := []) (ps := []) (hk := []) (bk := []) Try.func19 () (by kernel_rfl) trivial (by kernel_rfl) (by kernel_rfl)

/-! tontine/tontinelaw10.begun -/
noncomputable def c14_0 : Code := bodyOf Try.f14
noncomputable def c14_1 : Code := cdL c14_0
noncomputable def c14_2 : Code := cdR c14_0
noncomputable def c14_3 : Code := cdL c14_2
noncomputable def c14_4 : Code := cdR c14_2
noncomputable def c14_5 : Code := cdL c14_4
noncomputable def c14_6 : Code := cdR c14_4
noncomputable def c14_7 : Code := cdL c14_6
noncomputable def c14_8 : Code := cdR c14_6
noncomputable def c14_9 : Code := cdL c14_8
noncomputable def c14_10 : Code := cdR c14_8
noncomputable def c14_11 : Code := cdL c14_10
noncomputable def c14_12 : Code := cdR c14_10
noncomputable def r14_1 : Array Oper := cdO c14_1
noncomputable def r14_3 : Array Oper := cdO c14_3
noncomputable def r14_5 : Array Oper := cdO c14_5
noncomputable def r14_7 : Array Oper := cdO c14_7
noncomputable def r14_9 : Array Oper := cdO c14_9
noncomputable def r14_11 : Array Oper := cdO c14_11
theorem c14_0e : c14_0 = .seq c14_1 c14_2 := by kernel_rfl
theorem c14_1e : c14_1 = .region 0 r14_1 false := by kernel_rfl
theorem c14_2e : c14_2 = .seq c14_3 c14_4 := by kernel_rfl
theorem c14_3e : c14_3 = .region 1 r14_3 false := by kernel_rfl
theorem c14_4e : c14_4 = .seq c14_5 c14_6 := by kernel_rfl
theorem c14_5e : c14_5 = .region 2 r14_5 false := by kernel_rfl
theorem c14_6e : c14_6 = .seq c14_7 c14_8 := by kernel_rfl
theorem c14_7e : c14_7 = .region 3 r14_7 false := by kernel_rfl
theorem c14_8e : c14_8 = .seq c14_9 c14_10 := by kernel_rfl
theorem c14_9e : c14_9 = .region 4 r14_9 false := by kernel_rfl
theorem c14_10e : c14_10 = .seq c14_11 c14_12 := by kernel_rfl
theorem c14_11e : c14_11 = .region 5 r14_11 false := by kernel_rfl
theorem c14_12e : c14_12 = .ret := by kernel_rfl
noncomputable def tontinelaw10_begun.R : Pst Bool where
  ε := Unit
  v := fun r x => .bool r
  H := fun r x => []
  B := fun r x => []
noncomputable def tontinelaw10_begun.cx (w0 : World) (S0 : Fam) : Cx Bool := ⟨Try.prog, 14, Try.f14, 45, w0, S0, [], 0, tontinelaw10_begun.R⟩
theorem tontinelaw10_begun_ok (n : Nat) :
    Meets Try.prog 14 [] 0 [] [] [] (tontinelaw10_begun.f n) (tontinelaw10_begun.R) := by
  refine Meets.of (c := c14_0) (n := 45) Try.func14 (by kernel_rfl) (by kernel_rfl) (by kernel_rfl) fun w0 S0 => ?_
  unfold tontinelaw10_begun.f
  show GoO (tontinelaw10_begun.cx w0 S0) [] [] [] [.code c14_0] _
  refine GoO.seq' c14_0e ?_
  refine GoO.region' (is := [0]) c14_1e (by kernel_rfl) ?_
  refine GoO.exec (is := [0]) (hs := [.p]) (rest := []) (ks := []) (env' := []) (H' := []) (ps := []) (by kernel_rfl) trivial ?_
  refine GoO.regionEnd ?_
  refine GoO.seq' c14_2e ?_
  refine GoO.region' (is := [0, 1]) c14_3e (by kernel_rfl) ?_
  refine OpTo.go (GoO.call rfl (by kernel_rfl) (by kernel_rfl) (net_New_ok n) [[0]] [(40, 1), (41, 2)] [] [] (hks := []) (bks := []) (by kernel_rfl) (by kernel_rfl) (by kernel_rfl) (.inl rfl) rfl rfl (by kernel_rfl) (by kernel_rfl) _ (fun _ _ => rfl) _ _ (fun _ _ => rfl) (fun _ _ => rfl) (fun _ _ => by kernel_rfl) (fun _ _ => by kernel_rfl) (fun r_1 x_27 => ?_))
  obtain ⟨b_2, A_3, c_4⟩ := x_27
  refine GoO.shape (env' := [(8, .pointer (some ⟨b_2, 0, none⟩))]) (H' := [⟨40, b_2, [.slice A_3 r_1.l.length c_4, .int .i64 r_1.lost]⟩]) (B' := [Ow 41 kT_api_Letter A_3 c_4 r_1.l]) (ks := [8]) (by kernel_rfl) (by kernel_rfl) (by kernel_rfl) ?_
  refine GoO.exec (is := [1]) (hs := [.p]) (rest := []) (ks := [1]) (env' := [(1, .pointer (some ⟨b_2, 0, none⟩))]) (H' := [⟨40, b_2, [.slice A_3 r_1.l.length c_4, .int .i64 r_1.lost]⟩]) (ps := []) (by kernel_rfl) trivial ?_
  refine GoO.regionEnd ?_
  refine GoO.seq' c14_4e ?_
  refine GoO.region' (is := [0, 1, 2, 3, 4, 5, 6, 7]) c14_5e (by kernel_rfl) ?_
  refine GoO.exec (is := [0, 1]) (hs := [.p, .p]) (rest := [2, 3, 4, 5, 6, 7]) (ks := [1, 9, 10]) (env' := [(1, .pointer (some ⟨b_2, 0, none⟩)), (9, .pointer (some ⟨b_2, 0, none⟩)), (10, .agg ⟨[.int .i64 1, .int .i64 0, .int .i64 0, .int .u64 0, .int .u64 0, .int .u64 0, .int .u64 0, .bool false, .slice none ([] : List T_api_Entry).length 0, .string (bs [])]⟩)]) (H' := [⟨40, b_2, [.slice A_3 r_1.l.length c_4, .int .i64 r_1.lost]⟩]) (ps := []) (by kernel_rfl) trivial ?_
  refine GoO.nilRd kT_api_Entry ?_
  refine OpTo.go (GoO.call rfl (by kernel_rfl) (by kernel_rfl) (net_Net_Send_ok n r_1 (⟨1, 0, 0, 0, 0, 0, 0, false, [], []⟩ : T_api_Letter) b_2 A_3 c_4 none 0) [[0], [40], [41]] [(40, 1), (41, 2)] [(1, 0)] [(2, 1), (0, 0)] (hks := []) (bks := [0]) (by kernel_rfl) (by kernel_rfl) (by kernel_rfl) (.inl rfl) rfl rfl (by kernel_rfl) (by kernel_rfl) _ (fun _ _ => rfl) _ _ (fun _ _ => rfl) (fun _ _ => rfl) (fun _ _ => by kernel_rfl) (fun _ _ => by kernel_rfl) (fun r_5 x_26 => ?_))
  obtain ⟨A_6, c_7⟩ := x_26
  refine GoO.shape (env' := [(1, .pointer (some ⟨b_2, 0, none⟩)), (9, .pointer (some ⟨b_2, 0, none⟩)), (10, .agg ⟨[.int .i64 1, .int .i64 0, .int .i64 0, .int .u64 0, .int .u64 0, .int .u64 0, .int .u64 0, .bool false, .slice none ([] : List T_api_Entry).length 0, .string (bs [])]⟩), (11, .bool r_5.1)]) (H' := [⟨40, b_2, [.slice A_6 r_5.2.l.length c_7, .int .i64 r_5.2.lost]⟩]) (B' := [Ow 41 kT_api_Letter A_6 c_7 r_5.2.l, Rd 0 kT_api_Entry none 0 ([] : List T_api_Entry)]) (ks := [1, 9, 10, 11]) (by kernel_rfl) (by kernel_rfl) (by kernel_rfl) ?_
  refine GoO.exec (is := [3, 4]) (hs := [.p, .p]) (rest := [5, 6, 7]) (ks := [1, 11, 12, 13]) (env' := [(1, .pointer (some ⟨b_2, 0, none⟩)), (11, .bool r_5.1), (12, .pointer (some ⟨b_2, 0, none⟩)), (13, .agg ⟨[.int .i64 2, .int .i64 0, .int .i64 0, .int .u64 0, .int .u64 0, .int .u64 0, .int .u64 0, .bool false, .slice none ([] : List T_api_Entry).length 0, .string (bs [])]⟩)]) (H' := [⟨40, b_2, [.slice A_6 r_5.2.l.length c_7, .int .i64 r_5.2.lost]⟩]) (ps := []) (by kernel_rfl) trivial ?_
  refine GoO.nilRd kT_api_Entry ?_
  refine OpTo.go (GoO.call rfl (by kernel_rfl) (by kernel_rfl) (net_Net_Send_ok n r_5.2 (⟨2, 0, 0, 0, 0, 0, 0, false, [], []⟩ : T_api_Letter) b_2 A_6 c_7 none 0) [[0], [40], [41]] [(40, 1), (41, 2)] [(1, 0)] [(2, 1), (0, 0)] (hks := []) (bks := [0, 2]) (by kernel_rfl) (by kernel_rfl) (by kernel_rfl) (.inl rfl) rfl rfl (by kernel_rfl) (by kernel_rfl) _ (fun _ _ => rfl) _ _ (fun _ _ => rfl) (fun _ _ => rfl) (fun _ _ => by kernel_rfl) (fun _ _ => by kernel_rfl) (fun r_8 x_25 => ?_))
  obtain ⟨A_9, c_10⟩ := x_25
  refine GoO.shape (env' := [(1, .pointer (some ⟨b_2, 0, none⟩)), (11, .bool r_5.1), (12, .pointer (some ⟨b_2, 0, none⟩)), (13, .agg ⟨[.int .i64 2, .int .i64 0, .int .i64 0, .int .u64 0, .int .u64 0, .int .u64 0, .int .u64 0, .bool false, .slice none ([] : List T_api_Entry).length 0, .string (bs [])]⟩), (14, .bool r_8.1)]) (H' := [⟨40, b_2, [.slice A_9 r_8.2.l.length c_10, .int .i64 r_8.2.lost]⟩]) (B' := [Ow 41 kT_api_Letter A_9 c_10 r_8.2.l, Rd 0 kT_api_Entry none 0 ([] : List T_api_Entry), Rd 0 kT_api_Entry none 0 ([] : List T_api_Entry)]) (ks := [1, 11, 12, 13, 14]) (by kernel_rfl) (by kernel_rfl) (by kernel_rfl) ?_
  refine GoO.exec (is := [6, 7]) (hs := [.p, .p]) (rest := []) (ks := [1, 2, 3]) (env' := [(1, .pointer (some ⟨b_2, 0, none⟩)), (2, .bool r_5.1), (3, .bool r_8.1)]) (H' := [⟨40, b_2, [.slice A_9 r_8.2.l.length c_10, .int .i64 r_8.2.lost]⟩]) (ps := []) (by kernel_rfl) trivial ?_
  refine GoO.regionEnd ?_
  refine GoO.seq' c14_6e ?_
  refine GoO.region' (is := [0, 1, 2, 3, 4, 5, 6, 7]) c14_7e (by kernel_rfl) ?_
  refine GoO.exec (is := [0]) (hs := [.p]) (rest := [1, 2, 3, 4, 5, 6, 7]) (ks := [1, 2, 3, 16]) (env' := [(1, .pointer (some ⟨b_2, 0, none⟩)), (2, .bool r_5.1), (3, .bool r_8.1), (16, .pointer (some ⟨b_2, 0, none⟩))]) (H' := [⟨40, b_2, [.slice A_9 r_8.2.l.length c_10, .int .i64 r_8.2.lost]⟩]) (ps := []) (by kernel_rfl) trivial ?_
  refine OpTo.go (GoO.call rfl (by kernel_rfl) (by kernel_rfl) (net_Net_Take_ok n r_8.2 3 b_2 A_9 c_10) [[0], [40], [41]] [(40, 1), (41, 2)] [(1, 0)] [(2, 0)] (hks := []) (bks := [1, 2]) (by kernel_rfl) (by kernel_rfl) (by kernel_rfl) (.inl rfl) rfl rfl (by kernel_rfl) (by kernel_rfl) _ (fun _ _ => rfl) _ _ (fun _ _ => rfl) (fun _ _ => rfl) (fun _ _ => by kernel_rfl) (fun _ _ => by kernel_rfl) (fun r_11 x_24 => ?_))
  obtain ⟨A_12, c_13, A_14, c_15⟩ := x_24
  refine GoO.shape (env' := [(1, .pointer (some ⟨b_2, 0, none⟩)), (2, .bool r_5.1), (3, .bool r_8.1), (16, .pointer (some ⟨b_2, 0, none⟩)), (17, .tuple ⟨[.agg ⟨[.int .i64 r_11.1.Kind, .int .i64 r_11.1.From, .int .i64 r_11.1.To, .int .u64 r_11.1.Term, .int .u64 r_11.1.Index, .int .u64 r_11.1.Prev, .int .u64 r_11.1.Commit, .bool r_11.1.Ok, .slice A_12 r_11.1.Entries.length c_13, .string (bs r_11.1.Data)]⟩, .bool r_11.2.1]⟩)]) (H' := [⟨40, b_2, [.slice A_14 r_11.2.2.l.length c_15, .int .i64 r_11.2.2.lost]⟩]) (B' := [Rd 0 kT_api_Entry A_12 c_13 r_11.1.Entries, Ow 41 kT_api_Letter A_14 c_15 r_11.2.2.l, Rd 0 kT_api_Entry none 0 ([] : List T_api_Entry), Rd 0 kT_api_Entry none 0 ([] : List T_api_Entry)]) (ks := [1, 2, 3, 16, 17]) (by kernel_rfl) (by kernel_rfl) (by kernel_rfl) ?_
  refine GoO.exec (is := [2, 3, 4]) (hs := [.p, .p, .p]) (rest := [5, 6, 7]) (ks := [1, 2, 3, 18, 19]) (env' := [(1, .pointer (some ⟨b_2, 0, none⟩)), (2, .bool r_5.1), (3, .bool r_8.1), (18, .agg ⟨[.int .i64 r_11.1.Kind, .int .i64 r_11.1.From, .int .i64 r_11.1.To, .int .u64 r_11.1.Term, .int .u64 r_11.1.Index, .int .u64 r_11.1.Prev, .int .u64 r_11.1.Commit, .bool r_11.1.Ok, .slice A_12 r_11.1.Entries.length c_13, .string (bs r_11.1.Data)]⟩), (19, .bool r_11.2.1)]) (H' := [⟨40, b_2, [.slice A_14 r_11.2.2.l.length c_15, .int .i64 r_11.2.2.lost]⟩]) (ps := []) (by kernel_rfl) trivial ?_
  refine OpTo.go (GoO.new rfl 42 (cs := [.int .i64 0, .int .i64 0, .int .i64 0, .int .u64 0, .int .u64 0, .int .u64 0, .int .u64 0, .bool false, .slice none ([] : List T_api_Entry).length 0, .string (bs [])]) (by kernel_rfl) _ (fun _ => rfl) (fun b_16 => ?_))
  refine GoO.exec (is := [6, 7]) (hs := [.b 0, .p]) (rest := []) (ks := [1, 2, 3, 4, 5]) (env' := [(1, .pointer (some ⟨b_2, 0, none⟩)), (2, .bool r_5.1), (3, .bool r_8.1), (4, .pointer (some ⟨b_16, 0, none⟩)), (5, .bool r_11.2.1)]) (H' := [⟨42, b_16, [.int .i64 r_11.1.Kind, .int .i64 r_11.1.From, .int .i64 r_11.1.To, .int .u64 r_11.1.Term, .int .u64 r_11.1.Index, .int .u64 r_11.1.Prev, .int .u64 r_11.1.Commit, .bool r_11.1.Ok, .slice A_12 r_11.1.Entries.length c_13, .string (bs r_11.1.Data)]⟩, ⟨40, b_2, [.slice A_14 r_11.2.2.l.length c_15, .int .i64 r_11.2.2.lost]⟩]) (ps := [b_16 = b_16]) (by kernel_rfl) (And.intro rfl trivial) ?_
  refine GoO.regionEnd ?_
  refine GoO.seq' c14_8e ?_
  refine GoO.region' (is := [0, 1, 2, 3, 4, 5, 6]) c14_9e (by kernel_rfl) ?_
  refine GoO.exec (is := [0]) (hs := [.p]) (rest := [1, 2, 3, 4, 5, 6]) (ks := [2, 3, 4, 5, 21]) (env' := [(2, .bool r_5.1), (3, .bool r_8.1), (4, .pointer (some ⟨b_16, 0, none⟩)), (5, .bool r_11.2.1), (21, .pointer (some ⟨b_2, 0, none⟩))]) (H' := [⟨42, b_16, [.int .i64 r_11.1.Kind, .int .i64 r_11.1.From, .int .i64 r_11.1.To, .int .u64 r_11.1.Term, .int .u64 r_11.1.Index, .int .u64 r_11.1.Prev, .int .u64 r_11.1.Commit, .bool r_11.1.Ok, .slice A_12 r_11.1.Entries.length c_13, .string (bs r_11.1.Data)]⟩, ⟨40, b_2, [.slice A_14 r_11.2.2.l.length c_15, .int .i64 r_11.2.2.lost]⟩]) (ps := []) (by kernel_rfl) trivial ?_
  refine OpTo.go (GoO.call rfl (by kernel_rfl) (by kernel_rfl) (net_Net_Count_ok n r_11.2.2 b_2 A_14 c_15) [[0], [40], [41]] [] [(1, 1)] [(2, 1)] (hks := [0, 1]) (bks := [0, 1, 2, 3]) (by kernel_rfl) (by kernel_rfl) (by kernel_rfl) (.inl rfl) rfl rfl (by kernel_rfl) (by kernel_rfl) _ (fun _ _ => rfl) _ _ (fun _ _ => rfl) (fun _ _ => rfl) (fun _ _ => by kernel_rfl) (fun _ _ => by kernel_rfl) (fun r_17 x_23 => ?_))
  refine GoO.shape (env' := [(2, .bool r_5.1), (3, .bool r_8.1), (4, .pointer (some ⟨b_16, 0, none⟩)), (5, .bool r_11.2.1), (21, .pointer (some ⟨b_2, 0, none⟩)), (22, .tuple ⟨[.int .i64 r_17.1, .int .i64 r_17.2]⟩)]) (H' := [⟨42, b_16, [.int .i64 r_11.1.Kind, .int .i64 r_11.1.From, .int .i64 r_11.1.To, .int .u64 r_11.1.Term, .int .u64 r_11.1.Index, .int .u64 r_11.1.Prev, .int .u64 r_11.1.Commit, .bool r_11.1.Ok, .slice A_12 r_11.1.Entries.length c_13, .string (bs r_11.1.Data)]⟩, ⟨40, b_2, [.slice A_14 r_11.2.2.l.length c_15, .int .i64 r_11.2.2.lost]⟩]) (B' := [Rd 0 kT_api_Entry A_12 c_13 r_11.1.Entries, Ow 41 kT_api_Letter A_14 c_15 r_11.2.2.l, Rd 0 kT_api_Entry none 0 ([] : List T_api_Entry), Rd 0 kT_api_Entry none 0 ([] : List T_api_Entry)]) (ks := [2, 3, 4, 5, 21, 22]) (by kernel_rfl) (by kernel_rfl) (by kernel_rfl) ?_
  refine GoO.exec (is := [2, 3, 4, 5, 6]) (hs := [.p, .p, .p, .p, .p]) (rest := []) (ks := [2, 3, 4, 5, 6, 7]) (env' := [(2, .bool r_5.1), (3, .bool r_8.1), (4, .pointer (some ⟨b_16, 0, none⟩)), (5, .bool r_11.2.1), (6, .int .i64 r_17.1), (7, .int .i64 r_17.2)]) (H' := [⟨42, b_16, [.int .i64 r_11.1.Kind, .int .i64 r_11.1.From, .int .i64 r_11.1.To, .int .u64 r_11.1.Term, .int .u64 r_11.1.Index, .int .u64 r_11.1.Prev, .int .u64 r_11.1.Commit, .bool r_11.1.Ok, .slice A_12 r_11.1.Entries.length c_13, .string (bs r_11.1.Data)]⟩, ⟨40, b_2, [.slice A_14 r_11.2.2.l.length c_15, .int .i64 r_11.2.2.lost]⟩]) (ps := []) (by kernel_rfl) trivial ?_
  refine GoO.regionEnd ?_
  refine GoO.seq' c14_10e ?_
  refine GoO.region' (is := [0, 1, 2, 3, 4, 5, 6, 7, 8, 9, 10, 11, 12, 13, 14, 15, 16, 17, 18, 19, 20]) c14_11e (by kernel_rfl) ?_
  refine GoO.exec (is := [0, 1]) (hs := [.p, .p]) (rest := [2, 3, 4, 5, 6, 7, 8, 9, 10, 11, 12, 13, 14, 15, 16, 17, 18, 19, 20]) (ks := [3, 4, 5, 6, 7, 26]) (env' := [(3, .bool r_8.1), (4, .pointer (some ⟨b_16, 0, none⟩)), (5, .bool r_11.2.1), (6, .int .i64 r_17.1), (7, .int .i64 r_17.2), (26, .bool r_5.1)]) (H' := [⟨42, b_16, [.int .i64 r_11.1.Kind, .int .i64 r_11.1.From, .int .i64 r_11.1.To, .int .u64 r_11.1.Term, .int .u64 r_11.1.Index, .int .u64 r_11.1.Prev, .int .u64 r_11.1.Commit, .bool r_11.1.Ok, .slice A_12 r_11.1.Entries.length c_13, .string (bs r_11.1.Data)]⟩, ⟨40, b_2, [.slice A_14 r_11.2.2.l.length c_15, .int .i64 r_11.2.2.lost]⟩]) (ps := []) (by kernel_rfl) trivial ?_
  refine GoO.bsplit (t := 26) (by kernel_rfl) (fun h18 => ?_) (fun h18 => ?_)
  · refine GoO.exec (is := [2, 3, 4]) (hs := [.p, .p, .p]) (rest := [5, 6, 7, 8, 9, 10, 11, 12, 13, 14, 15, 16, 17, 18, 19, 20]) (ks := [4, 5, 6, 7, 29]) (env' := [(4, .pointer (some ⟨b_16, 0, none⟩)), (5, .bool r_11.2.1), (6, .int .i64 r_17.1), (7, .int .i64 r_17.2), (29, .bool r_8.1)]) (H' := [⟨42, b_16, [.int .i64 r_11.1.Kind, .int .i64 r_11.1.From, .int .i64 r_11.1.To, .int .u64 r_11.1.Term, .int .u64 r_11.1.Index, .int .u64 r_11.1.Prev, .int .u64 r_11.1.Commit, .bool r_11.1.Ok, .slice A_12 r_11.1.Entries.length c_13, .string (bs r_11.1.Data)]⟩, ⟨40, b_2, [.slice A_14 r_11.2.2.l.length c_15, .int .i64 r_11.2.2.lost]⟩]) (ps := []) (by kernel_rfl) trivial ?_
    refine GoO.bsplit (t := 29) (by kernel_rfl) (fun h19 => ?_) (fun h19 => ?_)
    · refine GoO.exec (is := [5, 6, 7]) (hs := [.p, .p, .p]) (rest := [8, 9, 10, 11, 12, 13, 14, 15, 16, 17, 18, 19, 20]) (ks := [4, 6, 7, 32]) (env' := [(4, .pointer (some ⟨b_16, 0, none⟩)), (6, .int .i64 r_17.1), (7, .int .i64 r_17.2), (32, .bool r_11.2.1)]) (H' := [⟨42, b_16, [.int .i64 r_11.1.Kind, .int .i64 r_11.1.From, .int .i64 r_11.1.To, .int .u64 r_11.1.Term, .int .u64 r_11.1.Index, .int .u64 r_11.1.Prev, .int .u64 r_11.1.Commit, .bool r_11.1.Ok, .slice A_12 r_11.1.Entries.length c_13, .string (bs r_11.1.Data)]⟩, ⟨40, b_2, [.slice A_14 r_11.2.2.l.length c_15, .int .i64 r_11.2.2.lost]⟩]) (ps := []) (by kernel_rfl) trivial ?_
      refine GoO.bsplit (t := 32) (by kernel_rfl) (fun h20 => ?_) (fun h20 => ?_)
      · refine GoO.exec (is := [8, 9, 10, 11, 12]) (hs := [.p, .b 0, .p, .p, .p]) (rest := [13, 14, 15, 16, 17, 18, 19, 20]) (ks := [6, 7, 37]) (env' := [(6, .int .i64 r_17.1), (7, .int .i64 r_17.2), (37, .bool (r_11.1.Kind == 2))]) (H' := [⟨42, b_16, [.int .i64 r_11.1.Kind, .int .i64 r_11.1.From, .int .i64 r_11.1.To, .int .u64 r_11.1.Term, .int .u64 r_11.1.Index, .int .u64 r_11.1.Prev, .int .u64 r_11.1.Commit, .bool r_11.1.Ok, .slice A_12 r_11.1.Entries.length c_13, .string (bs r_11.1.Data)]⟩, ⟨40, b_2, [.slice A_14 r_11.2.2.l.length c_15, .int .i64 r_11.2.2.lost]⟩]) (ps := [b_16 = b_16]) (by kernel_rfl) (And.intro rfl trivial) ?_
        refine GoO.bsplit (t := 37) (by kernel_rfl) (fun h21 => ?_) (fun h21 => ?_)
        · refine GoO.exec (is := [13, 14, 15, 16]) (hs := [.p, .p, .p, .p]) (rest := [17, 18, 19, 20]) (ks := [7, 41]) (env' := [(7, .int .i64 r_17.2), (41, .bool (r_17.1 == 1))]) (H' := [⟨42, b_16, [.int .i64 r_11.1.Kind, .int .i64 r_11.1.From, .int .i64 r_11.1.To, .int .u64 r_11.1.Term, .int .u64 r_11.1.Index, .int .u64 r_11.1.Prev, .int .u64 r_11.1.Commit, .bool r_11.1.Ok, .slice A_12 r_11.1.Entries.length c_13, .string (bs r_11.1.Data)]⟩, ⟨40, b_2, [.slice A_14 r_11.2.2.l.length c_15, .int .i64 r_11.2.2.lost]⟩]) (ps := []) (by kernel_rfl) trivial ?_
          refine GoO.bsplit (t := 41) (by kernel_rfl) (fun h22 => ?_) (fun h22 => ?_)
          · refine GoO.exec (is := [17, 18, 19, 20]) (hs := [.p, .p, .p, .p]) (rest := []) (ks := [0]) (env' := [(0, .bool (r_17.2 == 0))]) (H' := [⟨42, b_16, [.int .i64 r_11.1.Kind, .int .i64 r_11.1.From, .int .i64 r_11.1.To, .int .u64 r_11.1.Term, .int .u64 r_11.1.Index, .int .u64 r_11.1.Prev, .int .u64 r_11.1.Commit, .bool r_11.1.Ok, .slice A_12 r_11.1.Entries.length c_13, .string (bs r_11.1.Data)]⟩, ⟨40, b_2, [.slice A_14 r_11.2.2.l.length c_15, .int .i64 r_11.2.2.lost]⟩]) (ps := []) (by kernel_rfl) trivial ?_
            refine GoO.regionEnd ?_
            exact GoO.ret' (h := c14_12e) (hs := []) (ps := []) (hk := []) (bk := []) Try.func14 () (by kernel_rfl) trivial (by kernel_rfl) (by kernel_rfl)
          · refine GoO.exec (is := [17, 18, 19, 20]) (hs := [.p, .p, .p, .p]) (rest := []) (ks := [0]) (env' := [(0, .bool false)]) (H' := [⟨42, b_16, [.int .i64 r_11.1.Kind, .int .i64 r_11.1.From, .int .i64 r_11.1.To, .int .u64 r_11.1.Term, .int .u64 r_11.1.Index, .int .u64 r_11.1.Prev, .int .u64 r_11.1.Commit, .bool r_11.1.Ok, .slice A_12 r_11.1.Entries.length c_13, .string (bs r_11.1.Data)]⟩, ⟨40, b_2, [.slice A_14 r_11.2.2.l.length c_15, .int .i64 r_11.2.2.lost]⟩]) (ps := []) (by kernel_rfl) trivial ?_
            refine GoO.regionEnd ?_
            exact GoO.ret' (h := c14_12e) (hs := []) (ps := []) (hk := []) (bk := []) Try.func14 () (by kernel_rfl) trivial (by kernel_rfl) (by kernel_rfl)
        · refine GoO.exec (is := [13, 14, 15, 16, 17, 18, 19, 20]) (hs := [.p, .p, .p, .p, .p, .p, .p, .p]) (rest := []) (ks := [0]) (env' := [(0, .bool false)]) (H' := [⟨42, b_16, [.int .i64 r_11.1.Kind, .int .i64 r_11.1.From, .int .i64 r_11.1.To, .int .u64 r_11.1.Term, .int .u64 r_11.1.Index, .int .u64 r_11.1.Prev, .int .u64 r_11.1.Commit, .bool r_11.1.Ok, .slice A_12 r_11.1.Entries.length c_13, .string (bs r_11.1.Data)]⟩, ⟨40, b_2, [.slice A_14 r_11.2.2.l.length c_15, .int .i64 r_11.2.2.lost]⟩]) (ps := []) (by kernel_rfl) trivial ?_
          refine GoO.regionEnd ?_
          exact GoO.ret' (h := c14_12e) (hs := []) (ps := []) (hk := []) (bk := []) Try.func14 () (by kernel_rfl) trivial (by kernel_rfl) (by kernel_rfl)
      · refine GoO.exec (is := [8, 9, 10, 11, 12, 13, 14, 15, 16, 17, 18, 19, 20]) (hs := [.p, .p, .p, .p, .p, .p, .p, .p, .p, .p, .p, .p, .p]) (rest := []) (ks := [0]) (env' := [(0, .bool false)]) (H' := [⟨42, b_16, [.int .i64 r_11.1.Kind, .int .i64 r_11.1.From, .int .i64 r_11.1.To, .int .u64 r_11.1.Term, .int .u64 r_11.1.Index, .int .u64 r_11.1.Prev, .int .u64 r_11.1.Commit, .bool r_11.1.Ok, .slice A_12 r_11.1.Entries.length c_13, .string (bs r_11.1.Data)]⟩, ⟨40, b_2, [.slice A_14 r_11.2.2.l.length c_15, .int .i64 r_11.2.2.lost]⟩]) (ps := []) (by kernel_rfl) trivial ?_
        refine GoO.regionEnd ?_
        exact GoO.ret' (h := c14_12e) (hs := []) (ps := []) (hk := []) (bk := []) Try.func14 () (by kernel_rfl) trivial (by kernel_rfl) (by kernel_rfl)
    · refine GoO.exec (is := [5, 6, 7, 8, 9, 10, 11, 12, 13, 14, 15, 16, 17, 18, 19, 20]) (hs := [.p, .p, .p, .p, .p, .p, .p, .p, .p, .p, .p, .p, .p, .p, .p, .p]) (rest := []) (ks := [0]) (env' := [(0, .bool false)]) (H' := [⟨42, b_16, [.int .i64 r_11.1.Kind, .int .i64 r_11.1.From, .int .i64 r_11.1.To, .int .u64 r_11.1.Term, .int .u64 r_11.1.Index, .int .u64 r_11.1.Prev, .int .u64 r_11.1.Commit, .bool r_11.1.Ok, .slice A_12 r_11.1.Entries.length c_13, .string (bs r_11.1.Data)]⟩, ⟨40, b_2, [.slice A_14 r_11.2.2.l.length c_15, .int .i64 r_11.2.2.lost]⟩]) (ps := []) (by kernel_rfl) trivial ?_
      refine GoO.regionEnd ?_
      exact GoO.ret' (h := c14_12e) (hs := []) (ps := []) (hk := []) (bk := []) Try.func14 () (by kernel_rfl) trivial (by kernel_rfl) (by kernel_rfl)
  · refine GoO.exec (is := [2, 3, 4, 5, 6, 7, 8, 9, 10, 11, 12, 13, 14, 15, 16, 17, 18, 19, 20]) (hs := [.p, .p, .p, .p, .p, .p, .p, .p, .p, .p, .p, .p, .p, .p, .p, .p, .p, .p, .p]) (rest := []) (ks := [0]) (env' := [(0, .bool false)]) (H' := [⟨42, b_16, [.int .i64 r_11.1.Kind, .int .i64 r_11.1.From, .int .i64 r_11.1.To, .int .u64 r_11.1.Term, .int .u64 r_11.1.Index, .int .u64 r_11.1.Prev, .int .u64 r_11.1.Commit, .bool r_11.1.Ok, .slice A_12 r_11.1.Entries.length c_13, .string (bs r_11.1.Data)]⟩, ⟨40, b_2, [.slice A_14 r_11.2.2.l.length c_15, .int .i64 r_11.2.2.lost]⟩]) (ps := []) (by kernel_rfl) trivial ?_
    refine GoO.regionEnd ?_
    exact GoO.ret' (h := c14_12e) (hs := []) (ps := []) (hk := []) (bk := []) Try.func14 () (by kernel_rfl) trivial (by kernel_rfl) (by kernel_rfl)

/-! tontine/tontinelaw10.NetOrder -/
noncomputable def c3_0 : Code := bodyOf Try.f3
noncomputable def c3_1 : Code := cdL c3_0
noncomputable def c3_2 : Code := cdR c3_0
noncomputable def c3_3 : Code := cdL c3_2
noncomputable def c3_4 : Code := cdL c3_3
noncomputable def c3_5 : Code := cdR c3_3
noncomputable def c3_6 : Code := cdL c3_5
noncomputable def c3_7 : Code := cdL c3_6
noncomputable def c3_8 : Code := cdR c3_6
noncomputable def c3_9 : Code := cdR c3_5
noncomputable def c3_10 : Code := cdR c3_2
noncomputable def c3_11 : Code := cdL c3_10
noncomputable def c3_12 : Code := cdR c3_10
noncomputable def c3_13 : Code := cdL c3_12
noncomputable def c3_14 : Code := cdR c3_12
noncomputable def c3_15 : Code := cdL c3_14
noncomputable def c3_16 : Code := cdL c3_15
noncomputable def c3_17 : Code := cdR c3_15
noncomputable def c3_18 : Code := cdL c3_17
noncomputable def c3_19 : Code := cdL c3_18
noncomputable def c3_20 : Code := cdL c3_19
noncomputable def c3_21 : Code := cdR c3_19
noncomputable def c3_22 : Code := cdL c3_21
noncomputable def c3_23 : Code := cdL c3_22
noncomputable def c3_24 : Code := cdR c3_22
noncomputable def c3_25 : Code := cdR c3_21
noncomputable def c3_26 : Code := cdL c3_25
noncomputable def c3_27 : Code := cdL c3_26
noncomputable def c3_28 : Code := cdL c3_27
noncomputable def c3_29 : Code := cdR c3_27
noncomputable def c3_30 : Code := cdR c3_25
noncomputable def c3_31 : Code := cdR c3_14
noncomputable def c3_32 : Code := cdL c3_31
noncomputable def c3_33 : Code := cdR c3_31
noncomputable def c3_34 : Code := cdL c3_33
noncomputable def c3_35 : Code := cdR c3_33
noncomputable def c3_36 : Code := cdL c3_35
noncomputable def c3_37 : Code := cdL c3_36
noncomputable def c3_38 : Code := cdR c3_36
noncomputable def c3_39 : Code := cdL c3_38
noncomputable def c3_40 : Code := cdL c3_39
noncomputable def c3_41 : Code := cdR c3_39
noncomputable def c3_42 : Code := cdR c3_38
noncomputable def c3_43 : Code := cdR c3_35
noncomputable def c3_44 : Code := cdL c3_43
noncomputable def c3_45 : Code := cdL c3_44
noncomputable def c3_46 : Code := cdR c3_44
noncomputable def c3_47 : Code := cdL c3_46
noncomputable def c3_48 : Code := cdL c3_47
noncomputable def c3_49 : Code := cdL c3_48
noncomputable def c3_50 : Code := cdR c3_48
noncomputable def c3_51 : Code := cdL c3_50
noncomputable def c3_52 : Code := cdL c3_51
noncomputable def c3_53 : Code := cdR c3_51
noncomputable def c3_54 : Code := cdR c3_50
noncomputable def c3_55 : Code := cdL c3_54
noncomputable def c3_56 : Code := cdL c3_55
noncomputable def c3_57 : Code := cdL c3_56
noncomputable def c3_58 : Code := cdR c3_56
noncomputable def c3_59 : Code := cdL c3_58
noncomputable def c3_60 : Code := cdL c3_59
noncomputable def c3_61 : Code := cdR c3_59
noncomputable def c3_62 : Code := cdL c3_61
noncomputable def c3_63 : Code := cdR c3_61
noncomputable def c3_64 : Code := cdR c3_58
noncomputable def c3_65 : Code := cdL c3_64
noncomputable def c3_66 : Code := cdR c3_64
noncomputable def c3_67 : Code := cdL c3_66
noncomputable def c3_68 : Code := cdR c3_66
noncomputable def c3_69 : Code := cdL c3_68
noncomputable def c3_70 : Code := cdL c3_69
noncomputable def c3_71 : Code := cdR c3_69
noncomputable def c3_72 : Code := cdR c3_68
noncomputable def c3_73 : Code := cdR c3_54
noncomputable def c3_74 : Code := cdR c3_43
noncomputable def c3_75 : Code := cdL c3_74
noncomputable def c3_76 : Code := cdR c3_74
noncomputable def c3_77 : Code := cdL c3_76
noncomputable def c3_78 : Code := cdR c3_76
noncomputable def r3_1 : Array Oper := cdO c3_1
noncomputable def r3_4 : Array Oper := cdO c3_4
noncomputable def r3_7 : Array Oper := cdO c3_7
noncomputable def r3_11 : Array Oper := cdO c3_11
noncomputable def r3_13 : Array Oper := cdO c3_13
noncomputable def r3_16 : Array Oper := cdO c3_16
noncomputable def r3_20 : Array Oper := cdO c3_20
noncomputable def r3_28 : Array Oper := cdO c3_28
noncomputable def r3_29 : Array Oper := cdO c3_29
noncomputable def r3_30 : Array Oper := cdO c3_30
noncomputable def r3_32 : Array Oper := cdO c3_32
noncomputable def r3_34 : Array Oper := cdO c3_34
noncomputable def r3_37 : Array Oper := cdO c3_37
noncomputable def r3_40 : Array Oper := cdO c3_40
noncomputable def r3_45 : Array Oper := cdO c3_45
noncomputable def r3_49 : Array Oper := cdO c3_49
noncomputable def r3_57 : Array Oper := cdO c3_57
noncomputable def r3_60 : Array Oper := cdO c3_60
noncomputable def r3_65 : Array Oper := cdO c3_65
noncomputable def r3_67 : Array Oper := cdO c3_67
noncomputable def r3_70 : Array Oper := cdO c3_70
noncomputable def r3_73 : Array Oper := cdO c3_73
noncomputable def r3_75 : Array Oper := cdO c3_75
noncomputable def r3_77 : Array Oper := cdO c3_77
theorem c3_0e : c3_0 = .seq c3_1 c3_2 := by kernel_rfl
theorem c3_1e : c3_1 = .region 0 r3_1 false := by kernel_rfl
theorem c3_2e : c3_2 = .seq c3_3 c3_10 := by kernel_rfl
theorem c3_3e : c3_3 = .seq c3_4 c3_5 := by kernel_rfl
theorem c3_4e : c3_4 = .region 1 r3_4 false := by kernel_rfl
theorem c3_5e : c3_5 = .cond (cdC c3_5) c3_6 c3_9 := by kernel_rfl
theorem c3_6e : c3_6 = .seq c3_7 c3_8 := by kernel_rfl
theorem c3_7e : c3_7 = .region 2 r3_7 false := by kernel_rfl
theorem c3_8e : c3_8 = .ret := by kernel_rfl
theorem c3_9e : c3_9 = .skip := by kernel_rfl
theorem c3_10e : c3_10 = .seq c3_11 c3_12 := by kernel_rfl
theorem c3_11e : c3_11 = .region 3 r3_11 false := by kernel_rfl
theorem c3_12e : c3_12 = .seq c3_13 c3_14 := by kernel_rfl
theorem c3_13e : c3_13 = .region 4 r3_13 false := by kernel_rfl
theorem c3_14e : c3_14 = .seq c3_15 c3_31 := by kernel_rfl
theorem c3_15e : c3_15 = .seq c3_16 c3_17 := by kernel_rfl
theorem c3_16e : c3_16 = .region 5 r3_16 false := by kernel_rfl
theorem c3_17e : c3_17 = .block 0 c3_18 := by kernel_rfl
theorem c3_18e : c3_18 = .loop c3_19 := by kernel_rfl
theorem c3_19e : c3_19 = .seq c3_20 c3_21 := by kernel_rfl
theorem c3_20e : c3_20 = .region 6 r3_20 false := by kernel_rfl
theorem c3_21e : c3_21 = .seq c3_22 c3_25 := by kernel_rfl
theorem c3_22e : c3_22 = .cond (cdC c3_22) c3_23 c3_24 := by kernel_rfl
theorem c3_23e : c3_23 = .skip := by kernel_rfl
theorem c3_24e : c3_24 = .exit 0 := by kernel_rfl
theorem c3_25e : c3_25 = .seq c3_26 c3_30 := by kernel_rfl
theorem c3_26e : c3_26 = .block 1 c3_27 := by kernel_rfl
theorem c3_27e : c3_27 = .seq c3_28 c3_29 := by kernel_rfl
theorem c3_28e : c3_28 = .region 7 r3_28 false := by kernel_rfl
theorem c3_29e : c3_29 = .region 8 r3_29 false := by kernel_rfl
theorem c3_30e : c3_30 = .region 9 r3_30 false := by kernel_rfl
theorem c3_31e : c3_31 = .seq c3_32 c3_33 := by kernel_rfl
theorem c3_32e : c3_32 = .region 10 r3_32 false := by kernel_rfl
theorem c3_33e : c3_33 = .seq c3_34 c3_35 := by kernel_rfl
theorem c3_34e : c3_34 = .region 11 r3_34 false := by kernel_rfl
theorem c3_35e : c3_35 = .seq c3_36 c3_43 := by kernel_rfl
theorem c3_36e : c3_36 = .seq c3_37 c3_38 := by kernel_rfl
theorem c3_37e : c3_37 = .region 12 r3_37 false := by kernel_rfl
theorem c3_38e : c3_38 = .cond (cdC c3_38) c3_39 c3_42 := by kernel_rfl
theorem c3_39e : c3_39 = .seq c3_40 c3_41 := by kernel_rfl
theorem c3_40e : c3_40 = .region 13 r3_40 false := by kernel_rfl
theorem c3_41e : c3_41 = .ret := by kernel_rfl
theorem c3_42e : c3_42 = .skip := by kernel_rfl
theorem c3_43e : c3_43 = .seq c3_44 c3_74 := by kernel_rfl
theorem c3_44e : c3_44 = .seq c3_45 c3_46 := by kernel_rfl
theorem c3_45e : c3_45 = .region 14 r3_45 false := by kernel_rfl
theorem c3_46e : c3_46 = .block 2 c3_47 := by kernel_rfl
theorem c3_47e : c3_47 = .loop c3_48 := by kernel_rfl
theorem c3_48e : c3_48 = .seq c3_49 c3_50 := by kernel_rfl
theorem c3_49e : c3_49 = .region 15 r3_49 false := by kernel_rfl
theorem c3_50e : c3_50 = .seq c3_51 c3_54 := by kernel_rfl
theorem c3_51e : c3_51 = .cond (cdC c3_51) c3_52 c3_53 := by kernel_rfl
theorem c3_52e : c3_52 = .skip := by kernel_rfl
theorem c3_53e : c3_53 = .exit 2 := by kernel_rfl
theorem c3_54e : c3_54 = .seq c3_55 c3_73 := by kernel_rfl
theorem c3_55e : c3_55 = .block 3 c3_56 := by kernel_rfl
theorem c3_56e : c3_56 = .seq c3_57 c3_58 := by kernel_rfl
theorem c3_57e : c3_57 = .region 16 r3_57 false := by kernel_rfl
theorem c3_58e : c3_58 = .seq c3_59 c3_64 := by kernel_rfl
theorem c3_59e : c3_59 = .seq c3_60 c3_61 := by kernel_rfl
theorem c3_60e : c3_60 = .region 17 r3_60 false := by kernel_rfl
theorem c3_61e : c3_61 = .cond (cdC c3_61) c3_62 c3_63 := by kernel_rfl
theorem c3_62e : c3_62 = .exit 3 := by kernel_rfl
theorem c3_63e : c3_63 = .skip := by kernel_rfl
theorem c3_64e : c3_64 = .seq c3_65 c3_66 := by kernel_rfl
theorem c3_65e : c3_65 = .region 18 r3_65 false := by kernel_rfl
theorem c3_66e : c3_66 = .seq c3_67 c3_68 := by kernel_rfl
theorem c3_67e : c3_67 = .region 19 r3_67 false := by kernel_rfl
theorem c3_68e : c3_68 = .cond (cdC c3_68) c3_69 c3_72 := by kernel_rfl
theorem c3_69e : c3_69 = .seq c3_70 c3_71 := by kernel_rfl
theorem c3_70e : c3_70 = .region 20 r3_70 false := by kernel_rfl
theorem c3_71e : c3_71 = .ret := by kernel_rfl
theorem c3_72e : c3_72 = .skip := by kernel_rfl
theorem c3_73e : c3_73 = .region 21 r3_73 false := by kernel_rfl
theorem c3_74e : c3_74 = .seq c3_75 c3_76 := by kernel_rfl
theorem c3_75e : c3_75 = .region 22 r3_75 false := by kernel_rfl
theorem c3_76e : c3_76 = .seq c3_77 c3_78 := by kernel_rfl
theorem c3_77e : c3_77 = .region 23 r3_77 false := by kernel_rfl
theorem c3_78e : c3_78 = .ret := by kernel_rfl
noncomputable def tontinelaw10_NetOrder.R : Pst Bool where
  ε := Unit
  v := fun r x => .bool r
  H := fun r x => []
  B := fun r x => []
noncomputable def tontinelaw10_NetOrder.cx (w0 : World) (S0 : Fam) : Cx Bool := ⟨Try.prog, 3, Try.f3, 83, w0, S0, [], 0, tontinelaw10_NetOrder.R⟩
theorem tontinelaw10_NetOrder_l1_ok (n : Nat) (n_1 : Int) (at_2 : Int) (b_6 : Nat) (w0 : World) (S0 : Fam) :
    ∀ (k : Nat) (f_29 : (List T_api_Letter)) (f_32 : Int) (x_33 : Int) (A_30 : Option Addr) (c_31 : Nat), GoO (tontinelaw10_NetOrder.cx w0 S0) [(1, .int .i64 ((wi64 ((at_2.tmod (wi64 (((wi64 ((n_1.tmod 256) + 256)).tmod 256) + 1))) + (wi64 (((wi64 ((n_1.tmod 256) + 256)).tmod 256) + 1)))).tmod (wi64 (((wi64 ((n_1.tmod 256) + 256)).tmod 256) + 1)))), (5, .pointer (some ⟨b_6, 0, none⟩)), (54, .int .i64 (wi64 (((wi64 ((n_1.tmod 256) + 256)).tmod 256) + 1))), (55, .int .i64 x_33)] [⟨40, b_6, [.slice A_30 f_29.length c_31, .int .i64 f_32]⟩] [Ow 41 kT_api_Letter A_30 c_31 f_29] [.code c3_48, .inLoop c3_48, .inBlock 2, .code c3_74] (tontinelaw10_NetOrder.l1 n n_1 at_2 k f_29 f_32 x_33) := by
  intro k
  induction k with
  | zero => intros; rw [tontinelaw10_NetOrder.l1.eq_1]; exact GoO.stop
  | succ k ih1 =>
    intro f_29 f_32 x_33 A_30 c_31
    rw [tontinelaw10_NetOrder.l1.eq_2]
    refine GoO.seq' c3_48e ?_
    refine GoO.region' (is := [0]) c3_49e (by kernel_rfl) ?_
    refine GoO.exec (is := [0]) (hs := [.p]) (rest := []) (ks := [1, 5, 54, 55, 56]) (env' := [(1, .int .i64 ((wi64 ((at_2.tmod (wi64 (((wi64 ((n_1.tmod 256) + 256)).tmod 256) + 1))) + (wi64 (((wi64 ((n_1.tmod 256) + 256)).tmod 256) + 1)))).tmod (wi64 (((wi64 ((n_1.tmod 256) + 256)).tmod 256) + 1)))), (5, .pointer (some ⟨b_6, 0, none⟩)), (54, .int .i64 (wi64 (((wi64 ((n_1.tmod 256) + 256)).tmod 256) + 1))), (55, .int .i64 x_33), (56, .bool (decide (x_33 < (wi64 (((wi64 ((n_1.tmod 256) + 256)).tmod 256) + 1)))))]) (H' := [⟨40, b_6, [.slice A_30 f_29.length c_31, .int .i64 f_32]⟩]) (ps := []) (by kernel_rfl) trivial ?_
    refine GoO.regionEnd ?_
    refine GoO.seq' c3_50e ?_
    refine GoO.ite' c3_51e (by kernel_rfl) (fun h34 => ?_) (fun h34 => ?_)
    · refine GoO.skip' c3_52e ?_
      refine GoO.seq' c3_54e ?_
      refine GoO.block' c3_55e ?_
      refine GoO.seq' c3_56e ?_
      refine GoO.region' (is := [0, 1]) c3_57e (by kernel_rfl) ?_
      refine GoO.exec (is := [0, 1]) (hs := [.p, .p]) (rest := []) (ks := [1, 5, 9, 54, 55]) (env' := [(1, .int .i64 ((wi64 ((at_2.tmod (wi64 (((wi64 ((n_1.tmod 256) + 256)).tmod 256) + 1))) + (wi64 (((wi64 ((n_1.tmod 256) + 256)).tmod 256) + 1)))).tmod (wi64 (((wi64 ((n_1.tmod 256) + 256)).tmod 256) + 1)))), (5, .pointer (some ⟨b_6, 0, none⟩)), (9, .int .i64 x_33), (54, .int .i64 (wi64 (((wi64 ((n_1.tmod 256) + 256)).tmod 256) + 1))), (55, .int .i64 x_33)]) (H' := [⟨40, b_6, [.slice A_30 f_29.length c_31, .int .i64 f_32]⟩]) (ps := []) (by kernel_rfl) trivial ?_
      refine GoO.regionEnd ?_
      refine GoO.seq' c3_58e ?_
      refine GoO.seq' c3_59e ?_
      refine GoO.region' (is := [0, 1, 2]) c3_60e (by kernel_rfl) ?_
      refine GoO.exec (is := [0, 1, 2]) (hs := [.p, .p, .p]) (rest := []) (ks := [1, 5, 9, 54, 55, 60]) (env' := [(1, .int .i64 ((wi64 ((at_2.tmod (wi64 (((wi64 ((n_1.tmod 256) + 256)).tmod 256) + 1))) + (wi64 (((wi64 ((n_1.tmod 256) + 256)).tmod 256) + 1)))).tmod (wi64 (((wi64 ((n_1.tmod 256) + 256)).tmod 256) + 1)))), (5, .pointer (some ⟨b_6, 0, none⟩)), (9, .int .i64 x_33), (54, .int .i64 (wi64 (((wi64 ((n_1.tmod 256) + 256)).tmod 256) + 1))), (55, .int .i64 x_33), (60, .bool (x_33 == ((wi64 ((at_2.tmod (wi64 (((wi64 ((n_1.tmod 256) + 256)).tmod 256) + 1))) + (wi64 (((wi64 ((n_1.tmod 256) + 256)).tmod 256) + 1)))).tmod (wi64 (((wi64 ((n_1.tmod 256) + 256)).tmod 256) + 1)))))]) (H' := [⟨40, b_6, [.slice A_30 f_29.length c_31, .int .i64 f_32]⟩]) (ps := []) (by kernel_rfl) trivial ?_
      refine GoO.regionEnd ?_
      refine GoO.ite' c3_61e (by kernel_rfl) (fun h35 => ?_) (fun h35 => ?_)
      · refine GoO.exit' c3_62e rfl ?_
        refine GoO.region' (is := [0, 1]) c3_73e (by kernel_rfl) ?_
        refine GoO.exec (is := [0, 1]) (hs := [.p, .p]) (rest := []) (ks := [1, 5, 54, 55]) (env' := [(1, .int .i64 ((wi64 ((at_2.tmod (wi64 (((wi64 ((n_1.tmod 256) + 256)).tmod 256) + 1))) + (wi64 (((wi64 ((n_1.tmod 256) + 256)).tmod 256) + 1)))).tmod (wi64 (((wi64 ((n_1.tmod 256) + 256)).tmod 256) + 1)))), (5, .pointer (some ⟨b_6, 0, none⟩)), (54, .int .i64 (wi64 (((wi64 ((n_1.tmod 256) + 256)).tmod 256) + 1))), (55, .int .i64 (wi64 (x_33 + 1)))]) (H' := [⟨40, b_6, [.slice A_30 f_29.length c_31, .int .i64 f_32]⟩]) (ps := []) (by kernel_rfl) trivial ?_
        refine GoO.regionEnd ?_
        refine GoO.inLoop ?_
        exact GoO.sub (ks := [1, 5, 54, 55]) (hk := [0]) (bk := [0]) (by kernel_rfl) (by kernel_rfl) (by kernel_rfl) (ih1 f_29 f_32 (wi64 (x_33 + 1)) A_30 c_31)
      · refine GoO.skip' c3_63e ?_
        refine GoO.seq' c3_64e ?_
        refine GoO.region' (is := [0, 1, 2, 3, 4, 5, 6, 7]) c3_65e (by kernel_rfl) ?_
        refine GoO.exec (is := [0]) (hs := [.p]) (rest := [1, 2, 3, 4, 5, 6, 7]) (ks := [1, 5, 9, 54, 55, 62]) (env' := [(1, .int .i64 ((wi64 ((at_2.tmod (wi64 (((wi64 ((n_1.tmod 256) + 256)).tmod 256) + 1))) + (wi64 (((wi64 ((n_1.tmod 256) + 256)).tmod 256) + 1)))).tmod (wi64 (((wi64 ((n_1.tmod 256) + 256)).tmod 256) + 1)))), (5, .pointer (some ⟨b_6, 0, none⟩)), (9, .int .i64 x_33), (54, .int .i64 (wi64 (((wi64 ((n_1.tmod 256) + 256)).tmod 256) + 1))), (55, .int .i64 x_33), (62, .pointer (some ⟨b_6, 0, none⟩))]) (H' := [⟨40, b_6, [.slice A_30 f_29.length c_31, .int .i64 f_32]⟩]) (ps := []) (by kernel_rfl) trivial ?_
        refine OpTo.go (GoO.call rfl (by kernel_rfl) (by kernel_rfl) (net_Net_Take_ok n (⟨f_29, f_32⟩ : T_net_Net) 0 b_6 A_30 c_31) [[0], [40], [41]] [(40, 1), (41, 2)] [(1, 0)] [(2, 0)] (hks := []) (bks := []) (by kernel_rfl) (by kernel_rfl) (by kernel_rfl) (.inl rfl) rfl rfl (by kernel_rfl) (by kernel_rfl) _ (fun _ _ => rfl) _ _ (fun _ _ => rfl) (fun _ _ => rfl) (fun _ _ => by kernel_rfl) (fun _ _ => by kernel_rfl) (fun r_36 x_44 => ?_))
        obtain ⟨A_37, c_38, A_39, c_40⟩ := x_44
        refine GoO.shape (env' := [(1, .int .i64 ((wi64 ((at_2.tmod (wi64 (((wi64 ((n_1.tmod 256) + 256)).tmod 256) + 1))) + (wi64 (((wi64 ((n_1.tmod 256) + 256)).tmod 256) + 1)))).tmod (wi64 (((wi64 ((n_1.tmod 256) + 256)).tmod 256) + 1)))), (5, .pointer (some ⟨b_6, 0, none⟩)), (9, .int .i64 x_33), (54, .int .i64 (wi64 (((wi64 ((n_1.tmod 256) + 256)).tmod 256) + 1))), (55, .int .i64 x_33), (62, .pointer (some ⟨b_6, 0, none⟩)), (63, .tuple ⟨[.agg ⟨[.int .i64 r_36.1.Kind, .int .i64 r_36.1.From, .int .i64 r_36.1.To, .int .u64 r_36.1.Term, .int .u64 r_36.1.Index, .int .u64 r_36.1.Prev, .int .u64 r_36.1.Commit, .bool r_36.1.Ok, .slice A_37 r_36.1.Entries.length c_38, .string (bs r_36.1.Data)]⟩, .bool r_36.2.1]⟩)]) (H' := [⟨40, b_6, [.slice A_39 r_36.2.2.l.length c_40, .int .i64 r_36.2.2.lost]⟩]) (B' := [Rd 0 kT_api_Entry A_37 c_38 r_36.1.Entries, Ow 41 kT_api_Letter A_39 c_40 r_36.2.2.l]) (ks := [1, 5, 9, 54, 55, 62, 63]) (by kernel_rfl) (by kernel_rfl) (by kernel_rfl) ?_
        refine GoO.exec (is := [2, 3, 4]) (hs := [.p, .p, .p]) (rest := [5, 6, 7]) (ks := [1, 5, 9, 54, 55, 64, 65]) (env' := [(1, .int .i64 ((wi64 ((at_2.tmod (wi64 (((wi64 ((n_1.tmod 256) + 256)).tmod 256) + 1))) + (wi64 (((wi64 ((n_1.tmod 256) + 256)).tmod 256) + 1)))).tmod (wi64 (((wi64 ((n_1.tmod 256) + 256)).tmod 256) + 1)))), (5, .pointer (some ⟨b_6, 0, none⟩)), (9, .int .i64 x_33), (54, .int .i64 (wi64 (((wi64 ((n_1.tmod 256) + 256)).tmod 256) + 1))), (55, .int .i64 x_33), (64, .agg ⟨[.int .i64 r_36.1.Kind, .int .i64 r_36.1.From, .int .i64 r_36.1.To, .int .u64 r_36.1.Term, .int .u64 r_36.1.Index, .int .u64 r_36.1.Prev, .int .u64 r_36.1.Commit, .bool r_36.1.Ok, .slice A_37 r_36.1.Entries.length c_38, .string (bs r_36.1.Data)]⟩), (65, .bool r_36.2.1)]) (H' := [⟨40, b_6, [.slice A_39 r_36.2.2.l.length c_40, .int .i64 r_36.2.2.lost]⟩]) (ps := []) (by kernel_rfl) trivial ?_
        refine OpTo.go (GoO.new rfl 43 (cs := [.int .i64 0, .int .i64 0, .int .i64 0, .int .u64 0, .int .u64 0, .int .u64 0, .int .u64 0, .bool false, .slice none ([] : List T_api_Entry).length 0, .string (bs [])]) (by kernel_rfl) _ (fun _ => rfl) (fun b_41 => ?_))
        refine GoO.exec (is := [6, 7]) (hs := [.b 0, .p]) (rest := []) (ks := [1, 5, 9, 10, 11, 54, 55]) (env' := [(1, .int .i64 ((wi64 ((at_2.tmod (wi64 (((wi64 ((n_1.tmod 256) + 256)).tmod 256) + 1))) + (wi64 (((wi64 ((n_1.tmod 256) + 256)).tmod 256) + 1)))).tmod (wi64 (((wi64 ((n_1.tmod 256) + 256)).tmod 256) + 1)))), (5, .pointer (some ⟨b_6, 0, none⟩)), (9, .int .i64 x_33), (10, .pointer (some ⟨b_41, 0, none⟩)), (11, .bool r_36.2.1), (54, .int .i64 (wi64 (((wi64 ((n_1.tmod 256) + 256)).tmod 256) + 1))), (55, .int .i64 x_33)]) (H' := [⟨43, b_41, [.int .i64 r_36.1.Kind, .int .i64 r_36.1.From, .int .i64 r_36.1.To, .int .u64 r_36.1.Term, .int .u64 r_36.1.Index, .int .u64 r_36.1.Prev, .int .u64 r_36.1.Commit, .bool r_36.1.Ok, .slice A_37 r_36.1.Entries.length c_38, .string (bs r_36.1.Data)]⟩, ⟨40, b_6, [.slice A_39 r_36.2.2.l.length c_40, .int .i64 r_36.2.2.lost]⟩]) (ps := [b_41 = b_41]) (by kernel_rfl) (And.intro rfl trivial) ?_
        refine GoO.regionEnd ?_
        refine GoO.seq' c3_66e ?_
        refine GoO.region' (is := [0, 1, 2, 3, 4, 5, 6, 7, 8]) c3_67e (by kernel_rfl) ?_
        refine GoO.exec (is := [0, 1, 2]) (hs := [.p, .p, .p]) (rest := [3, 4, 5, 6, 7, 8]) (ks := [1, 5, 9, 10, 54, 55, 68]) (env' := [(1, .int .i64 ((wi64 ((at_2.tmod (wi64 (((wi64 ((n_1.tmod 256) + 256)).tmod 256) + 1))) + (wi64 (((wi64 ((n_1.tmod 256) + 256)).tmod 256) + 1)))).tmod (wi64 (((wi64 ((n_1.tmod 256) + 256)).tmod 256) + 1)))), (5, .pointer (some ⟨b_6, 0, none⟩)), (9, .int .i64 x_33), (10, .pointer (some ⟨b_41, 0, none⟩)), (54, .int .i64 (wi64 (((wi64 ((n_1.tmod 256) + 256)).tmod 256) + 1))), (55, .int .i64 x_33), (68, .bool (!r_36.2.1))]) (H' := [⟨43, b_41, [.int .i64 r_36.1.Kind, .int .i64 r_36.1.From, .int .i64 r_36.1.To, .int .u64 r_36.1.Term, .int .u64 r_36.1.Index, .int .u64 r_36.1.Prev, .int .u64 r_36.1.Commit, .bool r_36.1.Ok, .slice A_37 r_36.1.Entries.length c_38, .string (bs r_36.1.Data)]⟩, ⟨40, b_6, [.slice A_39 r_36.2.2.l.length c_40, .int .i64 r_36.2.2.lost]⟩]) (ps := []) (by kernel_rfl) trivial ?_
        refine GoO.bsplit (t := 68) (by kernel_rfl) (fun h42 => ?_) (fun h42 => ?_)
        · refine GoO.exec (is := [3, 4, 5, 6, 7, 8]) (hs := [.p, .p, .p, .p, .p, .p]) (rest := []) (ks := [1, 5, 54, 55, 74]) (env' := [(1, .int .i64 ((wi64 ((at_2.tmod (wi64 (((wi64 ((n_1.tmod 256) + 256)).tmod 256) + 1))) + (wi64 (((wi64 ((n_1.tmod 256) + 256)).tmod 256) + 1)))).tmod (wi64 (((wi64 ((n_1.tmod 256) + 256)).tmod 256) + 1)))), (5, .pointer (some ⟨b_6, 0, none⟩)), (54, .int .i64 (wi64 (((wi64 ((n_1.tmod 256) + 256)).tmod 256) + 1))), (55, .int .i64 x_33), (74, .bool true)]) (H' := [⟨43, b_41, [.int .i64 r_36.1.Kind, .int .i64 r_36.1.From, .int .i64 r_36.1.To, .int .u64 r_36.1.Term, .int .u64 r_36.1.Index, .int .u64 r_36.1.Prev, .int .u64 r_36.1.Commit, .bool r_36.1.Ok, .slice A_37 r_36.1.Entries.length c_38, .string (bs r_36.1.Data)]⟩, ⟨40, b_6, [.slice A_39 r_36.2.2.l.length c_40, .int .i64 r_36.2.2.lost]⟩]) (ps := []) (by kernel_rfl) trivial ?_
          refine GoO.regionEnd ?_
          refine GoO.condT c3_68e (by kernel_rfl) ?_
          refine GoO.seq' c3_69e ?_
          refine GoO.region' (is := [0]) c3_70e (by kernel_rfl) ?_
          refine GoO.exec (is := [0]) (hs := [.p]) (rest := []) (ks := [4]) (env' := [(4, .bool false)]) (H' := [⟨43, b_41, [.int .i64 r_36.1.Kind, .int .i64 r_36.1.From, .int .i64 r_36.1.To, .int .u64 r_36.1.Term, .int .u64 r_36.1.Index, .int .u64 r_36.1.Prev, .int .u64 r_36.1.Commit, .bool r_36.1.Ok, .slice A_37 r_36.1.Entries.length c_38, .string (bs r_36.1.Data)]⟩, ⟨40, b_6, [.slice A_39 r_36.2.2.l.length c_40, .int .i64 r_36.2.2.lost]⟩]) (ps := []) (by kernel_rfl) trivial ?_
          refine GoO.regionEnd ?_
          exact GoO.ret' (h := c3_71e) (hs := []) (ps := []) (hk := []) (bk := []) Try.func3 () (by kernel_rfl) trivial (by kernel_rfl) (by kernel_rfl)
        · refine GoO.exec (is := [3, 4, 5, 6, 7, 8]) (hs := [.p, .b 0, .p, .p, .p, .p]) (rest := []) (ks := [1, 5, 54, 55, 74]) (env' := [(1, .int .i64 ((wi64 ((at_2.tmod (wi64 (((wi64 ((n_1.tmod 256) + 256)).tmod 256) + 1))) + (wi64 (((wi64 ((n_1.tmod 256) + 256)).tmod 256) + 1)))).tmod (wi64 (((wi64 ((n_1.tmod 256) + 256)).tmod 256) + 1)))), (5, .pointer (some ⟨b_6, 0, none⟩)), (54, .int .i64 (wi64 (((wi64 ((n_1.tmod 256) + 256)).tmod 256) + 1))), (55, .int .i64 x_33), (74, .bool (r_36.1.Index != (wu64 x_33)))]) (H' := [⟨43, b_41, [.int .i64 r_36.1.Kind, .int .i64 r_36.1.From, .int .i64 r_36.1.To, .int .u64 r_36.1.Term, .int .u64 r_36.1.Index, .int .u64 r_36.1.Prev, .int .u64 r_36.1.Commit, .bool r_36.1.Ok, .slice A_37 r_36.1.Entries.length c_38, .string (bs r_36.1.Data)]⟩, ⟨40, b_6, [.slice A_39 r_36.2.2.l.length c_40, .int .i64 r_36.2.2.lost]⟩]) (ps := [b_41 = b_41]) (by kernel_rfl) (And.intro rfl trivial) ?_
          refine GoO.regionEnd ?_
          refine GoO.ite' c3_68e (by kernel_rfl) (fun h43 => ?_) (fun h43 => ?_)
          · refine GoO.seq' c3_69e ?_
            refine GoO.region' (is := [0]) c3_70e (by kernel_rfl) ?_
            refine GoO.exec (is := [0]) (hs := [.p]) (rest := []) (ks := [4]) (env' := [(4, .bool false)]) (H' := [⟨43, b_41, [.int .i64 r_36.1.Kind, .int .i64 r_36.1.From, .int .i64 r_36.1.To, .int .u64 r_36.1.Term, .int .u64 r_36.1.Index, .int .u64 r_36.1.Prev, .int .u64 r_36.1.Commit, .bool r_36.1.Ok, .slice A_37 r_36.1.Entries.length c_38, .string (bs r_36.1.Data)]⟩, ⟨40, b_6, [.slice A_39 r_36.2.2.l.length c_40, .int .i64 r_36.2.2.lost]⟩]) (ps := []) (by kernel_rfl) trivial ?_
            refine GoO.regionEnd ?_
            exact GoO.ret' (h := c3_71e) (hs := []) (ps := []) (hk := []) (bk := []) Try.func3 () (by kernel_rfl) trivial (by kernel_rfl) (by kernel_rfl)
          · refine GoO.skip' c3_72e ?_
            refine GoO.inBlock ?_
            refine GoO.region' (is := [0, 1]) c3_73e (by kernel_rfl) ?_
            refine GoO.exec (is := [0, 1]) (hs := [.p, .p]) (rest := []) (ks := [1, 5, 54, 55]) (env' := [(1, .int .i64 ((wi64 ((at_2.tmod (wi64 (((wi64 ((n_1.tmod 256) + 256)).tmod 256) + 1))) + (wi64 (((wi64 ((n_1.tmod 256) + 256)).tmod 256) + 1)))).tmod (wi64 (((wi64 ((n_1.tmod 256) + 256)).tmod 256) + 1)))), (5, .pointer (some ⟨b_6, 0, none⟩)), (54, .int .i64 (wi64 (((wi64 ((n_1.tmod 256) + 256)).tmod 256) + 1))), (55, .int .i64 (wi64 (x_33 + 1)))]) (H' := [⟨43, b_41, [.int .i64 r_36.1.Kind, .int .i64 r_36.1.From, .int .i64 r_36.1.To, .int .u64 r_36.1.Term, .int .u64 r_36.1.Index, .int .u64 r_36.1.Prev, .int .u64 r_36.1.Commit, .bool r_36.1.Ok, .slice A_37 r_36.1.Entries.length c_38, .string (bs r_36.1.Data)]⟩, ⟨40, b_6, [.slice A_39 r_36.2.2.l.length c_40, .int .i64 r_36.2.2.lost]⟩]) (ps := []) (by kernel_rfl) trivial ?_
            refine GoO.regionEnd ?_
            refine GoO.inLoop ?_
            exact GoO.sub (ks := [1, 5, 54, 55]) (hk := [1]) (bk := [1]) (by kernel_rfl) (by kernel_rfl) (by kernel_rfl) (ih1 r_36.2.2.l r_36.2.2.lost (wi64 (x_33 + 1)) A_39 c_40)
    · refine GoO.exit' c3_53e rfl ?_
      refine GoO.seq' c3_74e ?_
      refine GoO.region' (is := [0, 1, 2, 3, 4, 5]) c3_75e (by kernel_rfl) ?_
      refine GoO.exec (is := [0]) (hs := [.p]) (rest := [1, 2, 3, 4, 5]) (ks := [77]) (env' := [(77, .pointer (some ⟨b_6, 0, none⟩))]) (H' := [⟨40, b_6, [.slice A_30 f_29.length c_31, .int .i64 f_32]⟩]) (ps := []) (by kernel_rfl) trivial ?_
      refine OpTo.go (GoO.call rfl (by kernel_rfl) (by kernel_rfl) (net_Net_Take_ok n (⟨f_29, f_32⟩ : T_net_Net) 0 b_6 A_30 c_31) [[0], [40], [41]] [(40, 1), (41, 2)] [(1, 0)] [(2, 0)] (hks := []) (bks := []) (by kernel_rfl) (by kernel_rfl) (by kernel_rfl) (.inl rfl) rfl rfl (by kernel_rfl) (by kernel_rfl) _ (fun _ _ => rfl) _ _ (fun _ _ => rfl) (fun _ _ => rfl) (fun _ _ => by kernel_rfl) (fun _ _ => by kernel_rfl) (fun r_45 x_50 => ?_))
      obtain ⟨A_46, c_47, A_48, c_49⟩ := x_50
      refine GoO.shape (env' := [(77, .pointer (some ⟨b_6, 0, none⟩)), (78, .tuple ⟨[.agg ⟨[.int .i64 r_45.1.Kind, .int .i64 r_45.1.From, .int .i64 r_45.1.To, .int .u64 r_45.1.Term, .int .u64 r_45.1.Index, .int .u64 r_45.1.Prev, .int .u64 r_45.1.Commit, .bool r_45.1.Ok, .slice A_46 r_45.1.Entries.length c_47, .string (bs r_45.1.Data)]⟩, .bool r_45.2.1]⟩)]) (H' := [⟨40, b_6, [.slice A_48 r_45.2.2.l.length c_49, .int .i64 r_45.2.2.lost]⟩]) (B' := [Rd 0 kT_api_Entry A_46 c_47 r_45.1.Entries, Ow 41 kT_api_Letter A_48 c_49 r_45.2.2.l]) (ks := [77, 78]) (by kernel_rfl) (by kernel_rfl) (by kernel_rfl) ?_
      refine GoO.exec (is := [2, 3, 4, 5]) (hs := [.p, .p, .p, .p]) (rest := []) (ks := [8]) (env' := [(8, .bool r_45.2.1)]) (H' := [⟨40, b_6, [.slice A_48 r_45.2.2.l.length c_49, .int .i64 r_45.2.2.lost]⟩]) (ps := []) (by kernel_rfl) trivial ?_
      refine GoO.regionEnd ?_
      refine GoO.seq' c3_76e ?_
      refine GoO.region' (is := [0, 1, 2]) c3_77e (by kernel_rfl) ?_
      refine GoO.exec (is := [0, 1, 2]) (hs := [.p, .p, .p]) (rest := []) (ks := [4]) (env' := [(4, .bool (!r_45.2.1))]) (H' := [⟨40, b_6, [.slice A_48 r_45.2.2.l.length c_49, .int .i64 r_45.2.2.lost]⟩]) (ps := []) (by kernel_rfl) trivial ?_
      refine GoO.regionEnd ?_
      exact GoO.ret' (h := c3_78e) (hs := []) (ps := []) (hk := []) (bk := []) Try.func3 () (by kernel_rfl) trivial (by kernel_rfl) (by kernel_rfl)
theorem tontinelaw10_NetOrder_j0_ok (n : Nat) (n_1 : Int) (at_2 : Int) (r_20 : T_api_Letter × Bool × T_net_Net) (b_6 : Nat) (A_23 : Option Addr) (c_24 : Nat) (w0 : World) (S0 : Fam) (b_27 : Bool) :
    GoO (tontinelaw10_NetOrder.cx w0 S0) [(0, .int .i64 (wi64 (((wi64 ((n_1.tmod 256) + 256)).tmod 256) + 1))), (1, .int .i64 ((wi64 ((at_2.tmod (wi64 (((wi64 ((n_1.tmod 256) + 256)).tmod 256) + 1))) + (wi64 (((wi64 ((n_1.tmod 256) + 256)).tmod 256) + 1)))).tmod (wi64 (((wi64 ((n_1.tmod 256) + 256)).tmod 256) + 1)))), (5, .pointer (some ⟨b_6, 0, none⟩)), (53, .bool b_27)] [⟨40, b_6, [.slice A_23 r_20.2.2.l.length c_24, .int .i64 r_20.2.2.lost]⟩] [Ow 41 kT_api_Letter A_23 c_24 r_20.2.2.l] [.code c3_38, .code c3_43] (tontinelaw10_NetOrder.j0 n n_1 at_2 r_20 b_27) := by
  unfold tontinelaw10_NetOrder.j0
  refine GoO.ite' c3_38e (by kernel_rfl) (fun h28 => ?_) (fun h28 => ?_)
  · refine GoO.seq' c3_39e ?_
    refine GoO.region' (is := [0]) c3_40e (by kernel_rfl) ?_
    refine GoO.exec (is := [0]) (hs := [.p]) (rest := []) (ks := [4]) (env' := [(4, .bool false)]) (H' := [⟨40, b_6, [.slice A_23 r_20.2.2.l.length c_24, .int .i64 r_20.2.2.lost]⟩]) (ps := []) (by kernel_rfl) trivial ?_
    refine GoO.regionEnd ?_
    exact GoO.ret' (h := c3_41e) (hs := []) (ps := []) (hk := []) (bk := []) Try.func3 () (by kernel_rfl) trivial (by kernel_rfl) (by kernel_rfl)
  · refine GoO.skip' c3_42e ?_
    refine GoO.seq' c3_43e ?_
    refine GoO.seq' c3_44e ?_
    refine GoO.region' (is := [0, 1]) c3_45e (by kernel_rfl) ?_
    refine GoO.exec (is := [0, 1]) (hs := [.p, .p]) (rest := []) (ks := [1, 5, 54, 55]) (env' := [(1, .int .i64 ((wi64 ((at_2.tmod (wi64 (((wi64 ((n_1.tmod 256) + 256)).tmod 256) + 1))) + (wi64 (((wi64 ((n_1.tmod 256) + 256)).tmod 256) + 1)))).tmod (wi64 (((wi64 ((n_1.tmod 256) + 256)).tmod 256) + 1)))), (5, .pointer (some ⟨b_6, 0, none⟩)), (54, .int .i64 (wi64 (((wi64 ((n_1.tmod 256) + 256)).tmod 256) + 1))), (55, .int .i64 0)]) (H' := [⟨40, b_6, [.slice A_23 r_20.2.2.l.length c_24, .int .i64 r_20.2.2.lost]⟩]) (ps := []) (by kernel_rfl) trivial ?_
    refine GoO.regionEnd ?_
    refine GoO.block' c3_46e ?_
    refine GoO.loop' c3_47e ?_
    exact GoO.sub (ks := [1, 5, 54, 55]) (hk := [0]) (bk := [0]) (by kernel_rfl) (by kernel_rfl) (by kernel_rfl) (tontinelaw10_NetOrder_l1_ok n n_1 at_2 b_6 w0 S0 n r_20.2.2.l r_20.2.2.lost 0 A_23 c_24)
theorem tontinelaw10_NetOrder_l0_ok (n : Nat) (n_1 : Int) (at_2 : Int) (b_6 : Nat) (w0 : World) (S0 : Fam) :
    ∀ (k : Nat) (f_9 : (List T_api_Letter)) (f_12 : Int) (x_13 : Int) (A_10 : Option Addr) (c_11 : Nat), GoO (tontinelaw10_NetOrder.cx w0 S0) [(0, .int .i64 (wi64 (((wi64 ((n_1.tmod 256) + 256)).tmod 256) + 1))), (1, .int .i64 at_2), (5, .pointer (some ⟨b_6, 0, none⟩)), (20, .int .i64 (wi64 (((wi64 ((n_1.tmod 256) + 256)).tmod 256) + 1))), (21, .int .i64 x_13)] [⟨40, b_6, [.slice A_10 f_9.length c_11, .int .i64 f_12]⟩] [Ow 41 kT_api_Letter A_10 c_11 f_9] [.code c3_19, .inLoop c3_19, .inBlock 0, .code c3_31] (tontinelaw10_NetOrder.l0 n n_1 at_2 k f_9 f_12 x_13) := by
  intro k
  induction k with
  | zero => intros; rw [tontinelaw10_NetOrder.l0.eq_1]; exact GoO.stop
  | succ k ih0 =>
    intro f_9 f_12 x_13 A_10 c_11
    rw [tontinelaw10_NetOrder.l0.eq_2]
    refine GoO.seq' c3_19e ?_
    refine GoO.region' (is := [0]) c3_20e (by kernel_rfl) ?_
    refine GoO.exec (is := [0]) (hs := [.p]) (rest := []) (ks := [0, 1, 5, 20, 21, 22]) (env' := [(0, .int .i64 (wi64 (((wi64 ((n_1.tmod 256) + 256)).tmod 256) + 1))), (1, .int .i64 at_2), (5, .pointer (some ⟨b_6, 0, none⟩)), (20, .int .i64 (wi64 (((wi64 ((n_1.tmod 256) + 256)).tmod 256) + 1))), (21, .int .i64 x_13), (22, .bool (decide (x_13 < (wi64 (((wi64 ((n_1.tmod 256) + 256)).tmod 256) + 1)))))]) (H' := [⟨40, b_6, [.slice A_10 f_9.length c_11, .int .i64 f_12]⟩]) (ps := []) (by kernel_rfl) trivial ?_
    refine GoO.regionEnd ?_
    refine GoO.seq' c3_21e ?_
    refine GoO.ite' c3_22e (by kernel_rfl) (fun h14 => ?_) (fun h14 => ?_)
    · refine GoO.skip' c3_23e ?_
      refine GoO.seq' c3_25e ?_
      refine GoO.block' c3_26e ?_
      refine GoO.seq' c3_27e ?_
      refine GoO.region' (is := [0, 1]) c3_28e (by kernel_rfl) ?_
      refine GoO.exec (is := [0, 1]) (hs := [.p, .p]) (rest := []) (ks := [0, 1, 5, 6, 20, 21]) (env' := [(0, .int .i64 (wi64 (((wi64 ((n_1.tmod 256) + 256)).tmod 256) + 1))), (1, .int .i64 at_2), (5, .pointer (some ⟨b_6, 0, none⟩)), (6, .int .i64 x_13), (20, .int .i64 (wi64 (((wi64 ((n_1.tmod 256) + 256)).tmod 256) + 1))), (21, .int .i64 x_13)]) (H' := [⟨40, b_6, [.slice A_10 f_9.length c_11, .int .i64 f_12]⟩]) (ps := []) (by kernel_rfl) trivial ?_
      refine GoO.regionEnd ?_
      refine GoO.region' (is := [0, 1, 2, 3, 4]) c3_29e (by kernel_rfl) ?_
      refine GoO.exec (is := [0, 1, 2, 3]) (hs := [.p, .p, .p, .p]) (rest := [4]) (ks := [0, 1, 5, 20, 21, 24, 27]) (env' := [(0, .int .i64 (wi64 (((wi64 ((n_1.tmod 256) + 256)).tmod 256) + 1))), (1, .int .i64 at_2), (5, .pointer (some ⟨b_6, 0, none⟩)), (20, .int .i64 (wi64 (((wi64 ((n_1.tmod 256) + 256)).tmod 256) + 1))), (21, .int .i64 x_13), (24, .pointer (some ⟨b_6, 0, none⟩)), (27, .agg ⟨[.int .i64 1, .int .i64 0, .int .i64 0, .int .u64 0, .int .u64 (wu64 x_13), .int .u64 0, .int .u64 0, .bool false, .slice none ([] : List T_api_Entry).length 0, .string (bs [])]⟩)]) (H' := [⟨40, b_6, [.slice A_10 f_9.length c_11, .int .i64 f_12]⟩]) (ps := []) (by kernel_rfl) trivial ?_
      refine GoO.nilRd kT_api_Entry ?_
      refine OpTo.go (GoO.call rfl (by kernel_rfl) (by kernel_rfl) (net_Net_Send_ok n (⟨f_9, f_12⟩ : T_net_Net) (⟨1, 0, 0, 0, wu64 x_13, 0, 0, false, [], []⟩ : T_api_Letter) b_6 A_10 c_11 none 0) [[0], [40], [41]] [(40, 1), (41, 2)] [(1, 0)] [(2, 1), (0, 0)] (hks := []) (bks := [0]) (by kernel_rfl) (by kernel_rfl) (by kernel_rfl) (.inl rfl) rfl rfl (by kernel_rfl) (by kernel_rfl) _ (fun _ _ => rfl) _ _ (fun _ _ => rfl) (fun _ _ => rfl) (fun _ _ => by kernel_rfl) (fun _ _ => by kernel_rfl) (fun r_15 x_18 => ?_))
      obtain ⟨A_16, c_17⟩ := x_18
      refine GoO.shape (env' := [(0, .int .i64 (wi64 (((wi64 ((n_1.tmod 256) + 256)).tmod 256) + 1))), (1, .int .i64 at_2), (5, .pointer (some ⟨b_6, 0, none⟩)), (20, .int .i64 (wi64 (((wi64 ((n_1.tmod 256) + 256)).tmod 256) + 1))), (21, .int .i64 x_13), (24, .pointer (some ⟨b_6, 0, none⟩)), (27, .agg ⟨[.int .i64 1, .int .i64 0, .int .i64 0, .int .u64 0, .int .u64 (wu64 x_13), .int .u64 0, .int .u64 0, .bool false, .slice none ([] : List T_api_Entry).length 0, .string (bs [])]⟩), (28, .bool r_15.1)]) (H' := [⟨40, b_6, [.slice A_16 r_15.2.l.length c_17, .int .i64 r_15.2.lost]⟩]) (B' := [Ow 41 kT_api_Letter A_16 c_17 r_15.2.l, Rd 0 kT_api_Entry none 0 ([] : List T_api_Entry)]) (ks := [0, 1, 5, 20, 21, 24, 27, 28]) (by kernel_rfl) (by kernel_rfl) (by kernel_rfl) ?_
      refine GoO.regionEnd ?_
      refine GoO.inBlock ?_
      refine GoO.region' (is := [0, 1]) c3_30e (by kernel_rfl) ?_
      refine GoO.exec (is := [0, 1]) (hs := [.p, .p]) (rest := []) (ks := [0, 1, 5, 20, 21]) (env' := [(0, .int .i64 (wi64 (((wi64 ((n_1.tmod 256) + 256)).tmod 256) + 1))), (1, .int .i64 at_2), (5, .pointer (some ⟨b_6, 0, none⟩)), (20, .int .i64 (wi64 (((wi64 ((n_1.tmod 256) + 256)).tmod 256) + 1))), (21, .int .i64 (wi64 (x_13 + 1)))]) (H' := [⟨40, b_6, [.slice A_16 r_15.2.l.length c_17, .int .i64 r_15.2.lost]⟩]) (ps := []) (by kernel_rfl) trivial ?_
      refine GoO.regionEnd ?_
      refine GoO.inLoop ?_
      exact GoO.sub (ks := [0, 1, 5, 20, 21]) (hk := [0]) (bk := [0]) (by kernel_rfl) (by kernel_rfl) (by kernel_rfl) (ih0 r_15.2.l r_15.2.lost (wi64 (x_13 + 1)) A_16 c_17)
    · refine GoO.exit' c3_24e rfl ?_
      refine GoO.seq' c3_31e ?_
      refine GoO.region' (is := [0, 1, 2, 3, 4, 5, 6, 7]) c3_32e (by kernel_rfl) ?_
      refine GoO.guard (fun h19 => ?_)
      refine GoO.exec (is := [0, 1, 2, 3, 4, 5, 6, 7]) (hs := [.p, .p, .p, .p, .p, .p, .p, .p]) (rest := []) (ks := [0, 1, 5]) (env' := [(0, .int .i64 (wi64 (((wi64 ((n_1.tmod 256) + 256)).tmod 256) + 1))), (1, .int .i64 ((wi64 ((at_2.tmod (wi64 (((wi64 ((n_1.tmod 256) + 256)).tmod 256) + 1))) + (wi64 (((wi64 ((n_1.tmod 256) + 256)).tmod 256) + 1)))).tmod (wi64 (((wi64 ((n_1.tmod 256) + 256)).tmod 256) + 1)))), (5, .pointer (some ⟨b_6, 0, none⟩))]) (H' := [⟨40, b_6, [.slice A_10 f_9.length c_11, .int .i64 f_12]⟩]) (ps := [(wi64 (((wi64 ((n_1.tmod 256) + 256)).tmod 256) + 1)) ≠ 0, (wi64 (((wi64 ((n_1.tmod 256) + 256)).tmod 256) + 1)) ≠ 0]) (by kernel_rfl) (And.intro h19 (And.intro h19 trivial)) ?_
      refine GoO.regionEnd ?_
      refine GoO.seq' c3_33e ?_
      refine GoO.region' (is := [0, 1, 2, 3, 4, 5, 6, 7, 8, 9, 10]) c3_34e (by kernel_rfl) ?_
      refine GoO.exec (is := [0, 1, 2, 3]) (hs := [.p, .p, .p, .p]) (rest := [4, 5, 6, 7, 8, 9, 10]) (ks := [0, 1, 5, 38, 41]) (env' := [(0, .int .i64 (wi64 (((wi64 ((n_1.tmod 256) + 256)).tmod 256) + 1))), (1, .int .i64 ((wi64 ((at_2.tmod (wi64 (((wi64 ((n_1.tmod 256) + 256)).tmod 256) + 1))) + (wi64 (((wi64 ((n_1.tmod 256) + 256)).tmod 256) + 1)))).tmod (wi64 (((wi64 ((n_1.tmod 256) + 256)).tmod 256) + 1)))), (5, .pointer (some ⟨b_6, 0, none⟩)), (38, .pointer (some ⟨b_6, 0, none⟩)), (41, .int .i64 (wi64 (((wi64 ((at_2.tmod (wi64 (((wi64 ((n_1.tmod 256) + 256)).tmod 256) + 1))) + (wi64 (((wi64 ((n_1.tmod 256) + 256)).tmod 256) + 1)))).tmod (wi64 (((wi64 ((n_1.tmod 256) + 256)).tmod 256) + 1))) - (wi64 (((wi64 ((n_1.tmod 256) + 256)).tmod 256) + 1)))))]) (H' := [⟨40, b_6, [.slice A_10 f_9.length c_11, .int .i64 f_12]⟩]) (ps := []) (by kernel_rfl) trivial ?_
      refine OpTo.go (GoO.call rfl (by kernel_rfl) (by kernel_rfl) (net_Net_Take_ok n (⟨f_9, f_12⟩ : T_net_Net) (wi64 (((wi64 ((at_2.tmod (wi64 (((wi64 ((n_1.tmod 256) + 256)).tmod 256) + 1))) + (wi64 (((wi64 ((n_1.tmod 256) + 256)).tmod 256) + 1)))).tmod (wi64 (((wi64 ((n_1.tmod 256) + 256)).tmod 256) + 1))) - (wi64 (((wi64 ((n_1.tmod 256) + 256)).tmod 256) + 1)))) b_6 A_10 c_11) [[0], [40], [41]] [(40, 1), (41, 2)] [(1, 0)] [(2, 0)] (hks := []) (bks := []) (by kernel_rfl) (by kernel_rfl) (by kernel_rfl) (.inl rfl) rfl rfl (by kernel_rfl) (by kernel_rfl) _ (fun _ _ => rfl) _ _ (fun _ _ => rfl) (fun _ _ => rfl) (fun _ _ => by kernel_rfl) (fun _ _ => by kernel_rfl) (fun r_20 x_51 => ?_))
      obtain ⟨A_21, c_22, A_23, c_24⟩ := x_51
      refine GoO.shape (env' := [(0, .int .i64 (wi64 (((wi64 ((n_1.tmod 256) + 256)).tmod 256) + 1))), (1, .int .i64 ((wi64 ((at_2.tmod (wi64 (((wi64 ((n_1.tmod 256) + 256)).tmod 256) + 1))) + (wi64 (((wi64 ((n_1.tmod 256) + 256)).tmod 256) + 1)))).tmod (wi64 (((wi64 ((n_1.tmod 256) + 256)).tmod 256) + 1)))), (5, .pointer (some ⟨b_6, 0, none⟩)), (38, .pointer (some ⟨b_6, 0, none⟩)), (41, .int .i64 (wi64 (((wi64 ((at_2.tmod (wi64 (((wi64 ((n_1.tmod 256) + 256)).tmod 256) + 1))) + (wi64 (((wi64 ((n_1.tmod 256) + 256)).tmod 256) + 1)))).tmod (wi64 (((wi64 ((n_1.tmod 256) + 256)).tmod 256) + 1))) - (wi64 (((wi64 ((n_1.tmod 256) + 256)).tmod 256) + 1))))), (42, .tuple ⟨[.agg ⟨[.int .i64 r_20.1.Kind, .int .i64 r_20.1.From, .int .i64 r_20.1.To, .int .u64 r_20.1.Term, .int .u64 r_20.1.Index, .int .u64 r_20.1.Prev, .int .u64 r_20.1.Commit, .bool r_20.1.Ok, .slice A_21 r_20.1.Entries.length c_22, .string (bs r_20.1.Data)]⟩, .bool r_20.2.1]⟩)]) (H' := [⟨40, b_6, [.slice A_23 r_20.2.2.l.length c_24, .int .i64 r_20.2.2.lost]⟩]) (B' := [Rd 0 kT_api_Entry A_21 c_22 r_20.1.Entries, Ow 41 kT_api_Letter A_23 c_24 r_20.2.2.l]) (ks := [0, 1, 5, 38, 41, 42]) (by kernel_rfl) (by kernel_rfl) (by kernel_rfl) ?_
      refine GoO.exec (is := [5, 6, 7]) (hs := [.p, .p, .p]) (rest := [8, 9, 10]) (ks := [0, 1, 5, 43, 44]) (env' := [(0, .int .i64 (wi64 (((wi64 ((n_1.tmod 256) + 256)).tmod 256) + 1))), (1, .int .i64 ((wi64 ((at_2.tmod (wi64 (((wi64 ((n_1.tmod 256) + 256)).tmod 256) + 1))) + (wi64 (((wi64 ((n_1.tmod 256) + 256)).tmod 256) + 1)))).tmod (wi64 (((wi64 ((n_1.tmod 256) + 256)).tmod 256) + 1)))), (5, .pointer (some ⟨b_6, 0, none⟩)), (43, .agg ⟨[.int .i64 r_20.1.Kind, .int .i64 r_20.1.From, .int .i64 r_20.1.To, .int .u64 r_20.1.Term, .int .u64 r_20.1.Index, .int .u64 r_20.1.Prev, .int .u64 r_20.1.Commit, .bool r_20.1.Ok, .slice A_21 r_20.1.Entries.length c_22, .string (bs r_20.1.Data)]⟩), (44, .bool r_20.2.1)]) (H' := [⟨40, b_6, [.slice A_23 r_20.2.2.l.length c_24, .int .i64 r_20.2.2.lost]⟩]) (ps := []) (by kernel_rfl) trivial ?_
      refine OpTo.go (GoO.new rfl 42 (cs := [.int .i64 0, .int .i64 0, .int .i64 0, .int .u64 0, .int .u64 0, .int .u64 0, .int .u64 0, .bool false, .slice none ([] : List T_api_Entry).length 0, .string (bs [])]) (by kernel_rfl) _ (fun _ => rfl) (fun b_25 => ?_))
      refine GoO.exec (is := [9, 10]) (hs := [.b 0, .p]) (rest := []) (ks := [0, 1, 5, 7, 8]) (env' := [(0, .int .i64 (wi64 (((wi64 ((n_1.tmod 256) + 256)).tmod 256) + 1))), (1, .int .i64 ((wi64 ((at_2.tmod (wi64 (((wi64 ((n_1.tmod 256) + 256)).tmod 256) + 1))) + (wi64 (((wi64 ((n_1.tmod 256) + 256)).tmod 256) + 1)))).tmod (wi64 (((wi64 ((n_1.tmod 256) + 256)).tmod 256) + 1)))), (5, .pointer (some ⟨b_6, 0, none⟩)), (7, .pointer (some ⟨b_25, 0, none⟩)), (8, .bool r_20.2.1)]) (H' := [⟨42, b_25, [.int .i64 r_20.1.Kind, .int .i64 r_20.1.From, .int .i64 r_20.1.To, .int .u64 r_20.1.Term, .int .u64 r_20.1.Index, .int .u64 r_20.1.Prev, .int .u64 r_20.1.Commit, .bool r_20.1.Ok, .slice A_21 r_20.1.Entries.length c_22, .string (bs r_20.1.Data)]⟩, ⟨40, b_6, [.slice A_23 r_20.2.2.l.length c_24, .int .i64 r_20.2.2.lost]⟩]) (ps := [b_25 = b_25]) (by kernel_rfl) (And.intro rfl trivial) ?_
      refine GoO.regionEnd ?_
      refine GoO.seq' c3_35e ?_
      refine GoO.seq' c3_36e ?_
      refine GoO.region' (is := [0, 1, 2, 3, 4, 5, 6, 7, 8]) c3_37e (by kernel_rfl) ?_
      refine GoO.exec (is := [0, 1, 2]) (hs := [.p, .p, .p]) (rest := [3, 4, 5, 6, 7, 8]) (ks := [0, 1, 5, 7, 47]) (env' := [(0, .int .i64 (wi64 (((wi64 ((n_1.tmod 256) + 256)).tmod 256) + 1))), (1, .int .i64 ((wi64 ((at_2.tmod (wi64 (((wi64 ((n_1.tmod 256) + 256)).tmod 256) + 1))) + (wi64 (((wi64 ((n_1.tmod 256) + 256)).tmod 256) + 1)))).tmod (wi64 (((wi64 ((n_1.tmod 256) + 256)).tmod 256) + 1)))), (5, .pointer (some ⟨b_6, 0, none⟩)), (7, .pointer (some ⟨b_25, 0, none⟩)), (47, .bool (!r_20.2.1))]) (H' := [⟨42, b_25, [.int .i64 r_20.1.Kind, .int .i64 r_20.1.From, .int .i64 r_20.1.To, .int .u64 r_20.1.Term, .int .u64 r_20.1.Index, .int .u64 r_20.1.Prev, .int .u64 r_20.1.Commit, .bool r_20.1.Ok, .slice A_21 r_20.1.Entries.length c_22, .string (bs r_20.1.Data)]⟩, ⟨40, b_6, [.slice A_23 r_20.2.2.l.length c_24, .int .i64 r_20.2.2.lost]⟩]) (ps := []) (by kernel_rfl) trivial ?_
      refine GoO.bsplit (t := 47) (by kernel_rfl) (fun h26 => ?_) (fun h26 => ?_)
      · refine GoO.exec (is := [3, 4, 5, 6, 7, 8]) (hs := [.p, .p, .p, .p, .p, .p]) (rest := []) (ks := [0, 1, 5, 53]) (env' := [(0, .int .i64 (wi64 (((wi64 ((n_1.tmod 256) + 256)).tmod 256) + 1))), (1, .int .i64 ((wi64 ((at_2.tmod (wi64 (((wi64 ((n_1.tmod 256) + 256)).tmod 256) + 1))) + (wi64 (((wi64 ((n_1.tmod 256) + 256)).tmod 256) + 1)))).tmod (wi64 (((wi64 ((n_1.tmod 256) + 256)).tmod 256) + 1)))), (5, .pointer (some ⟨b_6, 0, none⟩)), (53, .bool true)]) (H' := [⟨42, b_25, [.int .i64 r_20.1.Kind, .int .i64 r_20.1.From, .int .i64 r_20.1.To, .int .u64 r_20.1.Term, .int .u64 r_20.1.Index, .int .u64 r_20.1.Prev, .int .u64 r_20.1.Commit, .bool r_20.1.Ok, .slice A_21 r_20.1.Entries.length c_22, .string (bs r_20.1.Data)]⟩, ⟨40, b_6, [.slice A_23 r_20.2.2.l.length c_24, .int .i64 r_20.2.2.lost]⟩]) (ps := []) (by kernel_rfl) trivial ?_
        refine GoO.regionEnd ?_
        exact GoO.sub (ks := [0, 1, 5, 53]) (hk := [1]) (bk := [1]) (by kernel_rfl) (by kernel_rfl) (by kernel_rfl) (tontinelaw10_NetOrder_j0_ok n n_1 at_2 r_20 b_6 A_23 c_24 w0 S0 true)
      · refine GoO.exec (is := [3, 4, 5, 6, 7, 8]) (hs := [.p, .b 0, .p, .p, .p, .p]) (rest := []) (ks := [0, 1, 5, 53]) (env' := [(0, .int .i64 (wi64 (((wi64 ((n_1.tmod 256) + 256)).tmod 256) + 1))), (1, .int .i64 ((wi64 ((at_2.tmod (wi64 (((wi64 ((n_1.tmod 256) + 256)).tmod 256) + 1))) + (wi64 (((wi64 ((n_1.tmod 256) + 256)).tmod 256) + 1)))).tmod (wi64 (((wi64 ((n_1.tmod 256) + 256)).tmod 256) + 1)))), (5, .pointer (some ⟨b_6, 0, none⟩)), (53, .bool (r_20.1.Index != (wu64 ((wi64 ((at_2.tmod (wi64 (((wi64 ((n_1.tmod 256) + 256)).tmod 256) + 1))) + (wi64 (((wi64 ((n_1.tmod 256) + 256)).tmod 256) + 1)))).tmod (wi64 (((wi64 ((n_1.tmod 256) + 256)).tmod 256) + 1))))))]) (H' := [⟨42, b_25, [.int .i64 r_20.1.Kind, .int .i64 r_20.1.From, .int .i64 r_20.1.To, .int .u64 r_20.1.Term, .int .u64 r_20.1.Index, .int .u64 r_20.1.Prev, .int .u64 r_20.1.Commit, .bool r_20.1.Ok, .slice A_21 r_20.1.Entries.length c_22, .string (bs r_20.1.Data)]⟩, ⟨40, b_6, [.slice A_23 r_20.2.2.l.length c_24, .int .i64 r_20.2.2.lost]⟩]) (ps := [b_25 = b_25]) (by kernel_rfl) (And.intro rfl trivial) ?_
        refine GoO.regionEnd ?_
        exact GoO.sub (ks := [0, 1, 5, 53]) (hk := [1]) (bk := [1]) (by kernel_rfl) (by kernel_rfl) (by kernel_rfl) (tontinelaw10_NetOrder_j0_ok n n_1 at_2 r_20 b_6 A_23 c_24 w0 S0 (r_20.1.Index != (wu64 ((wi64 ((at_2.tmod (wi64 (((wi64 ((n_1.tmod 256) + 256)).tmod 256) + 1))) + (wi64 (((wi64 ((n_1.tmod 256) + 256)).tmod 256) + 1)))).tmod (wi64 (((wi64 ((n_1.tmod 256) + 256)).tmod 256) + 1))))))
theorem tontinelaw10_NetOrder_ok (n : Nat) (n_1 : Int) (at_2 : Int) :
    Meets Try.prog 3 [.int .i64 n_1, .int .i64 at_2] 0 [] [] [] (tontinelaw10_NetOrder.f n n_1 at_2) (tontinelaw10_NetOrder.R) := by
  refine Meets.of (c := c3_0) (n := 83) Try.func3 (by kernel_rfl) (by kernel_rfl) (by kernel_rfl) fun w0 S0 => ?_
  unfold tontinelaw10_NetOrder.f
  show GoO (tontinelaw10_NetOrder.cx w0 S0) [(0, .int .i64 n_1), (1, .int .i64 at_2)] [] [] [.code c3_0] _
  refine GoO.seq' c3_0e ?_
  refine GoO.region' (is := [0]) c3_1e (by kernel_rfl) ?_
  refine GoO.exec (is := [0]) (hs := [.p]) (rest := []) (ks := [0, 1]) (env' := [(0, .int .i64 n_1), (1, .int .i64 at_2)]) (H' := []) (ps := []) (by kernel_rfl) trivial ?_
  refine GoO.regionEnd ?_
  refine GoO.seq' c3_2e ?_
  refine GoO.seq' c3_3e ?_
  refine GoO.region' (is := [0, 1]) c3_4e (by kernel_rfl) ?_
  refine OpTo.go (GoO.call rfl (by kernel_rfl) (by kernel_rfl) (tontinelaw10_begun_ok n) [[0]] [] [] [] (hks := []) (bks := []) (by kernel_rfl) (by kernel_rfl) (by kernel_rfl) (.inl rfl) rfl rfl (by kernel_rfl) (by kernel_rfl) _ (fun _ _ => rfl) _ _ (fun _ _ => rfl) (fun _ _ => rfl) (fun _ _ => by kernel_rfl) (fun _ _ => by kernel_rfl) (fun r_3 x_53 => ?_))
  refine GoO.shape (env' := [(0, .int .i64 n_1), (1, .int .i64 at_2), (12, .bool r_3)]) (H' := []) (B' := []) (ks := [0, 1, 12]) (by kernel_rfl) (by kernel_rfl) (by kernel_rfl) ?_
  refine GoO.exec (is := [1]) (hs := [.p]) (rest := []) (ks := [0, 1, 13]) (env' := [(0, .int .i64 n_1), (1, .int .i64 at_2), (13, .bool (!r_3))]) (H' := []) (ps := []) (by kernel_rfl) trivial ?_
  refine GoO.regionEnd ?_
  refine GoO.ite' c3_5e (by kernel_rfl) (fun h4 => ?_) (fun h4 => ?_)
  · refine GoO.seq' c3_6e ?_
    refine GoO.region' (is := [0]) c3_7e (by kernel_rfl) ?_
    refine GoO.exec (is := [0]) (hs := [.p]) (rest := []) (ks := [4]) (env' := [(4, .bool false)]) (H' := []) (ps := []) (by kernel_rfl) trivial ?_
    refine GoO.regionEnd ?_
    exact GoO.ret' (h := c3_8e) (hs := []) (ps := []) (hk := []) (bk := []) Try.func3 () (by kernel_rfl) trivial (by kernel_rfl) (by kernel_rfl)
  · refine GoO.skip' c3_9e ?_
    refine GoO.seq' c3_10e ?_
    refine GoO.region' (is := [0, 1, 2, 3, 4, 5]) c3_11e (by kernel_rfl) ?_
    refine GoO.exec (is := [0, 1, 2, 3, 4, 5]) (hs := [.p, .p, .p, .p, .p, .p]) (rest := []) (ks := [0, 1]) (env' := [(0, .int .i64 (wi64 (((wi64 ((n_1.tmod 256) + 256)).tmod 256) + 1))), (1, .int .i64 at_2)]) (H' := []) (ps := [(256 : Int) ≠ 0, (256 : Int) ≠ 0]) (by kernel_rfl) (And.intro (by decide) (And.intro (by decide) trivial)) ?_
    refine GoO.regionEnd ?_
    refine GoO.seq' c3_12e ?_
    refine GoO.region' (is := [0, 1]) c3_13e (by kernel_rfl) ?_
    refine OpTo.go (GoO.call rfl (by kernel_rfl) (by kernel_rfl) (net_New_ok n) [[0]] [(40, 1), (41, 2)] [] [] (hks := []) (bks := []) (by kernel_rfl) (by kernel_rfl) (by kernel_rfl) (.inl rfl) rfl rfl (by kernel_rfl) (by kernel_rfl) _ (fun _ _ => rfl) _ _ (fun _ _ => rfl) (fun _ _ => rfl) (fun _ _ => by kernel_rfl) (fun _ _ => by kernel_rfl) (fun r_5 x_52 => ?_))
    obtain ⟨b_6, A_7, c_8⟩ := x_52
    refine GoO.shape (env' := [(0, .int .i64 (wi64 (((wi64 ((n_1.tmod 256) + 256)).tmod 256) + 1))), (1, .int .i64 at_2), (19, .pointer (some ⟨b_6, 0, none⟩))]) (H' := [⟨40, b_6, [.slice A_7 r_5.l.length c_8, .int .i64 r_5.lost]⟩]) (B' := [Ow 41 kT_api_Letter A_7 c_8 r_5.l]) (ks := [0, 1, 19]) (by kernel_rfl) (by kernel_rfl) (by kernel_rfl) ?_
    refine GoO.exec (is := [1]) (hs := [.p]) (rest := []) (ks := [0, 1, 5]) (env' := [(0, .int .i64 (wi64 (((wi64 ((n_1.tmod 256) + 256)).tmod 256) + 1))), (1, .int .i64 at_2), (5, .pointer (some ⟨b_6, 0, none⟩))]) (H' := [⟨40, b_6, [.slice A_7 r_5.l.length c_8, .int .i64 r_5.lost]⟩]) (ps := []) (by kernel_rfl) trivial ?_
    refine GoO.regionEnd ?_
    refine GoO.seq' c3_14e ?_
    refine GoO.seq' c3_15e ?_
    refine GoO.region' (is := [0, 1]) c3_16e (by kernel_rfl) ?_
    refine GoO.exec (is := [0, 1]) (hs := [.p, .p]) (rest := []) (ks := [0, 1, 5, 20, 21]) (env' := [(0, .int .i64 (wi64 (((wi64 ((n_1.tmod 256) + 256)).tmod 256) + 1))), (1, .int .i64 at_2), (5, .pointer (some ⟨b_6, 0, none⟩)), (20, .int .i64 (wi64 (((wi64 ((n_1.tmod 256) + 256)).tmod 256) + 1))), (21, .int .i64 0)]) (H' := [⟨40, b_6, [.slice A_7 r_5.l.length c_8, .int .i64 r_5.lost]⟩]) (ps := []) (by kernel_rfl) trivial ?_
    refine GoO.regionEnd ?_
    refine GoO.block' c3_17e ?_
    refine GoO.loop' c3_18e ?_
    exact GoO.sub (ks := [0, 1, 5, 20, 21]) (hk := [0]) (bk := [0]) (by kernel_rfl) (by kernel_rfl) (by kernel_rfl) (tontinelaw10_NetOrder_l0_ok n n_1 at_2 b_6 w0 S0 n r_5.l r_5.lost 0 A_7 c_8)
end Go.GL
