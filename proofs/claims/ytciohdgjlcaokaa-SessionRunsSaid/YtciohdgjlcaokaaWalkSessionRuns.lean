import Derived.Test.YtciohdgjlcaokaaWalkSessionRunsP1
import Derived.Test.YtciohdgjlcaokaaKindsT3
import Derived.Test.YtciohdgjlcaokaaProg
set_option linter.unusedVariables false
set_option linter.unusedSimpArgs false
set_option maxRecDepth 100000
namespace Go.GL
open Go Go.Proofs
theorem tontinelaw15_both_ok (n : Nat) (t_1 : T_session_Table) (m_5 : T_tontineref15_Table) (c_9 : T_tontinelaw15_Call) (b_2 : Nat) (A_3 : Option Addr) (c_4 : Nat) (b_6 : Nat) (A_7 : Option Addr) (c_8 : Nat) :
    Meets Try.prog 27 [.pointer (some ⟨b_2, 0, none⟩), .pointer (some ⟨b_6, 0, none⟩), .agg ⟨[.int .i64 c_9.Kind, .int .u64 c_9.Id, .int .u64 c_9.Seq, .int .i64 c_9.Reply.Err, .int .u64 c_9.Reply.Num, .int .u64 c_9.Reply.Extra]⟩] 4 [1, 2, 3, 4] [⟨1, b_2, [.int .u64 t_1.now, .int .u64 t_1.next, .slice A_3 t_1.rows.length c_4]⟩, ⟨3, b_6, [.int .u64 m_5.Now, .int .u64 m_5.Next, .slice A_7 m_5.Rows.length c_8]⟩] [Ow 2 kT_session_Row A_3 c_4 t_1.rows, Ow 4 kT_tontineref15_Row A_7 c_8 m_5.Rows] (tontinelaw15_both.f n t_1 m_5 c_9) (tontinelaw15_both.R b_2 A_3 c_4 b_6 A_7 c_8) := by
  refine Meets.of (c := c27_0) (n := 92) Try.func27 (by kernel_rfl) (by kernel_rfl) (by kernel_rfl) fun w0 S0 => ?_
  unfold tontinelaw15_both.f
  show GoO (tontinelaw15_both.cx b_2 A_3 c_4 b_6 A_7 c_8 w0 S0) [(0, .pointer (some ⟨b_2, 0, none⟩)), (1, .pointer (some ⟨b_6, 0, none⟩)), (2, .agg ⟨[.int .i64 c_9.Kind, .int .u64 c_9.Id, .int .u64 c_9.Seq, .int .i64 c_9.Reply.Err, .int .u64 c_9.Reply.Num, .int .u64 c_9.Reply.Extra]⟩)] [⟨1, b_2, [.int .u64 t_1.now, .int .u64 t_1.next, .slice A_3 t_1.rows.length c_4]⟩, ⟨3, b_6, [.int .u64 m_5.Now, .int .u64 m_5.Next, .slice A_7 m_5.Rows.length c_8]⟩] [Ow 2 kT_session_Row A_3 c_4 t_1.rows, Ow 4 kT_tontineref15_Row A_7 c_8 m_5.Rows] [.code c27_0] _
  refine GoO.seq' c27_0e ?_
  refine GoO.region' (is := [0, 1]) c27_1e (by kernel_rfl) ?_
  refine OpTo.go (GoO.new rfl 40 (cs := [.int .i64 c_9.Kind, .int .u64 c_9.Id, .int .u64 c_9.Seq, .int .i64 c_9.Reply.Err, .int .u64 c_9.Reply.Num, .int .u64 c_9.Reply.Extra]) (by kernel_rfl) _ (fun _ => rfl) (fun b_10 => ?_))
  refine GoO.exec (is := [1]) (hs := [.p]) (rest := []) (ks := [0, 1, 5]) (env' := [(0, .pointer (some ⟨b_2, 0, none⟩)), (1, .pointer (some ⟨b_6, 0, none⟩)), (5, .pointer (some ⟨b_10, 0, none⟩))]) (H' := [⟨40, b_10, [.int .i64 c_9.Kind, .int .u64 c_9.Id, .int .u64 c_9.Seq, .int .i64 c_9.Reply.Err, .int .u64 c_9.Reply.Num, .int .u64 c_9.Reply.Extra]⟩, ⟨1, b_2, [.int .u64 t_1.now, .int .u64 t_1.next, .slice A_3 t_1.rows.length c_4]⟩, ⟨3, b_6, [.int .u64 m_5.Now, .int .u64 m_5.Next, .slice A_7 m_5.Rows.length c_8]⟩]) (ps := []) (by kernel_rfl) trivial ?_
  refine GoO.regionEnd ?_
  refine GoO.seq' c27_2e ?_
  refine GoO.seq' c27_3e ?_
  refine GoO.region' (is := [0, 1]) c27_4e (by kernel_rfl) ?_
  refine GoO.exec (is := [0, 1]) (hs := [.p, .b 0]) (rest := []) (ks := [0, 1, 5, 16]) (env' := [(0, .pointer (some ⟨b_2, 0, none⟩)), (1, .pointer (some ⟨b_6, 0, none⟩)), (5, .pointer (some ⟨b_10, 0, none⟩)), (16, .int .i64 c_9.Kind)]) (H' := [⟨40, b_10, [.int .i64 c_9.Kind, .int .u64 c_9.Id, .int .u64 c_9.Seq, .int .i64 c_9.Reply.Err, .int .u64 c_9.Reply.Num, .int .u64 c_9.Reply.Extra]⟩, ⟨1, b_2, [.int .u64 t_1.now, .int .u64 t_1.next, .slice A_3 t_1.rows.length c_4]⟩, ⟨3, b_6, [.int .u64 m_5.Now, .int .u64 m_5.Next, .slice A_7 m_5.Rows.length c_8]⟩]) (ps := [b_10 = b_10]) (by kernel_rfl) (And.intro rfl trivial) ?_
  refine GoO.regionEnd ?_
  refine GoO.block' c27_5e ?_
  refine GoO.seq' c27_6e ?_
  refine GoO.region' (is := [0, 1]) c27_7e (by kernel_rfl) ?_
  refine GoO.exec (is := [0, 1]) (hs := [.p, .p]) (rest := []) (ks := [0, 1, 5, 16, 34]) (env' := [(0, .pointer (some ⟨b_2, 0, none⟩)), (1, .pointer (some ⟨b_6, 0, none⟩)), (5, .pointer (some ⟨b_10, 0, none⟩)), (16, .int .i64 c_9.Kind), (34, .bool (c_9.Kind == 0))]) (H' := [⟨40, b_10, [.int .i64 c_9.Kind, .int .u64 c_9.Id, .int .u64 c_9.Seq, .int .i64 c_9.Reply.Err, .int .u64 c_9.Reply.Num, .int .u64 c_9.Reply.Extra]⟩, ⟨1, b_2, [.int .u64 t_1.now, .int .u64 t_1.next, .slice A_3 t_1.rows.length c_4]⟩, ⟨3, b_6, [.int .u64 m_5.Now, .int .u64 m_5.Next, .slice A_7 m_5.Rows.length c_8]⟩]) (ps := []) (by kernel_rfl) trivial ?_
  refine GoO.regionEnd ?_
  refine GoO.ite' c27_8e (by kernel_rfl) (fun h11 => ?_) (fun h11 => ?_)
  · refine GoO.seq' c27_9e ?_
    refine GoO.region' (is := [0, 1, 2, 3]) c27_10e (by kernel_rfl) ?_
    refine GoO.exec (is := [0, 1, 2]) (hs := [.p, .p, .b 0]) (rest := [3]) (ks := [1, 5, 36, 38]) (env' := [(1, .pointer (some ⟨b_6, 0, none⟩)), (5, .pointer (some ⟨b_10, 0, none⟩)), (36, .pointer (some ⟨b_2, 0, none⟩)), (38, .int .u64 c_9.Id)]) (H' := [⟨40, b_10, [.int .i64 c_9.Kind, .int .u64 c_9.Id, .int .u64 c_9.Seq, .int .i64 c_9.Reply.Err, .int .u64 c_9.Reply.Num, .int .u64 c_9.Reply.Extra]⟩, ⟨1, b_2, [.int .u64 t_1.now, .int .u64 t_1.next, .slice A_3 t_1.rows.length c_4]⟩, ⟨3, b_6, [.int .u64 m_5.Now, .int .u64 m_5.Next, .slice A_7 m_5.Rows.length c_8]⟩]) (ps := [b_10 = b_10]) (by kernel_rfl) (And.intro rfl trivial) ?_
    refine OpTo.go (GoO.call rfl (by kernel_rfl) (by kernel_rfl) (session_Table_Clock_ok n t_1 c_9.Id b_2 A_3 c_4) [[0], [1], [2]] [(1, 1), (2, 2)] [(1, 1)] [(2, 0)] (hks := [0, 2]) (bks := [1]) (by kernel_rfl) (by kernel_rfl) (by kernel_rfl) (.inl rfl) rfl rfl (by kernel_rfl) (by kernel_rfl) _ (fun _ _ => rfl) _ _ (fun _ _ => rfl) (fun _ _ => rfl) (fun _ _ => by kernel_rfl) (fun _ _ => by kernel_rfl) (fun r_12 x_19 => ?_))
    obtain ⟨A_13, c_14⟩ := x_19
    refine GoO.shape (env' := [(1, .pointer (some ⟨b_6, 0, none⟩)), (5, .pointer (some ⟨b_10, 0, none⟩)), (36, .pointer (some ⟨b_2, 0, none⟩)), (38, .int .u64 c_9.Id), (39, .tuple ⟨[]⟩)]) (H' := [⟨1, b_2, [.int .u64 r_12.now, .int .u64 r_12.next, .slice A_13 r_12.rows.length c_14]⟩, ⟨40, b_10, [.int .i64 c_9.Kind, .int .u64 c_9.Id, .int .u64 c_9.Seq, .int .i64 c_9.Reply.Err, .int .u64 c_9.Reply.Num, .int .u64 c_9.Reply.Extra]⟩, ⟨3, b_6, [.int .u64 m_5.Now, .int .u64 m_5.Next, .slice A_7 m_5.Rows.length c_8]⟩]) (B' := [Ow 2 kT_session_Row A_13 c_14 r_12.rows, Ow 4 kT_tontineref15_Row A_7 c_8 m_5.Rows]) (ks := [1, 5, 36, 38, 39]) (by kernel_rfl) (by kernel_rfl) (by kernel_rfl) ?_
    refine GoO.regionEnd ?_
    refine GoO.region' (is := [0, 1, 2, 3]) c27_11e (by kernel_rfl) ?_
    refine GoO.exec (is := [0, 1, 2]) (hs := [.p, .p, .b 1]) (rest := [3]) (ks := [40, 42]) (env' := [(40, .pointer (some ⟨b_6, 0, none⟩)), (42, .int .u64 c_9.Id)]) (H' := [⟨1, b_2, [.int .u64 r_12.now, .int .u64 r_12.next, .slice A_13 r_12.rows.length c_14]⟩, ⟨40, b_10, [.int .i64 c_9.Kind, .int .u64 c_9.Id, .int .u64 c_9.Seq, .int .i64 c_9.Reply.Err, .int .u64 c_9.Reply.Num, .int .u64 c_9.Reply.Extra]⟩, ⟨3, b_6, [.int .u64 m_5.Now, .int .u64 m_5.Next, .slice A_7 m_5.Rows.length c_8]⟩]) (ps := [b_10 = b_10]) (by kernel_rfl) (And.intro rfl trivial) ?_
    refine OpTo.go (GoO.call rfl (by kernel_rfl) (by kernel_rfl) (tontineref15_Table_Clock_ok n m_5 c_9.Id b_6 A_7 c_8) [[0], [3], [4]] [(3, 1), (4, 2)] [(1, 2)] [(2, 1)] (hks := [0, 1]) (bks := [0]) (by kernel_rfl) (by kernel_rfl) (by kernel_rfl) (.inl rfl) rfl rfl (by kernel_rfl) (by kernel_rfl) _ (fun _ _ => rfl) _ _ (fun _ _ => rfl) (fun _ _ => rfl) (fun _ _ => by kernel_rfl) (fun _ _ => by kernel_rfl) (fun r_15 x_18 => ?_))
    obtain ⟨A_16, c_17⟩ := x_18
    refine GoO.shape (env' := [(40, .pointer (some ⟨b_6, 0, none⟩)), (42, .int .u64 c_9.Id), (43, .tuple ⟨[]⟩)]) (H' := [⟨3, b_6, [.int .u64 r_15.Now, .int .u64 r_15.Next, .slice A_16 r_15.Rows.length c_17]⟩, ⟨1, b_2, [.int .u64 r_12.now, .int .u64 r_12.next, .slice A_13 r_12.rows.length c_14]⟩, ⟨40, b_10, [.int .i64 c_9.Kind, .int .u64 c_9.Id, .int .u64 c_9.Seq, .int .i64 c_9.Reply.Err, .int .u64 c_9.Reply.Num, .int .u64 c_9.Reply.Extra]⟩]) (B' := [Ow 4 kT_tontineref15_Row A_16 c_17 r_15.Rows, Ow 2 kT_session_Row A_13 c_14 r_12.rows]) (ks := [40, 42, 43]) (by kernel_rfl) (by kernel_rfl) (by kernel_rfl) ?_
    refine GoO.regionEnd ?_
    refine GoO.inBlock ?_
    refine GoO.seq' c27_35e ?_
    refine GoO.region' (is := [0]) c27_36e (by kernel_rfl) ?_
    refine GoO.exec (is := [0]) (hs := [.p]) (rest := []) (ks := [6]) (env' := [(6, .bool true)]) (H' := [⟨3, b_6, [.int .u64 r_15.Now, .int .u64 r_15.Next, .slice A_16 r_15.Rows.length c_17]⟩, ⟨1, b_2, [.int .u64 r_12.now, .int .u64 r_12.next, .slice A_13 r_12.rows.length c_14]⟩, ⟨40, b_10, [.int .i64 c_9.Kind, .int .u64 c_9.Id, .int .u64 c_9.Seq, .int .i64 c_9.Reply.Err, .int .u64 c_9.Reply.Num, .int .u64 c_9.Reply.Extra]⟩]) (ps := []) (by kernel_rfl) trivial ?_
    refine GoO.regionEnd ?_
    exact GoO.ret' (h := c27_37e) (hs := []) (ps := []) (hk := [1, 0]) (bk := [1, 0]) Try.func27 (⟨A_13, c_14, A_16, c_17⟩ : Option Addr × Nat × Option Addr × Nat) (by kernel_rfl) trivial (by kernel_rfl) (by kernel_rfl)
  · refine GoO.seq' c27_12e ?_
    refine GoO.region' (is := [0, 1]) c27_13e (by kernel_rfl) ?_
    refine GoO.exec (is := [0, 1]) (hs := [.p, .p]) (rest := []) (ks := [0, 1, 5, 16, 44]) (env' := [(0, .pointer (some ⟨b_2, 0, none⟩)), (1, .pointer (some ⟨b_6, 0, none⟩)), (5, .pointer (some ⟨b_10, 0, none⟩)), (16, .int .i64 c_9.Kind), (44, .bool (c_9.Kind == 1))]) (H' := [⟨40, b_10, [.int .i64 c_9.Kind, .int .u64 c_9.Id, .int .u64 c_9.Seq, .int .i64 c_9.Reply.Err, .int .u64 c_9.Reply.Num, .int .u64 c_9.Reply.Extra]⟩, ⟨1, b_2, [.int .u64 t_1.now, .int .u64 t_1.next, .slice A_3 t_1.rows.length c_4]⟩, ⟨3, b_6, [.int .u64 m_5.Now, .int .u64 m_5.Next, .slice A_7 m_5.Rows.length c_8]⟩]) (ps := []) (by kernel_rfl) trivial ?_
    refine GoO.regionEnd ?_
    refine GoO.ite' c27_14e (by kernel_rfl) (fun h20 => ?_) (fun h20 => ?_)
    · refine GoO.seq' c27_15e ?_
      refine GoO.region' (is := [0, 1, 2, 3, 4, 5, 6]) c27_16e (by kernel_rfl) ?_
      refine GoO.exec (is := [0]) (hs := [.p]) (rest := [1, 2, 3, 4, 5, 6]) (ks := [1, 47]) (env' := [(1, .pointer (some ⟨b_6, 0, none⟩)), (47, .pointer (some ⟨b_2, 0, none⟩))]) (H' := [⟨40, b_10, [.int .i64 c_9.Kind, .int .u64 c_9.Id, .int .u64 c_9.Seq, .int .i64 c_9.Reply.Err, .int .u64 c_9.Reply.Num, .int .u64 c_9.Reply.Extra]⟩, ⟨1, b_2, [.int .u64 t_1.now, .int .u64 t_1.next, .slice A_3 t_1.rows.length c_4]⟩, ⟨3, b_6, [.int .u64 m_5.Now, .int .u64 m_5.Next, .slice A_7 m_5.Rows.length c_8]⟩]) (ps := []) (by kernel_rfl) trivial ?_
      refine OpTo.go (GoO.call rfl (by kernel_rfl) (by kernel_rfl) (session_Table_Register_ok n t_1 b_2 A_3 c_4) [[0], [1], [2]] [(1, 1), (2, 2)] [(1, 1)] [(2, 0)] (hks := [0, 2]) (bks := [1]) (by kernel_rfl) (by kernel_rfl) (by kernel_rfl) (.inl rfl) rfl rfl (by kernel_rfl) (by kernel_rfl) _ (fun _ _ => rfl) _ _ (fun _ _ => rfl) (fun _ _ => rfl) (fun _ _ => by kernel_rfl) (fun _ _ => by kernel_rfl) (fun r_21 x_29 => ?_))
      obtain ⟨A_22, c_23⟩ := x_29
      refine GoO.shape (env' := [(1, .pointer (some ⟨b_6, 0, none⟩)), (47, .pointer (some ⟨b_2, 0, none⟩)), (48, .tuple ⟨[.int .u64 r_21.1, .int .i64 r_21.2.1]⟩)]) (H' := [⟨1, b_2, [.int .u64 r_21.2.2.now, .int .u64 r_21.2.2.next, .slice A_22 r_21.2.2.rows.length c_23]⟩, ⟨40, b_10, [.int .i64 c_9.Kind, .int .u64 c_9.Id, .int .u64 c_9.Seq, .int .i64 c_9.Reply.Err, .int .u64 c_9.Reply.Num, .int .u64 c_9.Reply.Extra]⟩, ⟨3, b_6, [.int .u64 m_5.Now, .int .u64 m_5.Next, .slice A_7 m_5.Rows.length c_8]⟩]) (B' := [Ow 2 kT_session_Row A_22 c_23 r_21.2.2.rows, Ow 4 kT_tontineref15_Row A_7 c_8 m_5.Rows]) (ks := [1, 47, 48]) (by kernel_rfl) (by kernel_rfl) (by kernel_rfl) ?_
      refine GoO.exec (is := [2, 3, 4, 5, 6]) (hs := [.p, .p, .p, .p, .p]) (rest := []) (ks := [1, 7, 8]) (env' := [(1, .pointer (some ⟨b_6, 0, none⟩)), (7, .int .u64 r_21.1), (8, .int .i64 r_21.2.1)]) (H' := [⟨1, b_2, [.int .u64 r_21.2.2.now, .int .u64 r_21.2.2.next, .slice A_22 r_21.2.2.rows.length c_23]⟩, ⟨40, b_10, [.int .i64 c_9.Kind, .int .u64 c_9.Id, .int .u64 c_9.Seq, .int .i64 c_9.Reply.Err, .int .u64 c_9.Reply.Num, .int .u64 c_9.Reply.Extra]⟩, ⟨3, b_6, [.int .u64 m_5.Now, .int .u64 m_5.Next, .slice A_7 m_5.Rows.length c_8]⟩]) (ps := []) (by kernel_rfl) trivial ?_
      refine GoO.regionEnd ?_
      refine GoO.seq' c27_17e ?_
      refine GoO.region' (is := [0, 1, 2, 3, 4, 5, 6]) c27_18e (by kernel_rfl) ?_
      refine GoO.exec (is := [0]) (hs := [.p]) (rest := [1, 2, 3, 4, 5, 6]) (ks := [7, 8, 52]) (env' := [(7, .int .u64 r_21.1), (8, .int .i64 r_21.2.1), (52, .pointer (some ⟨b_6, 0, none⟩))]) (H' := [⟨1, b_2, [.int .u64 r_21.2.2.now, .int .u64 r_21.2.2.next, .slice A_22 r_21.2.2.rows.length c_23]⟩, ⟨40, b_10, [.int .i64 c_9.Kind, .int .u64 c_9.Id, .int .u64 c_9.Seq, .int .i64 c_9.Reply.Err, .int .u64 c_9.Reply.Num, .int .u64 c_9.Reply.Extra]⟩, ⟨3, b_6, [.int .u64 m_5.Now, .int .u64 m_5.Next, .slice A_7 m_5.Rows.length c_8]⟩]) (ps := []) (by kernel_rfl) trivial ?_
      refine OpTo.go (GoO.call rfl (by kernel_rfl) (by kernel_rfl) (tontineref15_Table_Register_ok n m_5 b_6 A_7 c_8) [[0], [3], [4]] [(3, 1), (4, 2)] [(1, 2)] [(2, 1)] (hks := [0, 1]) (bks := [0]) (by kernel_rfl) (by kernel_rfl) (by kernel_rfl) (.inl rfl) rfl rfl (by kernel_rfl) (by kernel_rfl) _ (fun _ _ => rfl) _ _ (fun _ _ => rfl) (fun _ _ => rfl) (fun _ _ => by kernel_rfl) (fun _ _ => by kernel_rfl) (fun r_24 x_28 => ?_))
      obtain ⟨A_25, c_26⟩ := x_28
      refine GoO.shape (env' := [(7, .int .u64 r_21.1), (8, .int .i64 r_21.2.1), (52, .pointer (some ⟨b_6, 0, none⟩)), (53, .tuple ⟨[.int .u64 r_24.1, .int .i64 r_24.2.1]⟩)]) (H' := [⟨3, b_6, [.int .u64 r_24.2.2.Now, .int .u64 r_24.2.2.Next, .slice A_25 r_24.2.2.Rows.length c_26]⟩, ⟨1, b_2, [.int .u64 r_21.2.2.now, .int .u64 r_21.2.2.next, .slice A_22 r_21.2.2.rows.length c_23]⟩, ⟨40, b_10, [.int .i64 c_9.Kind, .int .u64 c_9.Id, .int .u64 c_9.Seq, .int .i64 c_9.Reply.Err, .int .u64 c_9.Reply.Num, .int .u64 c_9.Reply.Extra]⟩]) (B' := [Ow 4 kT_tontineref15_Row A_25 c_26 r_24.2.2.Rows, Ow 2 kT_session_Row A_22 c_23 r_21.2.2.rows]) (ks := [7, 8, 52, 53]) (by kernel_rfl) (by kernel_rfl) (by kernel_rfl) ?_
      refine GoO.exec (is := [2, 3, 4, 5, 6]) (hs := [.p, .p, .p, .p, .p]) (rest := []) (ks := [7, 8, 9, 10]) (env' := [(7, .int .u64 r_21.1), (8, .int .i64 r_21.2.1), (9, .int .u64 r_24.1), (10, .int .i64 r_24.2.1)]) (H' := [⟨3, b_6, [.int .u64 r_24.2.2.Now, .int .u64 r_24.2.2.Next, .slice A_25 r_24.2.2.Rows.length c_26]⟩, ⟨1, b_2, [.int .u64 r_21.2.2.now, .int .u64 r_21.2.2.next, .slice A_22 r_21.2.2.rows.length c_23]⟩, ⟨40, b_10, [.int .i64 c_9.Kind, .int .u64 c_9.Id, .int .u64 c_9.Seq, .int .i64 c_9.Reply.Err, .int .u64 c_9.Reply.Num, .int .u64 c_9.Reply.Extra]⟩]) (ps := []) (by kernel_rfl) trivial ?_
      refine GoO.regionEnd ?_
      refine GoO.seq' c27_19e ?_
      refine GoO.region' (is := [0, 1, 2, 3, 4, 5, 6, 7, 8]) c27_20e (by kernel_rfl) ?_
      refine GoO.exec (is := [0, 1, 2, 3]) (hs := [.p, .p, .p, .p]) (rest := [4, 5, 6, 7, 8]) (ks := [8, 10, 59]) (env' := [(8, .int .i64 r_21.2.1), (10, .int .i64 r_24.2.1), (59, .bool (r_21.1 == r_24.1))]) (H' := [⟨3, b_6, [.int .u64 r_24.2.2.Now, .int .u64 r_24.2.2.Next, .slice A_25 r_24.2.2.Rows.length c_26]⟩, ⟨1, b_2, [.int .u64 r_21.2.2.now, .int .u64 r_21.2.2.next, .slice A_22 r_21.2.2.rows.length c_23]⟩, ⟨40, b_10, [.int .i64 c_9.Kind, .int .u64 c_9.Id, .int .u64 c_9.Seq, .int .i64 c_9.Reply.Err, .int .u64 c_9.Reply.Num, .int .u64 c_9.Reply.Extra]⟩]) (ps := []) (by kernel_rfl) trivial ?_
      refine GoO.bsplit (t := 59) (by kernel_rfl) (fun h27 => ?_) (fun h27 => ?_)
      · refine GoO.exec (is := [4, 5, 6, 7, 8]) (hs := [.p, .p, .p, .p, .p]) (rest := []) (ks := [6]) (env' := [(6, .bool (r_21.2.1 == r_24.2.1))]) (H' := [⟨3, b_6, [.int .u64 r_24.2.2.Now, .int .u64 r_24.2.2.Next, .slice A_25 r_24.2.2.Rows.length c_26]⟩, ⟨1, b_2, [.int .u64 r_21.2.2.now, .int .u64 r_21.2.2.next, .slice A_22 r_21.2.2.rows.length c_23]⟩, ⟨40, b_10, [.int .i64 c_9.Kind, .int .u64 c_9.Id, .int .u64 c_9.Seq, .int .i64 c_9.Reply.Err, .int .u64 c_9.Reply.Num, .int .u64 c_9.Reply.Extra]⟩]) (ps := []) (by kernel_rfl) trivial ?_
        refine GoO.regionEnd ?_
        exact GoO.ret' (h := c27_21e) (hs := []) (ps := []) (hk := [1, 0]) (bk := [1, 0]) Try.func27 (⟨A_22, c_23, A_25, c_26⟩ : Option Addr × Nat × Option Addr × Nat) (by kernel_rfl) trivial (by kernel_rfl) (by kernel_rfl)
      · refine GoO.exec (is := [4, 5, 6, 7, 8]) (hs := [.p, .p, .p, .p, .p]) (rest := []) (ks := [6]) (env' := [(6, .bool false)]) (H' := [⟨3, b_6, [.int .u64 r_24.2.2.Now, .int .u64 r_24.2.2.Next, .slice A_25 r_24.2.2.Rows.length c_26]⟩, ⟨1, b_2, [.int .u64 r_21.2.2.now, .int .u64 r_21.2.2.next, .slice A_22 r_21.2.2.rows.length c_23]⟩, ⟨40, b_10, [.int .i64 c_9.Kind, .int .u64 c_9.Id, .int .u64 c_9.Seq, .int .i64 c_9.Reply.Err, .int .u64 c_9.Reply.Num, .int .u64 c_9.Reply.Extra]⟩]) (ps := []) (by kernel_rfl) trivial ?_
        refine GoO.regionEnd ?_
        exact GoO.ret' (h := c27_21e) (hs := []) (ps := []) (hk := [1, 0]) (bk := [1, 0]) Try.func27 (⟨A_22, c_23, A_25, c_26⟩ : Option Addr × Nat × Option Addr × Nat) (by kernel_rfl) trivial (by kernel_rfl) (by kernel_rfl)
    · refine GoO.seq' c27_22e ?_
      refine GoO.region' (is := [0, 1]) c27_23e (by kernel_rfl) ?_
      refine GoO.exec (is := [0, 1]) (hs := [.p, .p]) (rest := []) (ks := [0, 1, 5, 64]) (env' := [(0, .pointer (some ⟨b_2, 0, none⟩)), (1, .pointer (some ⟨b_6, 0, none⟩)), (5, .pointer (some ⟨b_10, 0, none⟩)), (64, .bool (c_9.Kind == 2))]) (H' := [⟨40, b_10, [.int .i64 c_9.Kind, .int .u64 c_9.Id, .int .u64 c_9.Seq, .int .i64 c_9.Reply.Err, .int .u64 c_9.Reply.Num, .int .u64 c_9.Reply.Extra]⟩, ⟨1, b_2, [.int .u64 t_1.now, .int .u64 t_1.next, .slice A_3 t_1.rows.length c_4]⟩, ⟨3, b_6, [.int .u64 m_5.Now, .int .u64 m_5.Next, .slice A_7 m_5.Rows.length c_8]⟩]) (ps := []) (by kernel_rfl) trivial ?_
      refine GoO.regionEnd ?_
      refine GoO.ite' c27_24e (by kernel_rfl) (fun h30 => ?_) (fun h30 => ?_)
      · refine GoO.seq' c27_25e ?_
        refine GoO.region' (is := [0, 1, 2, 3, 4, 5, 6, 7, 8, 9, 10, 11]) c27_26e (by kernel_rfl) ?_
        refine GoO.exec (is := [0, 1, 2, 3, 4]) (hs := [.p, .p, .b 0, .p, .b 0]) (rest := [5, 6, 7, 8, 9, 10, 11]) (ks := [1, 5, 67, 69, 71]) (env' := [(1, .pointer (some ⟨b_6, 0, none⟩)), (5, .pointer (some ⟨b_10, 0, none⟩)), (67, .pointer (some ⟨b_2, 0, none⟩)), (69, .int .u64 c_9.Id), (71, .int .u64 c_9.Seq)]) (H' := [⟨40, b_10, [.int .i64 c_9.Kind, .int .u64 c_9.Id, .int .u64 c_9.Seq, .int .i64 c_9.Reply.Err, .int .u64 c_9.Reply.Num, .int .u64 c_9.Reply.Extra]⟩, ⟨1, b_2, [.int .u64 t_1.now, .int .u64 t_1.next, .slice A_3 t_1.rows.length c_4]⟩, ⟨3, b_6, [.int .u64 m_5.Now, .int .u64 m_5.Next, .slice A_7 m_5.Rows.length c_8]⟩]) (ps := [b_10 = b_10, b_10 = b_10]) (by kernel_rfl) (And.intro rfl (And.intro rfl trivial)) ?_
        refine OpTo.go (GoO.call rfl (by kernel_rfl) (by kernel_rfl) (session_Table_Begin_ok n t_1 c_9.Id c_9.Seq b_2 A_3 c_4) [[0], [1], [2]] [(1, 1), (2, 2)] [(1, 1)] [(2, 0)] (hks := [0, 2]) (bks := [1]) (by kernel_rfl) (by kernel_rfl) (by kernel_rfl) (.inl rfl) rfl rfl (by kernel_rfl) (by kernel_rfl) _ (fun _ _ => rfl) _ _ (fun _ _ => rfl) (fun _ _ => rfl) (fun _ _ => by kernel_rfl) (fun _ _ => by kernel_rfl) (fun r_31 x_41 => ?_))
        obtain ⟨A_32, c_33⟩ := x_41
        refine GoO.shape (env' := [(1, .pointer (some ⟨b_6, 0, none⟩)), (5, .pointer (some ⟨b_10, 0, none⟩)), (67, .pointer (some ⟨b_2, 0, none⟩)), (69, .int .u64 c_9.Id), (71, .int .u64 c_9.Seq), (72, .tuple ⟨[.agg ⟨[.int .i64 r_31.1.Err, .int .u64 r_31.1.Num, .int .u64 r_31.1.Extra]⟩, .bool r_31.2.1]⟩)]) (H' := [⟨1, b_2, [.int .u64 r_31.2.2.now, .int .u64 r_31.2.2.next, .slice A_32 r_31.2.2.rows.length c_33]⟩, ⟨40, b_10, [.int .i64 c_9.Kind, .int .u64 c_9.Id, .int .u64 c_9.Seq, .int .i64 c_9.Reply.Err, .int .u64 c_9.Reply.Num, .int .u64 c_9.Reply.Extra]⟩, ⟨3, b_6, [.int .u64 m_5.Now, .int .u64 m_5.Next, .slice A_7 m_5.Rows.length c_8]⟩]) (B' := [Ow 2 kT_session_Row A_32 c_33 r_31.2.2.rows, Ow 4 kT_tontineref15_Row A_7 c_8 m_5.Rows]) (ks := [1, 5, 67, 69, 71, 72]) (by kernel_rfl) (by kernel_rfl) (by kernel_rfl) ?_
        refine GoO.exec (is := [6, 7, 8]) (hs := [.p, .p, .p]) (rest := [9, 10, 11]) (ks := [1, 5, 73, 74]) (env' := [(1, .pointer (some ⟨b_6, 0, none⟩)), (5, .pointer (some ⟨b_10, 0, none⟩)), (73, .agg ⟨[.int .i64 r_31.1.Err, .int .u64 r_31.1.Num, .int .u64 r_31.1.Extra]⟩), (74, .bool r_31.2.1)]) (H' := [⟨1, b_2, [.int .u64 r_31.2.2.now, .int .u64 r_31.2.2.next, .slice A_32 r_31.2.2.rows.length c_33]⟩, ⟨40, b_10, [.int .i64 c_9.Kind, .int .u64 c_9.Id, .int .u64 c_9.Seq, .int .i64 c_9.Reply.Err, .int .u64 c_9.Reply.Num, .int .u64 c_9.Reply.Extra]⟩, ⟨3, b_6, [.int .u64 m_5.Now, .int .u64 m_5.Next, .slice A_7 m_5.Rows.length c_8]⟩]) (ps := []) (by kernel_rfl) trivial ?_
        refine OpTo.go (GoO.new rfl 41 (cs := [.int .i64 0, .int .u64 0, .int .u64 0]) (by kernel_rfl) _ (fun _ => rfl) (fun b_34 => ?_))
        refine GoO.exec (is := [10, 11]) (hs := [.b 0, .p]) (rest := []) (ks := [1, 5, 11, 12]) (env' := [(1, .pointer (some ⟨b_6, 0, none⟩)), (5, .pointer (some ⟨b_10, 0, none⟩)), (11, .pointer (some ⟨b_34, 0, none⟩)), (12, .bool r_31.2.1)]) (H' := [⟨41, b_34, [.int .i64 r_31.1.Err, .int .u64 r_31.1.Num, .int .u64 r_31.1.Extra]⟩, ⟨1, b_2, [.int .u64 r_31.2.2.now, .int .u64 r_31.2.2.next, .slice A_32 r_31.2.2.rows.length c_33]⟩, ⟨40, b_10, [.int .i64 c_9.Kind, .int .u64 c_9.Id, .int .u64 c_9.Seq, .int .i64 c_9.Reply.Err, .int .u64 c_9.Reply.Num, .int .u64 c_9.Reply.Extra]⟩, ⟨3, b_6, [.int .u64 m_5.Now, .int .u64 m_5.Next, .slice A_7 m_5.Rows.length c_8]⟩]) (ps := [b_34 = b_34]) (by kernel_rfl) (And.intro rfl trivial) ?_
        refine GoO.regionEnd ?_
        refine GoO.seq' c27_27e ?_
        refine GoO.region' (is := [0, 1, 2, 3, 4, 5, 6, 7, 8, 9, 10, 11]) c27_28e (by kernel_rfl) ?_
        refine GoO.exec (is := [0, 1, 2, 3, 4]) (hs := [.p, .p, .b 2, .p, .b 2]) (rest := [5, 6, 7, 8, 9, 10, 11]) (ks := [11, 12, 76, 78, 80]) (env' := [(11, .pointer (some ⟨b_34, 0, none⟩)), (12, .bool r_31.2.1), (76, .pointer (some ⟨b_6, 0, none⟩)), (78, .int .u64 c_9.Id), (80, .int .u64 c_9.Seq)]) (H' := [⟨41, b_34, [.int .i64 r_31.1.Err, .int .u64 r_31.1.Num, .int .u64 r_31.1.Extra]⟩, ⟨1, b_2, [.int .u64 r_31.2.2.now, .int .u64 r_31.2.2.next, .slice A_32 r_31.2.2.rows.length c_33]⟩, ⟨40, b_10, [.int .i64 c_9.Kind, .int .u64 c_9.Id, .int .u64 c_9.Seq, .int .i64 c_9.Reply.Err, .int .u64 c_9.Reply.Num, .int .u64 c_9.Reply.Extra]⟩, ⟨3, b_6, [.int .u64 m_5.Now, .int .u64 m_5.Next, .slice A_7 m_5.Rows.length c_8]⟩]) (ps := [b_10 = b_10, b_10 = b_10]) (by kernel_rfl) (And.intro rfl (And.intro rfl trivial)) ?_
        refine OpTo.go (GoO.call rfl (by kernel_rfl) (by kernel_rfl) (tontineref15_Table_Begin_ok n m_5 c_9.Id c_9.Seq b_6 A_7 c_8) [[0], [3], [4]] [(3, 1), (4, 2)] [(1, 3)] [(2, 1)] (hks := [0, 1, 2]) (bks := [0]) (by kernel_rfl) (by kernel_rfl) (by kernel_rfl) (.inl rfl) rfl rfl (by kernel_rfl) (by kernel_rfl) _ (fun _ _ => rfl) _ _ (fun _ _ => rfl) (fun _ _ => rfl) (fun _ _ => by kernel_rfl) (fun _ _ => by kernel_rfl) (fun r_35 x_40 => ?_))
        obtain ⟨A_36, c_37⟩ := x_40
        refine GoO.shape (env' := [(11, .pointer (some ⟨b_34, 0, none⟩)), (12, .bool r_31.2.1), (76, .pointer (some ⟨b_6, 0, none⟩)), (78, .int .u64 c_9.Id), (80, .int .u64 c_9.Seq), (81, .tuple ⟨[.agg ⟨[.int .i64 r_35.1.Err, .int .u64 r_35.1.Num, .int .u64 r_35.1.Extra]⟩, .bool r_35.2.1]⟩)]) (H' := [⟨3, b_6, [.int .u64 r_35.2.2.Now, .int .u64 r_35.2.2.Next, .slice A_36 r_35.2.2.Rows.length c_37]⟩, ⟨41, b_34, [.int .i64 r_31.1.Err, .int .u64 r_31.1.Num, .int .u64 r_31.1.Extra]⟩, ⟨1, b_2, [.int .u64 r_31.2.2.now, .int .u64 r_31.2.2.next, .slice A_32 r_31.2.2.rows.length c_33]⟩, ⟨40, b_10, [.int .i64 c_9.Kind, .int .u64 c_9.Id, .int .u64 c_9.Seq, .int .i64 c_9.Reply.Err, .int .u64 c_9.Reply.Num, .int .u64 c_9.Reply.Extra]⟩]) (B' := [Ow 4 kT_tontineref15_Row A_36 c_37 r_35.2.2.Rows, Ow 2 kT_session_Row A_32 c_33 r_31.2.2.rows]) (ks := [11, 12, 76, 78, 80, 81]) (by kernel_rfl) (by kernel_rfl) (by kernel_rfl) ?_
        refine GoO.exec (is := [6, 7, 8]) (hs := [.p, .p, .p]) (rest := [9, 10, 11]) (ks := [11, 12, 82, 83]) (env' := [(11, .pointer (some ⟨b_34, 0, none⟩)), (12, .bool r_31.2.1), (82, .agg ⟨[.int .i64 r_35.1.Err, .int .u64 r_35.1.Num, .int .u64 r_35.1.Extra]⟩), (83, .bool r_35.2.1)]) (H' := [⟨3, b_6, [.int .u64 r_35.2.2.Now, .int .u64 r_35.2.2.Next, .slice A_36 r_35.2.2.Rows.length c_37]⟩, ⟨41, b_34, [.int .i64 r_31.1.Err, .int .u64 r_31.1.Num, .int .u64 r_31.1.Extra]⟩, ⟨1, b_2, [.int .u64 r_31.2.2.now, .int .u64 r_31.2.2.next, .slice A_32 r_31.2.2.rows.length c_33]⟩, ⟨40, b_10, [.int .i64 c_9.Kind, .int .u64 c_9.Id, .int .u64 c_9.Seq, .int .i64 c_9.Reply.Err, .int .u64 c_9.Reply.Num, .int .u64 c_9.Reply.Extra]⟩]) (ps := []) (by kernel_rfl) trivial ?_
        refine OpTo.go (GoO.new rfl 42 (cs := [.int .i64 0, .int .u64 0, .int .u64 0]) (by kernel_rfl) _ (fun _ => rfl) (fun b_38 => ?_))
        refine GoO.exec (is := [10, 11]) (hs := [.b 0, .p]) (rest := []) (ks := [11, 12, 13, 14]) (env' := [(11, .pointer (some ⟨b_34, 0, none⟩)), (12, .bool r_31.2.1), (13, .pointer (some ⟨b_38, 0, none⟩)), (14, .bool r_35.2.1)]) (H' := [⟨42, b_38, [.int .i64 r_35.1.Err, .int .u64 r_35.1.Num, .int .u64 r_35.1.Extra]⟩, ⟨3, b_6, [.int .u64 r_35.2.2.Now, .int .u64 r_35.2.2.Next, .slice A_36 r_35.2.2.Rows.length c_37]⟩, ⟨41, b_34, [.int .i64 r_31.1.Err, .int .u64 r_31.1.Num, .int .u64 r_31.1.Extra]⟩, ⟨1, b_2, [.int .u64 r_31.2.2.now, .int .u64 r_31.2.2.next, .slice A_32 r_31.2.2.rows.length c_33]⟩, ⟨40, b_10, [.int .i64 c_9.Kind, .int .u64 c_9.Id, .int .u64 c_9.Seq, .int .i64 c_9.Reply.Err, .int .u64 c_9.Reply.Num, .int .u64 c_9.Reply.Extra]⟩]) (ps := [b_38 = b_38]) (by kernel_rfl) (And.intro rfl trivial) ?_
        refine GoO.regionEnd ?_
        refine GoO.seq' c27_29e ?_
        refine GoO.region' (is := [0, 1, 2, 3, 4, 5, 6, 7, 8]) c27_30e (by kernel_rfl) ?_
        refine GoO.exec (is := [0, 1, 2, 3]) (hs := [.b 2, .b 0, .p, .p]) (rest := [4, 5, 6, 7, 8]) (ks := [12, 14, 87]) (env' := [(12, .bool r_31.2.1), (14, .bool r_35.2.1), (87, .bool ((r_31.1.Err == r_35.1.Err) && ((r_31.1.Num == r_35.1.Num) && ((r_31.1.Extra == r_35.1.Extra) && true))))]) (H' := [⟨42, b_38, [.int .i64 r_35.1.Err, .int .u64 r_35.1.Num, .int .u64 r_35.1.Extra]⟩, ⟨3, b_6, [.int .u64 r_35.2.2.Now, .int .u64 r_35.2.2.Next, .slice A_36 r_35.2.2.Rows.length c_37]⟩, ⟨41, b_34, [.int .i64 r_31.1.Err, .int .u64 r_31.1.Num, .int .u64 r_31.1.Extra]⟩, ⟨1, b_2, [.int .u64 r_31.2.2.now, .int .u64 r_31.2.2.next, .slice A_32 r_31.2.2.rows.length c_33]⟩, ⟨40, b_10, [.int .i64 c_9.Kind, .int .u64 c_9.Id, .int .u64 c_9.Seq, .int .i64 c_9.Reply.Err, .int .u64 c_9.Reply.Num, .int .u64 c_9.Reply.Extra]⟩]) (ps := [b_34 = b_34, b_38 = b_38]) (by kernel_rfl) (And.intro rfl (And.intro rfl trivial)) ?_
        refine GoO.bsplit (t := 87) (by kernel_rfl) (fun h39 => ?_) (fun h39 => ?_)
        · refine GoO.exec (is := [4, 5, 6, 7, 8]) (hs := [.p, .p, .p, .p, .p]) (rest := []) (ks := [6]) (env' := [(6, .bool (r_31.2.1 == r_35.2.1))]) (H' := [⟨42, b_38, [.int .i64 r_35.1.Err, .int .u64 r_35.1.Num, .int .u64 r_35.1.Extra]⟩, ⟨3, b_6, [.int .u64 r_35.2.2.Now, .int .u64 r_35.2.2.Next, .slice A_36 r_35.2.2.Rows.length c_37]⟩, ⟨41, b_34, [.int .i64 r_31.1.Err, .int .u64 r_31.1.Num, .int .u64 r_31.1.Extra]⟩, ⟨1, b_2, [.int .u64 r_31.2.2.now, .int .u64 r_31.2.2.next, .slice A_32 r_31.2.2.rows.length c_33]⟩, ⟨40, b_10, [.int .i64 c_9.Kind, .int .u64 c_9.Id, .int .u64 c_9.Seq, .int .i64 c_9.Reply.Err, .int .u64 c_9.Reply.Num, .int .u64 c_9.Reply.Extra]⟩]) (ps := []) (by kernel_rfl) trivial ?_
          refine GoO.regionEnd ?_
          exact GoO.ret' (h := c27_31e) (hs := []) (ps := []) (hk := [3, 1]) (bk := [1, 0]) Try.func27 (⟨A_32, c_33, A_36, c_37⟩ : Option Addr × Nat × Option Addr × Nat) (by kernel_rfl) trivial (by kernel_rfl) (by kernel_rfl)
        · refine GoO.exec (is := [4, 5, 6, 7, 8]) (hs := [.p, .p, .p, .p, .p]) (rest := []) (ks := [6]) (env' := [(6, .bool false)]) (H' := [⟨42, b_38, [.int .i64 r_35.1.Err, .int .u64 r_35.1.Num, .int .u64 r_35.1.Extra]⟩, ⟨3, b_6, [.int .u64 r_35.2.2.Now, .int .u64 r_35.2.2.Next, .slice A_36 r_35.2.2.Rows.length c_37]⟩, ⟨41, b_34, [.int .i64 r_31.1.Err, .int .u64 r_31.1.Num, .int .u64 r_31.1.Extra]⟩, ⟨1, b_2, [.int .u64 r_31.2.2.now, .int .u64 r_31.2.2.next, .slice A_32 r_31.2.2.rows.length c_33]⟩, ⟨40, b_10, [.int .i64 c_9.Kind, .int .u64 c_9.Id, .int .u64 c_9.Seq, .int .i64 c_9.Reply.Err, .int .u64 c_9.Reply.Num, .int .u64 c_9.Reply.Extra]⟩]) (ps := []) (by kernel_rfl) trivial ?_
          refine GoO.regionEnd ?_
          exact GoO.ret' (h := c27_31e) (hs := []) (ps := []) (hk := [3, 1]) (bk := [1, 0]) Try.func27 (⟨A_32, c_33, A_36, c_37⟩ : Option Addr × Nat × Option Addr × Nat) (by kernel_rfl) trivial (by kernel_rfl) (by kernel_rfl)
      · refine GoO.seq' c27_32e ?_
        refine GoO.draw c27_33e (by kernel_rfl) [17] [⟨40, b_10, [.int .i64 c_9.Kind, .int .u64 c_9.Id, .int .u64 c_9.Seq, .int .i64 c_9.Reply.Err, .int .u64 c_9.Reply.Num, .int .u64 c_9.Reply.Extra]⟩] [] (n := 18) (by kernel_rfl) ?_
        simp only [List.replicate]
        refine GoF.take [0, 1, 2, 3, 4, 5, 6, 8, 9, 10, 11, 12, 13, 14] [.p, .p, .b 0, .p, .b 0, .p, .b 0, .p, .p, .b 0, .p, .b 0, .p, .b 0] (ks := [17, 19, 21, 23, 25, 27, 29, 31]) (fu := 4) (li := [true, true, true, true, true, true, true, false, true, true, true, true, true, true, true, false, false, false]) (env' := [(17, .pointer (some ⟨b_2, 0, none⟩)), (19, .int .u64 c_9.Id), (21, .int .u64 c_9.Seq), (23, .agg ⟨[.int .i64 c_9.Reply.Err, .int .u64 c_9.Reply.Num, .int .u64 c_9.Reply.Extra]⟩), (25, .pointer (some ⟨b_6, 0, none⟩)), (27, .int .u64 c_9.Id), (29, .int .u64 c_9.Seq), (31, .agg ⟨[.int .i64 c_9.Reply.Err, .int .u64 c_9.Reply.Num, .int .u64 c_9.Reply.Extra]⟩)]) (ps := [b_10 = b_10, b_10 = b_10, b_10 = b_10, b_10 = b_10, b_10 = b_10, b_10 = b_10]) (hk := [0]) (bk := []) (by kernel_rfl) (And.intro rfl (And.intro rfl (And.intro rfl (And.intro rfl (And.intro rfl (And.intro rfl trivial)))))) rfl rfl ?_
        refine OpTo.goF (i := 7) (by kernel_rfl) (hk := [1]) (bk := []) (GoO.call rfl (by kernel_rfl) (by kernel_rfl) (session_Table_End_ok n t_1 c_9.Id c_9.Seq (⟨c_9.Reply.Err, c_9.Reply.Num, c_9.Reply.Extra⟩ : T_api_Reply) b_2 A_3 c_4) [[0], [1], [2]] [(1, 1), (2, 2)] [(1, 1)] [(2, 0)] (hks := [0, 2]) (bks := [1]) (by kernel_rfl) (by kernel_rfl) (by kernel_rfl) (.inl rfl) rfl rfl (by kernel_rfl) (by kernel_rfl) _ (fun _ _ => rfl) _ _ (fun _ _ => rfl) (fun _ _ => rfl) (fun _ _ => by kernel_rfl) (fun _ _ => by kernel_rfl) (fun r_42 x_49 => ⟨rfl, rfl, ?_⟩))
        obtain ⟨A_43, c_44⟩ := x_49
        refine GoF.shape (env' := [(17, .pointer (some ⟨b_2, 0, none⟩)), (19, .int .u64 c_9.Id), (21, .int .u64 c_9.Seq), (23, .agg ⟨[.int .i64 c_9.Reply.Err, .int .u64 c_9.Reply.Num, .int .u64 c_9.Reply.Extra]⟩), (24, .bool r_42.1), (25, .pointer (some ⟨b_6, 0, none⟩)), (27, .int .u64 c_9.Id), (29, .int .u64 c_9.Seq), (31, .agg ⟨[.int .i64 c_9.Reply.Err, .int .u64 c_9.Reply.Num, .int .u64 c_9.Reply.Extra]⟩)]) (H' := [⟨1, b_2, [.int .u64 r_42.2.now, .int .u64 r_42.2.next, .slice A_43 r_42.2.rows.length c_44]⟩, ⟨40, b_10, [.int .i64 c_9.Kind, .int .u64 c_9.Id, .int .u64 c_9.Seq, .int .i64 c_9.Reply.Err, .int .u64 c_9.Reply.Num, .int .u64 c_9.Reply.Extra]⟩, ⟨3, b_6, [.int .u64 m_5.Now, .int .u64 m_5.Next, .slice A_7 m_5.Rows.length c_8]⟩]) (B' := [Ow 2 kT_session_Row A_43 c_44 r_42.2.rows, Ow 4 kT_tontineref15_Row A_7 c_8 m_5.Rows]) (ks := [17, 19, 21, 23, 24, 25, 27, 29, 31]) (by kernel_rfl) (by kernel_rfl) (by kernel_rfl) ?_
        refine OpTo.goF (i := 15) (by kernel_rfl) (hk := [2]) (bk := []) (GoO.call rfl (by kernel_rfl) (by kernel_rfl) (tontineref15_Table_End_ok n m_5 c_9.Id c_9.Seq (⟨c_9.Reply.Err, c_9.Reply.Num, c_9.Reply.Extra⟩ : T_api_Reply) b_6 A_7 c_8) [[0], [3], [4]] [(3, 1), (4, 2)] [(1, 2)] [(2, 1)] (hks := [0, 1]) (bks := [0]) (by kernel_rfl) (by kernel_rfl) (by kernel_rfl) (.inl rfl) rfl rfl (by kernel_rfl) (by kernel_rfl) _ (fun _ _ => rfl) _ _ (fun _ _ => rfl) (fun _ _ => rfl) (fun _ _ => by kernel_rfl) (fun _ _ => by kernel_rfl) (fun r_45 x_48 => ⟨rfl, rfl, ?_⟩))
        obtain ⟨A_46, c_47⟩ := x_48
        refine GoF.shape (env' := [(17, .pointer (some ⟨b_2, 0, none⟩)), (19, .int .u64 c_9.Id), (21, .int .u64 c_9.Seq), (23, .agg ⟨[.int .i64 c_9.Reply.Err, .int .u64 c_9.Reply.Num, .int .u64 c_9.Reply.Extra]⟩), (24, .bool r_42.1), (25, .pointer (some ⟨b_6, 0, none⟩)), (27, .int .u64 c_9.Id), (29, .int .u64 c_9.Seq), (31, .agg ⟨[.int .i64 c_9.Reply.Err, .int .u64 c_9.Reply.Num, .int .u64 c_9.Reply.Extra]⟩), (32, .bool r_45.1)]) (H' := [⟨3, b_6, [.int .u64 r_45.2.Now, .int .u64 r_45.2.Next, .slice A_46 r_45.2.Rows.length c_47]⟩, ⟨1, b_2, [.int .u64 r_42.2.now, .int .u64 r_42.2.next, .slice A_43 r_42.2.rows.length c_44]⟩, ⟨40, b_10, [.int .i64 c_9.Kind, .int .u64 c_9.Id, .int .u64 c_9.Seq, .int .i64 c_9.Reply.Err, .int .u64 c_9.Reply.Num, .int .u64 c_9.Reply.Extra]⟩]) (B' := [Ow 4 kT_tontineref15_Row A_46 c_47 r_45.2.Rows, Ow 2 kT_session_Row A_43 c_44 r_42.2.rows]) (ks := [17, 19, 21, 23, 24, 25, 27, 29, 31, 32]) (by kernel_rfl) (by kernel_rfl) (by kernel_rfl) ?_
        refine GoF.take [16] [.p] (ks := [33]) (fu := 1) (li := [true, true, true, true, true, true, true, true, true, true, true, true, true, true, true, true, true, false]) (env' := [(33, .bool (r_42.1 == r_45.1))]) (ps := []) (hk := [2]) (bk := []) (by kernel_rfl) trivial rfl rfl ?_
        refine GoF.fin1 (i := 17) (hint := .p) (ps := []) (hk := []) (bk := []) (by kernel_rfl) rfl trivial (.inl rfl) ?_
        refine GoF.done (by kernel_rfl) ?_
        exact GoO.ret' (h := c27_34e) (hs := []) (ps := []) (hk := [1, 0]) (bk := [1, 0]) Try.func27 (⟨A_43, c_44, A_46, c_47⟩ : Option Addr × Nat × Option Addr × Nat) (by kernel_rfl) trivial (by kernel_rfl) (by kernel_rfl)

/-! (*tontine/session.Table).Rows -/
noncomputable def c24_0 : Code := bodyOf Try.f24
noncomputable def c24_1 : Code := cdL c24_0
noncomputable def c24_2 : Code := cdR c24_0
noncomputable def c24_3 : Code := cdL c24_2
noncomputable def c24_4 : Code := cdL c24_3
noncomputable def c24_5 : Code := cdR c24_3
noncomputable def c24_9 : Code := cdR c24_5
noncomputable def c24_10 : Code := cdR c24_2
noncomputable def c24_11 : Code := cdL c24_10
noncomputable def c24_12 : Code := cdR c24_10
noncomputable def c24_13 : Code := cdL c24_12
noncomputable def c24_14 : Code := cdR c24_12
noncomputable def c24_15 : Code := cdL c24_14
noncomputable def c24_16 : Code := cdR c24_14
noncomputable def c24_6 : Code := cdL c24_5
noncomputable def r24_1 : Array Oper := cdO c24_1
noncomputable def r24_4 : Array Oper := cdO c24_4
noncomputable def r24_11 : Array Oper := cdO c24_11
noncomputable def r24_13 : Array Oper := cdO c24_13
noncomputable def r24_15 : Array Oper := cdO c24_15
theorem c24_0e : c24_0 = .seq c24_1 c24_2 := by kernel_rfl
theorem c24_1e : c24_1 = .region 0 r24_1 false := by kernel_rfl
theorem c24_2e : c24_2 = .seq c24_3 c24_10 := by kernel_rfl
theorem c24_3e : c24_3 = .seq c24_4 c24_5 := by kernel_rfl
theorem c24_4e : c24_4 = .region 1 r24_4 false := by kernel_rfl
theorem c24_5e : c24_5 = .cond (cdC c24_5) c24_6 c24_9 := by kernel_rfl
theorem c24_9e : c24_9 = .skip := by kernel_rfl
theorem c24_10e : c24_10 = .seq c24_11 c24_12 := by kernel_rfl
theorem c24_11e : c24_11 = .region 3 r24_11 false := by kernel_rfl
theorem c24_12e : c24_12 = .seq c24_13 c24_14 := by kernel_rfl
theorem c24_13e : c24_13 = .region 4 r24_13 false := by kernel_rfl
theorem c24_14e : c24_14 = .seq c24_15 c24_16 := by kernel_rfl
theorem c24_15e : c24_15 = .region 5 r24_15 false := by kernel_rfl
theorem c24_16e : c24_16 = .ret := by kernel_rfl
noncomputable def session_Table_Rows.R (b_2 : Nat) (A_3 : Option Addr) (c_4 : Nat) : Pst (List T_session_Row) where
  ε := Option Addr × Nat
  v := fun r x => .slice x.1 r.length x.2
  H := fun r x => []
  B := fun r x => [Ow 3 kT_session_Row x.1 x.2 r]
noncomputable def session_Table_Rows.cx (b_2 : Nat) (A_3 : Option Addr) (c_4 : Nat) (w0 : World) (S0 : Fam) : Cx (List T_session_Row) := ⟨Try.prog, 24, Try.f24, 19, w0, S0, [], 2, session_Table_Rows.R b_2 A_3 c_4⟩
theorem session_Table_Rows_ok (n : Nat) (t_1 : T_session_Table) (b_2 : Nat) (A_3 : Option Addr) (c_4 : Nat) :
    Meets Try.prog 24 [.pointer (some ⟨b_2, 0, none⟩)] 2 [] [⟨1, b_2, [.int .u64 t_1.now, .int .u64 t_1.next, .slice A_3 t_1.rows.length c_4]⟩] [Ow 2 kT_session_Row A_3 c_4 t_1.rows] (session_Table_Rows.f n t_1) (session_Table_Rows.R b_2 A_3 c_4) := by
  refine Meets.of (c := c24_0) (n := 19) Try.func24 (by kernel_rfl) (by kernel_rfl) (by kernel_rfl) fun w0 S0 => ?_
  unfold session_Table_Rows.f
  show GoO (session_Table_Rows.cx b_2 A_3 c_4 w0 S0) [(0, .pointer (some ⟨b_2, 0, none⟩))] [⟨1, b_2, [.int .u64 t_1.now, .int .u64 t_1.next, .slice A_3 t_1.rows.length c_4]⟩] [Ow 2 kT_session_Row A_3 c_4 t_1.rows] [.code c24_0] _
  refine GoO.seq' c24_0e ?_
  refine GoO.region' (is := [0]) c24_1e (by kernel_rfl) ?_
  refine GoO.exec (is := [0]) (hs := [.p]) (rest := []) (ks := [0]) (env' := [(0, .pointer (some ⟨b_2, 0, none⟩))]) (H' := [⟨1, b_2, [.int .u64 t_1.now, .int .u64 t_1.next, .slice A_3 t_1.rows.length c_4]⟩]) (ps := []) (by kernel_rfl) trivial ?_
  refine GoO.regionEnd ?_
  refine GoO.seq' c24_2e ?_
  refine GoO.seq' c24_3e ?_
  refine GoO.region' (is := [0, 1]) c24_4e (by kernel_rfl) ?_
  refine GoO.exec (is := [0, 1]) (hs := [.p, .p]) (rest := []) (ks := [0, 5]) (env' := [(0, .pointer (some ⟨b_2, 0, none⟩)), (5, .bool false)]) (H' := [⟨1, b_2, [.int .u64 t_1.now, .int .u64 t_1.next, .slice A_3 t_1.rows.length c_4]⟩]) (ps := []) (by kernel_rfl) trivial ?_
  refine GoO.regionEnd ?_
  refine GoO.condF c24_5e (by kernel_rfl) ?_
  refine GoO.skip' c24_9e ?_
  refine GoO.seq' c24_10e ?_
  refine GoO.region' (is := [0, 1, 2, 3, 4, 5, 6]) c24_11e (by kernel_rfl) ?_
  refine GoO.exec (is := [0, 1, 2, 3, 4]) (hs := [.p, .p, .p, .b 0, .p]) (rest := [5, 6]) (ks := [0, 10]) (env' := [(0, .pointer (some ⟨b_2, 0, none⟩)), (10, .int .i64 (t_1.rows.length : Int))]) (H' := [⟨1, b_2, [.int .u64 t_1.now, .int .u64 t_1.next, .slice A_3 t_1.rows.length c_4]⟩]) (ps := [b_2 = b_2]) (by kernel_rfl) (And.intro rfl trivial) ?_
  refine GoO.guard (fun h7 => ?_)
  refine OpTo.go (GoO.mk (e := 87) (k1 := .i64) (k2 := .i64) (K := kT_session_Row) (n := (t_1.rows.length : Int)) (c := (t_1.rows.length : Int)) (bytes := 48) (zs := [.int .u64 0, .int .u64 0, .int .u64 0, .int .i64 0, .int .u64 0, .int .u64 0]) rfl (by kernel_rfl) (by kernel_rfl) (by kernel_rfl) (by kernel_rfl) ((⟨0, 0, 0, ⟨0, 0, 0⟩⟩ : T_session_Row)) (fun _ _ => rfl) h7.1 h7.2.1 (by kernel_rfl) h7.2.2 40 _ (fun _ _ => rfl) (fun A_5 c_6 => ?_))
  refine GoO.exec (is := [6]) (hs := [.p]) (rest := []) (ks := [0, 3]) (env' := [(0, .pointer (some ⟨b_2, 0, none⟩)), (3, .slice A_5 (List.replicate (t_1.rows.length : Int).toNat (⟨0, 0, 0, ⟨0, 0, 0⟩⟩ : T_session_Row)).length c_6)]) (H' := [⟨1, b_2, [.int .u64 t_1.now, .int .u64 t_1.next, .slice A_3 t_1.rows.length c_4]⟩]) (ps := []) (by kernel_rfl) trivial ?_
  refine GoO.regionEnd ?_
  refine GoO.seq' c24_12e ?_
  refine GoO.region' (is := [0, 1, 2, 3, 4, 5]) c24_13e (by kernel_rfl) ?_
  refine GoO.exec (is := [0, 1, 2, 3, 4]) (hs := [.p, .p, .p, .p, .b 0]) (rest := [5]) (ks := [3, 12, 16]) (env' := [(3, .slice A_5 (List.replicate (t_1.rows.length : Int).toNat (⟨0, 0, 0, ⟨0, 0, 0⟩⟩ : T_session_Row)).length c_6), (12, .slice A_5 (List.replicate (t_1.rows.length : Int).toNat (⟨0, 0, 0, ⟨0, 0, 0⟩⟩ : T_session_Row)).length c_6), (16, .slice A_3 t_1.rows.length c_4)]) (H' := [⟨1, b_2, [.int .u64 t_1.now, .int .u64 t_1.next, .slice A_3 t_1.rows.length c_4]⟩]) (ps := [b_2 = b_2]) (by kernel_rfl) (And.intro rfl trivial) ?_
  refine OpTo.go (GoO.copy1 (e := 87) (K := kT_session_Row) (A := A_5) (c := c_6) (xs := List.replicate (t_1.rows.length : Int).toNat (⟨0, 0, 0, ⟨0, 0, 0⟩⟩ : T_session_Row)) (A2 := A_3) (c2 := c_4) (ys := t_1.rows) (tg := 40) (j := 0) (j2 := 1) rfl rfl rfl (by kernel_rfl) (by kernel_rfl) rfl rfl Reads.own (by decide) (by kernel_rfl) (by kernel_rfl) (by kernel_rfl) rfl ?_)
  refine GoO.reval (t := 3) (v := .slice A_5 (List.replicate (t_1.rows.length : Int).toNat (⟨0, 0, 0, ⟨0, 0, 0⟩⟩ : T_session_Row)).length c_6) (v' := .slice A_5 (copyL (List.replicate (t_1.rows.length : Int).toNat (⟨0, 0, 0, ⟨0, 0, 0⟩⟩ : T_session_Row)) t_1.rows).length c_6) (by kernel_rfl) (by rw [copyL_length]) ?_
  refine GoO.reval (t := 12) (v := .slice A_5 (List.replicate (t_1.rows.length : Int).toNat (⟨0, 0, 0, ⟨0, 0, 0⟩⟩ : T_session_Row)).length c_6) (v' := .slice A_5 (copyL (List.replicate (t_1.rows.length : Int).toNat (⟨0, 0, 0, ⟨0, 0, 0⟩⟩ : T_session_Row)) t_1.rows).length c_6) (by kernel_rfl) (by rw [copyL_length]) ?_
  refine GoO.regionEnd ?_
  refine GoO.seq' c24_14e ?_
  refine GoO.region' (is := [0, 1]) c24_15e (by kernel_rfl) ?_
  refine GoO.exec (is := [0, 1]) (hs := [.p, .p]) (rest := []) (ks := [2]) (env' := [(2, .slice A_5 (copyL (List.replicate (t_1.rows.length : Int).toNat (⟨0, 0, 0, ⟨0, 0, 0⟩⟩ : T_session_Row)) t_1.rows).length c_6)]) (H' := [⟨1, b_2, [.int .u64 t_1.now, .int .u64 t_1.next, .slice A_3 t_1.rows.length c_4]⟩]) (ps := []) (by kernel_rfl) trivial ?_
  refine GoO.regionEnd ?_
  refine GoO.retag (t := 40) (u := 3) (j := 0) (hk := [0]) (bk := [1]) rfl rfl rfl rfl rfl rfl (by kernel_rfl) (by kernel_rfl) ?_
  exact GoO.ret' (h := c24_16e) (hs := []) (ps := []) (hk := []) (bk := [0]) Try.func24 (⟨A_5, c_6⟩ : Option Addr × Nat) (by kernel_rfl) trivial (by kernel_rfl) (by kernel_rfl)

/-! (*tontine/session.Table).Now -/
noncomputable def c26_0 : Code := bodyOf Try.f26
noncomputable def c26_1 : Code := cdL c26_0
noncomputable def c26_2 : Code := cdR c26_0
noncomputable def c26_3 : Code := cdL c26_2
noncomputable def c26_4 : Code := cdL c26_3
noncomputable def c26_5 : Code := cdR c26_3
noncomputable def c26_9 : Code := cdR c26_5
noncomputable def c26_10 : Code := cdR c26_2
noncomputable def c26_11 : Code := cdL c26_10
noncomputable def c26_12 : Code := cdR c26_10
noncomputable def c26_6 : Code := cdL c26_5
noncomputable def r26_1 : Array Oper := cdO c26_1
noncomputable def r26_4 : Array Oper := cdO c26_4
noncomputable def r26_11 : Array Oper := cdO c26_11
theorem c26_0e : c26_0 = .seq c26_1 c26_2 := by kernel_rfl
theorem c26_1e : c26_1 = .region 0 r26_1 false := by kernel_rfl
theorem c26_2e : c26_2 = .seq c26_3 c26_10 := by kernel_rfl
theorem c26_3e : c26_3 = .seq c26_4 c26_5 := by kernel_rfl
theorem c26_4e : c26_4 = .region 1 r26_4 false := by kernel_rfl
theorem c26_5e : c26_5 = .cond (cdC c26_5) c26_6 c26_9 := by kernel_rfl
theorem c26_9e : c26_9 = .skip := by kernel_rfl
theorem c26_10e : c26_10 = .seq c26_11 c26_12 := by kernel_rfl
theorem c26_11e : c26_11 = .region 3 r26_11 false := by kernel_rfl
theorem c26_12e : c26_12 = .ret := by kernel_rfl
noncomputable def session_Table_Now.R (b_2 : Nat) (A_3 : Option Addr) (c_4 : Nat) : Pst Int where
  ε := Unit
  v := fun r x => .int .u64 r
  H := fun r x => []
  B := fun r x => []
noncomputable def session_Table_Now.cx (b_2 : Nat) (A_3 : Option Addr) (c_4 : Nat) (w0 : World) (S0 : Fam) : Cx Int := ⟨Try.prog, 26, Try.f26, 9, w0, S0, [], 2, session_Table_Now.R b_2 A_3 c_4⟩
theorem session_Table_Now_ok (n : Nat) (t_1 : T_session_Table) (b_2 : Nat) (A_3 : Option Addr) (c_4 : Nat) :
    Meets Try.prog 26 [.pointer (some ⟨b_2, 0, none⟩)] 2 [] [⟨1, b_2, [.int .u64 t_1.now, .int .u64 t_1.next, .slice A_3 t_1.rows.length c_4]⟩] [Ow 2 kT_session_Row A_3 c_4 t_1.rows] (session_Table_Now.f n t_1) (session_Table_Now.R b_2 A_3 c_4) := by
  refine Meets.of (c := c26_0) (n := 9) Try.func26 (by kernel_rfl) (by kernel_rfl) (by kernel_rfl) fun w0 S0 => ?_
  unfold session_Table_Now.f
  show GoO (session_Table_Now.cx b_2 A_3 c_4 w0 S0) [(0, .pointer (some ⟨b_2, 0, none⟩))] [⟨1, b_2, [.int .u64 t_1.now, .int .u64 t_1.next, .slice A_3 t_1.rows.length c_4]⟩] [Ow 2 kT_session_Row A_3 c_4 t_1.rows] [.code c26_0] _
  refine GoO.seq' c26_0e ?_
  refine GoO.region' (is := [0]) c26_1e (by kernel_rfl) ?_
  refine GoO.exec (is := [0]) (hs := [.p]) (rest := []) (ks := [0]) (env' := [(0, .pointer (some ⟨b_2, 0, none⟩))]) (H' := [⟨1, b_2, [.int .u64 t_1.now, .int .u64 t_1.next, .slice A_3 t_1.rows.length c_4]⟩]) (ps := []) (by kernel_rfl) trivial ?_
  refine GoO.regionEnd ?_
  refine GoO.seq' c26_2e ?_
  refine GoO.seq' c26_3e ?_
  refine GoO.region' (is := [0, 1]) c26_4e (by kernel_rfl) ?_
  refine GoO.exec (is := [0, 1]) (hs := [.p, .p]) (rest := []) (ks := [0, 4]) (env' := [(0, .pointer (some ⟨b_2, 0, none⟩)), (4, .bool false)]) (H' := [⟨1, b_2, [.int .u64 t_1.now, .int .u64 t_1.next, .slice A_3 t_1.rows.length c_4]⟩]) (ps := []) (by kernel_rfl) trivial ?_
  refine GoO.regionEnd ?_
  refine GoO.condF c26_5e (by kernel_rfl) ?_
  refine GoO.skip' c26_9e ?_
  refine GoO.seq' c26_10e ?_
  refine GoO.region' (is := [0, 1, 2, 3, 4]) c26_11e (by kernel_rfl) ?_
  refine GoO.exec (is := [0, 1, 2, 3, 4]) (hs := [.p, .p, .p, .b 0, .p]) (rest := []) (ks := [2]) (env' := [(2, .int .u64 t_1.now)]) (H' := [⟨1, b_2, [.int .u64 t_1.now, .int .u64 t_1.next, .slice A_3 t_1.rows.length c_4]⟩]) (ps := [b_2 = b_2]) (by kernel_rfl) (And.intro rfl trivial) ?_
  refine GoO.regionEnd ?_
  exact GoO.ret' (h := c26_12e) (hs := []) (ps := []) (hk := []) (bk := []) Try.func26 () (by kernel_rfl) trivial (by kernel_rfl) (by kernel_rfl)

/-! tontine/tontinelaw15.alike -/
noncomputable def c28_0 : Code := bodyOf Try.f28
noncomputable def c28_1 : Code := cdL c28_0
noncomputable def c28_2 : Code := cdR c28_0
noncomputable def c28_3 : Code := cdL c28_2
noncomputable def c28_4 : Code := cdR c28_2
noncomputable def c28_5 : Code := cdL c28_4
noncomputable def c28_6 : Code := cdL c28_5
noncomputable def c28_7 : Code := cdR c28_5
noncomputable def c28_8 : Code := cdL c28_7
noncomputable def c28_9 : Code := cdL c28_8
noncomputable def c28_10 : Code := cdR c28_8
noncomputable def c28_11 : Code := cdR c28_7
noncomputable def c28_12 : Code := cdR c28_4
noncomputable def c28_13 : Code := cdL c28_12
noncomputable def c28_14 : Code := cdL c28_13
noncomputable def c28_15 : Code := cdR c28_13
noncomputable def c28_16 : Code := cdL c28_15
noncomputable def c28_17 : Code := cdL c28_16
noncomputable def c28_18 : Code := cdL c28_17
noncomputable def c28_19 : Code := cdR c28_17
noncomputable def c28_20 : Code := cdL c28_19
noncomputable def c28_21 : Code := cdL c28_20
noncomputable def c28_22 : Code := cdR c28_20
noncomputable def c28_23 : Code := cdR c28_19
noncomputable def c28_24 : Code := cdL c28_23
noncomputable def c28_25 : Code := cdL c28_24
noncomputable def c28_26 : Code := cdL c28_25
noncomputable def c28_27 : Code := cdR c28_25
noncomputable def c28_28 : Code := cdL c28_27
noncomputable def c28_29 : Code := cdR c28_27
noncomputable def c28_30 : Code := cdL c28_29
noncomputable def c28_31 : Code := cdL c28_30
noncomputable def c28_32 : Code := cdR c28_30
noncomputable def c28_33 : Code := cdR c28_29
noncomputable def c28_34 : Code := cdR c28_23
noncomputable def c28_35 : Code := cdR c28_12
noncomputable def c28_36 : Code := cdL c28_35
noncomputable def c28_37 : Code := cdR c28_35
noncomputable def r28_1 : Array Oper := cdO c28_1
noncomputable def r28_3 : Array Oper := cdO c28_3
noncomputable def r28_6 : Array Oper := cdO c28_6
noncomputable def r28_9 : Array Oper := cdO c28_9
noncomputable def r28_14 : Array Oper := cdO c28_14
noncomputable def r28_18 : Array Oper := cdO c28_18
noncomputable def r28_26 : Array Oper := cdO c28_26
noncomputable def r28_28 : Array Oper := cdO c28_28
noncomputable def r28_31 : Array Oper := cdO c28_31
noncomputable def r28_34 : Array Oper := cdO c28_34
noncomputable def r28_36 : Array Oper := cdO c28_36
theorem c28_0e : c28_0 = .seq c28_1 c28_2 := by kernel_rfl
theorem c28_1e : c28_1 = .region 0 r28_1 false := by kernel_rfl
theorem c28_2e : c28_2 = .seq c28_3 c28_4 := by kernel_rfl
theorem c28_3e : c28_3 = .region 1 r28_3 false := by kernel_rfl
theorem c28_4e : c28_4 = .seq c28_5 c28_12 := by kernel_rfl
theorem c28_5e : c28_5 = .seq c28_6 c28_7 := by kernel_rfl
theorem c28_6e : c28_6 = .region 2 r28_6 true := by kernel_rfl
theorem c28_7e : c28_7 = .cond (cdC c28_7) c28_8 c28_11 := by kernel_rfl
theorem c28_8e : c28_8 = .seq c28_9 c28_10 := by kernel_rfl
theorem c28_9e : c28_9 = .region 3 r28_9 false := by kernel_rfl
theorem c28_10e : c28_10 = .ret := by kernel_rfl
theorem c28_11e : c28_11 = .skip := by kernel_rfl
theorem c28_12e : c28_12 = .seq c28_13 c28_35 := by kernel_rfl
theorem c28_13e : c28_13 = .seq c28_14 c28_15 := by kernel_rfl
theorem c28_14e : c28_14 = .region 4 r28_14 false := by kernel_rfl
theorem c28_15e : c28_15 = .block 0 c28_16 := by kernel_rfl
theorem c28_16e : c28_16 = .loop c28_17 := by kernel_rfl
theorem c28_17e : c28_17 = .seq c28_18 c28_19 := by kernel_rfl
theorem c28_18e : c28_18 = .region 5 r28_18 false := by kernel_rfl
theorem c28_19e : c28_19 = .seq c28_20 c28_23 := by kernel_rfl
theorem c28_20e : c28_20 = .cond (cdC c28_20) c28_21 c28_22 := by kernel_rfl
theorem c28_21e : c28_21 = .skip := by kernel_rfl
theorem c28_22e : c28_22 = .exit 0 := by kernel_rfl
theorem c28_23e : c28_23 = .seq c28_24 c28_34 := by kernel_rfl
theorem c28_24e : c28_24 = .block 1 c28_25 := by kernel_rfl
theorem c28_25e : c28_25 = .seq c28_26 c28_27 := by kernel_rfl
theorem c28_26e : c28_26 = .region 6 r28_26 false := by kernel_rfl
theorem c28_27e : c28_27 = .seq c28_28 c28_29 := by kernel_rfl
theorem c28_28e : c28_28 = .region 7 r28_28 true := by kernel_rfl
theorem c28_29e : c28_29 = .cond (cdC c28_29) c28_30 c28_33 := by kernel_rfl
theorem c28_30e : c28_30 = .seq c28_31 c28_32 := by kernel_rfl
theorem c28_31e : c28_31 = .region 8 r28_31 false := by kernel_rfl
theorem c28_32e : c28_32 = .ret := by kernel_rfl
theorem c28_33e : c28_33 = .skip := by kernel_rfl
theorem c28_34e : c28_34 = .region 9 r28_34 false := by kernel_rfl
theorem c28_35e : c28_35 = .seq c28_36 c28_37 := by kernel_rfl
theorem c28_36e : c28_36 = .region 10 r28_36 false := by kernel_rfl
theorem c28_37e : c28_37 = .ret := by kernel_rfl
noncomputable def tontinelaw15_alike.R (b_2 : Nat) (A_3 : Option Addr) (c_4 : Nat) (b_6 : Nat) (A_7 : Option Addr) (c_8 : Nat) : Pst Bool where
  ε := Unit
  v := fun r x => .bool r
  H := fun r x => []
  B := fun r x => []
noncomputable def tontinelaw15_alike.cx (b_2 : Nat) (A_3 : Option Addr) (c_4 : Nat) (b_6 : Nat) (A_7 : Option Addr) (c_8 : Nat) (w0 : World) (S0 : Fam) : Cx Bool := ⟨Try.prog, 28, Try.f28, 52, w0, S0, [], 4, tontinelaw15_alike.R b_2 A_3 c_4 b_6 A_7 c_8⟩
theorem tontinelaw15_alike_l0_ok (n : Nat) (t_1 : T_session_Table) (m_5 : T_tontineref15_Table) (r_9 : (List T_session_Row)) (b_2 : Nat) (A_3 : Option Addr) (c_4 : Nat) (b_6 : Nat) (A_7 : Option Addr) (c_8 : Nat) (A_10 : Option Addr) (c_11 : Nat) (w0 : World) (S0 : Fam) :
    ∀ (k : Nat) (x_16 : Int), GoO (tontinelaw15_alike.cx b_2 A_3 c_4 b_6 A_7 c_8 w0 S0) [(1, .pointer (some ⟨b_6, 0, none⟩)), (27, .slice A_10 r_9.length c_11), (28, .int .i64 (r_9.length : Int)), (29, .int .i64 x_16)] [⟨3, b_6, [.int .u64 m_5.Now, .int .u64 m_5.Next, .slice A_7 m_5.Rows.length c_8]⟩, ⟨1, b_2, [.int .u64 t_1.now, .int .u64 t_1.next, .slice A_3 t_1.rows.length c_4]⟩] [Ow 4 kT_tontineref15_Row A_7 c_8 m_5.Rows, Ow 40 kT_session_Row A_10 c_11 r_9, Ow 2 kT_session_Row A_3 c_4 t_1.rows] [.code c28_17, .inLoop c28_17, .inBlock 0, .code c28_35] (tontinelaw15_alike.l0 n m_5 r_9 k x_16) := by
  intro k
  induction k with
  | zero => intros; rw [tontinelaw15_alike.l0.eq_1]; exact GoO.stop
  | succ k ih0 =>
    intro x_16
    rw [tontinelaw15_alike.l0.eq_2]
    refine GoO.seq' c28_17e ?_
    refine GoO.region' (is := [0]) c28_18e (by kernel_rfl) ?_
    refine GoO.exec (is := [0]) (hs := [.p]) (rest := []) (ks := [1, 27, 28, 29, 30]) (env' := [(1, .pointer (some ⟨b_6, 0, none⟩)), (27, .slice A_10 r_9.length c_11), (28, .int .i64 (r_9.length : Int)), (29, .int .i64 x_16), (30, .bool (decide (x_16 < (r_9.length : Int))))]) (H' := [⟨3, b_6, [.int .u64 m_5.Now, .int .u64 m_5.Next, .slice A_7 m_5.Rows.length c_8]⟩, ⟨1, b_2, [.int .u64 t_1.now, .int .u64 t_1.next, .slice A_3 t_1.rows.length c_4]⟩]) (ps := []) (by kernel_rfl) trivial ?_
    refine GoO.regionEnd ?_
    refine GoO.seq' c28_19e ?_
    refine GoO.ite' c28_20e (by kernel_rfl) (fun h17 => ?_) (fun h17 => ?_)
    · refine GoO.skip' c28_21e ?_
      refine GoO.seq' c28_23e ?_
      refine GoO.block' c28_24e ?_
      refine GoO.seq' c28_25e ?_
      refine GoO.region' (is := [0, 1, 2, 3, 4, 5]) c28_26e (by kernel_rfl) ?_
      refine GoO.exec (is := [0]) (hs := [.p]) (rest := [1, 2, 3, 4, 5]) (ks := [1, 27, 28, 29, 31]) (env' := [(1, .pointer (some ⟨b_6, 0, none⟩)), (27, .slice A_10 r_9.length c_11), (28, .int .i64 (r_9.length : Int)), (29, .int .i64 x_16), (31, .int .i64 x_16)]) (H' := [⟨3, b_6, [.int .u64 m_5.Now, .int .u64 m_5.Next, .slice A_7 m_5.Rows.length c_8]⟩, ⟨1, b_2, [.int .u64 t_1.now, .int .u64 t_1.next, .slice A_3 t_1.rows.length c_4]⟩]) (ps := []) (by kernel_rfl) trivial ?_
      refine GoO.guard (fun h18 => ?_)
      refine OpTo.go (GoO.idx (kk := .i64) (e := 87) (K := kT_session_Row) (A := A_10) (c := c_11) (xs := r_9) (iv := x_16) (j := 1) rfl (by kernel_rfl) (by kernel_rfl) (by kernel_rfl) (by kernel_rfl) rfl Reads.own rfl h18.1 h18.2 (by decide) rfl ?_)
      refine OpTo.go (GoO.ldE' (K := kT_session_Row) (A := A_10) (c := c_11) (xs := r_9) (iN := x_16.toNat) (off := 0) (j := 1) rfl (by kernel_rfl) rfl Reads.own (by first | exact idx_lt h18.1 h18.2 | (simp only [List.length_set]; exact idx_lt h18.1 h18.2)) (by decide) (Opn.flat _ _ _ _ _) (v := fun _ => .agg ⟨[.int .u64 ((rdL r_9 x_16).Id), .int .u64 ((rdL r_9 x_16).Used), .int .u64 ((rdL r_9 x_16).Seq), .int .i64 ((rdL r_9 x_16).Reply.Err), .int .u64 ((rdL r_9 x_16).Reply.Num), .int .u64 ((rdL r_9 x_16).Reply.Extra)]⟩) (fun _ => by kernel_rfl) _ (fun _ => rfl) (fun _ => ?_))
      refine OpTo.go (GoO.new rfl 41 (cs := [.int .u64 0, .int .u64 0, .int .u64 0, .int .i64 0, .int .u64 0, .int .u64 0]) (by kernel_rfl) _ (fun _ => rfl) (fun b_19 => ?_))
      refine GoO.exec (is := [4, 5]) (hs := [.p, .b 0]) (rest := []) (ks := [1, 6, 7, 27, 28, 29]) (env' := [(1, .pointer (some ⟨b_6, 0, none⟩)), (6, .int .i64 x_16), (7, .pointer (some ⟨b_19, 0, none⟩)), (27, .slice A_10 r_9.length c_11), (28, .int .i64 (r_9.length : Int)), (29, .int .i64 x_16)]) (H' := [⟨41, b_19, [.int .u64 ((rdL r_9 x_16).Id), .int .u64 ((rdL r_9 x_16).Used), .int .u64 ((rdL r_9 x_16).Seq), .int .i64 ((rdL r_9 x_16).Reply.Err), .int .u64 ((rdL r_9 x_16).Reply.Num), .int .u64 ((rdL r_9 x_16).Reply.Extra)]⟩, ⟨3, b_6, [.int .u64 m_5.Now, .int .u64 m_5.Next, .slice A_7 m_5.Rows.length c_8]⟩, ⟨1, b_2, [.int .u64 t_1.now, .int .u64 t_1.next, .slice A_3 t_1.rows.length c_4]⟩]) (ps := [b_19 = b_19]) (by kernel_rfl) (And.intro rfl trivial) ?_
      refine GoO.regionEnd ?_
      refine GoO.seq' c28_27e ?_
      refine GoO.draw c28_28e (by kernel_rfl) [] [⟨41, b_19, [.int .u64 ((rdL r_9 x_16).Id), .int .u64 ((rdL r_9 x_16).Used), .int .u64 ((rdL r_9 x_16).Seq), .int .i64 ((rdL r_9 x_16).Reply.Err), .int .u64 ((rdL r_9 x_16).Reply.Num), .int .u64 ((rdL r_9 x_16).Reply.Extra)]⟩, ⟨3, b_6, [.int .u64 m_5.Now, .int .u64 m_5.Next, .slice A_7 m_5.Rows.length c_8]⟩] [Ow 4 kT_tontineref15_Row A_7 c_8 m_5.Rows] (n := 17) (by kernel_rfl) ?_
      simp only [List.replicate]
      refine GoF.take [0, 1, 2, 3, 4, 5, 6, 7, 8, 9, 10, 11, 12, 13] [.p, .b 0, .p, .b 0, .p, .b 0, .p, .b 0, .p, .p, .p, .p, .b 1, .p] (ks := [1, 27, 28, 29, 42, 46, 47]) (fu := 3) (li := [true, true, true, true, true, true, true, true, true, true, true, true, true, true, false, false, false]) (env' := [(1, .pointer (some ⟨b_6, 0, none⟩)), (27, .slice A_10 r_9.length c_11), (28, .int .i64 (r_9.length : Int)), (29, .int .i64 x_16), (42, .agg ⟨[.int .u64 ((rdL r_9 x_16).Id), .int .u64 ((rdL r_9 x_16).Used), .int .u64 ((rdL r_9 x_16).Seq), .int .i64 ((rdL r_9 x_16).Reply.Err), .int .u64 ((rdL r_9 x_16).Reply.Num), .int .u64 ((rdL r_9 x_16).Reply.Extra)]⟩), (46, .slice A_7 m_5.Rows.length c_8), (47, .int .i64 x_16)]) (ps := [b_19 = b_19, b_19 = b_19, b_19 = b_19, b_19 = b_19, b_6 = b_6]) (hk := [0, 1]) (bk := [0]) (by kernel_rfl) (And.intro rfl (And.intro rfl (And.intro rfl (And.intro rfl (And.intro rfl trivial))))) rfl rfl ?_
      refine GoF.guard (fun h20 => ?_)
      refine GoF.idx (i := 14) (hk := [0, 1]) (bk := [0]) (kk := .i64) (e := 100) (K := kT_tontineref15_Row) (A := A_7) (c := c_8) (xs := m_5.Rows) (iv := x_16) (j := 0) (by kernel_rfl) rfl rfl rfl (by kernel_rfl) (by kernel_rfl) (by kernel_rfl) (by kernel_rfl) rfl Reads.own rfl h20.1 h20.2 (by decide) rfl ?_
      refine GoF.ldE (i := 15) (hk := [0, 1]) (bk := [0]) (K := kT_tontineref15_Row) (A := A_7) (c := c_8) (xs := m_5.Rows) (iN := x_16.toNat) (off := 0) (j := 0) (v := .agg ⟨[.int .u64 ((rdL m_5.Rows x_16).Id), .int .u64 ((rdL m_5.Rows x_16).Used), .int .u64 ((rdL m_5.Rows x_16).Seq), .int .i64 ((rdL m_5.Rows x_16).Reply.Err), .int .u64 ((rdL m_5.Rows x_16).Reply.Num), .int .u64 ((rdL m_5.Rows x_16).Reply.Extra)]⟩) (by kernel_rfl) rfl rfl rfl (hK := rfl) (by kernel_rfl) rfl Reads.own (by first | exact idx_lt h20.1 h20.2 | (simp only [List.length_set]; exact idx_lt h20.1 h20.2)) (by decide) (by kernel_rfl) rfl ?_
      refine GoF.take [16] [.p] (ks := [1, 27, 28, 29, 50]) (fu := 0) (li := [true, true, true, true, true, true, true, true, true, true, true, true, true, true, true, true, true]) (env' := [(1, .pointer (some ⟨b_6, 0, none⟩)), (27, .slice A_10 r_9.length c_11), (28, .int .i64 (r_9.length : Int)), (29, .int .i64 x_16), (50, .bool (!((((rdL r_9 x_16).Id) == ((rdL m_5.Rows x_16).Id)) && ((((rdL r_9 x_16).Used) == ((rdL m_5.Rows x_16).Used)) && ((((rdL r_9 x_16).Seq) == ((rdL m_5.Rows x_16).Seq)) && (((((rdL r_9 x_16).Reply.Err) == ((rdL m_5.Rows x_16).Reply.Err)) && ((((rdL r_9 x_16).Reply.Num) == ((rdL m_5.Rows x_16).Reply.Num)) && ((((rdL r_9 x_16).Reply.Extra) == ((rdL m_5.Rows x_16).Reply.Extra)) && true))) && true))))))]) (ps := []) (hk := [0, 1]) (bk := [0]) (by kernel_rfl) trivial rfl rfl ?_
      refine GoF.done (by kernel_rfl) ?_
      refine GoO.ite' c28_29e (by kernel_rfl) (fun h21 => ?_) (fun h21 => ?_)
      · refine GoO.seq' c28_30e ?_
        refine GoO.region' (is := [0]) c28_31e (by kernel_rfl) ?_
        refine GoO.exec (is := [0]) (hs := [.p]) (rest := []) (ks := [4]) (env' := [(4, .bool false)]) (H' := [⟨41, b_19, [.int .u64 ((rdL r_9 x_16).Id), .int .u64 ((rdL r_9 x_16).Used), .int .u64 ((rdL r_9 x_16).Seq), .int .i64 ((rdL r_9 x_16).Reply.Err), .int .u64 ((rdL r_9 x_16).Reply.Num), .int .u64 ((rdL r_9 x_16).Reply.Extra)]⟩, ⟨3, b_6, [.int .u64 m_5.Now, .int .u64 m_5.Next, .slice A_7 m_5.Rows.length c_8]⟩, ⟨1, b_2, [.int .u64 t_1.now, .int .u64 t_1.next, .slice A_3 t_1.rows.length c_4]⟩]) (ps := []) (by kernel_rfl) trivial ?_
        refine GoO.regionEnd ?_
        exact GoO.ret' (h := c28_32e) (hs := []) (ps := []) (hk := []) (bk := []) Try.func28 () (by kernel_rfl) trivial (by kernel_rfl) (by kernel_rfl)
      · refine GoO.skip' c28_33e ?_
        refine GoO.inBlock ?_
        refine GoO.region' (is := [0, 1]) c28_34e (by kernel_rfl) ?_
        refine GoO.exec (is := [0, 1]) (hs := [.p, .p]) (rest := []) (ks := [1, 27, 28, 29]) (env' := [(1, .pointer (some ⟨b_6, 0, none⟩)), (27, .slice A_10 r_9.length c_11), (28, .int .i64 (r_9.length : Int)), (29, .int .i64 (wi64 (x_16 + 1)))]) (H' := [⟨41, b_19, [.int .u64 ((rdL r_9 x_16).Id), .int .u64 ((rdL r_9 x_16).Used), .int .u64 ((rdL r_9 x_16).Seq), .int .i64 ((rdL r_9 x_16).Reply.Err), .int .u64 ((rdL r_9 x_16).Reply.Num), .int .u64 ((rdL r_9 x_16).Reply.Extra)]⟩, ⟨3, b_6, [.int .u64 m_5.Now, .int .u64 m_5.Next, .slice A_7 m_5.Rows.length c_8]⟩, ⟨1, b_2, [.int .u64 t_1.now, .int .u64 t_1.next, .slice A_3 t_1.rows.length c_4]⟩]) (ps := []) (by kernel_rfl) trivial ?_
        refine GoO.regionEnd ?_
        refine GoO.inLoop ?_
        exact GoO.sub (ks := [1, 27, 28, 29]) (hk := [1, 2]) (bk := [0, 1, 2]) (by kernel_rfl) (by kernel_rfl) (by kernel_rfl) (ih0 (wi64 (x_16 + 1)))
    · refine GoO.exit' c28_22e rfl ?_
      refine GoO.seq' c28_35e ?_
      refine GoO.region' (is := [0]) c28_36e (by kernel_rfl) ?_
      refine GoO.exec (is := [0]) (hs := [.p]) (rest := []) (ks := [4]) (env' := [(4, .bool true)]) (H' := [⟨3, b_6, [.int .u64 m_5.Now, .int .u64 m_5.Next, .slice A_7 m_5.Rows.length c_8]⟩, ⟨1, b_2, [.int .u64 t_1.now, .int .u64 t_1.next, .slice A_3 t_1.rows.length c_4]⟩]) (ps := []) (by kernel_rfl) trivial ?_
      refine GoO.regionEnd ?_
      exact GoO.ret' (h := c28_37e) (hs := []) (ps := []) (hk := []) (bk := []) Try.func28 () (by kernel_rfl) trivial (by kernel_rfl) (by kernel_rfl)
theorem tontinelaw15_alike_j0_ok (n : Nat) (t_1 : T_session_Table) (m_5 : T_tontineref15_Table) (r_9 : (List T_session_Row)) (b_2 : Nat) (A_3 : Option Addr) (c_4 : Nat) (b_6 : Nat) (A_7 : Option Addr) (c_8 : Nat) (A_10 : Option Addr) (c_11 : Nat) (w0 : World) (S0 : Fam) (b_14 : Bool) :
    GoO (tontinelaw15_alike.cx b_2 A_3 c_4 b_6 A_7 c_8 w0 S0) [(1, .pointer (some ⟨b_6, 0, none⟩)), (5, .slice A_10 r_9.length c_11), (26, .bool b_14)] [⟨3, b_6, [.int .u64 m_5.Now, .int .u64 m_5.Next, .slice A_7 m_5.Rows.length c_8]⟩, ⟨1, b_2, [.int .u64 t_1.now, .int .u64 t_1.next, .slice A_3 t_1.rows.length c_4]⟩] [Ow 4 kT_tontineref15_Row A_7 c_8 m_5.Rows, Ow 40 kT_session_Row A_10 c_11 r_9, Ow 2 kT_session_Row A_3 c_4 t_1.rows] [.code c28_7, .code c28_12] (tontinelaw15_alike.j0 n m_5 r_9 b_14) := by
  unfold tontinelaw15_alike.j0
  refine GoO.ite' c28_7e (by kernel_rfl) (fun h15 => ?_) (fun h15 => ?_)
  · refine GoO.seq' c28_8e ?_
    refine GoO.region' (is := [0]) c28_9e (by kernel_rfl) ?_
    refine GoO.exec (is := [0]) (hs := [.p]) (rest := []) (ks := [4]) (env' := [(4, .bool false)]) (H' := [⟨3, b_6, [.int .u64 m_5.Now, .int .u64 m_5.Next, .slice A_7 m_5.Rows.length c_8]⟩, ⟨1, b_2, [.int .u64 t_1.now, .int .u64 t_1.next, .slice A_3 t_1.rows.length c_4]⟩]) (ps := []) (by kernel_rfl) trivial ?_
    refine GoO.regionEnd ?_
    exact GoO.ret' (h := c28_10e) (hs := []) (ps := []) (hk := []) (bk := []) Try.func28 () (by kernel_rfl) trivial (by kernel_rfl) (by kernel_rfl)
  · refine GoO.skip' c28_11e ?_
    refine GoO.seq' c28_12e ?_
    refine GoO.seq' c28_13e ?_
    refine GoO.region' (is := [0, 1, 2]) c28_14e (by kernel_rfl) ?_
    refine GoO.exec (is := [0, 1, 2]) (hs := [.p, .p, .p]) (rest := []) (ks := [1, 27, 28, 29]) (env' := [(1, .pointer (some ⟨b_6, 0, none⟩)), (27, .slice A_10 r_9.length c_11), (28, .int .i64 (r_9.length : Int)), (29, .int .i64 0)]) (H' := [⟨3, b_6, [.int .u64 m_5.Now, .int .u64 m_5.Next, .slice A_7 m_5.Rows.length c_8]⟩, ⟨1, b_2, [.int .u64 t_1.now, .int .u64 t_1.next, .slice A_3 t_1.rows.length c_4]⟩]) (ps := []) (by kernel_rfl) trivial ?_
    refine GoO.regionEnd ?_
    refine GoO.block' c28_15e ?_
    refine GoO.loop' c28_16e ?_
    exact GoO.sub (ks := [1, 27, 28, 29]) (hk := [0, 1]) (bk := [0, 1, 2]) (by kernel_rfl) (by kernel_rfl) (by kernel_rfl) (tontinelaw15_alike_l0_ok n t_1 m_5 r_9 b_2 A_3 c_4 b_6 A_7 c_8 A_10 c_11 w0 S0 n 0)
theorem tontinelaw15_alike_ok (n : Nat) (t_1 : T_session_Table) (m_5 : T_tontineref15_Table) (b_2 : Nat) (A_3 : Option Addr) (c_4 : Nat) (b_6 : Nat) (A_7 : Option Addr) (c_8 : Nat) :
    Meets Try.prog 28 [.pointer (some ⟨b_2, 0, none⟩), .pointer (some ⟨b_6, 0, none⟩)] 4 [] [⟨1, b_2, [.int .u64 t_1.now, .int .u64 t_1.next, .slice A_3 t_1.rows.length c_4]⟩, ⟨3, b_6, [.int .u64 m_5.Now, .int .u64 m_5.Next, .slice A_7 m_5.Rows.length c_8]⟩] [Ow 2 kT_session_Row A_3 c_4 t_1.rows, Ow 4 kT_tontineref15_Row A_7 c_8 m_5.Rows] (tontinelaw15_alike.f n t_1 m_5) (tontinelaw15_alike.R b_2 A_3 c_4 b_6 A_7 c_8) := by
  refine Meets.of (c := c28_0) (n := 52) Try.func28 (by kernel_rfl) (by kernel_rfl) (by kernel_rfl) fun w0 S0 => ?_
  unfold tontinelaw15_alike.f
  show GoO (tontinelaw15_alike.cx b_2 A_3 c_4 b_6 A_7 c_8 w0 S0) [(0, .pointer (some ⟨b_2, 0, none⟩)), (1, .pointer (some ⟨b_6, 0, none⟩))] [⟨1, b_2, [.int .u64 t_1.now, .int .u64 t_1.next, .slice A_3 t_1.rows.length c_4]⟩, ⟨3, b_6, [.int .u64 m_5.Now, .int .u64 m_5.Next, .slice A_7 m_5.Rows.length c_8]⟩] [Ow 2 kT_session_Row A_3 c_4 t_1.rows, Ow 4 kT_tontineref15_Row A_7 c_8 m_5.Rows] [.code c28_0] _
  refine GoO.seq' c28_0e ?_
  refine GoO.region' (is := [0]) c28_1e (by kernel_rfl) ?_
  refine GoO.exec (is := [0]) (hs := [.p]) (rest := []) (ks := [0, 1]) (env' := [(0, .pointer (some ⟨b_2, 0, none⟩)), (1, .pointer (some ⟨b_6, 0, none⟩))]) (H' := [⟨1, b_2, [.int .u64 t_1.now, .int .u64 t_1.next, .slice A_3 t_1.rows.length c_4]⟩, ⟨3, b_6, [.int .u64 m_5.Now, .int .u64 m_5.Next, .slice A_7 m_5.Rows.length c_8]⟩]) (ps := []) (by kernel_rfl) trivial ?_
  refine GoO.regionEnd ?_
  refine GoO.seq' c28_2e ?_
  refine GoO.region' (is := [0, 1, 2]) c28_3e (by kernel_rfl) ?_
  refine GoO.exec (is := [0]) (hs := [.p]) (rest := [1, 2]) (ks := [0, 1, 8]) (env' := [(0, .pointer (some ⟨b_2, 0, none⟩)), (1, .pointer (some ⟨b_6, 0, none⟩)), (8, .pointer (some ⟨b_2, 0, none⟩))]) (H' := [⟨1, b_2, [.int .u64 t_1.now, .int .u64 t_1.next, .slice A_3 t_1.rows.length c_4]⟩, ⟨3, b_6, [.int .u64 m_5.Now, .int .u64 m_5.Next, .slice A_7 m_5.Rows.length c_8]⟩]) (ps := []) (by kernel_rfl) trivial ?_
  refine OpTo.go (GoO.call rfl (by kernel_rfl) (by kernel_rfl) (session_Table_Rows_ok n t_1 b_2 A_3 c_4) [[0], [1], [2]] [(40, 3)] [(1, 0)] [(2, 0)] (hks := [0, 1]) (bks := [0, 1]) (by kernel_rfl) (by kernel_rfl) (by kernel_rfl) (.inl rfl) rfl rfl (by kernel_rfl) (by kernel_rfl) _ (fun _ _ => rfl) _ _ (fun _ _ => rfl) (fun _ _ => rfl) (fun _ _ => by kernel_rfl) (fun _ _ => by kernel_rfl) (fun r_9 x_22 => ?_))
  obtain ⟨A_10, c_11⟩ := x_22
  refine GoO.shape (env' := [(0, .pointer (some ⟨b_2, 0, none⟩)), (1, .pointer (some ⟨b_6, 0, none⟩)), (8, .pointer (some ⟨b_2, 0, none⟩)), (9, .slice A_10 r_9.length c_11)]) (H' := [⟨1, b_2, [.int .u64 t_1.now, .int .u64 t_1.next, .slice A_3 t_1.rows.length c_4]⟩, ⟨3, b_6, [.int .u64 m_5.Now, .int .u64 m_5.Next, .slice A_7 m_5.Rows.length c_8]⟩]) (B' := [Ow 40 kT_session_Row A_10 c_11 r_9, Ow 2 kT_session_Row A_3 c_4 t_1.rows, Ow 4 kT_tontineref15_Row A_7 c_8 m_5.Rows]) (ks := [0, 1, 8, 9]) (by kernel_rfl) (by kernel_rfl) (by kernel_rfl) ?_
  refine GoO.exec (is := [2]) (hs := [.p]) (rest := []) (ks := [0, 1, 5]) (env' := [(0, .pointer (some ⟨b_2, 0, none⟩)), (1, .pointer (some ⟨b_6, 0, none⟩)), (5, .slice A_10 r_9.length c_11)]) (H' := [⟨1, b_2, [.int .u64 t_1.now, .int .u64 t_1.next, .slice A_3 t_1.rows.length c_4]⟩, ⟨3, b_6, [.int .u64 m_5.Now, .int .u64 m_5.Next, .slice A_7 m_5.Rows.length c_8]⟩]) (ps := []) (by kernel_rfl) trivial ?_
  refine GoO.regionEnd ?_
  refine GoO.seq' c28_4e ?_
  refine GoO.seq' c28_5e ?_
  refine GoO.draw c28_6e (by kernel_rfl) [] [⟨3, b_6, [.int .u64 m_5.Now, .int .u64 m_5.Next, .slice A_7 m_5.Rows.length c_8]⟩] [] (n := 17) (by kernel_rfl) ?_
  simp only [List.replicate]
  refine GoF.take [0, 2, 3, 4, 5] [.p, .p, .p, .p, .b 0] (ks := [1, 5, 10, 15]) (fu := 12) (li := [true, false, true, true, true, true, false, false, false, false, false, false, false, false, false, false, false]) (env' := [(1, .pointer (some ⟨b_6, 0, none⟩)), (5, .slice A_10 r_9.length c_11), (10, .pointer (some ⟨b_2, 0, none⟩)), (15, .int .u64 m_5.Now)]) (ps := [b_6 = b_6]) (hk := [1]) (bk := []) (by kernel_rfl) (And.intro rfl trivial) rfl rfl ?_
  refine OpTo.goF (i := 1) (by kernel_rfl) (hk := [1]) (bk := []) (GoO.call rfl (by kernel_rfl) (by kernel_rfl) (session_Table_Now_ok n t_1 b_2 A_3 c_4) [[0], [1], [2]] [] [(1, 0)] [(2, 1)] (hks := [0, 1]) (bks := [0, 1, 2]) (by kernel_rfl) (by kernel_rfl) (by kernel_rfl) (.inl rfl) rfl rfl (by kernel_rfl) (by kernel_rfl) _ (fun _ _ => rfl) _ _ (fun _ _ => rfl) (fun _ _ => rfl) (fun _ _ => by kernel_rfl) (fun _ _ => by kernel_rfl) (fun r_12 x_14 => ⟨rfl, rfl, ?_⟩))
  refine GoF.shape (env' := [(1, .pointer (some ⟨b_6, 0, none⟩)), (5, .slice A_10 r_9.length c_11), (10, .pointer (some ⟨b_2, 0, none⟩)), (11, .int .u64 r_12), (15, .int .u64 m_5.Now)]) (H' := [⟨1, b_2, [.int .u64 t_1.now, .int .u64 t_1.next, .slice A_3 t_1.rows.length c_4]⟩, ⟨3, b_6, [.int .u64 m_5.Now, .int .u64 m_5.Next, .slice A_7 m_5.Rows.length c_8]⟩]) (B' := [Ow 40 kT_session_Row A_10 c_11 r_9, Ow 2 kT_session_Row A_3 c_4 t_1.rows, Ow 4 kT_tontineref15_Row A_7 c_8 m_5.Rows]) (ks := [1, 5, 10, 11, 15]) (by kernel_rfl) (by kernel_rfl) (by kernel_rfl) ?_
  refine GoF.take [6, 7] [.p, .p] (ks := [1, 5, 17]) (fu := 9) (li := [true, true, true, true, true, true, true, true, false, false, false, false, false, false, false, false, false]) (env' := [(1, .pointer (some ⟨b_6, 0, none⟩)), (5, .slice A_10 r_9.length c_11), (17, .bool (r_12 != m_5.Now))]) (ps := []) (hk := [1]) (bk := []) (by kernel_rfl) trivial rfl rfl ?_
  refine GoF.bsplit (t := 17) (by kernel_rfl) (fun h13 => ?_) (fun h13 => ?_)
  · refine GoF.take [8, 9, 10, 11, 12, 13, 14, 15, 16] [.p, .p, .p, .p, .p, .p, .p, .p, .p] (ks := [1, 5, 26]) (fu := 0) (li := [true, true, true, true, true, true, true, true, true, true, true, true, true, true, true, true, true]) (env' := [(1, .pointer (some ⟨b_6, 0, none⟩)), (5, .slice A_10 r_9.length c_11), (26, .bool true)]) (ps := []) (hk := [1]) (bk := []) (by kernel_rfl) trivial rfl rfl ?_
    refine GoF.done (by kernel_rfl) ?_
    exact GoO.sub (ks := [1, 5, 26]) (hk := [1, 0]) (bk := [2, 0, 1]) (by kernel_rfl) (by kernel_rfl) (by kernel_rfl) (tontinelaw15_alike_j0_ok n t_1 m_5 r_9 b_2 A_3 c_4 b_6 A_7 c_8 A_10 c_11 w0 S0 true)
  · refine GoF.take [8, 9, 10, 11, 12, 13, 14, 15, 16] [.p, .p, .p, .p, .p, .b 0, .p, .p, .p] (ks := [1, 5, 26]) (fu := 0) (li := [true, true, true, true, true, true, true, true, true, true, true, true, true, true, true, true, true]) (env' := [(1, .pointer (some ⟨b_6, 0, none⟩)), (5, .slice A_10 r_9.length c_11), (26, .bool ((r_9.length : Int) != (m_5.Rows.length : Int)))]) (ps := [b_6 = b_6]) (hk := [1]) (bk := []) (by kernel_rfl) (And.intro rfl trivial) rfl rfl ?_
    refine GoF.done (by kernel_rfl) ?_
    exact GoO.sub (ks := [1, 5, 26]) (hk := [1, 0]) (bk := [2, 0, 1]) (by kernel_rfl) (by kernel_rfl) (by kernel_rfl) (tontinelaw15_alike_j0_ok n t_1 m_5 r_9 b_2 A_3 c_4 b_6 A_7 c_8 A_10 c_11 w0 S0 ((r_9.length : Int) != (m_5.Rows.length : Int)))

/-! (*tontine/pack.Writer).Num -/
noncomputable def c38_0 : Code := bodyOf Try.f38
noncomputable def c38_1 : Code := cdL c38_0
noncomputable def c38_2 : Code := cdR c38_0
noncomputable def c38_3 : Code := cdL c38_2
noncomputable def c38_4 : Code := cdL c38_3
noncomputable def c38_5 : Code := cdR c38_3
noncomputable def c38_9 : Code := cdR c38_5
noncomputable def c38_10 : Code := cdR c38_2
noncomputable def c38_11 : Code := cdL c38_10
noncomputable def c38_12 : Code := cdR c38_10
noncomputable def c38_13 : Code := cdL c38_12
noncomputable def c38_14 : Code := cdL c38_13
noncomputable def c38_15 : Code := cdR c38_13
noncomputable def c38_16 : Code := cdL c38_15
noncomputable def c38_17 : Code := cdL c38_16
noncomputable def c38_18 : Code := cdL c38_17
noncomputable def c38_19 : Code := cdL c38_18
noncomputable def c38_20 : Code := cdR c38_18
noncomputable def c38_21 : Code := cdL c38_20
noncomputable def c38_22 : Code := cdR c38_20
noncomputable def c38_23 : Code := cdR c38_17
noncomputable def c38_24 : Code := cdL c38_23
noncomputable def c38_25 : Code := cdL c38_24
noncomputable def c38_26 : Code := cdR c38_23
noncomputable def c38_27 : Code := cdR c38_12
noncomputable def c38_28 : Code := cdL c38_27
noncomputable def c38_29 : Code := cdR c38_27
noncomputable def c38_30 : Code := cdL c38_29
noncomputable def c38_31 : Code := cdL c38_30
noncomputable def c38_32 : Code := cdR c38_30
noncomputable def c38_33 : Code := cdL c38_32
noncomputable def c38_34 : Code := cdL c38_33
noncomputable def c38_35 : Code := cdL c38_34
noncomputable def c38_36 : Code := cdL c38_35
noncomputable def c38_37 : Code := cdR c38_35
noncomputable def c38_38 : Code := cdL c38_37
noncomputable def c38_39 : Code := cdR c38_37
noncomputable def c38_40 : Code := cdR c38_34
noncomputable def c38_41 : Code := cdL c38_40
noncomputable def c38_42 : Code := cdL c38_41
noncomputable def c38_43 : Code := cdR c38_40
noncomputable def c38_44 : Code := cdR c38_29
noncomputable def c38_45 : Code := cdL c38_44
noncomputable def c38_46 : Code := cdR c38_44
noncomputable def c38_6 : Code := cdL c38_5
noncomputable def r38_1 : Array Oper := cdO c38_1
noncomputable def r38_4 : Array Oper := cdO c38_4
noncomputable def r38_11 : Array Oper := cdO c38_11
noncomputable def r38_14 : Array Oper := cdO c38_14
noncomputable def r38_19 : Array Oper := cdO c38_19
noncomputable def r38_25 : Array Oper := cdO c38_25
noncomputable def r38_26 : Array Oper := cdO c38_26
noncomputable def r38_28 : Array Oper := cdO c38_28
noncomputable def r38_31 : Array Oper := cdO c38_31
noncomputable def r38_36 : Array Oper := cdO c38_36
noncomputable def r38_42 : Array Oper := cdO c38_42
noncomputable def r38_43 : Array Oper := cdO c38_43
noncomputable def r38_45 : Array Oper := cdO c38_45
theorem c38_0e : c38_0 = .seq c38_1 c38_2 := by kernel_rfl
theorem c38_1e : c38_1 = .region 0 r38_1 false := by kernel_rfl
theorem c38_2e : c38_2 = .seq c38_3 c38_10 := by kernel_rfl
theorem c38_3e : c38_3 = .seq c38_4 c38_5 := by kernel_rfl
theorem c38_4e : c38_4 = .region 1 r38_4 false := by kernel_rfl
theorem c38_5e : c38_5 = .cond (cdC c38_5) c38_6 c38_9 := by kernel_rfl
theorem c38_9e : c38_9 = .skip := by kernel_rfl
theorem c38_10e : c38_10 = .seq c38_11 c38_12 := by kernel_rfl
theorem c38_11e : c38_11 = .region 3 r38_11 false := by kernel_rfl
theorem c38_12e : c38_12 = .seq c38_13 c38_27 := by kernel_rfl
theorem c38_13e : c38_13 = .seq c38_14 c38_15 := by kernel_rfl
theorem c38_14e : c38_14 = .region 4 r38_14 false := by kernel_rfl
theorem c38_15e : c38_15 = .block 0 c38_16 := by kernel_rfl
theorem c38_16e : c38_16 = .loop c38_17 := by kernel_rfl
theorem c38_17e : c38_17 = .seq c38_18 c38_23 := by kernel_rfl
theorem c38_18e : c38_18 = .seq c38_19 c38_20 := by kernel_rfl
theorem c38_19e : c38_19 = .region 5 r38_19 false := by kernel_rfl
theorem c38_20e : c38_20 = .cond (cdC c38_20) c38_21 c38_22 := by kernel_rfl
theorem c38_21e : c38_21 = .skip := by kernel_rfl
theorem c38_22e : c38_22 = .exit 0 := by kernel_rfl
theorem c38_23e : c38_23 = .seq c38_24 c38_26 := by kernel_rfl
theorem c38_24e : c38_24 = .block 1 c38_25 := by kernel_rfl
theorem c38_25e : c38_25 = .region 7 r38_25 false := by kernel_rfl
theorem c38_26e : c38_26 = .region 6 r38_26 false := by kernel_rfl
theorem c38_27e : c38_27 = .seq c38_28 c38_29 := by kernel_rfl
theorem c38_28e : c38_28 = .region 8 r38_28 false := by kernel_rfl
theorem c38_29e : c38_29 = .seq c38_30 c38_44 := by kernel_rfl
theorem c38_30e : c38_30 = .seq c38_31 c38_32 := by kernel_rfl
theorem c38_31e : c38_31 = .region 9 r38_31 false := by kernel_rfl
theorem c38_32e : c38_32 = .block 2 c38_33 := by kernel_rfl
theorem c38_33e : c38_33 = .loop c38_34 := by kernel_rfl
theorem c38_34e : c38_34 = .seq c38_35 c38_40 := by kernel_rfl
theorem c38_35e : c38_35 = .seq c38_36 c38_37 := by kernel_rfl
theorem c38_36e : c38_36 = .region 10 r38_36 false := by kernel_rfl
theorem c38_37e : c38_37 = .cond (cdC c38_37) c38_38 c38_39 := by kernel_rfl
theorem c38_38e : c38_38 = .skip := by kernel_rfl
theorem c38_39e : c38_39 = .exit 2 := by kernel_rfl
theorem c38_40e : c38_40 = .seq c38_41 c38_43 := by kernel_rfl
theorem c38_41e : c38_41 = .block 3 c38_42 := by kernel_rfl
theorem c38_42e : c38_42 = .region 12 r38_42 true := by kernel_rfl
theorem c38_43e : c38_43 = .region 11 r38_43 false := by kernel_rfl
theorem c38_44e : c38_44 = .seq c38_45 c38_46 := by kernel_rfl
theorem c38_45e : c38_45 = .region 13 r38_45 false := by kernel_rfl
theorem c38_46e : c38_46 = .ret := by kernel_rfl
noncomputable def pack_Writer_Num.R (b_2 : Nat) (A_3 : Option Addr) (c_4 : Nat) : Pst T_pack_Writer where
  ε := Option Addr × Nat
  v := fun r x => .pointer (some ⟨b_2, 0, none⟩)
  H := fun r x => [⟨1, b_2, [.slice x.1 r.b.length x.2]⟩]
  B := fun r x => [Ow 2 Kd.u8 x.1 x.2 r.b]
noncomputable def pack_Writer_Num.cx (b_2 : Nat) (A_3 : Option Addr) (c_4 : Nat) (w0 : World) (S0 : Fam) : Cx T_pack_Writer := ⟨Try.prog, 38, Try.f38, 49, w0, S0, [1, 2], 2, pack_Writer_Num.R b_2 A_3 c_4⟩
theorem pack_Writer_Num_l1_ok (n : Nat) (x_5 : Int) (b_2 : Nat) (A_3 : Option Addr) (c_4 : Nat) (w0 : World) (S0 : Fam) :
    ∀ (k : Nat) (f_14 : (List UInt8)) (i_17 : Int) (A_15 : Option Addr) (c_16 : Nat), GoO (pack_Writer_Num.cx b_2 A_3 c_4 w0 S0) [(0, .pointer (some ⟨b_2, 0, none⟩)), (1, .int .u64 x_5), (7, .int .i64 i_17)] [⟨1, b_2, [.slice A_15 f_14.length c_16]⟩] [Ow 2 Kd.u8 A_15 c_16 f_14] [.code c38_34, .inLoop c38_34, .inBlock 2, .code c38_44] (pack_Writer_Num.l1 n x_5 k f_14 i_17) := by
  intro k
  induction k with
  | zero => intros; rw [pack_Writer_Num.l1.eq_1]; exact GoO.stop
  | succ k ih1 =>
    intro f_14 i_17 A_15 c_16
    rw [pack_Writer_Num.l1.eq_2]
    refine GoO.seq' c38_34e ?_
    refine GoO.seq' c38_35e ?_
    refine GoO.region' (is := [0, 1]) c38_36e (by kernel_rfl) ?_
    refine GoO.exec (is := [0, 1]) (hs := [.p, .p]) (rest := []) (ks := [0, 1, 7, 31]) (env' := [(0, .pointer (some ⟨b_2, 0, none⟩)), (1, .int .u64 x_5), (7, .int .i64 i_17), (31, .bool (decide (i_17 ≥ 0)))]) (H' := [⟨1, b_2, [.slice A_15 f_14.length c_16]⟩]) (ps := []) (by kernel_rfl) trivial ?_
    refine GoO.regionEnd ?_
    refine GoO.ite' c38_37e (by kernel_rfl) (fun h18 => ?_) (fun h18 => ?_)
    · refine GoO.skip' c38_38e ?_
      refine GoO.seq' c38_40e ?_
      refine GoO.block' c38_41e ?_
      refine GoO.draw c38_42e (by kernel_rfl) [12, 13, 14] [⟨1, b_2, [.slice A_15 f_14.length c_16]⟩] [] (n := 15) (by kernel_rfl) ?_
      simp only [List.replicate]
      refine GoF.guard (fun h19 => ?_)
      refine GoF.take [0, 1, 2, 3, 4, 5, 6, 7, 8, 9] [.p, .p, .p, .p, .b 0, .p, .p, .p, .p, .p] (ks := [0, 1, 7, 34, 38, 43]) (fu := 5) (li := [true, true, true, true, true, true, true, true, true, true, false, false, false, false, false]) (env' := [(0, .pointer (some ⟨b_2, 0, none⟩)), (1, .int .u64 x_5), (7, .int .i64 i_17), (34, .pointer (some ⟨b_2, 0, none⟩)), (38, .slice A_15 f_14.length c_16), (43, .int .u8 (wu8 (shR .u64 x_5 (wi64 (8 * i_17)))))]) (ps := [b_2 = b_2, (0 : Int) ≤ (wi64 (8 * i_17))]) (hk := [0]) (bk := []) (by kernel_rfl) (And.intro rfl (And.intro h19 trivial)) rfl rfl ?_
      refine OpTo.goF (i := 10) (by kernel_rfl) (hk := [0]) (bk := []) (GoO.lit (e := 5) (K := Kd.u8) rfl (by kernel_rfl) (by kernel_rfl) (cs := [.int .u8 (wu8 (shR .u64 x_5 (wi64 (8 * i_17))))]) (by kernel_rfl) [u8of (shR .u64 x_5 (wi64 (8 * i_17)))] (by kernel_rfl) (by kernel_rfl) (fun w S hB => ⟨[.int .u8 (wu8 (shR .u64 x_5 (wi64 (8 * i_17))))], _, rfl, (congrArg (fun v => [v]) (u8cell _)), rfl⟩) 41 _ (fun _ _ => rfl) (fun A_20 c_21 => ⟨rfl, rfl, ?_⟩))
      refine GoF.guard (fun h22 => ?_)
      refine OpTo.goF (i := 11) (by kernel_rfl) (hk := [0]) (bk := []) (GoO.appW (e := 5) (K := Kd.u8) (A := A_15) (c := c_16) (tg := 2) (bytes := 1) (zs := [.int .u8 0]) (xs := f_14) (ys := [u8of (shR .u64 x_5 (wi64 (8 * i_17)))]) (xv := .slice A_20 [u8of (shR .u64 x_5 (wi64 (8 * i_17)))].length c_21) (j := 1) (bk := [0]) rfl (by kernel_rfl) (by kernel_rfl) (by kernel_rfl) (by kernel_rfl) rfl (by kernel_rfl) rfl (fun w S hB => SrcIs.row (Reads.own w S (hB _ (List.mem_of_getElem? (i := 0) rfl)))) h22 rfl rfl rfl rfl _ (fun _ _ => rfl) (fun A_23 c_24 => ⟨rfl, rfl, ?_⟩))
      refine GoF.fin1 (i := 12) (hint := .p) (ps := []) (hk := []) (bk := []) (by kernel_rfl) rfl trivial (.inl rfl) ?_
      refine GoF.fin1 (i := 13) (hint := .p) (ps := []) (hk := []) (bk := []) (by kernel_rfl) rfl trivial (.inl rfl) ?_
      refine GoF.fin1 (i := 14) (hint := .b 0) (ps := [b_2 = b_2]) (hk := []) (bk := []) (by kernel_rfl) rfl (And.intro rfl trivial) (.inl rfl) ?_
      refine GoF.done (by kernel_rfl) ?_
      refine GoO.inBlock ?_
      refine GoO.region' (is := [0, 1, 2]) c38_43e (by kernel_rfl) ?_
      refine GoO.exec (is := [0, 1, 2]) (hs := [.p, .p, .p]) (rest := []) (ks := [0, 1, 7]) (env' := [(0, .pointer (some ⟨b_2, 0, none⟩)), (1, .int .u64 x_5), (7, .int .i64 (wi64 (i_17 - 1)))]) (H' := [⟨1, b_2, [.slice A_23 (f_14 ++ [u8of (shR .u64 x_5 (wi64 (8 * i_17)))]).length c_24]⟩]) (ps := []) (by kernel_rfl) trivial ?_
      refine GoO.regionEnd ?_
      refine GoO.inLoop ?_
      exact GoO.sub (ks := [0, 1, 7]) (hk := [0]) (bk := [0]) (by kernel_rfl) (by kernel_rfl) (by kernel_rfl) (ih1 (f_14 ++ [u8of (shR .u64 x_5 (wi64 (8 * i_17)))]) (wi64 (i_17 - 1)) A_23 c_24)
    · refine GoO.exit' c38_39e rfl ?_
      refine GoO.seq' c38_44e ?_
      refine GoO.region' (is := [0, 1]) c38_45e (by kernel_rfl) ?_
      refine GoO.exec (is := [0, 1]) (hs := [.p, .p]) (rest := []) (ks := [4]) (env' := [(4, .pointer (some ⟨b_2, 0, none⟩))]) (H' := [⟨1, b_2, [.slice A_15 f_14.length c_16]⟩]) (ps := []) (by kernel_rfl) trivial ?_
      refine GoO.regionEnd ?_
      exact GoO.ret' (h := c38_46e) (hs := []) (ps := []) (hk := [0]) (bk := [0]) Try.func38 (⟨A_15, c_16⟩ : Option Addr × Nat) (by kernel_rfl) trivial (by kernel_rfl) (by kernel_rfl)
theorem pack_Writer_Num_l0_ok (n : Nat) (w_1 : T_pack_Writer) (x_5 : Int) (b_2 : Nat) (A_3 : Option Addr) (c_4 : Nat) (w0 : World) (S0 : Fam) :
    ∀ (k : Nat) (n_6 : Int) (y_7 : Int), GoO (pack_Writer_Num.cx b_2 A_3 c_4 w0 S0) [(0, .pointer (some ⟨b_2, 0, none⟩)), (1, .int .u64 x_5), (5, .int .i64 n_6), (6, .int .u64 y_7)] [⟨1, b_2, [.slice A_3 w_1.b.length c_4]⟩] [Ow 2 Kd.u8 A_3 c_4 w_1.b] [.code c38_17, .inLoop c38_17, .inBlock 0, .code c38_27] (pack_Writer_Num.l0 n w_1 x_5 k n_6 y_7) := by
  intro k
  induction k with
  | zero => intros; rw [pack_Writer_Num.l0.eq_1]; exact GoO.stop
  | succ k ih0 =>
    intro n_6 y_7
    rw [pack_Writer_Num.l0.eq_2]
    refine GoO.seq' c38_17e ?_
    refine GoO.seq' c38_18e ?_
    refine GoO.region' (is := [0, 1]) c38_19e (by kernel_rfl) ?_
    refine GoO.exec (is := [0, 1]) (hs := [.p, .p]) (rest := []) (ks := [0, 1, 5, 6, 12]) (env' := [(0, .pointer (some ⟨b_2, 0, none⟩)), (1, .int .u64 x_5), (5, .int .i64 n_6), (6, .int .u64 y_7), (12, .bool (decide (y_7 > 0)))]) (H' := [⟨1, b_2, [.slice A_3 w_1.b.length c_4]⟩]) (ps := []) (by kernel_rfl) trivial ?_
    refine GoO.regionEnd ?_
    refine GoO.ite' c38_20e (by kernel_rfl) (fun h8 => ?_) (fun h8 => ?_)
    · refine GoO.skip' c38_21e ?_
      refine GoO.seq' c38_23e ?_
      refine GoO.block' c38_24e ?_
      refine GoO.region' (is := [0, 1, 2]) c38_25e (by kernel_rfl) ?_
      refine GoO.exec (is := [0, 1, 2]) (hs := [.p, .p, .p]) (rest := []) (ks := [0, 1, 5, 6]) (env' := [(0, .pointer (some ⟨b_2, 0, none⟩)), (1, .int .u64 x_5), (5, .int .i64 (wi64 (n_6 + 1))), (6, .int .u64 y_7)]) (H' := [⟨1, b_2, [.slice A_3 w_1.b.length c_4]⟩]) (ps := []) (by kernel_rfl) trivial ?_
      refine GoO.regionEnd ?_
      refine GoO.inBlock ?_
      refine GoO.region' (is := [0, 1, 2]) c38_26e (by kernel_rfl) ?_
      refine GoO.exec (is := [0, 1, 2]) (hs := [.p, .p, .p]) (rest := []) (ks := [0, 1, 5, 6]) (env' := [(0, .pointer (some ⟨b_2, 0, none⟩)), (1, .int .u64 x_5), (5, .int .i64 (wi64 (n_6 + 1))), (6, .int .u64 (shR .u64 y_7 8))]) (H' := [⟨1, b_2, [.slice A_3 w_1.b.length c_4]⟩]) (ps := [(0 : Int) ≤ 8]) (by kernel_rfl) (And.intro (by decide) trivial) ?_
      refine GoO.regionEnd ?_
      refine GoO.inLoop ?_
      exact GoO.sub (ks := [0, 1, 5, 6]) (hk := [0]) (bk := [0]) (by kernel_rfl) (by kernel_rfl) (by kernel_rfl) (ih0 (wi64 (n_6 + 1)) (shR .u64 y_7 8))
    · refine GoO.exit' c38_22e rfl ?_
      refine GoO.seq' c38_27e ?_
      refine GoO.region' (is := [0, 1, 2, 3, 4, 5, 6, 7, 8, 9, 10, 11]) c38_28e (by kernel_rfl) ?_
      refine GoO.exec (is := [0, 1, 2, 3, 4, 5, 6]) (hs := [.p, .p, .p, .p, .b 0, .p, .p]) (rest := [7, 8, 9, 10, 11]) (ks := [0, 1, 5, 17, 21, 23]) (env' := [(0, .pointer (some ⟨b_2, 0, none⟩)), (1, .int .u64 x_5), (5, .int .i64 n_6), (17, .pointer (some ⟨b_2, 0, none⟩)), (21, .slice A_3 w_1.b.length c_4), (23, .int .u8 (wu8 n_6))]) (H' := [⟨1, b_2, [.slice A_3 w_1.b.length c_4]⟩]) (ps := [b_2 = b_2]) (by kernel_rfl) (And.intro rfl trivial) ?_
      refine OpTo.go (GoO.lit (e := 5) (K := Kd.u8) rfl (by kernel_rfl) (by kernel_rfl) (cs := [.int .u8 (wu8 n_6)]) (by kernel_rfl) [u8of n_6] (by kernel_rfl) (by kernel_rfl) (fun w S hB => ⟨[.int .u8 (wu8 n_6)], _, rfl, (congrArg (fun v => [v]) (u8cell _)), rfl⟩) 40 _ (fun _ _ => rfl) (fun A_9 c_10 => ?_))
      refine GoO.guard (fun h11 => ?_)
      refine OpTo.go (GoO.appW (e := 5) (K := Kd.u8) (A := A_3) (c := c_4) (tg := 2) (bytes := 1) (zs := [.int .u8 0]) (xs := w_1.b) (ys := [u8of n_6]) (xv := .slice A_9 [u8of n_6].length c_10) (j := 1) (bk := [0]) rfl (by kernel_rfl) (by kernel_rfl) (by kernel_rfl) (by kernel_rfl) rfl (by kernel_rfl) rfl (fun w S hB => SrcIs.row (Reads.own w S (hB _ (List.mem_of_getElem? (i := 0) rfl)))) h11 rfl rfl rfl rfl _ (fun _ _ => rfl) (fun A_12 c_13 => ?_))
      refine GoO.exec (is := [9, 10, 11]) (hs := [.p, .p, .b 0]) (rest := []) (ks := [0, 1, 5]) (env' := [(0, .pointer (some ⟨b_2, 0, none⟩)), (1, .int .u64 x_5), (5, .int .i64 n_6)]) (H' := [⟨1, b_2, [.slice A_12 (w_1.b ++ [u8of n_6]).length c_13]⟩]) (ps := [b_2 = b_2]) (by kernel_rfl) (And.intro rfl trivial) ?_
      refine GoO.regionEnd ?_
      refine GoO.seq' c38_29e ?_
      refine GoO.seq' c38_30e ?_
      refine GoO.region' (is := [0, 1, 2]) c38_31e (by kernel_rfl) ?_
      refine GoO.exec (is := [0, 1, 2]) (hs := [.p, .p, .p]) (rest := []) (ks := [0, 1, 7]) (env' := [(0, .pointer (some ⟨b_2, 0, none⟩)), (1, .int .u64 x_5), (7, .int .i64 (wi64 (n_6 - 1)))]) (H' := [⟨1, b_2, [.slice A_12 (w_1.b ++ [u8of n_6]).length c_13]⟩]) (ps := []) (by kernel_rfl) trivial ?_
      refine GoO.regionEnd ?_
      refine GoO.block' c38_32e ?_
      refine GoO.loop' c38_33e ?_
      exact GoO.sub (ks := [0, 1, 7]) (hk := [0]) (bk := [0]) (by kernel_rfl) (by kernel_rfl) (by kernel_rfl) (pack_Writer_Num_l1_ok n x_5 b_2 A_3 c_4 w0 S0 n (w_1.b ++ [u8of n_6]) (wi64 (n_6 - 1)) A_12 c_13)
theorem pack_Writer_Num_ok (n : Nat) (w_1 : T_pack_Writer) (x_5 : Int) (b_2 : Nat) (A_3 : Option Addr) (c_4 : Nat) :
    Meets Try.prog 38 [.pointer (some ⟨b_2, 0, none⟩), .int .u64 x_5] 2 [1, 2] [⟨1, b_2, [.slice A_3 w_1.b.length c_4]⟩] [Ow 2 Kd.u8 A_3 c_4 w_1.b] (pack_Writer_Num.f n w_1 x_5) (pack_Writer_Num.R b_2 A_3 c_4) := by
  refine Meets.of (c := c38_0) (n := 49) Try.func38 (by kernel_rfl) (by kernel_rfl) (by kernel_rfl) fun w0 S0 => ?_
  unfold pack_Writer_Num.f
  show GoO (pack_Writer_Num.cx b_2 A_3 c_4 w0 S0) [(0, .pointer (some ⟨b_2, 0, none⟩)), (1, .int .u64 x_5)] [⟨1, b_2, [.slice A_3 w_1.b.length c_4]⟩] [Ow 2 Kd.u8 A_3 c_4 w_1.b] [.code c38_0] _
  refine GoO.seq' c38_0e ?_
  refine GoO.region' (is := [0]) c38_1e (by kernel_rfl) ?_
  refine GoO.exec (is := [0]) (hs := [.p]) (rest := []) (ks := [0, 1]) (env' := [(0, .pointer (some ⟨b_2, 0, none⟩)), (1, .int .u64 x_5)]) (H' := [⟨1, b_2, [.slice A_3 w_1.b.length c_4]⟩]) (ps := []) (by kernel_rfl) trivial ?_
  refine GoO.regionEnd ?_
  refine GoO.seq' c38_2e ?_
  refine GoO.seq' c38_3e ?_
  refine GoO.region' (is := [0, 1]) c38_4e (by kernel_rfl) ?_
  refine GoO.exec (is := [0, 1]) (hs := [.p, .p]) (rest := []) (ks := [0, 1, 9]) (env' := [(0, .pointer (some ⟨b_2, 0, none⟩)), (1, .int .u64 x_5), (9, .bool false)]) (H' := [⟨1, b_2, [.slice A_3 w_1.b.length c_4]⟩]) (ps := []) (by kernel_rfl) trivial ?_
  refine GoO.regionEnd ?_
  refine GoO.condF c38_5e (by kernel_rfl) ?_
  refine GoO.skip' c38_9e ?_
  refine GoO.seq' c38_10e ?_
  refine GoO.region' (is := [0]) c38_11e (by kernel_rfl) ?_
  refine GoO.exec (is := [0]) (hs := [.p]) (rest := []) (ks := [0, 1, 5]) (env' := [(0, .pointer (some ⟨b_2, 0, none⟩)), (1, .int .u64 x_5), (5, .int .i64 0)]) (H' := [⟨1, b_2, [.slice A_3 w_1.b.length c_4]⟩]) (ps := []) (by kernel_rfl) trivial ?_
  refine GoO.regionEnd ?_
  refine GoO.seq' c38_12e ?_
  refine GoO.seq' c38_13e ?_
  refine GoO.region' (is := [0, 1]) c38_14e (by kernel_rfl) ?_
  refine GoO.exec (is := [0, 1]) (hs := [.p, .p]) (rest := []) (ks := [0, 1, 5, 6]) (env' := [(0, .pointer (some ⟨b_2, 0, none⟩)), (1, .int .u64 x_5), (5, .int .i64 0), (6, .int .u64 x_5)]) (H' := [⟨1, b_2, [.slice A_3 w_1.b.length c_4]⟩]) (ps := []) (by kernel_rfl) trivial ?_
  refine GoO.regionEnd ?_
  refine GoO.block' c38_15e ?_
  refine GoO.loop' c38_16e ?_
  exact GoO.sub (ks := [0, 1, 5, 6]) (hk := [0]) (bk := [0]) (by kernel_rfl) (by kernel_rfl) (by kernel_rfl) (pack_Writer_Num_l0_ok n w_1 x_5 b_2 A_3 c_4 w0 S0 n 0 x_5)

/-! (*tontine/session.Table).Write -/
noncomputable def c25_0 : Code := bodyOf Try.f25
noncomputable def c25_1 : Code := cdL c25_0
noncomputable def c25_2 : Code := cdL c25_1
noncomputable def c25_3 : Code := cdR c25_1
noncomputable def c25_5 : Code := cdR c25_3
noncomputable def c25_6 : Code := cdR c25_0
noncomputable def c25_7 : Code := cdL c25_6
noncomputable def c25_8 : Code := cdR c25_6
noncomputable def c25_9 : Code := cdL c25_8
noncomputable def c25_10 : Code := cdR c25_8
noncomputable def c25_11 : Code := cdL c25_10
noncomputable def c25_12 : Code := cdL c25_11
noncomputable def c25_13 : Code := cdL c25_12
noncomputable def c25_14 : Code := cdR c25_12
noncomputable def c25_15 : Code := cdL c25_14
noncomputable def c25_16 : Code := cdL c25_15
noncomputable def c25_17 : Code := cdR c25_15
noncomputable def c25_18 : Code := cdR c25_14
noncomputable def c25_19 : Code := cdL c25_18
noncomputable def c25_20 : Code := cdL c25_19
noncomputable def c25_21 : Code := cdL c25_20
noncomputable def c25_22 : Code := cdR c25_20
noncomputable def c25_23 : Code := cdR c25_18
noncomputable def c25_4 : Code := cdL c25_3
noncomputable def r25_2 : Array Oper := cdO c25_2
noncomputable def r25_7 : Array Oper := cdO c25_7
noncomputable def r25_9 : Array Oper := cdO c25_9
noncomputable def r25_13 : Array Oper := cdO c25_13
noncomputable def r25_21 : Array Oper := cdO c25_21
noncomputable def r25_22 : Array Oper := cdO c25_22
noncomputable def r25_23 : Array Oper := cdO c25_23
theorem c25_0e : c25_0 = .seq c25_1 c25_6 := by kernel_rfl
theorem c25_1e : c25_1 = .seq c25_2 c25_3 := by kernel_rfl
theorem c25_2e : c25_2 = .region 0 r25_2 false := by kernel_rfl
theorem c25_3e : c25_3 = .cond (cdC c25_3) c25_4 c25_5 := by kernel_rfl
theorem c25_5e : c25_5 = .skip := by kernel_rfl
theorem c25_6e : c25_6 = .seq c25_7 c25_8 := by kernel_rfl
theorem c25_7e : c25_7 = .region 1 r25_7 true := by kernel_rfl
theorem c25_8e : c25_8 = .seq c25_9 c25_10 := by kernel_rfl
theorem c25_9e : c25_9 = .region 2 r25_9 false := by kernel_rfl
theorem c25_10e : c25_10 = .block 0 c25_11 := by kernel_rfl
theorem c25_11e : c25_11 = .loop c25_12 := by kernel_rfl
theorem c25_12e : c25_12 = .seq c25_13 c25_14 := by kernel_rfl
theorem c25_13e : c25_13 = .region 3 r25_13 false := by kernel_rfl
theorem c25_14e : c25_14 = .seq c25_15 c25_18 := by kernel_rfl
theorem c25_15e : c25_15 = .cond (cdC c25_15) c25_16 c25_17 := by kernel_rfl
theorem c25_16e : c25_16 = .skip := by kernel_rfl
theorem c25_17e : c25_17 = .exit 0 := by kernel_rfl
theorem c25_18e : c25_18 = .seq c25_19 c25_23 := by kernel_rfl
theorem c25_19e : c25_19 = .block 1 c25_20 := by kernel_rfl
theorem c25_20e : c25_20 = .seq c25_21 c25_22 := by kernel_rfl
theorem c25_21e : c25_21 = .region 4 r25_21 false := by kernel_rfl
theorem c25_22e : c25_22 = .region 5 r25_22 true := by kernel_rfl
theorem c25_23e : c25_23 = .region 6 r25_23 false := by kernel_rfl
theorem c25_4e : c25_4 = .ret := by kernel_rfl
noncomputable def session_Table_Write.R (b_2 : Nat) (A_3 : Option Addr) (c_4 : Nat) (b_6 : Nat) (A_7 : Option Addr) (c_8 : Nat) : Pst T_pack_Writer where
  ε := Option Addr × Nat
  v := fun r x => .tuple ⟨[]⟩
  H := fun r x => [⟨3, b_6, [.slice x.1 r.b.length x.2]⟩]
  B := fun r x => [Ow 4 Kd.u8 x.1 x.2 r.b]
noncomputable def session_Table_Write.cx (b_2 : Nat) (A_3 : Option Addr) (c_4 : Nat) (b_6 : Nat) (A_7 : Option Addr) (c_8 : Nat) (w0 : World) (S0 : Fam) : Cx T_pack_Writer := ⟨Try.prog, 25, Try.f25, 59, w0, S0, [3, 4], 4, session_Table_Write.R b_2 A_3 c_4 b_6 A_7 c_8⟩
theorem session_Table_Write_l0_ok (n : Nat) (t_1 : T_session_Table) (b_2 : Nat) (A_3 : Option Addr) (c_4 : Nat) (b_6 : Nat) (A_7 : Option Addr) (c_8 : Nat) (w0 : World) (S0 : Fam) :
    ∀ (k : Nat) (f_18 : (List UInt8)) (x_21 : Int) (A_19 : Option Addr) (c_20 : Nat), GoO (session_Table_Write.cx b_2 A_3 c_4 b_6 A_7 c_8 w0 S0) [(1, .pointer (some ⟨b_6, 0, none⟩)), (29, .slice A_3 t_1.rows.length c_4), (30, .int .i64 (t_1.rows.length : Int)), (31, .int .i64 x_21)] [⟨3, b_6, [.slice A_19 f_18.length c_20]⟩, ⟨1, b_2, [.int .u64 t_1.now, .int .u64 t_1.next, .slice A_3 t_1.rows.length c_4]⟩] [Ow 4 Kd.u8 A_19 c_20 f_18, Ow 2 kT_session_Row A_3 c_4 t_1.rows] [.code c25_12, .inLoop c25_12, .inBlock 0] (session_Table_Write.l0 n t_1 k f_18 x_21) := by
  intro k
  induction k with
  | zero => intros; rw [session_Table_Write.l0.eq_1]; exact GoO.stop
  | succ k ih0 =>
    intro f_18 x_21 A_19 c_20
    rw [session_Table_Write.l0.eq_2]
    refine GoO.seq' c25_12e ?_
    refine GoO.region' (is := [0]) c25_13e (by kernel_rfl) ?_
    refine GoO.exec (is := [0]) (hs := [.p]) (rest := []) (ks := [1, 29, 30, 31, 32]) (env' := [(1, .pointer (some ⟨b_6, 0, none⟩)), (29, .slice A_3 t_1.rows.length c_4), (30, .int .i64 (t_1.rows.length : Int)), (31, .int .i64 x_21), (32, .bool (decide (x_21 < (t_1.rows.length : Int))))]) (H' := [⟨3, b_6, [.slice A_19 f_18.length c_20]⟩, ⟨1, b_2, [.int .u64 t_1.now, .int .u64 t_1.next, .slice A_3 t_1.rows.length c_4]⟩]) (ps := []) (by kernel_rfl) trivial ?_
    refine GoO.regionEnd ?_
    refine GoO.seq' c25_14e ?_
    refine GoO.ite' c25_15e (by kernel_rfl) (fun h22 => ?_) (fun h22 => ?_)
    · refine GoO.skip' c25_16e ?_
      refine GoO.seq' c25_18e ?_
      refine GoO.block' c25_19e ?_
      refine GoO.seq' c25_20e ?_
      refine GoO.region' (is := [0, 1, 2, 3]) c25_21e (by kernel_rfl) ?_
      refine GoO.guard (fun h23 => ?_)
      refine OpTo.go (GoO.idx (kk := .i64) (e := 87) (K := kT_session_Row) (A := A_3) (c := c_4) (xs := t_1.rows) (iv := x_21) (j := 1) rfl (by kernel_rfl) (by kernel_rfl) (by kernel_rfl) (by kernel_rfl) rfl Reads.own rfl h23.1 h23.2 (by decide) rfl ?_)
      refine OpTo.go (GoO.ldE' (K := kT_session_Row) (A := A_3) (c := c_4) (xs := t_1.rows) (iN := x_21.toNat) (off := 0) (j := 1) rfl (by kernel_rfl) rfl Reads.own (by first | exact idx_lt h23.1 h23.2 | (simp only [List.length_set]; exact idx_lt h23.1 h23.2)) (by decide) (Opn.flat _ _ _ _ _) (v := fun _ => .agg ⟨[.int .u64 ((rdL t_1.rows x_21).Id), .int .u64 ((rdL t_1.rows x_21).Used), .int .u64 ((rdL t_1.rows x_21).Seq), .int .i64 ((rdL t_1.rows x_21).Reply.Err), .int .u64 ((rdL t_1.rows x_21).Reply.Num), .int .u64 ((rdL t_1.rows x_21).Reply.Extra)]⟩) (fun _ => by kernel_rfl) _ (fun _ => rfl) (fun _ => ?_))
      refine OpTo.go (GoO.new rfl 40 (cs := [.int .u64 0, .int .u64 0, .int .u64 0, .int .i64 0, .int .u64 0, .int .u64 0]) (by kernel_rfl) _ (fun _ => rfl) (fun b_24 => ?_))
      refine GoO.exec (is := [3]) (hs := [.b 0]) (rest := []) (ks := [1, 5, 29, 30, 31]) (env' := [(1, .pointer (some ⟨b_6, 0, none⟩)), (5, .pointer (some ⟨b_24, 0, none⟩)), (29, .slice A_3 t_1.rows.length c_4), (30, .int .i64 (t_1.rows.length : Int)), (31, .int .i64 x_21)]) (H' := [⟨40, b_24, [.int .u64 ((rdL t_1.rows x_21).Id), .int .u64 ((rdL t_1.rows x_21).Used), .int .u64 ((rdL t_1.rows x_21).Seq), .int .i64 ((rdL t_1.rows x_21).Reply.Err), .int .u64 ((rdL t_1.rows x_21).Reply.Num), .int .u64 ((rdL t_1.rows x_21).Reply.Extra)]⟩, ⟨3, b_6, [.slice A_19 f_18.length c_20]⟩, ⟨1, b_2, [.int .u64 t_1.now, .int .u64 t_1.next, .slice A_3 t_1.rows.length c_4]⟩]) (ps := [b_24 = b_24]) (by kernel_rfl) (And.intro rfl trivial) ?_
      refine GoO.regionEnd ?_
      refine GoO.draw c25_22e (by kernel_rfl) [] [⟨40, b_24, [.int .u64 ((rdL t_1.rows x_21).Id), .int .u64 ((rdL t_1.rows x_21).Used), .int .u64 ((rdL t_1.rows x_21).Seq), .int .i64 ((rdL t_1.rows x_21).Reply.Err), .int .u64 ((rdL t_1.rows x_21).Reply.Num), .int .u64 ((rdL t_1.rows x_21).Reply.Extra)]⟩] [] (n := 23) (by kernel_rfl) ?_
      simp only [List.replicate]
      refine GoF.take [0, 1, 2, 4, 5, 7, 8, 10, 11, 12, 13, 15, 16, 17, 19, 20, 21] [.p, .p, .b 0, .p, .b 0, .p, .b 0, .p, .p, .b 0, .p, .p, .p, .b 0, .p, .p, .b 0] (ks := [1, 29, 30, 31, 35, 37, 40, 43, 48, 52, 56]) (fu := 6) (li := [true, true, true, false, true, true, false, true, true, false, true, true, true, true, false, true, true, true, false, true, true, true, false]) (env' := [(1, .pointer (some ⟨b_6, 0, none⟩)), (29, .slice A_3 t_1.rows.length c_4), (30, .int .i64 (t_1.rows.length : Int)), (31, .int .i64 x_21), (35, .pointer (some ⟨b_6, 0, none⟩)), (37, .int .u64 ((rdL t_1.rows x_21).Id)), (40, .int .u64 ((rdL t_1.rows x_21).Used)), (43, .int .u64 ((rdL t_1.rows x_21).Seq)), (48, .int .u64 (wu64 ((rdL t_1.rows x_21).Reply.Err))), (52, .int .u64 ((rdL t_1.rows x_21).Reply.Num)), (56, .int .u64 ((rdL t_1.rows x_21).Reply.Extra))]) (ps := [b_24 = b_24, b_24 = b_24, b_24 = b_24, b_24 = b_24, b_24 = b_24, b_24 = b_24]) (hk := [0]) (bk := []) (by kernel_rfl) (And.intro rfl (And.intro rfl (And.intro rfl (And.intro rfl (And.intro rfl (And.intro rfl trivial)))))) rfl rfl ?_
      refine OpTo.goF (i := 3) (by kernel_rfl) (hk := [1]) (bk := []) (GoO.call rfl (by kernel_rfl) (by kernel_rfl) (pack_Writer_Num_ok n (⟨f_18⟩ : T_pack_Writer) ((rdL t_1.rows x_21).Id) b_6 A_19 c_20) [[0], [3], [4]] [(3, 1), (4, 2)] [(1, 1)] [(2, 0)] (hks := [0, 2]) (bks := [1]) (by kernel_rfl) (by kernel_rfl) (by kernel_rfl) (.inl rfl) rfl rfl (by kernel_rfl) (by kernel_rfl) _ (fun _ _ => rfl) _ _ (fun _ _ => rfl) (fun _ _ => rfl) (fun _ _ => by kernel_rfl) (fun _ _ => by kernel_rfl) (fun r_25 x_48 => ⟨rfl, rfl, ?_⟩))
      obtain ⟨A_26, c_27⟩ := x_48
      refine GoF.shape (env' := [(1, .pointer (some ⟨b_6, 0, none⟩)), (29, .slice A_3 t_1.rows.length c_4), (30, .int .i64 (t_1.rows.length : Int)), (31, .int .i64 x_21), (35, .pointer (some ⟨b_6, 0, none⟩)), (37, .int .u64 ((rdL t_1.rows x_21).Id)), (38, .pointer (some ⟨b_6, 0, none⟩)), (40, .int .u64 ((rdL t_1.rows x_21).Used)), (43, .int .u64 ((rdL t_1.rows x_21).Seq)), (48, .int .u64 (wu64 ((rdL t_1.rows x_21).Reply.Err))), (52, .int .u64 ((rdL t_1.rows x_21).Reply.Num)), (56, .int .u64 ((rdL t_1.rows x_21).Reply.Extra))]) (H' := [⟨3, b_6, [.slice A_26 r_25.b.length c_27]⟩, ⟨40, b_24, [.int .u64 ((rdL t_1.rows x_21).Id), .int .u64 ((rdL t_1.rows x_21).Used), .int .u64 ((rdL t_1.rows x_21).Seq), .int .i64 ((rdL t_1.rows x_21).Reply.Err), .int .u64 ((rdL t_1.rows x_21).Reply.Num), .int .u64 ((rdL t_1.rows x_21).Reply.Extra)]⟩, ⟨1, b_2, [.int .u64 t_1.now, .int .u64 t_1.next, .slice A_3 t_1.rows.length c_4]⟩]) (B' := [Ow 4 Kd.u8 A_26 c_27 r_25.b, Ow 2 kT_session_Row A_3 c_4 t_1.rows]) (ks := [1, 29, 30, 31, 35, 37, 38, 40, 43, 48, 52, 56]) (by kernel_rfl) (by kernel_rfl) (by kernel_rfl) ?_
      refine OpTo.goF (i := 6) (by kernel_rfl) (hk := [1]) (bk := []) (GoO.call rfl (by kernel_rfl) (by kernel_rfl) (pack_Writer_Num_ok n r_25 ((rdL t_1.rows x_21).Used) b_6 A_26 c_27) [[0], [3], [4]] [(3, 1), (4, 2)] [(1, 0)] [(2, 0)] (hks := [1, 2]) (bks := [1]) (by kernel_rfl) (by kernel_rfl) (by kernel_rfl) (.inl rfl) rfl rfl (by kernel_rfl) (by kernel_rfl) _ (fun _ _ => rfl) _ _ (fun _ _ => rfl) (fun _ _ => rfl) (fun _ _ => by kernel_rfl) (fun _ _ => by kernel_rfl) (fun r_28 x_47 => ⟨rfl, rfl, ?_⟩))
      obtain ⟨A_29, c_30⟩ := x_47
      refine GoF.shape (env' := [(1, .pointer (some ⟨b_6, 0, none⟩)), (29, .slice A_3 t_1.rows.length c_4), (30, .int .i64 (t_1.rows.length : Int)), (31, .int .i64 x_21), (35, .pointer (some ⟨b_6, 0, none⟩)), (37, .int .u64 ((rdL t_1.rows x_21).Id)), (38, .pointer (some ⟨b_6, 0, none⟩)), (40, .int .u64 ((rdL t_1.rows x_21).Used)), (41, .pointer (some ⟨b_6, 0, none⟩)), (43, .int .u64 ((rdL t_1.rows x_21).Seq)), (48, .int .u64 (wu64 ((rdL t_1.rows x_21).Reply.Err))), (52, .int .u64 ((rdL t_1.rows x_21).Reply.Num)), (56, .int .u64 ((rdL t_1.rows x_21).Reply.Extra))]) (H' := [⟨3, b_6, [.slice A_29 r_28.b.length c_30]⟩, ⟨40, b_24, [.int .u64 ((rdL t_1.rows x_21).Id), .int .u64 ((rdL t_1.rows x_21).Used), .int .u64 ((rdL t_1.rows x_21).Seq), .int .i64 ((rdL t_1.rows x_21).Reply.Err), .int .u64 ((rdL t_1.rows x_21).Reply.Num), .int .u64 ((rdL t_1.rows x_21).Reply.Extra)]⟩, ⟨1, b_2, [.int .u64 t_1.now, .int .u64 t_1.next, .slice A_3 t_1.rows.length c_4]⟩]) (B' := [Ow 4 Kd.u8 A_29 c_30 r_28.b, Ow 2 kT_session_Row A_3 c_4 t_1.rows]) (ks := [1, 29, 30, 31, 35, 37, 38, 40, 41, 43, 48, 52, 56]) (by kernel_rfl) (by kernel_rfl) (by kernel_rfl) ?_
      refine OpTo.goF (i := 9) (by kernel_rfl) (hk := [1]) (bk := []) (GoO.call rfl (by kernel_rfl) (by kernel_rfl) (pack_Writer_Num_ok n r_28 ((rdL t_1.rows x_21).Seq) b_6 A_29 c_30) [[0], [3], [4]] [(3, 1), (4, 2)] [(1, 0)] [(2, 0)] (hks := [1, 2]) (bks := [1]) (by kernel_rfl) (by kernel_rfl) (by kernel_rfl) (.inl rfl) rfl rfl (by kernel_rfl) (by kernel_rfl) _ (fun _ _ => rfl) _ _ (fun _ _ => rfl) (fun _ _ => rfl) (fun _ _ => by kernel_rfl) (fun _ _ => by kernel_rfl) (fun r_31 x_46 => ⟨rfl, rfl, ?_⟩))
      obtain ⟨A_32, c_33⟩ := x_46
      refine GoF.shape (env' := [(1, .pointer (some ⟨b_6, 0, none⟩)), (29, .slice A_3 t_1.rows.length c_4), (30, .int .i64 (t_1.rows.length : Int)), (31, .int .i64 x_21), (35, .pointer (some ⟨b_6, 0, none⟩)), (37, .int .u64 ((rdL t_1.rows x_21).Id)), (38, .pointer (some ⟨b_6, 0, none⟩)), (40, .int .u64 ((rdL t_1.rows x_21).Used)), (41, .pointer (some ⟨b_6, 0, none⟩)), (43, .int .u64 ((rdL t_1.rows x_21).Seq)), (44, .pointer (some ⟨b_6, 0, none⟩)), (48, .int .u64 (wu64 ((rdL t_1.rows x_21).Reply.Err))), (52, .int .u64 ((rdL t_1.rows x_21).Reply.Num)), (56, .int .u64 ((rdL t_1.rows x_21).Reply.Extra))]) (H' := [⟨3, b_6, [.slice A_32 r_31.b.length c_33]⟩, ⟨40, b_24, [.int .u64 ((rdL t_1.rows x_21).Id), .int .u64 ((rdL t_1.rows x_21).Used), .int .u64 ((rdL t_1.rows x_21).Seq), .int .i64 ((rdL t_1.rows x_21).Reply.Err), .int .u64 ((rdL t_1.rows x_21).Reply.Num), .int .u64 ((rdL t_1.rows x_21).Reply.Extra)]⟩, ⟨1, b_2, [.int .u64 t_1.now, .int .u64 t_1.next, .slice A_3 t_1.rows.length c_4]⟩]) (B' := [Ow 4 Kd.u8 A_32 c_33 r_31.b, Ow 2 kT_session_Row A_3 c_4 t_1.rows]) (ks := [1, 29, 30, 31, 35, 37, 38, 40, 41, 43, 44, 48, 52, 56]) (by kernel_rfl) (by kernel_rfl) (by kernel_rfl) ?_
      refine OpTo.goF (i := 14) (by kernel_rfl) (hk := [1]) (bk := []) (GoO.call rfl (by kernel_rfl) (by kernel_rfl) (pack_Writer_Num_ok n r_31 (wu64 ((rdL t_1.rows x_21).Reply.Err)) b_6 A_32 c_33) [[0], [3], [4]] [(3, 1), (4, 2)] [(1, 0)] [(2, 0)] (hks := [1, 2]) (bks := [1]) (by kernel_rfl) (by kernel_rfl) (by kernel_rfl) (.inl rfl) rfl rfl (by kernel_rfl) (by kernel_rfl) _ (fun _ _ => rfl) _ _ (fun _ _ => rfl) (fun _ _ => rfl) (fun _ _ => by kernel_rfl) (fun _ _ => by kernel_rfl) (fun r_34 x_45 => ⟨rfl, rfl, ?_⟩))
      obtain ⟨A_35, c_36⟩ := x_45
      refine GoF.shape (env' := [(1, .pointer (some ⟨b_6, 0, none⟩)), (29, .slice A_3 t_1.rows.length c_4), (30, .int .i64 (t_1.rows.length : Int)), (31, .int .i64 x_21), (35, .pointer (some ⟨b_6, 0, none⟩)), (37, .int .u64 ((rdL t_1.rows x_21).Id)), (38, .pointer (some ⟨b_6, 0, none⟩)), (40, .int .u64 ((rdL t_1.rows x_21).Used)), (41, .pointer (some ⟨b_6, 0, none⟩)), (43, .int .u64 ((rdL t_1.rows x_21).Seq)), (44, .pointer (some ⟨b_6, 0, none⟩)), (48, .int .u64 (wu64 ((rdL t_1.rows x_21).Reply.Err))), (49, .pointer (some ⟨b_6, 0, none⟩)), (52, .int .u64 ((rdL t_1.rows x_21).Reply.Num)), (56, .int .u64 ((rdL t_1.rows x_21).Reply.Extra))]) (H' := [⟨3, b_6, [.slice A_35 r_34.b.length c_36]⟩, ⟨40, b_24, [.int .u64 ((rdL t_1.rows x_21).Id), .int .u64 ((rdL t_1.rows x_21).Used), .int .u64 ((rdL t_1.rows x_21).Seq), .int .i64 ((rdL t_1.rows x_21).Reply.Err), .int .u64 ((rdL t_1.rows x_21).Reply.Num), .int .u64 ((rdL t_1.rows x_21).Reply.Extra)]⟩, ⟨1, b_2, [.int .u64 t_1.now, .int .u64 t_1.next, .slice A_3 t_1.rows.length c_4]⟩]) (B' := [Ow 4 Kd.u8 A_35 c_36 r_34.b, Ow 2 kT_session_Row A_3 c_4 t_1.rows]) (ks := [1, 29, 30, 31, 35, 37, 38, 40, 41, 43, 44, 48, 49, 52, 56]) (by kernel_rfl) (by kernel_rfl) (by kernel_rfl) ?_
      refine OpTo.goF (i := 18) (by kernel_rfl) (hk := [1]) (bk := []) (GoO.call rfl (by kernel_rfl) (by kernel_rfl) (pack_Writer_Num_ok n r_34 ((rdL t_1.rows x_21).Reply.Num) b_6 A_35 c_36) [[0], [3], [4]] [(3, 1), (4, 2)] [(1, 0)] [(2, 0)] (hks := [1, 2]) (bks := [1]) (by kernel_rfl) (by kernel_rfl) (by kernel_rfl) (.inl rfl) rfl rfl (by kernel_rfl) (by kernel_rfl) _ (fun _ _ => rfl) _ _ (fun _ _ => rfl) (fun _ _ => rfl) (fun _ _ => by kernel_rfl) (fun _ _ => by kernel_rfl) (fun r_37 x_44 => ⟨rfl, rfl, ?_⟩))
      obtain ⟨A_38, c_39⟩ := x_44
      refine GoF.shape (env' := [(1, .pointer (some ⟨b_6, 0, none⟩)), (29, .slice A_3 t_1.rows.length c_4), (30, .int .i64 (t_1.rows.length : Int)), (31, .int .i64 x_21), (35, .pointer (some ⟨b_6, 0, none⟩)), (37, .int .u64 ((rdL t_1.rows x_21).Id)), (38, .pointer (some ⟨b_6, 0, none⟩)), (40, .int .u64 ((rdL t_1.rows x_21).Used)), (41, .pointer (some ⟨b_6, 0, none⟩)), (43, .int .u64 ((rdL t_1.rows x_21).Seq)), (44, .pointer (some ⟨b_6, 0, none⟩)), (48, .int .u64 (wu64 ((rdL t_1.rows x_21).Reply.Err))), (49, .pointer (some ⟨b_6, 0, none⟩)), (52, .int .u64 ((rdL t_1.rows x_21).Reply.Num)), (53, .pointer (some ⟨b_6, 0, none⟩)), (56, .int .u64 ((rdL t_1.rows x_21).Reply.Extra))]) (H' := [⟨3, b_6, [.slice A_38 r_37.b.length c_39]⟩, ⟨40, b_24, [.int .u64 ((rdL t_1.rows x_21).Id), .int .u64 ((rdL t_1.rows x_21).Used), .int .u64 ((rdL t_1.rows x_21).Seq), .int .i64 ((rdL t_1.rows x_21).Reply.Err), .int .u64 ((rdL t_1.rows x_21).Reply.Num), .int .u64 ((rdL t_1.rows x_21).Reply.Extra)]⟩, ⟨1, b_2, [.int .u64 t_1.now, .int .u64 t_1.next, .slice A_3 t_1.rows.length c_4]⟩]) (B' := [Ow 4 Kd.u8 A_38 c_39 r_37.b, Ow 2 kT_session_Row A_3 c_4 t_1.rows]) (ks := [1, 29, 30, 31, 35, 37, 38, 40, 41, 43, 44, 48, 49, 52, 53, 56]) (by kernel_rfl) (by kernel_rfl) (by kernel_rfl) ?_
      refine OpTo.goF (i := 22) (by kernel_rfl) (hk := [1]) (bk := []) (GoO.call rfl (by kernel_rfl) (by kernel_rfl) (pack_Writer_Num_ok n r_37 ((rdL t_1.rows x_21).Reply.Extra) b_6 A_38 c_39) [[0], [3], [4]] [(3, 1), (4, 2)] [(1, 0)] [(2, 0)] (hks := [1, 2]) (bks := [1]) (by kernel_rfl) (by kernel_rfl) (by kernel_rfl) (.inl rfl) rfl rfl (by kernel_rfl) (by kernel_rfl) _ (fun _ _ => rfl) _ _ (fun _ _ => rfl) (fun _ _ => rfl) (fun _ _ => by kernel_rfl) (fun _ _ => by kernel_rfl) (fun r_40 x_43 => ⟨rfl, rfl, ?_⟩))
      obtain ⟨A_41, c_42⟩ := x_43
      refine GoF.shape (env' := [(1, .pointer (some ⟨b_6, 0, none⟩)), (29, .slice A_3 t_1.rows.length c_4), (30, .int .i64 (t_1.rows.length : Int)), (31, .int .i64 x_21), (35, .pointer (some ⟨b_6, 0, none⟩)), (37, .int .u64 ((rdL t_1.rows x_21).Id)), (38, .pointer (some ⟨b_6, 0, none⟩)), (40, .int .u64 ((rdL t_1.rows x_21).Used)), (41, .pointer (some ⟨b_6, 0, none⟩)), (43, .int .u64 ((rdL t_1.rows x_21).Seq)), (44, .pointer (some ⟨b_6, 0, none⟩)), (48, .int .u64 (wu64 ((rdL t_1.rows x_21).Reply.Err))), (49, .pointer (some ⟨b_6, 0, none⟩)), (52, .int .u64 ((rdL t_1.rows x_21).Reply.Num)), (53, .pointer (some ⟨b_6, 0, none⟩)), (56, .int .u64 ((rdL t_1.rows x_21).Reply.Extra)), (57, .pointer (some ⟨b_6, 0, none⟩))]) (H' := [⟨3, b_6, [.slice A_41 r_40.b.length c_42]⟩, ⟨40, b_24, [.int .u64 ((rdL t_1.rows x_21).Id), .int .u64 ((rdL t_1.rows x_21).Used), .int .u64 ((rdL t_1.rows x_21).Seq), .int .i64 ((rdL t_1.rows x_21).Reply.Err), .int .u64 ((rdL t_1.rows x_21).Reply.Num), .int .u64 ((rdL t_1.rows x_21).Reply.Extra)]⟩, ⟨1, b_2, [.int .u64 t_1.now, .int .u64 t_1.next, .slice A_3 t_1.rows.length c_4]⟩]) (B' := [Ow 4 Kd.u8 A_41 c_42 r_40.b, Ow 2 kT_session_Row A_3 c_4 t_1.rows]) (ks := [1, 29, 30, 31, 35, 37, 38, 40, 41, 43, 44, 48, 49, 52, 53, 56, 57]) (by kernel_rfl) (by kernel_rfl) (by kernel_rfl) ?_
      refine GoF.done (by kernel_rfl) ?_
      refine GoO.inBlock ?_
      refine GoO.region' (is := [0, 1]) c25_23e (by kernel_rfl) ?_
      refine GoO.exec (is := [0, 1]) (hs := [.p, .p]) (rest := []) (ks := [1, 29, 30, 31]) (env' := [(1, .pointer (some ⟨b_6, 0, none⟩)), (29, .slice A_3 t_1.rows.length c_4), (30, .int .i64 (t_1.rows.length : Int)), (31, .int .i64 (wi64 (x_21 + 1)))]) (H' := [⟨3, b_6, [.slice A_41 r_40.b.length c_42]⟩, ⟨40, b_24, [.int .u64 ((rdL t_1.rows x_21).Id), .int .u64 ((rdL t_1.rows x_21).Used), .int .u64 ((rdL t_1.rows x_21).Seq), .int .i64 ((rdL t_1.rows x_21).Reply.Err), .int .u64 ((rdL t_1.rows x_21).Reply.Num), .int .u64 ((rdL t_1.rows x_21).Reply.Extra)]⟩, ⟨1, b_2, [.int .u64 t_1.now, .int .u64 t_1.next, .slice A_3 t_1.rows.length c_4]⟩]) (ps := []) (by kernel_rfl) trivial ?_
      refine GoO.regionEnd ?_
      refine GoO.inLoop ?_
      exact GoO.sub (ks := [1, 29, 30, 31]) (hk := [0, 2]) (bk := [0, 1]) (by kernel_rfl) (by kernel_rfl) (by kernel_rfl) (ih0 r_40.b (wi64 (x_21 + 1)) A_41 c_42)
    · refine GoO.exit' c25_17e rfl ?_
      exact GoO.fin (hs := []) (ps := []) (hk := [0]) (bk := [0]) Try.func25 (⟨A_19, c_20⟩ : Option Addr × Nat) (by kernel_rfl) trivial (by kernel_rfl) (by kernel_rfl)
theorem session_Table_Write_ok (n : Nat) (t_1 : T_session_Table) (w_5 : T_pack_Writer) (b_2 : Nat) (A_3 : Option Addr) (c_4 : Nat) (b_6 : Nat) (A_7 : Option Addr) (c_8 : Nat) :
    Meets Try.prog 25 [.pointer (some ⟨b_2, 0, none⟩), .pointer (some ⟨b_6, 0, none⟩)] 4 [3, 4] [⟨1, b_2, [.int .u64 t_1.now, .int .u64 t_1.next, .slice A_3 t_1.rows.length c_4]⟩, ⟨3, b_6, [.slice A_7 w_5.b.length c_8]⟩] [Ow 2 kT_session_Row A_3 c_4 t_1.rows, Ow 4 Kd.u8 A_7 c_8 w_5.b] (session_Table_Write.f n t_1 w_5) (session_Table_Write.R b_2 A_3 c_4 b_6 A_7 c_8) := by
  refine Meets.of (c := c25_0) (n := 59) Try.func25 (by kernel_rfl) (by kernel_rfl) (by kernel_rfl) fun w0 S0 => ?_
  unfold session_Table_Write.f
  show GoO (session_Table_Write.cx b_2 A_3 c_4 b_6 A_7 c_8 w0 S0) [(0, .pointer (some ⟨b_2, 0, none⟩)), (1, .pointer (some ⟨b_6, 0, none⟩))] [⟨1, b_2, [.int .u64 t_1.now, .int .u64 t_1.next, .slice A_3 t_1.rows.length c_4]⟩, ⟨3, b_6, [.slice A_7 w_5.b.length c_8]⟩] [Ow 2 kT_session_Row A_3 c_4 t_1.rows, Ow 4 Kd.u8 A_7 c_8 w_5.b] [.code c25_0] _
  refine GoO.seq' c25_0e ?_
  refine GoO.seq' c25_1e ?_
  refine GoO.region' (is := [0, 1]) c25_2e (by kernel_rfl) ?_
  refine GoO.exec (is := [0, 1]) (hs := [.p, .p]) (rest := []) (ks := [0, 1, 7]) (env' := [(0, .pointer (some ⟨b_2, 0, none⟩)), (1, .pointer (some ⟨b_6, 0, none⟩)), (7, .bool false)]) (H' := [⟨1, b_2, [.int .u64 t_1.now, .int .u64 t_1.next, .slice A_3 t_1.rows.length c_4]⟩, ⟨3, b_6, [.slice A_7 w_5.b.length c_8]⟩]) (ps := []) (by kernel_rfl) trivial ?_
  refine GoO.regionEnd ?_
  refine GoO.condF c25_3e (by kernel_rfl) ?_
  refine GoO.skip' c25_5e ?_
  refine GoO.seq' c25_6e ?_
  refine GoO.draw c25_7e (by kernel_rfl) [] [⟨1, b_2, [.int .u64 t_1.now, .int .u64 t_1.next, .slice A_3 t_1.rows.length c_4]⟩] [] (n := 18) (by kernel_rfl) ?_
  simp only [List.replicate]
  refine GoF.take [0, 1, 2, 3, 4, 6, 7, 8, 9, 11, 12, 13, 14, 15, 16] [.p, .p, .p, .p, .b 0, .p, .p, .p, .b 0, .p, .p, .p, .b 0, .p, .p] (ks := [0, 1, 8, 12, 17, 24]) (fu := 3) (li := [true, true, true, true, true, false, true, true, true, true, false, true, true, true, true, true, true, false]) (env' := [(0, .pointer (some ⟨b_2, 0, none⟩)), (1, .pointer (some ⟨b_6, 0, none⟩)), (8, .pointer (some ⟨b_6, 0, none⟩)), (12, .int .u64 t_1.now), (17, .int .u64 t_1.next), (24, .int .u64 (wu64 (t_1.rows.length : Int)))]) (ps := [b_2 = b_2, b_2 = b_2, b_2 = b_2]) (hk := [0]) (bk := []) (by kernel_rfl) (And.intro rfl (And.intro rfl (And.intro rfl trivial))) rfl rfl ?_
  refine OpTo.goF (i := 5) (by kernel_rfl) (hk := [1]) (bk := []) (GoO.call rfl (by kernel_rfl) (by kernel_rfl) (pack_Writer_Num_ok n w_5 t_1.now b_6 A_7 c_8) [[0], [3], [4]] [(3, 1), (4, 2)] [(1, 1)] [(2, 1)] (hks := [0]) (bks := [0]) (by kernel_rfl) (by kernel_rfl) (by kernel_rfl) (.inl rfl) rfl rfl (by kernel_rfl) (by kernel_rfl) _ (fun _ _ => rfl) _ _ (fun _ _ => rfl) (fun _ _ => rfl) (fun _ _ => by kernel_rfl) (fun _ _ => by kernel_rfl) (fun r_9 x_51 => ⟨rfl, rfl, ?_⟩))
  obtain ⟨A_10, c_11⟩ := x_51
  refine GoF.shape (env' := [(0, .pointer (some ⟨b_2, 0, none⟩)), (1, .pointer (some ⟨b_6, 0, none⟩)), (8, .pointer (some ⟨b_6, 0, none⟩)), (12, .int .u64 t_1.now), (13, .pointer (some ⟨b_6, 0, none⟩)), (17, .int .u64 t_1.next), (24, .int .u64 (wu64 (t_1.rows.length : Int)))]) (H' := [⟨3, b_6, [.slice A_10 r_9.b.length c_11]⟩, ⟨1, b_2, [.int .u64 t_1.now, .int .u64 t_1.next, .slice A_3 t_1.rows.length c_4]⟩]) (B' := [Ow 4 Kd.u8 A_10 c_11 r_9.b, Ow 2 kT_session_Row A_3 c_4 t_1.rows]) (ks := [0, 1, 8, 12, 13, 17, 24]) (by kernel_rfl) (by kernel_rfl) (by kernel_rfl) ?_
  refine OpTo.goF (i := 10) (by kernel_rfl) (hk := [1]) (bk := []) (GoO.call rfl (by kernel_rfl) (by kernel_rfl) (pack_Writer_Num_ok n r_9 t_1.next b_6 A_10 c_11) [[0], [3], [4]] [(3, 1), (4, 2)] [(1, 0)] [(2, 0)] (hks := [1]) (bks := [1]) (by kernel_rfl) (by kernel_rfl) (by kernel_rfl) (.inl rfl) rfl rfl (by kernel_rfl) (by kernel_rfl) _ (fun _ _ => rfl) _ _ (fun _ _ => rfl) (fun _ _ => rfl) (fun _ _ => by kernel_rfl) (fun _ _ => by kernel_rfl) (fun r_12 x_50 => ⟨rfl, rfl, ?_⟩))
  obtain ⟨A_13, c_14⟩ := x_50
  refine GoF.shape (env' := [(0, .pointer (some ⟨b_2, 0, none⟩)), (1, .pointer (some ⟨b_6, 0, none⟩)), (8, .pointer (some ⟨b_6, 0, none⟩)), (12, .int .u64 t_1.now), (13, .pointer (some ⟨b_6, 0, none⟩)), (17, .int .u64 t_1.next), (18, .pointer (some ⟨b_6, 0, none⟩)), (24, .int .u64 (wu64 (t_1.rows.length : Int)))]) (H' := [⟨3, b_6, [.slice A_13 r_12.b.length c_14]⟩, ⟨1, b_2, [.int .u64 t_1.now, .int .u64 t_1.next, .slice A_3 t_1.rows.length c_4]⟩]) (B' := [Ow 4 Kd.u8 A_13 c_14 r_12.b, Ow 2 kT_session_Row A_3 c_4 t_1.rows]) (ks := [0, 1, 8, 12, 13, 17, 18, 24]) (by kernel_rfl) (by kernel_rfl) (by kernel_rfl) ?_
  refine OpTo.goF (i := 17) (by kernel_rfl) (hk := [1]) (bk := []) (GoO.call rfl (by kernel_rfl) (by kernel_rfl) (pack_Writer_Num_ok n r_12 (wu64 (t_1.rows.length : Int)) b_6 A_13 c_14) [[0], [3], [4]] [(3, 1), (4, 2)] [(1, 0)] [(2, 0)] (hks := [1]) (bks := [1]) (by kernel_rfl) (by kernel_rfl) (by kernel_rfl) (.inl rfl) rfl rfl (by kernel_rfl) (by kernel_rfl) _ (fun _ _ => rfl) _ _ (fun _ _ => rfl) (fun _ _ => rfl) (fun _ _ => by kernel_rfl) (fun _ _ => by kernel_rfl) (fun r_15 x_49 => ⟨rfl, rfl, ?_⟩))
  obtain ⟨A_16, c_17⟩ := x_49
  refine GoF.shape (env' := [(0, .pointer (some ⟨b_2, 0, none⟩)), (1, .pointer (some ⟨b_6, 0, none⟩)), (8, .pointer (some ⟨b_6, 0, none⟩)), (12, .int .u64 t_1.now), (13, .pointer (some ⟨b_6, 0, none⟩)), (17, .int .u64 t_1.next), (18, .pointer (some ⟨b_6, 0, none⟩)), (24, .int .u64 (wu64 (t_1.rows.length : Int))), (25, .pointer (some ⟨b_6, 0, none⟩))]) (H' := [⟨3, b_6, [.slice A_16 r_15.b.length c_17]⟩, ⟨1, b_2, [.int .u64 t_1.now, .int .u64 t_1.next, .slice A_3 t_1.rows.length c_4]⟩]) (B' := [Ow 4 Kd.u8 A_16 c_17 r_15.b, Ow 2 kT_session_Row A_3 c_4 t_1.rows]) (ks := [0, 1, 8, 12, 13, 17, 18, 24, 25]) (by kernel_rfl) (by kernel_rfl) (by kernel_rfl) ?_
  refine GoF.done (by kernel_rfl) ?_
  refine GoO.seq' c25_8e ?_
  refine GoO.region' (is := [0, 1, 2, 3, 4, 5]) c25_9e (by kernel_rfl) ?_
  refine GoO.exec (is := [0, 1, 2, 3, 4, 5]) (hs := [.p, .p, .p, .b 1, .p, .p]) (rest := []) (ks := [1, 29, 30, 31]) (env' := [(1, .pointer (some ⟨b_6, 0, none⟩)), (29, .slice A_3 t_1.rows.length c_4), (30, .int .i64 (t_1.rows.length : Int)), (31, .int .i64 0)]) (H' := [⟨3, b_6, [.slice A_16 r_15.b.length c_17]⟩, ⟨1, b_2, [.int .u64 t_1.now, .int .u64 t_1.next, .slice A_3 t_1.rows.length c_4]⟩]) (ps := [b_2 = b_2]) (by kernel_rfl) (And.intro rfl trivial) ?_
  refine GoO.regionEnd ?_
  refine GoO.block' c25_10e ?_
  refine GoO.loop' c25_11e ?_
  exact GoO.sub (ks := [1, 29, 30, 31]) (hk := [0, 1]) (bk := [0, 1]) (by kernel_rfl) (by kernel_rfl) (by kernel_rfl) (session_Table_Write_l0_ok n t_1 b_2 A_3 c_4 b_6 A_7 c_8 w0 S0 n r_15.b 0 A_16 c_17)

/-! (*tontine/pack.Writer).Bytes -/
noncomputable def c29_0 : Code := bodyOf Try.f29
noncomputable def c29_1 : Code := cdL c29_0
noncomputable def c29_2 : Code := cdR c29_0
noncomputable def c29_3 : Code := cdL c29_2
noncomputable def c29_4 : Code := cdL c29_3
noncomputable def c29_5 : Code := cdR c29_3
noncomputable def c29_9 : Code := cdR c29_5
noncomputable def c29_10 : Code := cdR c29_2
noncomputable def c29_11 : Code := cdL c29_10
noncomputable def c29_12 : Code := cdR c29_10
noncomputable def c29_6 : Code := cdL c29_5
noncomputable def r29_1 : Array Oper := cdO c29_1
noncomputable def r29_4 : Array Oper := cdO c29_4
noncomputable def r29_11 : Array Oper := cdO c29_11
theorem c29_0e : c29_0 = .seq c29_1 c29_2 := by kernel_rfl
theorem c29_1e : c29_1 = .region 0 r29_1 false := by kernel_rfl
theorem c29_2e : c29_2 = .seq c29_3 c29_10 := by kernel_rfl
theorem c29_3e : c29_3 = .seq c29_4 c29_5 := by kernel_rfl
theorem c29_4e : c29_4 = .region 1 r29_4 false := by kernel_rfl
theorem c29_5e : c29_5 = .cond (cdC c29_5) c29_6 c29_9 := by kernel_rfl
theorem c29_9e : c29_9 = .skip := by kernel_rfl
theorem c29_10e : c29_10 = .seq c29_11 c29_12 := by kernel_rfl
theorem c29_11e : c29_11 = .region 3 r29_11 false := by kernel_rfl
theorem c29_12e : c29_12 = .ret := by kernel_rfl
noncomputable def pack_Writer_Bytes.R (b_2 : Nat) (A_3 : Option Addr) (c_4 : Nat) : Pst (List UInt8) where
  ε := Unit
  v := fun r x => .string (bs r)
  H := fun r x => []
  B := fun r x => []
noncomputable def pack_Writer_Bytes.cx (b_2 : Nat) (A_3 : Option Addr) (c_4 : Nat) (w0 : World) (S0 : Fam) : Cx (List UInt8) := ⟨Try.prog, 29, Try.f29, 10, w0, S0, [], 2, pack_Writer_Bytes.R b_2 A_3 c_4⟩
theorem pack_Writer_Bytes_ok (n : Nat) (w_1 : T_pack_Writer) (b_2 : Nat) (A_3 : Option Addr) (c_4 : Nat) :
    Meets Try.prog 29 [.pointer (some ⟨b_2, 0, none⟩)] 2 [] [⟨1, b_2, [.slice A_3 w_1.b.length c_4]⟩] [Ow 2 Kd.u8 A_3 c_4 w_1.b] (pack_Writer_Bytes.f n w_1) (pack_Writer_Bytes.R b_2 A_3 c_4) := by
  refine Meets.of (c := c29_0) (n := 10) Try.func29 (by kernel_rfl) (by kernel_rfl) (by kernel_rfl) fun w0 S0 => ?_
  unfold pack_Writer_Bytes.f
  show GoO (pack_Writer_Bytes.cx b_2 A_3 c_4 w0 S0) [(0, .pointer (some ⟨b_2, 0, none⟩))] [⟨1, b_2, [.slice A_3 w_1.b.length c_4]⟩] [Ow 2 Kd.u8 A_3 c_4 w_1.b] [.code c29_0] _
  refine GoO.seq' c29_0e ?_
  refine GoO.region' (is := [0]) c29_1e (by kernel_rfl) ?_
  refine GoO.exec (is := [0]) (hs := [.p]) (rest := []) (ks := [0]) (env' := [(0, .pointer (some ⟨b_2, 0, none⟩))]) (H' := [⟨1, b_2, [.slice A_3 w_1.b.length c_4]⟩]) (ps := []) (by kernel_rfl) trivial ?_
  refine GoO.regionEnd ?_
  refine GoO.seq' c29_2e ?_
  refine GoO.seq' c29_3e ?_
  refine GoO.region' (is := [0, 1]) c29_4e (by kernel_rfl) ?_
  refine GoO.exec (is := [0, 1]) (hs := [.p, .p]) (rest := []) (ks := [0, 4]) (env' := [(0, .pointer (some ⟨b_2, 0, none⟩)), (4, .bool false)]) (H' := [⟨1, b_2, [.slice A_3 w_1.b.length c_4]⟩]) (ps := []) (by kernel_rfl) trivial ?_
  refine GoO.regionEnd ?_
  refine GoO.condF c29_5e (by kernel_rfl) ?_
  refine GoO.skip' c29_9e ?_
  refine GoO.seq' c29_10e ?_
  refine GoO.region' (is := [0, 1, 2, 3, 4, 5]) c29_11e (by kernel_rfl) ?_
  refine GoO.exec (is := [0, 1, 2, 3]) (hs := [.p, .p, .p, .b 0]) (rest := [4, 5]) (ks := [8]) (env' := [(8, .slice A_3 w_1.b.length c_4)]) (H' := [⟨1, b_2, [.slice A_3 w_1.b.length c_4]⟩]) (ps := [b_2 = b_2]) (by kernel_rfl) (And.intro rfl trivial) ?_
  refine OpTo.go (GoO.toStr (e := 5) (A := A_3) (c := c_4) (xs := w_1.b) (j := 0) rfl (by kernel_rfl) (by kernel_rfl) (by kernel_rfl) (by kernel_rfl) rfl Reads.own rfl rfl ?_)
  refine GoO.exec (is := [5]) (hs := [.p]) (rest := []) (ks := [2]) (env' := [(2, .string (bs w_1.b))]) (H' := [⟨1, b_2, [.slice A_3 w_1.b.length c_4]⟩]) (ps := []) (by kernel_rfl) trivial ?_
  refine GoO.regionEnd ?_
  exact GoO.ret' (h := c29_12e) (hs := []) (ps := []) (hk := []) (bk := []) Try.func29 () (by kernel_rfl) trivial (by kernel_rfl) (by kernel_rfl)

/-! tontine/tontineref03.Num -/
noncomputable def c42_0 : Code := bodyOf Try.f42
noncomputable def c42_1 : Code := cdL c42_0
noncomputable def c42_2 : Code := cdR c42_0
noncomputable def c42_3 : Code := cdL c42_2
noncomputable def c42_4 : Code := cdR c42_2
noncomputable def c42_5 : Code := cdL c42_4
noncomputable def c42_6 : Code := cdR c42_4
noncomputable def c42_7 : Code := cdL c42_6
noncomputable def c42_8 : Code := cdL c42_7
noncomputable def c42_9 : Code := cdL c42_8
noncomputable def c42_10 : Code := cdL c42_9
noncomputable def c42_11 : Code := cdL c42_10
noncomputable def c42_12 : Code := cdR c42_10
noncomputable def c42_13 : Code := cdL c42_12
noncomputable def c42_14 : Code := cdR c42_12
noncomputable def c42_15 : Code := cdR c42_9
noncomputable def c42_16 : Code := cdL c42_15
noncomputable def c42_17 : Code := cdL c42_16
noncomputable def c42_18 : Code := cdR c42_16
noncomputable def c42_19 : Code := cdL c42_18
noncomputable def c42_20 : Code := cdR c42_18
noncomputable def c42_21 : Code := cdR c42_6
noncomputable def c42_22 : Code := cdL c42_21
noncomputable def c42_23 : Code := cdR c42_21
noncomputable def r42_1 : Array Oper := cdO c42_1
noncomputable def r42_3 : Array Oper := cdO c42_3
noncomputable def r42_5 : Array Oper := cdO c42_5
noncomputable def r42_11 : Array Oper := cdO c42_11
noncomputable def r42_17 : Array Oper := cdO c42_17
noncomputable def r42_19 : Array Oper := cdO c42_19
noncomputable def r42_20 : Array Oper := cdO c42_20
noncomputable def r42_22 : Array Oper := cdO c42_22
theorem c42_0e : c42_0 = .seq c42_1 c42_2 := by kernel_rfl
theorem c42_1e : c42_1 = .region 0 r42_1 false := by kernel_rfl
theorem c42_2e : c42_2 = .seq c42_3 c42_4 := by kernel_rfl
theorem c42_3e : c42_3 = .region 1 r42_3 false := by kernel_rfl
theorem c42_4e : c42_4 = .seq c42_5 c42_6 := by kernel_rfl
theorem c42_5e : c42_5 = .region 2 r42_5 false := by kernel_rfl
theorem c42_6e : c42_6 = .seq c42_7 c42_21 := by kernel_rfl
theorem c42_7e : c42_7 = .block 0 c42_8 := by kernel_rfl
theorem c42_8e : c42_8 = .loop c42_9 := by kernel_rfl
theorem c42_9e : c42_9 = .seq c42_10 c42_15 := by kernel_rfl
theorem c42_10e : c42_10 = .seq c42_11 c42_12 := by kernel_rfl
theorem c42_11e : c42_11 = .region 3 r42_11 false := by kernel_rfl
theorem c42_12e : c42_12 = .cond (cdC c42_12) c42_13 c42_14 := by kernel_rfl
theorem c42_13e : c42_13 = .skip := by kernel_rfl
theorem c42_14e : c42_14 = .exit 0 := by kernel_rfl
theorem c42_15e : c42_15 = .block 1 c42_16 := by kernel_rfl
theorem c42_16e : c42_16 = .seq c42_17 c42_18 := by kernel_rfl
theorem c42_17e : c42_17 = .region 4 r42_17 false := by kernel_rfl
theorem c42_18e : c42_18 = .seq c42_19 c42_20 := by kernel_rfl
theorem c42_19e : c42_19 = .region 5 r42_19 false := by kernel_rfl
theorem c42_20e : c42_20 = .region 6 r42_20 false := by kernel_rfl
theorem c42_21e : c42_21 = .seq c42_22 c42_23 := by kernel_rfl
theorem c42_22e : c42_22 = .region 7 r42_22 false := by kernel_rfl
theorem c42_23e : c42_23 = .ret := by kernel_rfl
noncomputable def tontineref03_Num.R : Pst (List UInt8) where
  ε := Unit
  v := fun r x => .string (bs r)
  H := fun r x => []
  B := fun r x => []
noncomputable def tontineref03_Num.cx (w0 : World) (S0 : Fam) : Cx (List UInt8) := ⟨Try.prog, 42, Try.f42, 24, w0, S0, [], 0, tontineref03_Num.R⟩
theorem tontineref03_Num_l0_ok (n : Nat) (w0 : World) (S0 : Fam) :
    ∀ (k : Nat) (x_2 : Int) (s_3 : (List UInt8)) (n_4 : Int), GoO (tontineref03_Num.cx w0 S0) [(0, .int .u64 x_2), (3, .string (bs s_3)), (4, .int .i64 n_4)] [] [] [.code c42_9, .inLoop c42_9, .inBlock 0, .code c42_21] (tontineref03_Num.l0 n k x_2 s_3 n_4) := by
  intro k
  induction k with
  | zero => intros; rw [tontineref03_Num.l0.eq_1]; exact GoO.stop
  | succ k ih0 =>
    intro x_2 s_3 n_4
    rw [tontineref03_Num.l0.eq_2]
    refine GoO.seq' c42_9e ?_
    refine GoO.seq' c42_10e ?_
    refine GoO.region' (is := [0, 1]) c42_11e (by kernel_rfl) ?_
    refine GoO.exec (is := [0, 1]) (hs := [.p, .p]) (rest := []) (ks := [0, 3, 4, 6]) (env' := [(0, .int .u64 x_2), (3, .string (bs s_3)), (4, .int .i64 n_4), (6, .bool (decide (x_2 > 0)))]) (H' := []) (ps := []) (by kernel_rfl) trivial ?_
    refine GoO.regionEnd ?_
    refine GoO.ite' c42_12e (by kernel_rfl) (fun h5 => ?_) (fun h5 => ?_)
    · refine GoO.skip' c42_13e ?_
      refine GoO.block' c42_15e ?_
      refine GoO.seq' c42_16e ?_
      refine GoO.region' (is := [0, 1, 2, 3, 4, 5, 6, 7]) c42_17e (by kernel_rfl) ?_
      refine GoO.exec (is := [0, 1, 2]) (hs := [.p, .p, .p]) (rest := [3, 4, 5, 6, 7]) (ks := [0, 3, 4, 9]) (env' := [(0, .int .u64 x_2), (3, .string (bs s_3)), (4, .int .i64 n_4), (9, .int .u8 (wu8 (x_2.tmod 256)))]) (H' := []) (ps := [(256 : Int) ≠ 0]) (by kernel_rfl) (And.intro (by decide) trivial) ?_
      refine OpTo.go (GoO.lit (e := 5) (K := Kd.u8) rfl (by kernel_rfl) (by kernel_rfl) (cs := [.int .u8 (wu8 (x_2.tmod 256))]) (by kernel_rfl) [u8of (x_2.tmod 256)] (by kernel_rfl) (by kernel_rfl) (fun w S hB => ⟨[.int .u8 (wu8 (x_2.tmod 256))], _, rfl, (congrArg (fun v => [v]) (u8cell _)), rfl⟩) 40 _ (fun _ _ => rfl) (fun A_6 c_7 => ?_))
      refine OpTo.go (GoO.toStr (e := 5) (A := A_6) (c := c_7) (xs := [u8of (x_2.tmod 256)]) (j := 0) rfl (by kernel_rfl) (by kernel_rfl) (by kernel_rfl) (by kernel_rfl) rfl Reads.own rfl rfl ?_)
      refine GoO.guard (fun h8 => ?_)
      refine GoO.exec (is := [5, 6, 7]) (hs := [.p, .p, .p]) (rest := []) (ks := [0, 3, 4]) (env' := [(0, .int .u64 x_2), (3, .string (bs ([u8of (x_2.tmod 256)] ++ s_3))), (4, .int .i64 n_4)]) (H' := []) (ps := [([u8of (x_2.tmod 256)] : List UInt8).length + s_3.length ≤ i64max]) (by kernel_rfl) (And.intro h8 trivial) ?_
      refine GoO.regionEnd ?_
      refine GoO.seq' c42_18e ?_
      refine GoO.region' (is := [0, 1, 2]) c42_19e (by kernel_rfl) ?_
      refine GoO.exec (is := [0, 1, 2]) (hs := [.p, .p, .p]) (rest := []) (ks := [0, 3, 4]) (env' := [(0, .int .u64 (wu64 (x_2.tdiv 256))), (3, .string (bs ([u8of (x_2.tmod 256)] ++ s_3))), (4, .int .i64 n_4)]) (H' := []) (ps := [(256 : Int) ≠ 0]) (by kernel_rfl) (And.intro (by decide) trivial) ?_
      refine GoO.regionEnd ?_
      refine GoO.region' (is := [0, 1, 2]) c42_20e (by kernel_rfl) ?_
      refine GoO.exec (is := [0, 1, 2]) (hs := [.p, .p, .p]) (rest := []) (ks := [0, 3, 4]) (env' := [(0, .int .u64 (wu64 (x_2.tdiv 256))), (3, .string (bs ([u8of (x_2.tmod 256)] ++ s_3))), (4, .int .i64 (wi64 (n_4 + 1)))]) (H' := []) (ps := []) (by kernel_rfl) trivial ?_
      refine GoO.regionEnd ?_
      refine GoO.inBlock ?_
      refine GoO.inLoop ?_
      exact GoO.sub (ks := [0, 3, 4]) (hk := []) (bk := []) (by kernel_rfl) (by kernel_rfl) (by kernel_rfl) (ih0 (wu64 (x_2.tdiv 256)) ([u8of (x_2.tmod 256)] ++ s_3) (wi64 (n_4 + 1)))
    · refine GoO.exit' c42_14e rfl ?_
      refine GoO.seq' c42_21e ?_
      refine GoO.region' (is := [0, 1, 2, 3, 4, 5, 6]) c42_22e (by kernel_rfl) ?_
      refine GoO.exec (is := [0, 1]) (hs := [.p, .p]) (rest := [2, 3, 4, 5, 6]) (ks := [3, 19]) (env' := [(3, .string (bs s_3)), (19, .int .u8 (wu8 n_4))]) (H' := []) (ps := []) (by kernel_rfl) trivial ?_
      refine OpTo.go (GoO.lit (e := 5) (K := Kd.u8) rfl (by kernel_rfl) (by kernel_rfl) (cs := [.int .u8 (wu8 n_4)]) (by kernel_rfl) [u8of n_4] (by kernel_rfl) (by kernel_rfl) (fun w S hB => ⟨[.int .u8 (wu8 n_4)], _, rfl, (congrArg (fun v => [v]) (u8cell _)), rfl⟩) 41 _ (fun _ _ => rfl) (fun A_9 c_10 => ?_))
      refine OpTo.go (GoO.toStr (e := 5) (A := A_9) (c := c_10) (xs := [u8of n_4]) (j := 0) rfl (by kernel_rfl) (by kernel_rfl) (by kernel_rfl) (by kernel_rfl) rfl Reads.own rfl rfl ?_)
      refine GoO.guard (fun h11 => ?_)
      refine GoO.exec (is := [4, 5, 6]) (hs := [.p, .p, .p]) (rest := []) (ks := [2]) (env' := [(2, .string (bs ([u8of n_4] ++ s_3)))]) (H' := []) (ps := [([u8of n_4] : List UInt8).length + s_3.length ≤ i64max]) (by kernel_rfl) (And.intro h11 trivial) ?_
      refine GoO.regionEnd ?_
      exact GoO.ret' (h := c42_23e) (hs := []) (ps := []) (hk := []) (bk := []) Try.func42 () (by kernel_rfl) trivial (by kernel_rfl) (by kernel_rfl)
theorem tontineref03_Num_ok (n : Nat) (x_1 : Int) :
    Meets Try.prog 42 [.int .u64 x_1] 0 [] [] [] (tontineref03_Num.f n x_1) (tontineref03_Num.R) := by
  refine Meets.of (c := c42_0) (n := 24) Try.func42 (by kernel_rfl) (by kernel_rfl) (by kernel_rfl) fun w0 S0 => ?_
  unfold tontineref03_Num.f
  show GoO (tontineref03_Num.cx w0 S0) [(0, .int .u64 x_1)] [] [] [.code c42_0] _
  refine GoO.seq' c42_0e ?_
  refine GoO.region' (is := [0]) c42_1e (by kernel_rfl) ?_
  refine GoO.exec (is := [0]) (hs := [.p]) (rest := []) (ks := [0]) (env' := [(0, .int .u64 x_1)]) (H' := []) (ps := []) (by kernel_rfl) trivial ?_
  refine GoO.regionEnd ?_
  refine GoO.seq' c42_2e ?_
  refine GoO.region' (is := [0]) c42_3e (by kernel_rfl) ?_
  refine GoO.exec (is := [0]) (hs := [.p]) (rest := []) (ks := [0, 3]) (env' := [(0, .int .u64 x_1), (3, .string (bs []))]) (H' := []) (ps := []) (by kernel_rfl) trivial ?_
  refine GoO.regionEnd ?_
  refine GoO.seq' c42_4e ?_
  refine GoO.region' (is := [0]) c42_5e (by kernel_rfl) ?_
  refine GoO.exec (is := [0]) (hs := [.p]) (rest := []) (ks := [0, 3, 4]) (env' := [(0, .int .u64 x_1), (3, .string (bs [])), (4, .int .i64 0)]) (H' := []) (ps := []) (by kernel_rfl) trivial ?_
  refine GoO.regionEnd ?_
  refine GoO.seq' c42_6e ?_
  refine GoO.block' c42_7e ?_
  refine GoO.loop' c42_8e ?_
  exact GoO.sub (ks := [0, 3, 4]) (hk := []) (bk := []) (by kernel_rfl) (by kernel_rfl) (by kernel_rfl) (tontineref03_Num_l0_ok n w0 S0 n x_1 [] 0)

/-! (*tontine/tontineref15.Table).Bytes -/
noncomputable def c30_0 : Code := bodyOf Try.f30
noncomputable def c30_1 : Code := cdL c30_0
noncomputable def c30_2 : Code := cdR c30_0
noncomputable def c30_3 : Code := cdL c30_2
noncomputable def c30_4 : Code := cdR c30_2
noncomputable def c30_5 : Code := cdL c30_4
noncomputable def c30_6 : Code := cdL c30_5
noncomputable def c30_7 : Code := cdR c30_5
noncomputable def c30_8 : Code := cdL c30_7
noncomputable def c30_9 : Code := cdL c30_8
noncomputable def c30_10 : Code := cdL c30_9
noncomputable def c30_11 : Code := cdL c30_10
noncomputable def c30_12 : Code := cdR c30_10
noncomputable def c30_13 : Code := cdL c30_12
noncomputable def c30_14 : Code := cdR c30_12
noncomputable def c30_15 : Code := cdR c30_9
noncomputable def c30_16 : Code := cdL c30_15
noncomputable def c30_17 : Code := cdL c30_16
noncomputable def c30_18 : Code := cdL c30_17
noncomputable def c30_19 : Code := cdR c30_17
noncomputable def c30_20 : Code := cdR c30_15
noncomputable def c30_21 : Code := cdR c30_4
noncomputable def c30_22 : Code := cdL c30_21
noncomputable def c30_23 : Code := cdR c30_21
noncomputable def r30_1 : Array Oper := cdO c30_1
noncomputable def r30_3 : Array Oper := cdO c30_3
noncomputable def r30_6 : Array Oper := cdO c30_6
noncomputable def r30_11 : Array Oper := cdO c30_11
noncomputable def r30_18 : Array Oper := cdO c30_18
noncomputable def r30_19 : Array Oper := cdO c30_19
noncomputable def r30_20 : Array Oper := cdO c30_20
noncomputable def r30_22 : Array Oper := cdO c30_22
theorem c30_0e : c30_0 = .seq c30_1 c30_2 := by kernel_rfl
theorem c30_1e : c30_1 = .region 0 r30_1 false := by kernel_rfl
theorem c30_2e : c30_2 = .seq c30_3 c30_4 := by kernel_rfl
theorem c30_3e : c30_3 = .region 1 r30_3 true := by kernel_rfl
theorem c30_4e : c30_4 = .seq c30_5 c30_21 := by kernel_rfl
theorem c30_5e : c30_5 = .seq c30_6 c30_7 := by kernel_rfl
theorem c30_6e : c30_6 = .region 2 r30_6 false := by kernel_rfl
theorem c30_7e : c30_7 = .block 0 c30_8 := by kernel_rfl
theorem c30_8e : c30_8 = .loop c30_9 := by kernel_rfl
theorem c30_9e : c30_9 = .seq c30_10 c30_15 := by kernel_rfl
theorem c30_10e : c30_10 = .seq c30_11 c30_12 := by kernel_rfl
theorem c30_11e : c30_11 = .region 3 r30_11 false := by kernel_rfl
theorem c30_12e : c30_12 = .cond (cdC c30_12) c30_13 c30_14 := by kernel_rfl
theorem c30_13e : c30_13 = .skip := by kernel_rfl
theorem c30_14e : c30_14 = .exit 0 := by kernel_rfl
theorem c30_15e : c30_15 = .seq c30_16 c30_20 := by kernel_rfl
theorem c30_16e : c30_16 = .block 1 c30_17 := by kernel_rfl
theorem c30_17e : c30_17 = .seq c30_18 c30_19 := by kernel_rfl
theorem c30_18e : c30_18 = .region 5 r30_18 false := by kernel_rfl
theorem c30_19e : c30_19 = .region 6 r30_19 true := by kernel_rfl
theorem c30_20e : c30_20 = .region 4 r30_20 false := by kernel_rfl
theorem c30_21e : c30_21 = .seq c30_22 c30_23 := by kernel_rfl
theorem c30_22e : c30_22 = .region 7 r30_22 false := by kernel_rfl
theorem c30_23e : c30_23 = .ret := by kernel_rfl
noncomputable def tontineref15_Table_Bytes.R (b_2 : Nat) (A_3 : Option Addr) (c_4 : Nat) : Pst (List UInt8) where
  ε := Unit
  v := fun r x => .string (bs r)
  H := fun r x => []
  B := fun r x => []
noncomputable def tontineref15_Table_Bytes.cx (b_2 : Nat) (A_3 : Option Addr) (c_4 : Nat) (w0 : World) (S0 : Fam) : Cx (List UInt8) := ⟨Try.prog, 30, Try.f30, 71, w0, S0, [], 2, tontineref15_Table_Bytes.R b_2 A_3 c_4⟩
theorem tontineref15_Table_Bytes_l0_ok (n : Nat) (t_1 : T_tontineref15_Table) (b_2 : Nat) (A_3 : Option Addr) (c_4 : Nat) (w0 : World) (S0 : Fam) :
    ∀ (k : Nat) (s_10 : (List UInt8)) (i_11 : Int), GoO (tontineref15_Table_Bytes.cx b_2 A_3 c_4 w0 S0) [(0, .pointer (some ⟨b_2, 0, none⟩)), (3, .string (bs s_10)), (4, .int .i64 i_11)] [⟨1, b_2, [.int .u64 t_1.Now, .int .u64 t_1.Next, .slice A_3 t_1.Rows.length c_4]⟩] [Ow 2 kT_tontineref15_Row A_3 c_4 t_1.Rows] [.code c30_9, .inLoop c30_9, .inBlock 0, .code c30_21] (tontineref15_Table_Bytes.l0 n t_1 k s_10 i_11) := by
  intro k
  induction k with
  | zero => intros; rw [tontineref15_Table_Bytes.l0.eq_1]; exact GoO.stop
  | succ k ih0 =>
    intro s_10 i_11
    rw [tontineref15_Table_Bytes.l0.eq_2]
    refine GoO.seq' c30_9e ?_
    refine GoO.seq' c30_10e ?_
    refine GoO.region' (is := [0, 1, 2, 3, 4, 5, 6]) c30_11e (by kernel_rfl) ?_
    refine GoO.exec (is := [0, 1, 2, 3, 4, 5, 6]) (hs := [.p, .p, .p, .p, .b 0, .p, .p]) (rest := []) (ks := [0, 3, 4, 31]) (env' := [(0, .pointer (some ⟨b_2, 0, none⟩)), (3, .string (bs s_10)), (4, .int .i64 i_11), (31, .bool (decide (i_11 < (t_1.Rows.length : Int))))]) (H' := [⟨1, b_2, [.int .u64 t_1.Now, .int .u64 t_1.Next, .slice A_3 t_1.Rows.length c_4]⟩]) (ps := [b_2 = b_2]) (by kernel_rfl) (And.intro rfl trivial) ?_
    refine GoO.regionEnd ?_
    refine GoO.ite' c30_12e (by kernel_rfl) (fun h12 => ?_) (fun h12 => ?_)
    · refine GoO.skip' c30_13e ?_
      refine GoO.seq' c30_15e ?_
      refine GoO.block' c30_16e ?_
      refine GoO.seq' c30_17e ?_
      refine GoO.region' (is := [0, 1, 2, 3, 4, 5, 6, 7, 8]) c30_18e (by kernel_rfl) ?_
      refine GoO.exec (is := [0, 1, 2, 3, 4]) (hs := [.p, .p, .p, .b 0, .p]) (rest := [5, 6, 7, 8]) (ks := [0, 3, 4, 37, 38]) (env' := [(0, .pointer (some ⟨b_2, 0, none⟩)), (3, .string (bs s_10)), (4, .int .i64 i_11), (37, .slice A_3 t_1.Rows.length c_4), (38, .int .i64 i_11)]) (H' := [⟨1, b_2, [.int .u64 t_1.Now, .int .u64 t_1.Next, .slice A_3 t_1.Rows.length c_4]⟩]) (ps := [b_2 = b_2]) (by kernel_rfl) (And.intro rfl trivial) ?_
      refine GoO.guard (fun h13 => ?_)
      refine OpTo.go (GoO.idx (kk := .i64) (e := 100) (K := kT_tontineref15_Row) (A := A_3) (c := c_4) (xs := t_1.Rows) (iv := i_11) (j := 0) rfl (by kernel_rfl) (by kernel_rfl) (by kernel_rfl) (by kernel_rfl) rfl Reads.own rfl h13.1 h13.2 (by decide) rfl ?_)
      refine OpTo.go (GoO.ldE' (K := kT_tontineref15_Row) (A := A_3) (c := c_4) (xs := t_1.Rows) (iN := i_11.toNat) (off := 0) (j := 0) rfl (by kernel_rfl) rfl Reads.own (by first | exact idx_lt h13.1 h13.2 | (simp only [List.length_set]; exact idx_lt h13.1 h13.2)) (by decide) (Opn.flat _ _ _ _ _) (v := fun _ => .agg ⟨[.int .u64 ((rdL t_1.Rows i_11).Id), .int .u64 ((rdL t_1.Rows i_11).Used), .int .u64 ((rdL t_1.Rows i_11).Seq), .int .i64 ((rdL t_1.Rows i_11).Reply.Err), .int .u64 ((rdL t_1.Rows i_11).Reply.Num), .int .u64 ((rdL t_1.Rows i_11).Reply.Extra)]⟩) (fun _ => by kernel_rfl) _ (fun _ => rfl) (fun _ => ?_))
      refine OpTo.go (GoO.new rfl 40 (cs := [.int .u64 0, .int .u64 0, .int .u64 0, .int .i64 0, .int .u64 0, .int .u64 0]) (by kernel_rfl) _ (fun _ => rfl) (fun b_14 => ?_))
      refine GoO.exec (is := [8]) (hs := [.b 0]) (rest := []) (ks := [0, 3, 4, 5]) (env' := [(0, .pointer (some ⟨b_2, 0, none⟩)), (3, .string (bs s_10)), (4, .int .i64 i_11), (5, .pointer (some ⟨b_14, 0, none⟩))]) (H' := [⟨40, b_14, [.int .u64 ((rdL t_1.Rows i_11).Id), .int .u64 ((rdL t_1.Rows i_11).Used), .int .u64 ((rdL t_1.Rows i_11).Seq), .int .i64 ((rdL t_1.Rows i_11).Reply.Err), .int .u64 ((rdL t_1.Rows i_11).Reply.Num), .int .u64 ((rdL t_1.Rows i_11).Reply.Extra)]⟩, ⟨1, b_2, [.int .u64 t_1.Now, .int .u64 t_1.Next, .slice A_3 t_1.Rows.length c_4]⟩]) (ps := [b_14 = b_14]) (by kernel_rfl) (And.intro rfl trivial) ?_
      refine GoO.regionEnd ?_
      refine GoO.draw c30_19e (by kernel_rfl) [29] [⟨40, b_14, [.int .u64 ((rdL t_1.Rows i_11).Id), .int .u64 ((rdL t_1.Rows i_11).Used), .int .u64 ((rdL t_1.Rows i_11).Seq), .int .i64 ((rdL t_1.Rows i_11).Reply.Err), .int .u64 ((rdL t_1.Rows i_11).Reply.Num), .int .u64 ((rdL t_1.Rows i_11).Reply.Extra)]⟩] [] (n := 30) (by kernel_rfl) ?_
      simp only [List.replicate]
      refine GoF.take [0, 1, 2, 4, 5, 8, 9, 12, 13, 14, 15, 18, 19, 20, 23, 24, 25] [.p, .p, .b 0, .p, .b 0, .p, .b 0, .p, .p, .b 0, .p, .p, .p, .b 0, .p, .p, .b 0] (ks := [0, 4, 41, 43, 46, 50, 56, 61, 66]) (fu := 13) (li := [true, true, true, false, true, true, false, false, true, true, false, false, true, true, true, true, false, false, true, true, true, false, false, true, true, true, false, false, false, false]) (env' := [(0, .pointer (some ⟨b_2, 0, none⟩)), (4, .int .i64 i_11), (41, .string (bs s_10)), (43, .int .u64 ((rdL t_1.Rows i_11).Id)), (46, .int .u64 ((rdL t_1.Rows i_11).Used)), (50, .int .u64 ((rdL t_1.Rows i_11).Seq)), (56, .int .u64 (wu64 ((rdL t_1.Rows i_11).Reply.Err))), (61, .int .u64 ((rdL t_1.Rows i_11).Reply.Num)), (66, .int .u64 ((rdL t_1.Rows i_11).Reply.Extra))]) (ps := [b_14 = b_14, b_14 = b_14, b_14 = b_14, b_14 = b_14, b_14 = b_14, b_14 = b_14]) (hk := [0]) (bk := []) (by kernel_rfl) (And.intro rfl (And.intro rfl (And.intro rfl (And.intro rfl (And.intro rfl (And.intro rfl trivial)))))) rfl rfl ?_
      refine OpTo.goF (i := 3) (by kernel_rfl) (hk := [0]) (bk := []) (GoO.call rfl (by kernel_rfl) (by kernel_rfl) (tontineref03_Num_ok n ((rdL t_1.Rows i_11).Id)) [[0]] [] [] [] (hks := [0, 1]) (bks := [0]) (by kernel_rfl) (by kernel_rfl) (by kernel_rfl) (.inl rfl) rfl rfl (by kernel_rfl) (by kernel_rfl) _ (fun _ _ => rfl) _ _ (fun _ _ => rfl) (fun _ _ => rfl) (fun _ _ => by kernel_rfl) (fun _ _ => by kernel_rfl) (fun r_15 x_32 => ⟨rfl, rfl, ?_⟩))
      refine GoF.shape (env' := [(0, .pointer (some ⟨b_2, 0, none⟩)), (4, .int .i64 i_11), (41, .string (bs s_10)), (43, .int .u64 ((rdL t_1.Rows i_11).Id)), (44, .string (bs r_15)), (46, .int .u64 ((rdL t_1.Rows i_11).Used)), (50, .int .u64 ((rdL t_1.Rows i_11).Seq)), (56, .int .u64 (wu64 ((rdL t_1.Rows i_11).Reply.Err))), (61, .int .u64 ((rdL t_1.Rows i_11).Reply.Num)), (66, .int .u64 ((rdL t_1.Rows i_11).Reply.Extra))]) (H' := [⟨40, b_14, [.int .u64 ((rdL t_1.Rows i_11).Id), .int .u64 ((rdL t_1.Rows i_11).Used), .int .u64 ((rdL t_1.Rows i_11).Seq), .int .i64 ((rdL t_1.Rows i_11).Reply.Err), .int .u64 ((rdL t_1.Rows i_11).Reply.Num), .int .u64 ((rdL t_1.Rows i_11).Reply.Extra)]⟩, ⟨1, b_2, [.int .u64 t_1.Now, .int .u64 t_1.Next, .slice A_3 t_1.Rows.length c_4]⟩]) (B' := [Ow 2 kT_tontineref15_Row A_3 c_4 t_1.Rows]) (ks := [0, 4, 41, 43, 44, 46, 50, 56, 61, 66]) (by kernel_rfl) (by kernel_rfl) (by kernel_rfl) ?_
      refine OpTo.goF (i := 6) (by kernel_rfl) (hk := [0]) (bk := []) (GoO.call rfl (by kernel_rfl) (by kernel_rfl) (tontineref03_Num_ok n ((rdL t_1.Rows i_11).Used)) [[0]] [] [] [] (hks := [0, 1]) (bks := [0]) (by kernel_rfl) (by kernel_rfl) (by kernel_rfl) (.inl rfl) rfl rfl (by kernel_rfl) (by kernel_rfl) _ (fun _ _ => rfl) _ _ (fun _ _ => rfl) (fun _ _ => rfl) (fun _ _ => by kernel_rfl) (fun _ _ => by kernel_rfl) (fun r_16 x_31 => ⟨rfl, rfl, ?_⟩))
      refine GoF.shape (env' := [(0, .pointer (some ⟨b_2, 0, none⟩)), (4, .int .i64 i_11), (41, .string (bs s_10)), (43, .int .u64 ((rdL t_1.Rows i_11).Id)), (44, .string (bs r_15)), (46, .int .u64 ((rdL t_1.Rows i_11).Used)), (47, .string (bs r_16)), (50, .int .u64 ((rdL t_1.Rows i_11).Seq)), (56, .int .u64 (wu64 ((rdL t_1.Rows i_11).Reply.Err))), (61, .int .u64 ((rdL t_1.Rows i_11).Reply.Num)), (66, .int .u64 ((rdL t_1.Rows i_11).Reply.Extra))]) (H' := [⟨40, b_14, [.int .u64 ((rdL t_1.Rows i_11).Id), .int .u64 ((rdL t_1.Rows i_11).Used), .int .u64 ((rdL t_1.Rows i_11).Seq), .int .i64 ((rdL t_1.Rows i_11).Reply.Err), .int .u64 ((rdL t_1.Rows i_11).Reply.Num), .int .u64 ((rdL t_1.Rows i_11).Reply.Extra)]⟩, ⟨1, b_2, [.int .u64 t_1.Now, .int .u64 t_1.Next, .slice A_3 t_1.Rows.length c_4]⟩]) (B' := [Ow 2 kT_tontineref15_Row A_3 c_4 t_1.Rows]) (ks := [0, 4, 41, 43, 44, 46, 47, 50, 56, 61, 66]) (by kernel_rfl) (by kernel_rfl) (by kernel_rfl) ?_
      refine GoF.guard (fun h17 => ?_)
      refine GoF.take [7] [.p] (ks := [0, 4, 41, 48, 50, 56, 61, 66]) (fu := 10) (li := [true, true, true, true, true, true, true, true, true, true, false, false, true, true, true, true, false, false, true, true, true, false, false, true, true, true, false, false, false, false]) (env' := [(0, .pointer (some ⟨b_2, 0, none⟩)), (4, .int .i64 i_11), (41, .string (bs s_10)), (48, .string (bs (r_15 ++ r_16))), (50, .int .u64 ((rdL t_1.Rows i_11).Seq)), (56, .int .u64 (wu64 ((rdL t_1.Rows i_11).Reply.Err))), (61, .int .u64 ((rdL t_1.Rows i_11).Reply.Num)), (66, .int .u64 ((rdL t_1.Rows i_11).Reply.Extra))]) (ps := [r_15.length + r_16.length ≤ i64max]) (hk := [0]) (bk := []) (by kernel_rfl) (And.intro h17 trivial) rfl rfl ?_
      refine OpTo.goF (i := 10) (by kernel_rfl) (hk := [0]) (bk := []) (GoO.call rfl (by kernel_rfl) (by kernel_rfl) (tontineref03_Num_ok n ((rdL t_1.Rows i_11).Seq)) [[0]] [] [] [] (hks := [0, 1]) (bks := [0]) (by kernel_rfl) (by kernel_rfl) (by kernel_rfl) (.inl rfl) rfl rfl (by kernel_rfl) (by kernel_rfl) _ (fun _ _ => rfl) _ _ (fun _ _ => rfl) (fun _ _ => rfl) (fun _ _ => by kernel_rfl) (fun _ _ => by kernel_rfl) (fun r_18 x_30 => ⟨rfl, rfl, ?_⟩))
      refine GoF.shape (env' := [(0, .pointer (some ⟨b_2, 0, none⟩)), (4, .int .i64 i_11), (41, .string (bs s_10)), (48, .string (bs (r_15 ++ r_16))), (50, .int .u64 ((rdL t_1.Rows i_11).Seq)), (51, .string (bs r_18)), (56, .int .u64 (wu64 ((rdL t_1.Rows i_11).Reply.Err))), (61, .int .u64 ((rdL t_1.Rows i_11).Reply.Num)), (66, .int .u64 ((rdL t_1.Rows i_11).Reply.Extra))]) (H' := [⟨40, b_14, [.int .u64 ((rdL t_1.Rows i_11).Id), .int .u64 ((rdL t_1.Rows i_11).Used), .int .u64 ((rdL t_1.Rows i_11).Seq), .int .i64 ((rdL t_1.Rows i_11).Reply.Err), .int .u64 ((rdL t_1.Rows i_11).Reply.Num), .int .u64 ((rdL t_1.Rows i_11).Reply.Extra)]⟩, ⟨1, b_2, [.int .u64 t_1.Now, .int .u64 t_1.Next, .slice A_3 t_1.Rows.length c_4]⟩]) (B' := [Ow 2 kT_tontineref15_Row A_3 c_4 t_1.Rows]) (ks := [0, 4, 41, 48, 50, 51, 56, 61, 66]) (by kernel_rfl) (by kernel_rfl) (by kernel_rfl) ?_
      refine GoF.guard (fun h19 => ?_)
      refine GoF.take [11] [.p] (ks := [0, 4, 41, 52, 56, 61, 66]) (fu := 8) (li := [true, true, true, true, true, true, true, true, true, true, true, true, true, true, true, true, false, false, true, true, true, false, false, true, true, true, false, false, false, false]) (env' := [(0, .pointer (some ⟨b_2, 0, none⟩)), (4, .int .i64 i_11), (41, .string (bs s_10)), (52, .string (bs ((r_15 ++ r_16) ++ r_18))), (56, .int .u64 (wu64 ((rdL t_1.Rows i_11).Reply.Err))), (61, .int .u64 ((rdL t_1.Rows i_11).Reply.Num)), (66, .int .u64 ((rdL t_1.Rows i_11).Reply.Extra))]) (ps := [(r_15 ++ r_16).length + r_18.length ≤ i64max]) (hk := [0]) (bk := []) (by kernel_rfl) (And.intro h19 trivial) rfl rfl ?_
      refine OpTo.goF (i := 16) (by kernel_rfl) (hk := [0]) (bk := []) (GoO.call rfl (by kernel_rfl) (by kernel_rfl) (tontineref03_Num_ok n (wu64 ((rdL t_1.Rows i_11).Reply.Err))) [[0]] [] [] [] (hks := [0, 1]) (bks := [0]) (by kernel_rfl) (by kernel_rfl) (by kernel_rfl) (.inl rfl) rfl rfl (by kernel_rfl) (by kernel_rfl) _ (fun _ _ => rfl) _ _ (fun _ _ => rfl) (fun _ _ => rfl) (fun _ _ => by kernel_rfl) (fun _ _ => by kernel_rfl) (fun r_20 x_29 => ⟨rfl, rfl, ?_⟩))
      refine GoF.shape (env' := [(0, .pointer (some ⟨b_2, 0, none⟩)), (4, .int .i64 i_11), (41, .string (bs s_10)), (52, .string (bs ((r_15 ++ r_16) ++ r_18))), (56, .int .u64 (wu64 ((rdL t_1.Rows i_11).Reply.Err))), (57, .string (bs r_20)), (61, .int .u64 ((rdL t_1.Rows i_11).Reply.Num)), (66, .int .u64 ((rdL t_1.Rows i_11).Reply.Extra))]) (H' := [⟨40, b_14, [.int .u64 ((rdL t_1.Rows i_11).Id), .int .u64 ((rdL t_1.Rows i_11).Used), .int .u64 ((rdL t_1.Rows i_11).Seq), .int .i64 ((rdL t_1.Rows i_11).Reply.Err), .int .u64 ((rdL t_1.Rows i_11).Reply.Num), .int .u64 ((rdL t_1.Rows i_11).Reply.Extra)]⟩, ⟨1, b_2, [.int .u64 t_1.Now, .int .u64 t_1.Next, .slice A_3 t_1.Rows.length c_4]⟩]) (B' := [Ow 2 kT_tontineref15_Row A_3 c_4 t_1.Rows]) (ks := [0, 4, 41, 52, 56, 57, 61, 66]) (by kernel_rfl) (by kernel_rfl) (by kernel_rfl) ?_
      refine GoF.guard (fun h21 => ?_)
      refine GoF.take [17] [.p] (ks := [0, 4, 41, 58, 61, 66]) (fu := 6) (li := [true, true, true, true, true, true, true, true, true, true, true, true, true, true, true, true, true, true, true, true, true, false, false, true, true, true, false, false, false, false]) (env' := [(0, .pointer (some ⟨b_2, 0, none⟩)), (4, .int .i64 i_11), (41, .string (bs s_10)), (58, .string (bs (((r_15 ++ r_16) ++ r_18) ++ r_20))), (61, .int .u64 ((rdL t_1.Rows i_11).Reply.Num)), (66, .int .u64 ((rdL t_1.Rows i_11).Reply.Extra))]) (ps := [((r_15 ++ r_16) ++ r_18).length + r_20.length ≤ i64max]) (hk := [0]) (bk := []) (by kernel_rfl) (And.intro h21 trivial) rfl rfl ?_
      refine OpTo.goF (i := 21) (by kernel_rfl) (hk := [0]) (bk := []) (GoO.call rfl (by kernel_rfl) (by kernel_rfl) (tontineref03_Num_ok n ((rdL t_1.Rows i_11).Reply.Num)) [[0]] [] [] [] (hks := [0, 1]) (bks := [0]) (by kernel_rfl) (by kernel_rfl) (by kernel_rfl) (.inl rfl) rfl rfl (by kernel_rfl) (by kernel_rfl) _ (fun _ _ => rfl) _ _ (fun _ _ => rfl) (fun _ _ => rfl) (fun _ _ => by kernel_rfl) (fun _ _ => by kernel_rfl) (fun r_22 x_28 => ⟨rfl, rfl, ?_⟩))
      refine GoF.shape (env' := [(0, .pointer (some ⟨b_2, 0, none⟩)), (4, .int .i64 i_11), (41, .string (bs s_10)), (58, .string (bs (((r_15 ++ r_16) ++ r_18) ++ r_20))), (61, .int .u64 ((rdL t_1.Rows i_11).Reply.Num)), (62, .string (bs r_22)), (66, .int .u64 ((rdL t_1.Rows i_11).Reply.Extra))]) (H' := [⟨40, b_14, [.int .u64 ((rdL t_1.Rows i_11).Id), .int .u64 ((rdL t_1.Rows i_11).Used), .int .u64 ((rdL t_1.Rows i_11).Seq), .int .i64 ((rdL t_1.Rows i_11).Reply.Err), .int .u64 ((rdL t_1.Rows i_11).Reply.Num), .int .u64 ((rdL t_1.Rows i_11).Reply.Extra)]⟩, ⟨1, b_2, [.int .u64 t_1.Now, .int .u64 t_1.Next, .slice A_3 t_1.Rows.length c_4]⟩]) (B' := [Ow 2 kT_tontineref15_Row A_3 c_4 t_1.Rows]) (ks := [0, 4, 41, 58, 61, 62, 66]) (by kernel_rfl) (by kernel_rfl) (by kernel_rfl) ?_
      refine GoF.guard (fun h23 => ?_)
      refine GoF.take [22] [.p] (ks := [0, 4, 41, 63, 66]) (fu := 4) (li := [true, true, true, true, true, true, true, true, true, true, true, true, true, true, true, true, true, true, true, true, true, true, true, true, true, true, false, false, false, false]) (env' := [(0, .pointer (some ⟨b_2, 0, none⟩)), (4, .int .i64 i_11), (41, .string (bs s_10)), (63, .string (bs ((((r_15 ++ r_16) ++ r_18) ++ r_20) ++ r_22))), (66, .int .u64 ((rdL t_1.Rows i_11).Reply.Extra))]) (ps := [(((r_15 ++ r_16) ++ r_18) ++ r_20).length + r_22.length ≤ i64max]) (hk := [0]) (bk := []) (by kernel_rfl) (And.intro h23 trivial) rfl rfl ?_
      refine OpTo.goF (i := 26) (by kernel_rfl) (hk := [0]) (bk := []) (GoO.call rfl (by kernel_rfl) (by kernel_rfl) (tontineref03_Num_ok n ((rdL t_1.Rows i_11).Reply.Extra)) [[0]] [] [] [] (hks := [0, 1]) (bks := [0]) (by kernel_rfl) (by kernel_rfl) (by kernel_rfl) (.inl rfl) rfl rfl (by kernel_rfl) (by kernel_rfl) _ (fun _ _ => rfl) _ _ (fun _ _ => rfl) (fun _ _ => rfl) (fun _ _ => by kernel_rfl) (fun _ _ => by kernel_rfl) (fun r_24 x_27 => ⟨rfl, rfl, ?_⟩))
      refine GoF.shape (env' := [(0, .pointer (some ⟨b_2, 0, none⟩)), (4, .int .i64 i_11), (41, .string (bs s_10)), (63, .string (bs ((((r_15 ++ r_16) ++ r_18) ++ r_20) ++ r_22))), (66, .int .u64 ((rdL t_1.Rows i_11).Reply.Extra)), (67, .string (bs r_24))]) (H' := [⟨40, b_14, [.int .u64 ((rdL t_1.Rows i_11).Id), .int .u64 ((rdL t_1.Rows i_11).Used), .int .u64 ((rdL t_1.Rows i_11).Seq), .int .i64 ((rdL t_1.Rows i_11).Reply.Err), .int .u64 ((rdL t_1.Rows i_11).Reply.Num), .int .u64 ((rdL t_1.Rows i_11).Reply.Extra)]⟩, ⟨1, b_2, [.int .u64 t_1.Now, .int .u64 t_1.Next, .slice A_3 t_1.Rows.length c_4]⟩]) (B' := [Ow 2 kT_tontineref15_Row A_3 c_4 t_1.Rows]) (ks := [0, 4, 41, 63, 66, 67]) (by kernel_rfl) (by kernel_rfl) (by kernel_rfl) ?_
      refine GoF.guard (fun h25 => ?_)
      refine GoF.guard (fun h26 => ?_)
      refine GoF.take [27, 28] [.p, .p] (ks := [0, 4, 69]) (fu := 1) (li := [true, true, true, true, true, true, true, true, true, true, true, true, true, true, true, true, true, true, true, true, true, true, true, true, true, true, true, true, true, false]) (env' := [(0, .pointer (some ⟨b_2, 0, none⟩)), (4, .int .i64 i_11), (69, .string (bs (s_10 ++ (((((r_15 ++ r_16) ++ r_18) ++ r_20) ++ r_22) ++ r_24))))]) (ps := [((((r_15 ++ r_16) ++ r_18) ++ r_20) ++ r_22).length + r_24.length ≤ i64max, s_10.length + (((((r_15 ++ r_16) ++ r_18) ++ r_20) ++ r_22) ++ r_24).length ≤ i64max]) (hk := [0]) (bk := []) (by kernel_rfl) (And.intro h25 (And.intro h26 trivial)) rfl rfl ?_
      refine GoF.fin1 (i := 29) (hint := .p) (ps := []) (hk := []) (bk := []) (by kernel_rfl) rfl trivial (.inl rfl) ?_
      refine GoF.done (by kernel_rfl) ?_
      refine GoO.inBlock ?_
      refine GoO.region' (is := [0, 1, 2]) c30_20e (by kernel_rfl) ?_
      refine GoO.exec (is := [0, 1, 2]) (hs := [.p, .p, .p]) (rest := []) (ks := [0, 3, 4]) (env' := [(0, .pointer (some ⟨b_2, 0, none⟩)), (3, .string (bs (s_10 ++ (((((r_15 ++ r_16) ++ r_18) ++ r_20) ++ r_22) ++ r_24)))), (4, .int .i64 (wi64 (i_11 + 1)))]) (H' := [⟨40, b_14, [.int .u64 ((rdL t_1.Rows i_11).Id), .int .u64 ((rdL t_1.Rows i_11).Used), .int .u64 ((rdL t_1.Rows i_11).Seq), .int .i64 ((rdL t_1.Rows i_11).Reply.Err), .int .u64 ((rdL t_1.Rows i_11).Reply.Num), .int .u64 ((rdL t_1.Rows i_11).Reply.Extra)]⟩, ⟨1, b_2, [.int .u64 t_1.Now, .int .u64 t_1.Next, .slice A_3 t_1.Rows.length c_4]⟩]) (ps := []) (by kernel_rfl) trivial ?_
      refine GoO.regionEnd ?_
      refine GoO.inLoop ?_
      exact GoO.sub (ks := [0, 3, 4]) (hk := [1]) (bk := [0]) (by kernel_rfl) (by kernel_rfl) (by kernel_rfl) (ih0 (s_10 ++ (((((r_15 ++ r_16) ++ r_18) ++ r_20) ++ r_22) ++ r_24)) (wi64 (i_11 + 1)))
    · refine GoO.exit' c30_14e rfl ?_
      refine GoO.seq' c30_21e ?_
      refine GoO.region' (is := [0, 1]) c30_22e (by kernel_rfl) ?_
      refine GoO.exec (is := [0, 1]) (hs := [.p, .p]) (rest := []) (ks := [2]) (env' := [(2, .string (bs s_10))]) (H' := [⟨1, b_2, [.int .u64 t_1.Now, .int .u64 t_1.Next, .slice A_3 t_1.Rows.length c_4]⟩]) (ps := []) (by kernel_rfl) trivial ?_
      refine GoO.regionEnd ?_
      exact GoO.ret' (h := c30_23e) (hs := []) (ps := []) (hk := []) (bk := []) Try.func30 () (by kernel_rfl) trivial (by kernel_rfl) (by kernel_rfl)
theorem tontineref15_Table_Bytes_ok (n : Nat) (t_1 : T_tontineref15_Table) (b_2 : Nat) (A_3 : Option Addr) (c_4 : Nat) :
    Meets Try.prog 30 [.pointer (some ⟨b_2, 0, none⟩)] 2 [] [⟨1, b_2, [.int .u64 t_1.Now, .int .u64 t_1.Next, .slice A_3 t_1.Rows.length c_4]⟩] [Ow 2 kT_tontineref15_Row A_3 c_4 t_1.Rows] (tontineref15_Table_Bytes.f n t_1) (tontineref15_Table_Bytes.R b_2 A_3 c_4) := by
  refine Meets.of (c := c30_0) (n := 71) Try.func30 (by kernel_rfl) (by kernel_rfl) (by kernel_rfl) fun w0 S0 => ?_
  unfold tontineref15_Table_Bytes.f
  show GoO (tontineref15_Table_Bytes.cx b_2 A_3 c_4 w0 S0) [(0, .pointer (some ⟨b_2, 0, none⟩))] [⟨1, b_2, [.int .u64 t_1.Now, .int .u64 t_1.Next, .slice A_3 t_1.Rows.length c_4]⟩] [Ow 2 kT_tontineref15_Row A_3 c_4 t_1.Rows] [.code c30_0] _
  refine GoO.seq' c30_0e ?_
  refine GoO.region' (is := [0]) c30_1e (by kernel_rfl) ?_
  refine GoO.exec (is := [0]) (hs := [.p]) (rest := []) (ks := [0]) (env' := [(0, .pointer (some ⟨b_2, 0, none⟩))]) (H' := [⟨1, b_2, [.int .u64 t_1.Now, .int .u64 t_1.Next, .slice A_3 t_1.Rows.length c_4]⟩]) (ps := []) (by kernel_rfl) trivial ?_
  refine GoO.regionEnd ?_
  refine GoO.seq' c30_2e ?_
  refine GoO.draw c30_3e (by kernel_rfl) [19] [⟨1, b_2, [.int .u64 t_1.Now, .int .u64 t_1.Next, .slice A_3 t_1.Rows.length c_4]⟩] [] (n := 20) (by kernel_rfl) ?_
  simp only [List.replicate]
  refine GoF.take [0, 1, 2, 3, 5, 6, 7, 8, 11, 12, 13, 14, 15, 16] [.p, .p, .p, .b 0, .p, .p, .p, .b 0, .p, .p, .p, .b 0, .p, .p] (ks := [0, 9, 14, 22]) (fu := 6) (li := [true, true, true, true, false, true, true, true, true, false, false, true, true, true, true, true, true, false, false, false]) (env' := [(0, .pointer (some ⟨b_2, 0, none⟩)), (9, .int .u64 t_1.Now), (14, .int .u64 t_1.Next), (22, .int .u64 (wu64 (t_1.Rows.length : Int)))]) (ps := [b_2 = b_2, b_2 = b_2, b_2 = b_2]) (hk := [0]) (bk := []) (by kernel_rfl) (And.intro rfl (And.intro rfl (And.intro rfl trivial))) rfl rfl ?_
  refine OpTo.goF (i := 4) (by kernel_rfl) (hk := [0]) (bk := []) (GoO.call rfl (by kernel_rfl) (by kernel_rfl) (tontineref03_Num_ok n t_1.Now) [[0]] [] [] [] (hks := [0]) (bks := [0]) (by kernel_rfl) (by kernel_rfl) (by kernel_rfl) (.inl rfl) rfl rfl (by kernel_rfl) (by kernel_rfl) _ (fun _ _ => rfl) _ _ (fun _ _ => rfl) (fun _ _ => rfl) (fun _ _ => by kernel_rfl) (fun _ _ => by kernel_rfl) (fun r_5 x_35 => ⟨rfl, rfl, ?_⟩))
  refine GoF.shape (env' := [(0, .pointer (some ⟨b_2, 0, none⟩)), (9, .int .u64 t_1.Now), (10, .string (bs r_5)), (14, .int .u64 t_1.Next), (22, .int .u64 (wu64 (t_1.Rows.length : Int)))]) (H' := [⟨1, b_2, [.int .u64 t_1.Now, .int .u64 t_1.Next, .slice A_3 t_1.Rows.length c_4]⟩]) (B' := [Ow 2 kT_tontineref15_Row A_3 c_4 t_1.Rows]) (ks := [0, 9, 10, 14, 22]) (by kernel_rfl) (by kernel_rfl) (by kernel_rfl) ?_
  refine OpTo.goF (i := 9) (by kernel_rfl) (hk := [0]) (bk := []) (GoO.call rfl (by kernel_rfl) (by kernel_rfl) (tontineref03_Num_ok n t_1.Next) [[0]] [] [] [] (hks := [0]) (bks := [0]) (by kernel_rfl) (by kernel_rfl) (by kernel_rfl) (.inl rfl) rfl rfl (by kernel_rfl) (by kernel_rfl) _ (fun _ _ => rfl) _ _ (fun _ _ => rfl) (fun _ _ => rfl) (fun _ _ => by kernel_rfl) (fun _ _ => by kernel_rfl) (fun r_6 x_34 => ⟨rfl, rfl, ?_⟩))
  refine GoF.shape (env' := [(0, .pointer (some ⟨b_2, 0, none⟩)), (9, .int .u64 t_1.Now), (10, .string (bs r_5)), (14, .int .u64 t_1.Next), (15, .string (bs r_6)), (22, .int .u64 (wu64 (t_1.Rows.length : Int)))]) (H' := [⟨1, b_2, [.int .u64 t_1.Now, .int .u64 t_1.Next, .slice A_3 t_1.Rows.length c_4]⟩]) (B' := [Ow 2 kT_tontineref15_Row A_3 c_4 t_1.Rows]) (ks := [0, 9, 10, 14, 15, 22]) (by kernel_rfl) (by kernel_rfl) (by kernel_rfl) ?_
  refine GoF.guard (fun h7 => ?_)
  refine GoF.take [10] [.p] (ks := [0, 16, 22]) (fu := 3) (li := [true, true, true, true, true, true, true, true, true, true, true, true, true, true, true, true, true, false, false, false]) (env' := [(0, .pointer (some ⟨b_2, 0, none⟩)), (16, .string (bs (r_5 ++ r_6))), (22, .int .u64 (wu64 (t_1.Rows.length : Int)))]) (ps := [r_5.length + r_6.length ≤ i64max]) (hk := [0]) (bk := []) (by kernel_rfl) (And.intro h7 trivial) rfl rfl ?_
  refine OpTo.goF (i := 17) (by kernel_rfl) (hk := [0]) (bk := []) (GoO.call rfl (by kernel_rfl) (by kernel_rfl) (tontineref03_Num_ok n (wu64 (t_1.Rows.length : Int))) [[0]] [] [] [] (hks := [0]) (bks := [0]) (by kernel_rfl) (by kernel_rfl) (by kernel_rfl) (.inl rfl) rfl rfl (by kernel_rfl) (by kernel_rfl) _ (fun _ _ => rfl) _ _ (fun _ _ => rfl) (fun _ _ => rfl) (fun _ _ => by kernel_rfl) (fun _ _ => by kernel_rfl) (fun r_8 x_33 => ⟨rfl, rfl, ?_⟩))
  refine GoF.shape (env' := [(0, .pointer (some ⟨b_2, 0, none⟩)), (16, .string (bs (r_5 ++ r_6))), (22, .int .u64 (wu64 (t_1.Rows.length : Int))), (23, .string (bs r_8))]) (H' := [⟨1, b_2, [.int .u64 t_1.Now, .int .u64 t_1.Next, .slice A_3 t_1.Rows.length c_4]⟩]) (B' := [Ow 2 kT_tontineref15_Row A_3 c_4 t_1.Rows]) (ks := [0, 16, 22, 23]) (by kernel_rfl) (by kernel_rfl) (by kernel_rfl) ?_
  refine GoF.guard (fun h9 => ?_)
  refine GoF.take [18] [.p] (ks := [0, 24]) (fu := 1) (li := [true, true, true, true, true, true, true, true, true, true, true, true, true, true, true, true, true, true, true, false]) (env' := [(0, .pointer (some ⟨b_2, 0, none⟩)), (24, .string (bs ((r_5 ++ r_6) ++ r_8)))]) (ps := [(r_5 ++ r_6).length + r_8.length ≤ i64max]) (hk := [0]) (bk := []) (by kernel_rfl) (And.intro h9 trivial) rfl rfl ?_
  refine GoF.fin1 (i := 19) (hint := .p) (ps := []) (hk := []) (bk := []) (by kernel_rfl) rfl trivial (.inl rfl) ?_
  refine GoF.done (by kernel_rfl) ?_
  refine GoO.seq' c30_4e ?_
  refine GoO.seq' c30_5e ?_
  refine GoO.region' (is := [0]) c30_6e (by kernel_rfl) ?_
  refine GoO.exec (is := [0]) (hs := [.p]) (rest := []) (ks := [0, 3, 4]) (env' := [(0, .pointer (some ⟨b_2, 0, none⟩)), (3, .string (bs ((r_5 ++ r_6) ++ r_8))), (4, .int .i64 0)]) (H' := [⟨1, b_2, [.int .u64 t_1.Now, .int .u64 t_1.Next, .slice A_3 t_1.Rows.length c_4]⟩]) (ps := []) (by kernel_rfl) trivial ?_
  refine GoO.regionEnd ?_
  refine GoO.block' c30_7e ?_
  refine GoO.loop' c30_8e ?_
  exact GoO.sub (ks := [0, 3, 4]) (hk := [0]) (bk := [0]) (by kernel_rfl) (by kernel_rfl) (by kernel_rfl) (tontineref15_Table_Bytes_l0_ok n t_1 b_2 A_3 c_4 w0 S0 n ((r_5 ++ r_6) ++ r_8) 0)

/-! tontine/tontinelaw15.SessionRuns -/
noncomputable def c7_0 : Code := bodyOf Try.f7
noncomputable def c7_1 : Code := cdL c7_0
noncomputable def c7_2 : Code := cdR c7_0
noncomputable def c7_3 : Code := cdL c7_2
noncomputable def c7_4 : Code := cdL c7_3
noncomputable def c7_5 : Code := cdR c7_3
noncomputable def c7_6 : Code := cdL c7_5
noncomputable def c7_7 : Code := cdL c7_6
noncomputable def c7_8 : Code := cdR c7_6
noncomputable def c7_9 : Code := cdR c7_5
noncomputable def c7_10 : Code := cdR c7_2
noncomputable def c7_11 : Code := cdL c7_10
noncomputable def c7_12 : Code := cdR c7_10
noncomputable def c7_13 : Code := cdL c7_12
noncomputable def c7_14 : Code := cdL c7_13
noncomputable def c7_15 : Code := cdR c7_13
noncomputable def c7_16 : Code := cdL c7_15
noncomputable def c7_17 : Code := cdL c7_16
noncomputable def c7_18 : Code := cdL c7_17
noncomputable def c7_19 : Code := cdR c7_17
noncomputable def c7_20 : Code := cdL c7_19
noncomputable def c7_21 : Code := cdL c7_20
noncomputable def c7_22 : Code := cdR c7_20
noncomputable def c7_23 : Code := cdR c7_19
noncomputable def c7_24 : Code := cdL c7_23
noncomputable def c7_25 : Code := cdL c7_24
noncomputable def c7_26 : Code := cdL c7_25
noncomputable def c7_27 : Code := cdR c7_25
noncomputable def c7_28 : Code := cdL c7_27
noncomputable def c7_29 : Code := cdL c7_28
noncomputable def c7_30 : Code := cdR c7_28
noncomputable def c7_31 : Code := cdL c7_30
noncomputable def c7_32 : Code := cdR c7_30
noncomputable def c7_33 : Code := cdR c7_27
noncomputable def c7_34 : Code := cdL c7_33
noncomputable def c7_35 : Code := cdR c7_33
noncomputable def c7_36 : Code := cdL c7_35
noncomputable def c7_37 : Code := cdL c7_36
noncomputable def c7_38 : Code := cdR c7_36
noncomputable def c7_39 : Code := cdR c7_35
noncomputable def c7_40 : Code := cdR c7_23
noncomputable def c7_41 : Code := cdR c7_12
noncomputable def c7_42 : Code := cdL c7_41
noncomputable def c7_43 : Code := cdR c7_41
noncomputable def c7_44 : Code := cdL c7_43
noncomputable def c7_45 : Code := cdR c7_43
noncomputable def c7_46 : Code := cdL c7_45
noncomputable def c7_47 : Code := cdR c7_45
noncomputable def r7_1 : Array Oper := cdO c7_1
noncomputable def r7_4 : Array Oper := cdO c7_4
noncomputable def r7_7 : Array Oper := cdO c7_7
noncomputable def r7_11 : Array Oper := cdO c7_11
noncomputable def r7_14 : Array Oper := cdO c7_14
noncomputable def r7_18 : Array Oper := cdO c7_18
noncomputable def r7_26 : Array Oper := cdO c7_26
noncomputable def r7_29 : Array Oper := cdO c7_29
noncomputable def r7_34 : Array Oper := cdO c7_34
noncomputable def r7_37 : Array Oper := cdO c7_37
noncomputable def r7_40 : Array Oper := cdO c7_40
noncomputable def r7_42 : Array Oper := cdO c7_42
noncomputable def r7_44 : Array Oper := cdO c7_44
noncomputable def r7_46 : Array Oper := cdO c7_46
theorem c7_0e : c7_0 = .seq c7_1 c7_2 := by kernel_rfl
theorem c7_1e : c7_1 = .region 0 r7_1 false := by kernel_rfl
theorem c7_2e : c7_2 = .seq c7_3 c7_10 := by kernel_rfl
theorem c7_3e : c7_3 = .seq c7_4 c7_5 := by kernel_rfl
theorem c7_4e : c7_4 = .region 1 r7_4 false := by kernel_rfl
theorem c7_5e : c7_5 = .cond (cdC c7_5) c7_6 c7_9 := by kernel_rfl
theorem c7_6e : c7_6 = .seq c7_7 c7_8 := by kernel_rfl
theorem c7_7e : c7_7 = .region 2 r7_7 false := by kernel_rfl
theorem c7_8e : c7_8 = .ret := by kernel_rfl
theorem c7_9e : c7_9 = .skip := by kernel_rfl
theorem c7_10e : c7_10 = .seq c7_11 c7_12 := by kernel_rfl
theorem c7_11e : c7_11 = .region 3 r7_11 false := by kernel_rfl
theorem c7_12e : c7_12 = .seq c7_13 c7_41 := by kernel_rfl
theorem c7_13e : c7_13 = .seq c7_14 c7_15 := by kernel_rfl
theorem c7_14e : c7_14 = .region 4 r7_14 false := by kernel_rfl
theorem c7_15e : c7_15 = .block 0 c7_16 := by kernel_rfl
theorem c7_16e : c7_16 = .loop c7_17 := by kernel_rfl
theorem c7_17e : c7_17 = .seq c7_18 c7_19 := by kernel_rfl
theorem c7_18e : c7_18 = .region 5 r7_18 false := by kernel_rfl
theorem c7_19e : c7_19 = .seq c7_20 c7_23 := by kernel_rfl
theorem c7_20e : c7_20 = .cond (cdC c7_20) c7_21 c7_22 := by kernel_rfl
theorem c7_21e : c7_21 = .skip := by kernel_rfl
theorem c7_22e : c7_22 = .exit 0 := by kernel_rfl
theorem c7_23e : c7_23 = .seq c7_24 c7_40 := by kernel_rfl
theorem c7_24e : c7_24 = .block 1 c7_25 := by kernel_rfl
theorem c7_25e : c7_25 = .seq c7_26 c7_27 := by kernel_rfl
theorem c7_26e : c7_26 = .region 6 r7_26 false := by kernel_rfl
theorem c7_27e : c7_27 = .seq c7_28 c7_33 := by kernel_rfl
theorem c7_28e : c7_28 = .seq c7_29 c7_30 := by kernel_rfl
theorem c7_29e : c7_29 = .region 7 r7_29 false := by kernel_rfl
theorem c7_30e : c7_30 = .cond (cdC c7_30) c7_31 c7_32 := by kernel_rfl
theorem c7_31e : c7_31 = .exit 0 := by kernel_rfl
theorem c7_32e : c7_32 = .skip := by kernel_rfl
theorem c7_33e : c7_33 = .seq c7_34 c7_35 := by kernel_rfl
theorem c7_34e : c7_34 = .region 8 r7_34 false := by kernel_rfl
theorem c7_35e : c7_35 = .cond (cdC c7_35) c7_36 c7_39 := by kernel_rfl
theorem c7_36e : c7_36 = .seq c7_37 c7_38 := by kernel_rfl
theorem c7_37e : c7_37 = .region 9 r7_37 false := by kernel_rfl
theorem c7_38e : c7_38 = .ret := by kernel_rfl
theorem c7_39e : c7_39 = .skip := by kernel_rfl
theorem c7_40e : c7_40 = .region 10 r7_40 false := by kernel_rfl
theorem c7_41e : c7_41 = .seq c7_42 c7_43 := by kernel_rfl
theorem c7_42e : c7_42 = .region 11 r7_42 false := by kernel_rfl
theorem c7_43e : c7_43 = .seq c7_44 c7_45 := by kernel_rfl
theorem c7_44e : c7_44 = .region 12 r7_44 false := by kernel_rfl
theorem c7_45e : c7_45 = .seq c7_46 c7_47 := by kernel_rfl
theorem c7_46e : c7_46 = .region 13 r7_46 false := by kernel_rfl
theorem c7_47e : c7_47 = .ret := by kernel_rfl
noncomputable def tontinelaw15_SessionRuns.R (A_2 : Option Addr) (c_3 : Nat) : Pst Bool where
  ε := Unit
  v := fun r x => .bool r
  H := fun r x => []
  B := fun r x => []
noncomputable def tontinelaw15_SessionRuns.cx (A_2 : Option Addr) (c_3 : Nat) (w0 : World) (S0 : Fam) : Cx Bool := ⟨Try.prog, 7, Try.f7, 43, w0, S0, [], 0, tontinelaw15_SessionRuns.R A_2 c_3⟩
theorem tontinelaw15_SessionRuns_j0_ok (n : Nat) (f_11 : Int) (f_12 : Int) (f_13 : (List T_session_Row)) (f_16 : Int) (f_17 : Int) (f_18 : (List T_tontineref15_Row)) (b_7 : Nat) (b_10 : Nat) (A_14 : Option Addr) (c_15 : Nat) (A_19 : Option Addr) (c_20 : Nat) (A_2 : Option Addr) (c_3 : Nat) (w0 : World) (S0 : Fam) :
    GoO (tontinelaw15_SessionRuns.cx A_2 c_3 w0 S0) [(3, .pointer (some ⟨b_7, 0, none⟩)), (4, .pointer (some ⟨b_10, 0, none⟩))] [⟨40, b_7, [.int .u64 f_11, .int .u64 f_12, .slice A_14 f_13.length c_15]⟩, ⟨42, b_10, [.int .u64 f_16, .int .u64 f_17, .slice A_19 f_18.length c_20]⟩] [Ow 41 kT_session_Row A_14 c_15 f_13, Ow 44 kT_tontineref15_Row A_19 c_20 f_18] [.code c7_41] (tontinelaw15_SessionRuns.j0 n f_11 f_12 f_13 f_16 f_17 f_18) := by
  unfold tontinelaw15_SessionRuns.j0
  refine GoO.seq' c7_41e ?_
  refine GoO.region' (is := [0, 1]) c7_42e (by kernel_rfl) ?_
  refine OpTo.go (GoO.new rfl 45 (cs := [.slice none ([] : List UInt8).length 0]) (by kernel_rfl) _ (fun _ => rfl) (fun b_35 => ?_))
  refine GoO.exec (is := [1]) (hs := [.p]) (rest := []) (ks := [3, 4, 7]) (env' := [(3, .pointer (some ⟨b_7, 0, none⟩)), (4, .pointer (some ⟨b_10, 0, none⟩)), (7, .pointer (some ⟨b_35, 0, none⟩))]) (H' := [⟨45, b_35, [.slice none ([] : List UInt8).length 0]⟩, ⟨40, b_7, [.int .u64 f_11, .int .u64 f_12, .slice A_14 f_13.length c_15]⟩, ⟨42, b_10, [.int .u64 f_16, .int .u64 f_17, .slice A_19 f_18.length c_20]⟩]) (ps := []) (by kernel_rfl) trivial ?_
  refine GoO.regionEnd ?_
  refine GoO.seq' c7_43e ?_
  refine GoO.region' (is := [0, 1, 2]) c7_44e (by kernel_rfl) ?_
  refine GoO.exec (is := [0, 1]) (hs := [.p, .p]) (rest := [2]) (ks := [4, 7, 35, 36]) (env' := [(4, .pointer (some ⟨b_10, 0, none⟩)), (7, .pointer (some ⟨b_35, 0, none⟩)), (35, .pointer (some ⟨b_7, 0, none⟩)), (36, .pointer (some ⟨b_35, 0, none⟩))]) (H' := [⟨45, b_35, [.slice none ([] : List UInt8).length 0]⟩, ⟨40, b_7, [.int .u64 f_11, .int .u64 f_12, .slice A_14 f_13.length c_15]⟩, ⟨42, b_10, [.int .u64 f_16, .int .u64 f_17, .slice A_19 f_18.length c_20]⟩]) (ps := []) (by kernel_rfl) trivial ?_
  refine GoO.nilOwn Kd.u8 46 ?_
  refine OpTo.go (GoO.call rfl (by kernel_rfl) (by kernel_rfl) (session_Table_Write_ok n (⟨f_11, f_12, f_13⟩ : T_session_Table) (⟨[]⟩ : T_pack_Writer) b_7 A_14 c_15 b_35 none 0) [[0], [40], [41], [45], [46]] [(45, 3), (46, 4)] [(1, 1), (3, 0)] [(2, 1), (4, 0)] (hks := [1, 2]) (bks := [1, 2]) (by kernel_rfl) (by kernel_rfl) (by kernel_rfl) (.inl rfl) rfl rfl (by kernel_rfl) (by kernel_rfl) _ (fun _ _ => rfl) _ _ (fun _ _ => rfl) (fun _ _ => rfl) (fun _ _ => by kernel_rfl) (fun _ _ => by kernel_rfl) (fun r_36 x_43 => ?_))
  obtain ⟨A_37, c_38⟩ := x_43
  refine GoO.shape (env' := [(4, .pointer (some ⟨b_10, 0, none⟩)), (7, .pointer (some ⟨b_35, 0, none⟩)), (35, .pointer (some ⟨b_7, 0, none⟩)), (36, .pointer (some ⟨b_35, 0, none⟩)), (37, .tuple ⟨[]⟩)]) (H' := [⟨45, b_35, [.slice A_37 r_36.b.length c_38]⟩, ⟨40, b_7, [.int .u64 f_11, .int .u64 f_12, .slice A_14 f_13.length c_15]⟩, ⟨42, b_10, [.int .u64 f_16, .int .u64 f_17, .slice A_19 f_18.length c_20]⟩]) (B' := [Ow 46 Kd.u8 A_37 c_38 r_36.b, Ow 41 kT_session_Row A_14 c_15 f_13, Ow 44 kT_tontineref15_Row A_19 c_20 f_18]) (ks := [4, 7, 35, 36, 37]) (by kernel_rfl) (by kernel_rfl) (by kernel_rfl) ?_
  refine GoO.regionEnd ?_
  refine GoO.seq' c7_45e ?_
  refine GoO.region' (is := [0, 1, 2, 3, 4, 5]) c7_46e (by kernel_rfl) ?_
  refine GoO.exec (is := [0]) (hs := [.p]) (rest := [1, 2, 3, 4, 5]) (ks := [4, 38]) (env' := [(4, .pointer (some ⟨b_10, 0, none⟩)), (38, .pointer (some ⟨b_35, 0, none⟩))]) (H' := [⟨45, b_35, [.slice A_37 r_36.b.length c_38]⟩, ⟨40, b_7, [.int .u64 f_11, .int .u64 f_12, .slice A_14 f_13.length c_15]⟩, ⟨42, b_10, [.int .u64 f_16, .int .u64 f_17, .slice A_19 f_18.length c_20]⟩]) (ps := []) (by kernel_rfl) trivial ?_
  refine OpTo.go (GoO.call rfl (by kernel_rfl) (by kernel_rfl) (pack_Writer_Bytes_ok n r_36 b_35 A_37 c_38) [[0], [45], [46]] [] [(1, 0)] [(2, 0)] (hks := [0, 1, 2]) (bks := [0, 1, 2]) (by kernel_rfl) (by kernel_rfl) (by kernel_rfl) (.inl rfl) rfl rfl (by kernel_rfl) (by kernel_rfl) _ (fun _ _ => rfl) _ _ (fun _ _ => rfl) (fun _ _ => rfl) (fun _ _ => by kernel_rfl) (fun _ _ => by kernel_rfl) (fun r_39 x_42 => ?_))
  refine GoO.shape (env' := [(4, .pointer (some ⟨b_10, 0, none⟩)), (38, .pointer (some ⟨b_35, 0, none⟩)), (39, .string (bs r_39))]) (H' := [⟨45, b_35, [.slice A_37 r_36.b.length c_38]⟩, ⟨40, b_7, [.int .u64 f_11, .int .u64 f_12, .slice A_14 f_13.length c_15]⟩, ⟨42, b_10, [.int .u64 f_16, .int .u64 f_17, .slice A_19 f_18.length c_20]⟩]) (B' := [Ow 46 Kd.u8 A_37 c_38 r_36.b, Ow 41 kT_session_Row A_14 c_15 f_13, Ow 44 kT_tontineref15_Row A_19 c_20 f_18]) (ks := [4, 38, 39]) (by kernel_rfl) (by kernel_rfl) (by kernel_rfl) ?_
  refine GoO.exec (is := [2]) (hs := [.p]) (rest := [3, 4, 5]) (ks := [39, 40]) (env' := [(39, .string (bs r_39)), (40, .pointer (some ⟨b_10, 0, none⟩))]) (H' := [⟨45, b_35, [.slice A_37 r_36.b.length c_38]⟩, ⟨40, b_7, [.int .u64 f_11, .int .u64 f_12, .slice A_14 f_13.length c_15]⟩, ⟨42, b_10, [.int .u64 f_16, .int .u64 f_17, .slice A_19 f_18.length c_20]⟩]) (ps := []) (by kernel_rfl) trivial ?_
  refine OpTo.go (GoO.call rfl (by kernel_rfl) (by kernel_rfl) (tontineref15_Table_Bytes_ok n (⟨f_16, f_17, f_18⟩ : T_tontineref15_Table) b_10 A_19 c_20) [[0], [42], [44]] [] [(1, 2)] [(2, 2)] (hks := [0, 1, 2]) (bks := [0, 1, 2]) (by kernel_rfl) (by kernel_rfl) (by kernel_rfl) (.inl rfl) rfl rfl (by kernel_rfl) (by kernel_rfl) _ (fun _ _ => rfl) _ _ (fun _ _ => rfl) (fun _ _ => rfl) (fun _ _ => by kernel_rfl) (fun _ _ => by kernel_rfl) (fun r_40 x_41 => ?_))
  refine GoO.shape (env' := [(39, .string (bs r_39)), (40, .pointer (some ⟨b_10, 0, none⟩)), (41, .string (bs r_40))]) (H' := [⟨45, b_35, [.slice A_37 r_36.b.length c_38]⟩, ⟨40, b_7, [.int .u64 f_11, .int .u64 f_12, .slice A_14 f_13.length c_15]⟩, ⟨42, b_10, [.int .u64 f_16, .int .u64 f_17, .slice A_19 f_18.length c_20]⟩]) (B' := [Ow 46 Kd.u8 A_37 c_38 r_36.b, Ow 41 kT_session_Row A_14 c_15 f_13, Ow 44 kT_tontineref15_Row A_19 c_20 f_18]) (ks := [39, 40, 41]) (by kernel_rfl) (by kernel_rfl) (by kernel_rfl) ?_
  refine GoO.exec (is := [4, 5]) (hs := [.p, .p]) (rest := []) (ks := [2]) (env' := [(2, .bool (r_39 == r_40))]) (H' := [⟨45, b_35, [.slice A_37 r_36.b.length c_38]⟩, ⟨40, b_7, [.int .u64 f_11, .int .u64 f_12, .slice A_14 f_13.length c_15]⟩, ⟨42, b_10, [.int .u64 f_16, .int .u64 f_17, .slice A_19 f_18.length c_20]⟩]) (ps := []) (by kernel_rfl) trivial ?_
  refine GoO.regionEnd ?_
  exact GoO.ret' (h := c7_47e) (hs := []) (ps := []) (hk := []) (bk := []) Try.func7 () (by kernel_rfl) trivial (by kernel_rfl) (by kernel_rfl)
theorem tontinelaw15_SessionRuns_l0_ok (n : Nat) (calls_1 : (List T_tontinelaw15_Call)) (A_2 : Option Addr) (c_3 : Nat) (b_7 : Nat) (b_10 : Nat) (w0 : World) (S0 : Fam) :
    ∀ (k : Nat) (f_11 : Int) (f_12 : Int) (f_13 : (List T_session_Row)) (f_16 : Int) (f_17 : Int) (f_18 : (List T_tontineref15_Row)) (x_21 : Int) (A_14 : Option Addr) (c_15 : Nat) (A_19 : Option Addr) (c_20 : Nat), GoO (tontinelaw15_SessionRuns.cx A_2 c_3 w0 S0) [(3, .pointer (some ⟨b_7, 0, none⟩)), (4, .pointer (some ⟨b_10, 0, none⟩)), (13, .slice A_2 calls_1.length c_3), (14, .int .i64 (calls_1.length : Int)), (15, .int .i64 x_21)] [⟨40, b_7, [.int .u64 f_11, .int .u64 f_12, .slice A_14 f_13.length c_15]⟩, ⟨42, b_10, [.int .u64 f_16, .int .u64 f_17, .slice A_19 f_18.length c_20]⟩] [Ow 41 kT_session_Row A_14 c_15 f_13, Ow 44 kT_tontineref15_Row A_19 c_20 f_18, Rd 0 kT_tontinelaw15_Call A_2 c_3 calls_1] [.code c7_17, .inLoop c7_17, .inBlock 0, .code c7_41] (tontinelaw15_SessionRuns.l0 n calls_1 k f_11 f_12 f_13 f_16 f_17 f_18 x_21) := by
  intro k
  induction k with
  | zero => intros; rw [tontinelaw15_SessionRuns.l0.eq_1]; exact GoO.stop
  | succ k ih0 =>
    intro f_11 f_12 f_13 f_16 f_17 f_18 x_21 A_14 c_15 A_19 c_20
    rw [tontinelaw15_SessionRuns.l0.eq_2]
    refine GoO.seq' c7_17e ?_
    refine GoO.region' (is := [0]) c7_18e (by kernel_rfl) ?_
    refine GoO.exec (is := [0]) (hs := [.p]) (rest := []) (ks := [3, 4, 13, 14, 15, 16]) (env' := [(3, .pointer (some ⟨b_7, 0, none⟩)), (4, .pointer (some ⟨b_10, 0, none⟩)), (13, .slice A_2 calls_1.length c_3), (14, .int .i64 (calls_1.length : Int)), (15, .int .i64 x_21), (16, .bool (decide (x_21 < (calls_1.length : Int))))]) (H' := [⟨40, b_7, [.int .u64 f_11, .int .u64 f_12, .slice A_14 f_13.length c_15]⟩, ⟨42, b_10, [.int .u64 f_16, .int .u64 f_17, .slice A_19 f_18.length c_20]⟩]) (ps := []) (by kernel_rfl) trivial ?_
    refine GoO.regionEnd ?_
    refine GoO.seq' c7_19e ?_
    refine GoO.ite' c7_20e (by kernel_rfl) (fun h22 => ?_) (fun h22 => ?_)
    · refine GoO.skip' c7_21e ?_
      refine GoO.seq' c7_23e ?_
      refine GoO.block' c7_24e ?_
      refine GoO.seq' c7_25e ?_
      refine GoO.region' (is := [0, 1, 2, 3, 4, 5]) c7_26e (by kernel_rfl) ?_
      refine GoO.exec (is := [0]) (hs := [.p]) (rest := [1, 2, 3, 4, 5]) (ks := [3, 4, 13, 14, 15, 17]) (env' := [(3, .pointer (some ⟨b_7, 0, none⟩)), (4, .pointer (some ⟨b_10, 0, none⟩)), (13, .slice A_2 calls_1.length c_3), (14, .int .i64 (calls_1.length : Int)), (15, .int .i64 x_21), (17, .int .i64 x_21)]) (H' := [⟨40, b_7, [.int .u64 f_11, .int .u64 f_12, .slice A_14 f_13.length c_15]⟩, ⟨42, b_10, [.int .u64 f_16, .int .u64 f_17, .slice A_19 f_18.length c_20]⟩]) (ps := []) (by kernel_rfl) trivial ?_
      refine GoO.guard (fun h23 => ?_)
      refine OpTo.go (GoO.idx (kk := .i64) (e := 33) (K := kT_tontinelaw15_Call) (A := A_2) (c := c_3) (xs := calls_1) (iv := x_21) (j := 2) rfl (by kernel_rfl) (by kernel_rfl) (by kernel_rfl) (by kernel_rfl) rfl Reads.rd rfl h23.1 h23.2 (by decide) rfl ?_)
      refine OpTo.go (GoO.ldE' (K := kT_tontinelaw15_Call) (A := A_2) (c := c_3) (xs := calls_1) (iN := x_21.toNat) (off := 0) (j := 2) rfl (by kernel_rfl) rfl Reads.rd (by first | exact idx_lt h23.1 h23.2 | (simp only [List.length_set]; exact idx_lt h23.1 h23.2)) (by decide) (Opn.flat _ _ _ _ _) (v := fun _ => .agg ⟨[.int .i64 ((rdL calls_1 x_21).Kind), .int .u64 ((rdL calls_1 x_21).Id), .int .u64 ((rdL calls_1 x_21).Seq), .int .i64 ((rdL calls_1 x_21).Reply.Err), .int .u64 ((rdL calls_1 x_21).Reply.Num), .int .u64 ((rdL calls_1 x_21).Reply.Extra)]⟩) (fun _ => by kernel_rfl) _ (fun _ => rfl) (fun _ => ?_))
      refine OpTo.go (GoO.new rfl 43 (cs := [.int .i64 0, .int .u64 0, .int .u64 0, .int .i64 0, .int .u64 0, .int .u64 0]) (by kernel_rfl) _ (fun _ => rfl) (fun b_24 => ?_))
      refine GoO.exec (is := [4, 5]) (hs := [.p, .b 0]) (rest := []) (ks := [3, 4, 5, 6, 13, 14, 15]) (env' := [(3, .pointer (some ⟨b_7, 0, none⟩)), (4, .pointer (some ⟨b_10, 0, none⟩)), (5, .int .i64 x_21), (6, .pointer (some ⟨b_24, 0, none⟩)), (13, .slice A_2 calls_1.length c_3), (14, .int .i64 (calls_1.length : Int)), (15, .int .i64 x_21)]) (H' := [⟨43, b_24, [.int .i64 ((rdL calls_1 x_21).Kind), .int .u64 ((rdL calls_1 x_21).Id), .int .u64 ((rdL calls_1 x_21).Seq), .int .i64 ((rdL calls_1 x_21).Reply.Err), .int .u64 ((rdL calls_1 x_21).Reply.Num), .int .u64 ((rdL calls_1 x_21).Reply.Extra)]⟩, ⟨40, b_7, [.int .u64 f_11, .int .u64 f_12, .slice A_14 f_13.length c_15]⟩, ⟨42, b_10, [.int .u64 f_16, .int .u64 f_17, .slice A_19 f_18.length c_20]⟩]) (ps := [b_24 = b_24]) (by kernel_rfl) (And.intro rfl trivial) ?_
      refine GoO.regionEnd ?_
      refine GoO.seq' c7_27e ?_
      refine GoO.seq' c7_28e ?_
      refine GoO.region' (is := [0, 1]) c7_29e (by kernel_rfl) ?_
      refine GoO.exec (is := [0, 1]) (hs := [.p, .p]) (rest := []) (ks := [3, 4, 6, 13, 14, 15, 21]) (env' := [(3, .pointer (some ⟨b_7, 0, none⟩)), (4, .pointer (some ⟨b_10, 0, none⟩)), (6, .pointer (some ⟨b_24, 0, none⟩)), (13, .slice A_2 calls_1.length c_3), (14, .int .i64 (calls_1.length : Int)), (15, .int .i64 x_21), (21, .bool (x_21 == 500))]) (H' := [⟨43, b_24, [.int .i64 ((rdL calls_1 x_21).Kind), .int .u64 ((rdL calls_1 x_21).Id), .int .u64 ((rdL calls_1 x_21).Seq), .int .i64 ((rdL calls_1 x_21).Reply.Err), .int .u64 ((rdL calls_1 x_21).Reply.Num), .int .u64 ((rdL calls_1 x_21).Reply.Extra)]⟩, ⟨40, b_7, [.int .u64 f_11, .int .u64 f_12, .slice A_14 f_13.length c_15]⟩, ⟨42, b_10, [.int .u64 f_16, .int .u64 f_17, .slice A_19 f_18.length c_20]⟩]) (ps := []) (by kernel_rfl) trivial ?_
      refine GoO.regionEnd ?_
      refine GoO.ite' c7_30e (by kernel_rfl) (fun h25 => ?_) (fun h25 => ?_)
      · refine GoO.exit' c7_31e rfl ?_
        exact GoO.sub (ks := [3, 4]) (hk := [1, 2]) (bk := [0, 1]) (by kernel_rfl) (by kernel_rfl) (by kernel_rfl) (tontinelaw15_SessionRuns_j0_ok n f_11 f_12 f_13 f_16 f_17 f_18 b_7 b_10 A_14 c_15 A_19 c_20 A_2 c_3 w0 S0)
      · refine GoO.skip' c7_32e ?_
        refine GoO.seq' c7_33e ?_
        refine GoO.region' (is := [0, 1, 2, 3, 4, 5, 6, 7, 8, 9, 10]) c7_34e (by kernel_rfl) ?_
        refine GoO.exec (is := [0, 1, 2]) (hs := [.p, .p, .b 0]) (rest := [3, 4, 5, 6, 7, 8, 9, 10]) (ks := [3, 4, 13, 14, 15, 22, 23, 24]) (env' := [(3, .pointer (some ⟨b_7, 0, none⟩)), (4, .pointer (some ⟨b_10, 0, none⟩)), (13, .slice A_2 calls_1.length c_3), (14, .int .i64 (calls_1.length : Int)), (15, .int .i64 x_21), (22, .pointer (some ⟨b_7, 0, none⟩)), (23, .pointer (some ⟨b_10, 0, none⟩)), (24, .agg ⟨[.int .i64 ((rdL calls_1 x_21).Kind), .int .u64 ((rdL calls_1 x_21).Id), .int .u64 ((rdL calls_1 x_21).Seq), .int .i64 ((rdL calls_1 x_21).Reply.Err), .int .u64 ((rdL calls_1 x_21).Reply.Num), .int .u64 ((rdL calls_1 x_21).Reply.Extra)]⟩)]) (H' := [⟨43, b_24, [.int .i64 ((rdL calls_1 x_21).Kind), .int .u64 ((rdL calls_1 x_21).Id), .int .u64 ((rdL calls_1 x_21).Seq), .int .i64 ((rdL calls_1 x_21).Reply.Err), .int .u64 ((rdL calls_1 x_21).Reply.Num), .int .u64 ((rdL calls_1 x_21).Reply.Extra)]⟩, ⟨40, b_7, [.int .u64 f_11, .int .u64 f_12, .slice A_14 f_13.length c_15]⟩, ⟨42, b_10, [.int .u64 f_16, .int .u64 f_17, .slice A_19 f_18.length c_20]⟩]) (ps := [b_24 = b_24]) (by kernel_rfl) (And.intro rfl trivial) ?_
        refine OpTo.go (GoO.call rfl (by kernel_rfl) (by kernel_rfl) (tontinelaw15_both_ok n (⟨f_11, f_12, f_13⟩ : T_session_Table) (⟨f_16, f_17, f_18⟩ : T_tontineref15_Table) (⟨(rdL calls_1 x_21).Kind, (rdL calls_1 x_21).Id, (rdL calls_1 x_21).Seq, (⟨(rdL calls_1 x_21).Reply.Err, (rdL calls_1 x_21).Reply.Num, (rdL calls_1 x_21).Reply.Extra⟩ : T_api_Reply)⟩ : T_tontinelaw15_Call) b_7 A_14 c_15 b_10 A_19 c_20) [[0], [40], [41], [42], [44]] [(40, 1), (41, 2), (42, 3), (44, 4)] [(1, 1), (3, 2)] [(2, 0), (4, 1)] (hks := [0]) (bks := [2]) (by kernel_rfl) (by kernel_rfl) (by kernel_rfl) (.inl rfl) rfl rfl (by kernel_rfl) (by kernel_rfl) _ (fun _ _ => rfl) _ _ (fun _ _ => rfl) (fun _ _ => rfl) (fun _ _ => by kernel_rfl) (fun _ _ => by kernel_rfl) (fun r_26 x_35 => ?_))
        obtain ⟨A_27, c_28, A_29, c_30⟩ := x_35
        refine GoO.shape (env' := [(3, .pointer (some ⟨b_7, 0, none⟩)), (4, .pointer (some ⟨b_10, 0, none⟩)), (13, .slice A_2 calls_1.length c_3), (14, .int .i64 (calls_1.length : Int)), (15, .int .i64 x_21), (22, .pointer (some ⟨b_7, 0, none⟩)), (23, .pointer (some ⟨b_10, 0, none⟩)), (24, .agg ⟨[.int .i64 ((rdL calls_1 x_21).Kind), .int .u64 ((rdL calls_1 x_21).Id), .int .u64 ((rdL calls_1 x_21).Seq), .int .i64 ((rdL calls_1 x_21).Reply.Err), .int .u64 ((rdL calls_1 x_21).Reply.Num), .int .u64 ((rdL calls_1 x_21).Reply.Extra)]⟩), (25, .bool r_26.1)]) (H' := [⟨40, b_7, [.int .u64 r_26.2.1.now, .int .u64 r_26.2.1.next, .slice A_27 r_26.2.1.rows.length c_28]⟩, ⟨42, b_10, [.int .u64 r_26.2.2.Now, .int .u64 r_26.2.2.Next, .slice A_29 r_26.2.2.Rows.length c_30]⟩, ⟨43, b_24, [.int .i64 ((rdL calls_1 x_21).Kind), .int .u64 ((rdL calls_1 x_21).Id), .int .u64 ((rdL calls_1 x_21).Seq), .int .i64 ((rdL calls_1 x_21).Reply.Err), .int .u64 ((rdL calls_1 x_21).Reply.Num), .int .u64 ((rdL calls_1 x_21).Reply.Extra)]⟩]) (B' := [Ow 41 kT_session_Row A_27 c_28 r_26.2.1.rows, Ow 44 kT_tontineref15_Row A_29 c_30 r_26.2.2.Rows, Rd 0 kT_tontinelaw15_Call A_2 c_3 calls_1]) (ks := [3, 4, 13, 14, 15, 22, 23, 24, 25]) (by kernel_rfl) (by kernel_rfl) (by kernel_rfl) ?_
        refine GoO.exec (is := [4, 5]) (hs := [.p, .p]) (rest := [6, 7, 8, 9, 10]) (ks := [3, 4, 13, 14, 15, 27]) (env' := [(3, .pointer (some ⟨b_7, 0, none⟩)), (4, .pointer (some ⟨b_10, 0, none⟩)), (13, .slice A_2 calls_1.length c_3), (14, .int .i64 (calls_1.length : Int)), (15, .int .i64 x_21), (27, .bool (!r_26.1))]) (H' := [⟨40, b_7, [.int .u64 r_26.2.1.now, .int .u64 r_26.2.1.next, .slice A_27 r_26.2.1.rows.length c_28]⟩, ⟨42, b_10, [.int .u64 r_26.2.2.Now, .int .u64 r_26.2.2.Next, .slice A_29 r_26.2.2.Rows.length c_30]⟩, ⟨43, b_24, [.int .i64 ((rdL calls_1 x_21).Kind), .int .u64 ((rdL calls_1 x_21).Id), .int .u64 ((rdL calls_1 x_21).Seq), .int .i64 ((rdL calls_1 x_21).Reply.Err), .int .u64 ((rdL calls_1 x_21).Reply.Num), .int .u64 ((rdL calls_1 x_21).Reply.Extra)]⟩]) (ps := []) (by kernel_rfl) trivial ?_
        refine GoO.bsplit (t := 27) (by kernel_rfl) (fun h31 => ?_) (fun h31 => ?_)
        · refine GoO.exec (is := [6, 7, 8, 9, 10]) (hs := [.p, .p, .p, .p, .p]) (rest := []) (ks := [3, 4, 13, 14, 15, 32]) (env' := [(3, .pointer (some ⟨b_7, 0, none⟩)), (4, .pointer (some ⟨b_10, 0, none⟩)), (13, .slice A_2 calls_1.length c_3), (14, .int .i64 (calls_1.length : Int)), (15, .int .i64 x_21), (32, .bool true)]) (H' := [⟨40, b_7, [.int .u64 r_26.2.1.now, .int .u64 r_26.2.1.next, .slice A_27 r_26.2.1.rows.length c_28]⟩, ⟨42, b_10, [.int .u64 r_26.2.2.Now, .int .u64 r_26.2.2.Next, .slice A_29 r_26.2.2.Rows.length c_30]⟩, ⟨43, b_24, [.int .i64 ((rdL calls_1 x_21).Kind), .int .u64 ((rdL calls_1 x_21).Id), .int .u64 ((rdL calls_1 x_21).Seq), .int .i64 ((rdL calls_1 x_21).Reply.Err), .int .u64 ((rdL calls_1 x_21).Reply.Num), .int .u64 ((rdL calls_1 x_21).Reply.Extra)]⟩]) (ps := []) (by kernel_rfl) trivial ?_
          refine GoO.regionEnd ?_
          refine GoO.condT c7_35e (by kernel_rfl) ?_
          refine GoO.seq' c7_36e ?_
          refine GoO.region' (is := [0]) c7_37e (by kernel_rfl) ?_
          refine GoO.exec (is := [0]) (hs := [.p]) (rest := []) (ks := [2]) (env' := [(2, .bool false)]) (H' := [⟨40, b_7, [.int .u64 r_26.2.1.now, .int .u64 r_26.2.1.next, .slice A_27 r_26.2.1.rows.length c_28]⟩, ⟨42, b_10, [.int .u64 r_26.2.2.Now, .int .u64 r_26.2.2.Next, .slice A_29 r_26.2.2.Rows.length c_30]⟩, ⟨43, b_24, [.int .i64 ((rdL calls_1 x_21).Kind), .int .u64 ((rdL calls_1 x_21).Id), .int .u64 ((rdL calls_1 x_21).Seq), .int .i64 ((rdL calls_1 x_21).Reply.Err), .int .u64 ((rdL calls_1 x_21).Reply.Num), .int .u64 ((rdL calls_1 x_21).Reply.Extra)]⟩]) (ps := []) (by kernel_rfl) trivial ?_
          refine GoO.regionEnd ?_
          exact GoO.ret' (h := c7_38e) (hs := []) (ps := []) (hk := []) (bk := []) Try.func7 () (by kernel_rfl) trivial (by kernel_rfl) (by kernel_rfl)
        · refine GoO.exec (is := [6, 7]) (hs := [.p, .p]) (rest := [8, 9, 10]) (ks := [3, 4, 13, 14, 15, 27, 28, 29]) (env' := [(3, .pointer (some ⟨b_7, 0, none⟩)), (4, .pointer (some ⟨b_10, 0, none⟩)), (13, .slice A_2 calls_1.length c_3), (14, .int .i64 (calls_1.length : Int)), (15, .int .i64 x_21), (27, .bool false), (28, .pointer (some ⟨b_7, 0, none⟩)), (29, .pointer (some ⟨b_10, 0, none⟩))]) (H' := [⟨40, b_7, [.int .u64 r_26.2.1.now, .int .u64 r_26.2.1.next, .slice A_27 r_26.2.1.rows.length c_28]⟩, ⟨42, b_10, [.int .u64 r_26.2.2.Now, .int .u64 r_26.2.2.Next, .slice A_29 r_26.2.2.Rows.length c_30]⟩, ⟨43, b_24, [.int .i64 ((rdL calls_1 x_21).Kind), .int .u64 ((rdL calls_1 x_21).Id), .int .u64 ((rdL calls_1 x_21).Seq), .int .i64 ((rdL calls_1 x_21).Reply.Err), .int .u64 ((rdL calls_1 x_21).Reply.Num), .int .u64 ((rdL calls_1 x_21).Reply.Extra)]⟩]) (ps := []) (by kernel_rfl) trivial ?_
          refine OpTo.go (GoO.call rfl (by kernel_rfl) (by kernel_rfl) (tontinelaw15_alike_ok n r_26.2.1 r_26.2.2 b_7 A_27 c_28 b_10 A_29 c_30) [[0], [40], [41], [42], [44]] [] [(1, 0), (3, 1)] [(2, 0), (4, 1)] (hks := [0, 1, 2]) (bks := [0, 1, 2]) (by kernel_rfl) (by kernel_rfl) (by kernel_rfl) (.inl rfl) rfl rfl (by kernel_rfl) (by kernel_rfl) _ (fun _ _ => rfl) _ _ (fun _ _ => rfl) (fun _ _ => rfl) (fun _ _ => by kernel_rfl) (fun _ _ => by kernel_rfl) (fun r_32 x_34 => ?_))
          refine GoO.shape (env' := [(3, .pointer (some ⟨b_7, 0, none⟩)), (4, .pointer (some ⟨b_10, 0, none⟩)), (13, .slice A_2 calls_1.length c_3), (14, .int .i64 (calls_1.length : Int)), (15, .int .i64 x_21), (27, .bool false), (28, .pointer (some ⟨b_7, 0, none⟩)), (29, .pointer (some ⟨b_10, 0, none⟩)), (30, .bool r_32)]) (H' := [⟨40, b_7, [.int .u64 r_26.2.1.now, .int .u64 r_26.2.1.next, .slice A_27 r_26.2.1.rows.length c_28]⟩, ⟨42, b_10, [.int .u64 r_26.2.2.Now, .int .u64 r_26.2.2.Next, .slice A_29 r_26.2.2.Rows.length c_30]⟩, ⟨43, b_24, [.int .i64 ((rdL calls_1 x_21).Kind), .int .u64 ((rdL calls_1 x_21).Id), .int .u64 ((rdL calls_1 x_21).Seq), .int .i64 ((rdL calls_1 x_21).Reply.Err), .int .u64 ((rdL calls_1 x_21).Reply.Num), .int .u64 ((rdL calls_1 x_21).Reply.Extra)]⟩]) (B' := [Ow 41 kT_session_Row A_27 c_28 r_26.2.1.rows, Ow 44 kT_tontineref15_Row A_29 c_30 r_26.2.2.Rows, Rd 0 kT_tontinelaw15_Call A_2 c_3 calls_1]) (ks := [3, 4, 13, 14, 15, 27, 28, 29, 30]) (by kernel_rfl) (by kernel_rfl) (by kernel_rfl) ?_
          refine GoO.exec (is := [9, 10]) (hs := [.p, .p]) (rest := []) (ks := [3, 4, 13, 14, 15, 32]) (env' := [(3, .pointer (some ⟨b_7, 0, none⟩)), (4, .pointer (some ⟨b_10, 0, none⟩)), (13, .slice A_2 calls_1.length c_3), (14, .int .i64 (calls_1.length : Int)), (15, .int .i64 x_21), (32, .bool (!r_32))]) (H' := [⟨40, b_7, [.int .u64 r_26.2.1.now, .int .u64 r_26.2.1.next, .slice A_27 r_26.2.1.rows.length c_28]⟩, ⟨42, b_10, [.int .u64 r_26.2.2.Now, .int .u64 r_26.2.2.Next, .slice A_29 r_26.2.2.Rows.length c_30]⟩, ⟨43, b_24, [.int .i64 ((rdL calls_1 x_21).Kind), .int .u64 ((rdL calls_1 x_21).Id), .int .u64 ((rdL calls_1 x_21).Seq), .int .i64 ((rdL calls_1 x_21).Reply.Err), .int .u64 ((rdL calls_1 x_21).Reply.Num), .int .u64 ((rdL calls_1 x_21).Reply.Extra)]⟩]) (ps := []) (by kernel_rfl) trivial ?_
          refine GoO.regionEnd ?_
          refine GoO.ite' c7_35e (by kernel_rfl) (fun h33 => ?_) (fun h33 => ?_)
          · refine GoO.seq' c7_36e ?_
            refine GoO.region' (is := [0]) c7_37e (by kernel_rfl) ?_
            refine GoO.exec (is := [0]) (hs := [.p]) (rest := []) (ks := [2]) (env' := [(2, .bool false)]) (H' := [⟨40, b_7, [.int .u64 r_26.2.1.now, .int .u64 r_26.2.1.next, .slice A_27 r_26.2.1.rows.length c_28]⟩, ⟨42, b_10, [.int .u64 r_26.2.2.Now, .int .u64 r_26.2.2.Next, .slice A_29 r_26.2.2.Rows.length c_30]⟩, ⟨43, b_24, [.int .i64 ((rdL calls_1 x_21).Kind), .int .u64 ((rdL calls_1 x_21).Id), .int .u64 ((rdL calls_1 x_21).Seq), .int .i64 ((rdL calls_1 x_21).Reply.Err), .int .u64 ((rdL calls_1 x_21).Reply.Num), .int .u64 ((rdL calls_1 x_21).Reply.Extra)]⟩]) (ps := []) (by kernel_rfl) trivial ?_
            refine GoO.regionEnd ?_
            exact GoO.ret' (h := c7_38e) (hs := []) (ps := []) (hk := []) (bk := []) Try.func7 () (by kernel_rfl) trivial (by kernel_rfl) (by kernel_rfl)
          · refine GoO.skip' c7_39e ?_
            refine GoO.inBlock ?_
            refine GoO.region' (is := [0, 1]) c7_40e (by kernel_rfl) ?_
            refine GoO.exec (is := [0, 1]) (hs := [.p, .p]) (rest := []) (ks := [3, 4, 13, 14, 15]) (env' := [(3, .pointer (some ⟨b_7, 0, none⟩)), (4, .pointer (some ⟨b_10, 0, none⟩)), (13, .slice A_2 calls_1.length c_3), (14, .int .i64 (calls_1.length : Int)), (15, .int .i64 (wi64 (x_21 + 1)))]) (H' := [⟨40, b_7, [.int .u64 r_26.2.1.now, .int .u64 r_26.2.1.next, .slice A_27 r_26.2.1.rows.length c_28]⟩, ⟨42, b_10, [.int .u64 r_26.2.2.Now, .int .u64 r_26.2.2.Next, .slice A_29 r_26.2.2.Rows.length c_30]⟩, ⟨43, b_24, [.int .i64 ((rdL calls_1 x_21).Kind), .int .u64 ((rdL calls_1 x_21).Id), .int .u64 ((rdL calls_1 x_21).Seq), .int .i64 ((rdL calls_1 x_21).Reply.Err), .int .u64 ((rdL calls_1 x_21).Reply.Num), .int .u64 ((rdL calls_1 x_21).Reply.Extra)]⟩]) (ps := []) (by kernel_rfl) trivial ?_
            refine GoO.regionEnd ?_
            refine GoO.inLoop ?_
            exact GoO.sub (ks := [3, 4, 13, 14, 15]) (hk := [0, 1]) (bk := [0, 1, 2]) (by kernel_rfl) (by kernel_rfl) (by kernel_rfl) (ih0 r_26.2.1.now r_26.2.1.next r_26.2.1.rows r_26.2.2.Now r_26.2.2.Next r_26.2.2.Rows (wi64 (x_21 + 1)) A_27 c_28 A_29 c_30)
    · refine GoO.exit' c7_22e rfl ?_
      exact GoO.sub (ks := [3, 4]) (hk := [0, 1]) (bk := [0, 1]) (by kernel_rfl) (by kernel_rfl) (by kernel_rfl) (tontinelaw15_SessionRuns_j0_ok n f_11 f_12 f_13 f_16 f_17 f_18 b_7 b_10 A_14 c_15 A_19 c_20 A_2 c_3 w0 S0)
theorem tontinelaw15_SessionRuns_ok (n : Nat) (calls_1 : (List T_tontinelaw15_Call)) (A_2 : Option Addr) (c_3 : Nat) :
    Meets Try.prog 7 [.slice A_2 calls_1.length c_3] 0 [] [] [Rd 0 kT_tontinelaw15_Call A_2 c_3 calls_1] (tontinelaw15_SessionRuns.f n calls_1) (tontinelaw15_SessionRuns.R A_2 c_3) := by
  refine Meets.of (c := c7_0) (n := 43) Try.func7 (by kernel_rfl) (by kernel_rfl) (by kernel_rfl) fun w0 S0 => ?_
  unfold tontinelaw15_SessionRuns.f
  show GoO (tontinelaw15_SessionRuns.cx A_2 c_3 w0 S0) [(0, .slice A_2 calls_1.length c_3)] [] [Rd 0 kT_tontinelaw15_Call A_2 c_3 calls_1] [.code c7_0] _
  refine GoO.seq' c7_0e ?_
  refine GoO.region' (is := [0]) c7_1e (by kernel_rfl) ?_
  refine GoO.exec (is := [0]) (hs := [.p]) (rest := []) (ks := [0]) (env' := [(0, .slice A_2 calls_1.length c_3)]) (H' := []) (ps := []) (by kernel_rfl) trivial ?_
  refine GoO.regionEnd ?_
  refine GoO.seq' c7_2e ?_
  refine GoO.seq' c7_3e ?_
  refine GoO.region' (is := [0, 1]) c7_4e (by kernel_rfl) ?_
  refine OpTo.go (GoO.call rfl (by kernel_rfl) (by kernel_rfl) (tontinelaw15_begun_ok n) [[0]] [] [] [] (hks := []) (bks := [0]) (by kernel_rfl) (by kernel_rfl) (by kernel_rfl) (.inl rfl) rfl rfl (by kernel_rfl) (by kernel_rfl) _ (fun _ _ => rfl) _ _ (fun _ _ => rfl) (fun _ _ => rfl) (fun _ _ => by kernel_rfl) (fun _ _ => by kernel_rfl) (fun r_4 x_45 => ?_))
  refine GoO.shape (env' := [(0, .slice A_2 calls_1.length c_3), (8, .bool r_4)]) (H' := []) (B' := [Rd 0 kT_tontinelaw15_Call A_2 c_3 calls_1]) (ks := [0, 8]) (by kernel_rfl) (by kernel_rfl) (by kernel_rfl) ?_
  refine GoO.exec (is := [1]) (hs := [.p]) (rest := []) (ks := [0, 9]) (env' := [(0, .slice A_2 calls_1.length c_3), (9, .bool (!r_4))]) (H' := []) (ps := []) (by kernel_rfl) trivial ?_
  refine GoO.regionEnd ?_
  refine GoO.ite' c7_5e (by kernel_rfl) (fun h5 => ?_) (fun h5 => ?_)
  · refine GoO.seq' c7_6e ?_
    refine GoO.region' (is := [0]) c7_7e (by kernel_rfl) ?_
    refine GoO.exec (is := [0]) (hs := [.p]) (rest := []) (ks := [2]) (env' := [(2, .bool false)]) (H' := []) (ps := []) (by kernel_rfl) trivial ?_
    refine GoO.regionEnd ?_
    exact GoO.ret' (h := c7_8e) (hs := []) (ps := []) (hk := []) (bk := []) Try.func7 () (by kernel_rfl) trivial (by kernel_rfl) (by kernel_rfl)
  · refine GoO.skip' c7_9e ?_
    refine GoO.seq' c7_10e ?_
    refine GoO.region' (is := [0, 1, 2, 3, 4]) c7_11e (by kernel_rfl) ?_
    refine OpTo.go (GoO.call rfl (by kernel_rfl) (by kernel_rfl) (session_New_ok n) [[0]] [(40, 1), (41, 2)] [] [] (hks := []) (bks := [0]) (by kernel_rfl) (by kernel_rfl) (by kernel_rfl) (.inl rfl) rfl rfl (by kernel_rfl) (by kernel_rfl) _ (fun _ _ => rfl) _ _ (fun _ _ => rfl) (fun _ _ => rfl) (fun _ _ => by kernel_rfl) (fun _ _ => by kernel_rfl) (fun r_6 x_44 => ?_))
    obtain ⟨b_7, A_8, c_9⟩ := x_44
    refine GoO.shape (env' := [(0, .slice A_2 calls_1.length c_3), (9, .bool (!r_4)), (10, .pointer (some ⟨b_7, 0, none⟩))]) (H' := [⟨40, b_7, [.int .u64 r_6.now, .int .u64 r_6.next, .slice A_8 r_6.rows.length c_9]⟩]) (B' := [Ow 41 kT_session_Row A_8 c_9 r_6.rows, Rd 0 kT_tontinelaw15_Call A_2 c_3 calls_1]) (ks := [0, 9, 10]) (by kernel_rfl) (by kernel_rfl) (by kernel_rfl) ?_
    refine GoO.exec (is := [1]) (hs := [.p]) (rest := [2, 3, 4]) (ks := [0, 10, 11]) (env' := [(0, .slice A_2 calls_1.length c_3), (10, .pointer (some ⟨b_7, 0, none⟩)), (11, .agg ⟨[.int .u64 0, .int .u64 1, .slice none ([] : List T_tontineref15_Row).length 0]⟩)]) (H' := [⟨40, b_7, [.int .u64 r_6.now, .int .u64 r_6.next, .slice A_8 r_6.rows.length c_9]⟩]) (ps := []) (by kernel_rfl) trivial ?_
    refine OpTo.go (GoO.new rfl 42 (cs := [.int .u64 0, .int .u64 1, .slice none ([] : List T_tontineref15_Row).length 0]) (by kernel_rfl) _ (fun _ => rfl) (fun b_10 => ?_))
    refine GoO.exec (is := [3, 4]) (hs := [.p, .p]) (rest := []) (ks := [0, 3, 4]) (env' := [(0, .slice A_2 calls_1.length c_3), (3, .pointer (some ⟨b_7, 0, none⟩)), (4, .pointer (some ⟨b_10, 0, none⟩))]) (H' := [⟨42, b_10, [.int .u64 0, .int .u64 1, .slice none ([] : List T_tontineref15_Row).length 0]⟩, ⟨40, b_7, [.int .u64 r_6.now, .int .u64 r_6.next, .slice A_8 r_6.rows.length c_9]⟩]) (ps := []) (by kernel_rfl) trivial ?_
    refine GoO.regionEnd ?_
    refine GoO.seq' c7_12e ?_
    refine GoO.seq' c7_13e ?_
    refine GoO.region' (is := [0, 1, 2]) c7_14e (by kernel_rfl) ?_
    refine GoO.exec (is := [0, 1, 2]) (hs := [.p, .p, .p]) (rest := []) (ks := [3, 4, 13, 14, 15]) (env' := [(3, .pointer (some ⟨b_7, 0, none⟩)), (4, .pointer (some ⟨b_10, 0, none⟩)), (13, .slice A_2 calls_1.length c_3), (14, .int .i64 (calls_1.length : Int)), (15, .int .i64 0)]) (H' := [⟨42, b_10, [.int .u64 0, .int .u64 1, .slice none ([] : List T_tontineref15_Row).length 0]⟩, ⟨40, b_7, [.int .u64 r_6.now, .int .u64 r_6.next, .slice A_8 r_6.rows.length c_9]⟩]) (ps := []) (by kernel_rfl) trivial ?_
    refine GoO.regionEnd ?_
    refine GoO.block' c7_15e ?_
    refine GoO.loop' c7_16e ?_
    refine GoO.nilOwn kT_tontineref15_Row 44 ?_
    exact GoO.sub (ks := [3, 4, 13, 14, 15]) (hk := [1, 0]) (bk := [1, 0, 2]) (by kernel_rfl) (by kernel_rfl) (by kernel_rfl) (tontinelaw15_SessionRuns_l0_ok n calls_1 A_2 c_3 b_7 b_10 w0 S0 n r_6.now r_6.next r_6.rows 0 1 ([] : List T_tontineref15_Row) 0 A_8 c_9 none 0)
end Go.GL
