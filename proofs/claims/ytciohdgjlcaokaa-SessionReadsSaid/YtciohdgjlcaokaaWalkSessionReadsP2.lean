import Derived.Test.YtciohdgjlcaokaaWalkSessionReadsP1
import Derived.Test.YtciohdgjlcaokaaKindsT3
import Derived.Test.YtciohdgjlcaokaaProg
set_option linter.unusedVariables false
set_option linter.unusedSimpArgs false
set_option maxRecDepth 100000
namespace Go.GL
open Go Go.Proofs
theorem tontineref15_Read_l0_ok (n : Nat) (r_3 : Int × T_tontineref03_Reader) (r_5 : Int × T_tontineref03_Reader) (r_6 : Int × T_tontineref03_Reader) (b_2 : Nat) (b_4 : Nat) (w0 : World) (S0 : Fam) :
    ∀ (k : Nat) (f_7 : (List UInt8)) (f_8 : Bool) (f_9 : (List T_tontineref15_Row)) (ok_12 : Bool) (last_13 : Int) (i_14 : Int) (A_10 : Option Addr) (c_11 : Nat), GoO (tontineref15_Read.cx b_2 w0 S0) [(0, .pointer (some ⟨b_2, 0, none⟩)), (3, .pointer (some ⟨b_4, 0, none⟩)), (4, .int .i64 r_6.1), (5, .bool ok_12), (6, .int .u64 last_13), (7, .int .i64 i_14)] [⟨1, b_2, [.string (bs f_7), .bool f_8]⟩, ⟨40, b_4, [.int .u64 r_3.1, .int .u64 r_5.1, .slice A_10 f_9.length c_11]⟩] [Ow 43 kT_tontineref15_Row A_10 c_11 f_9] [.code c36_17, .inLoop c36_17, .inBlock 0, .code c36_43] (tontineref15_Read.l0 n r_3 r_5 r_6 k f_7 f_8 f_9 ok_12 last_13 i_14) := by
  intro k
  induction k with
  | zero => intros; rw [tontineref15_Read.l0.eq_1]; exact GoO.stop
  | succ k ih0 =>
    intro f_7 f_8 f_9 ok_12 last_13 i_14 A_10 c_11
    rw [tontineref15_Read.l0.eq_2]
    refine GoO.seq' c36_17e ?_
    refine GoO.seq' c36_18e ?_
    refine GoO.region' (is := [0, 1, 2]) c36_19e (by kernel_rfl) ?_
    refine GoO.exec (is := [0, 1, 2]) (hs := [.p, .p, .p]) (rest := []) (ks := [0, 3, 4, 5, 6, 7, 22]) (env' := [(0, .pointer (some ⟨b_2, 0, none⟩)), (3, .pointer (some ⟨b_4, 0, none⟩)), (4, .int .i64 r_6.1), (5, .bool ok_12), (6, .int .u64 last_13), (7, .int .i64 i_14), (22, .bool (decide (i_14 < r_6.1)))]) (H' := [⟨1, b_2, [.string (bs f_7), .bool f_8]⟩, ⟨40, b_4, [.int .u64 r_3.1, .int .u64 r_5.1, .slice A_10 f_9.length c_11]⟩]) (ps := []) (by kernel_rfl) trivial ?_
    refine GoO.regionEnd ?_
    refine GoO.ite' c36_20e (by kernel_rfl) (fun h15 => ?_) (fun h15 => ?_)
    · refine GoO.skip' c36_21e ?_
      refine GoO.seq' c36_23e ?_
      refine GoO.block' c36_24e ?_
      refine GoO.seq' c36_25e ?_
      refine GoO.region' (is := [0, 1, 2, 3, 4]) c36_26e (by kernel_rfl) ?_
      refine GoO.exec (is := [0]) (hs := [.p]) (rest := [1, 2, 3, 4]) (ks := [0, 3, 4, 5, 6, 7, 25]) (env' := [(0, .pointer (some ⟨b_2, 0, none⟩)), (3, .pointer (some ⟨b_4, 0, none⟩)), (4, .int .i64 r_6.1), (5, .bool ok_12), (6, .int .u64 last_13), (7, .int .i64 i_14), (25, .pointer (some ⟨b_2, 0, none⟩))]) (H' := [⟨1, b_2, [.string (bs f_7), .bool f_8]⟩, ⟨40, b_4, [.int .u64 r_3.1, .int .u64 r_5.1, .slice A_10 f_9.length c_11]⟩]) (ps := []) (by kernel_rfl) trivial ?_
      refine OpTo.go (GoO.call rfl (by kernel_rfl) (by kernel_rfl) (tontineref03_Reader_Num_ok n (⟨f_7, f_8⟩ : T_tontineref03_Reader) b_2) [[0], [1]] [(1, 1)] [(1, 0)] [] (hks := [1]) (bks := [0]) (by kernel_rfl) (by kernel_rfl) (by kernel_rfl) (.inl rfl) rfl rfl (by kernel_rfl) (by kernel_rfl) _ (fun _ _ => rfl) _ _ (fun _ _ => rfl) (fun _ _ => rfl) (fun _ _ => by kernel_rfl) (fun _ _ => by kernel_rfl) (fun r_16 x_38 => ?_))
      refine GoO.shape (env' := [(0, .pointer (some ⟨b_2, 0, none⟩)), (3, .pointer (some ⟨b_4, 0, none⟩)), (4, .int .i64 r_6.1), (5, .bool ok_12), (6, .int .u64 last_13), (7, .int .i64 i_14), (25, .pointer (some ⟨b_2, 0, none⟩)), (26, .int .u64 r_16.1)]) (H' := [⟨1, b_2, [.string (bs r_16.2.S_), .bool r_16.2.Bad]⟩, ⟨40, b_4, [.int .u64 r_3.1, .int .u64 r_5.1, .slice A_10 f_9.length c_11]⟩]) (B' := [Ow 43 kT_tontineref15_Row A_10 c_11 f_9]) (ks := [0, 3, 4, 5, 6, 7, 25, 26]) (by kernel_rfl) (by kernel_rfl) (by kernel_rfl) ?_
      refine GoO.exec (is := [2]) (hs := [.p]) (rest := [3, 4]) (ks := [0, 3, 4, 5, 6, 7, 27]) (env' := [(0, .pointer (some ⟨b_2, 0, none⟩)), (3, .pointer (some ⟨b_4, 0, none⟩)), (4, .int .i64 r_6.1), (5, .bool ok_12), (6, .int .u64 last_13), (7, .int .i64 i_14), (27, .agg ⟨[.int .u64 r_16.1, .int .u64 0, .int .u64 0, .int .i64 0, .int .u64 0, .int .u64 0]⟩)]) (H' := [⟨1, b_2, [.string (bs r_16.2.S_), .bool r_16.2.Bad]⟩, ⟨40, b_4, [.int .u64 r_3.1, .int .u64 r_5.1, .slice A_10 f_9.length c_11]⟩]) (ps := []) (by kernel_rfl) trivial ?_
      refine OpTo.go (GoO.new rfl 41 (cs := [.int .u64 0, .int .u64 0, .int .u64 0, .int .i64 0, .int .u64 0, .int .u64 0]) (by kernel_rfl) _ (fun _ => rfl) (fun b_17 => ?_))
      refine GoO.exec (is := [4]) (hs := [.b 0]) (rest := []) (ks := [0, 3, 4, 5, 6, 7, 8]) (env' := [(0, .pointer (some ⟨b_2, 0, none⟩)), (3, .pointer (some ⟨b_4, 0, none⟩)), (4, .int .i64 r_6.1), (5, .bool ok_12), (6, .int .u64 last_13), (7, .int .i64 i_14), (8, .pointer (some ⟨b_17, 0, none⟩))]) (H' := [⟨41, b_17, [.int .u64 r_16.1, .int .u64 0, .int .u64 0, .int .i64 0, .int .u64 0, .int .u64 0]⟩, ⟨1, b_2, [.string (bs r_16.2.S_), .bool r_16.2.Bad]⟩, ⟨40, b_4, [.int .u64 r_3.1, .int .u64 r_5.1, .slice A_10 f_9.length c_11]⟩]) (ps := [b_17 = b_17]) (by kernel_rfl) (And.intro rfl trivial) ?_
      refine GoO.regionEnd ?_
      refine GoO.seq' c36_27e ?_
      refine GoO.region' (is := [0, 1, 2, 3]) c36_28e (by kernel_rfl) ?_
      refine GoO.exec (is := [0]) (hs := [.p]) (rest := [1, 2, 3]) (ks := [0, 3, 4, 5, 6, 7, 8, 28]) (env' := [(0, .pointer (some ⟨b_2, 0, none⟩)), (3, .pointer (some ⟨b_4, 0, none⟩)), (4, .int .i64 r_6.1), (5, .bool ok_12), (6, .int .u64 last_13), (7, .int .i64 i_14), (8, .pointer (some ⟨b_17, 0, none⟩)), (28, .pointer (some ⟨b_2, 0, none⟩))]) (H' := [⟨41, b_17, [.int .u64 r_16.1, .int .u64 0, .int .u64 0, .int .i64 0, .int .u64 0, .int .u64 0]⟩, ⟨1, b_2, [.string (bs r_16.2.S_), .bool r_16.2.Bad]⟩, ⟨40, b_4, [.int .u64 r_3.1, .int .u64 r_5.1, .slice A_10 f_9.length c_11]⟩]) (ps := []) (by kernel_rfl) trivial ?_
      refine OpTo.go (GoO.call rfl (by kernel_rfl) (by kernel_rfl) (tontineref03_Reader_Num_ok n r_16.2 b_2) [[0], [1]] [(1, 1)] [(1, 1)] [] (hks := [0, 2]) (bks := [0]) (by kernel_rfl) (by kernel_rfl) (by kernel_rfl) (.inl rfl) rfl rfl (by kernel_rfl) (by kernel_rfl) _ (fun _ _ => rfl) _ _ (fun _ _ => rfl) (fun _ _ => rfl) (fun _ _ => by kernel_rfl) (fun _ _ => by kernel_rfl) (fun r_18 x_37 => ?_))
      refine GoO.shape (env' := [(0, .pointer (some ⟨b_2, 0, none⟩)), (3, .pointer (some ⟨b_4, 0, none⟩)), (4, .int .i64 r_6.1), (5, .bool ok_12), (6, .int .u64 last_13), (7, .int .i64 i_14), (8, .pointer (some ⟨b_17, 0, none⟩)), (28, .pointer (some ⟨b_2, 0, none⟩)), (29, .int .u64 r_18.1)]) (H' := [⟨1, b_2, [.string (bs r_18.2.S_), .bool r_18.2.Bad]⟩, ⟨41, b_17, [.int .u64 r_16.1, .int .u64 0, .int .u64 0, .int .i64 0, .int .u64 0, .int .u64 0]⟩, ⟨40, b_4, [.int .u64 r_3.1, .int .u64 r_5.1, .slice A_10 f_9.length c_11]⟩]) (B' := [Ow 43 kT_tontineref15_Row A_10 c_11 f_9]) (ks := [0, 3, 4, 5, 6, 7, 8, 28, 29]) (by kernel_rfl) (by kernel_rfl) (by kernel_rfl) ?_
      refine GoO.exec (is := [2, 3]) (hs := [.p, .b 1]) (rest := []) (ks := [0, 3, 4, 5, 6, 7, 8]) (env' := [(0, .pointer (some ⟨b_2, 0, none⟩)), (3, .pointer (some ⟨b_4, 0, none⟩)), (4, .int .i64 r_6.1), (5, .bool ok_12), (6, .int .u64 last_13), (7, .int .i64 i_14), (8, .pointer (some ⟨b_17, 0, none⟩))]) (H' := [⟨1, b_2, [.string (bs r_18.2.S_), .bool r_18.2.Bad]⟩, ⟨41, b_17, [.int .u64 r_16.1, .int .u64 r_18.1, .int .u64 0, .int .i64 0, .int .u64 0, .int .u64 0]⟩, ⟨40, b_4, [.int .u64 r_3.1, .int .u64 r_5.1, .slice A_10 f_9.length c_11]⟩]) (ps := [b_17 = b_17]) (by kernel_rfl) (And.intro rfl trivial) ?_
      refine GoO.regionEnd ?_
      refine GoO.seq' c36_29e ?_
      refine GoO.region' (is := [0, 1, 2, 3]) c36_30e (by kernel_rfl) ?_
      refine GoO.exec (is := [0]) (hs := [.p]) (rest := [1, 2, 3]) (ks := [0, 3, 4, 5, 6, 7, 8, 31]) (env' := [(0, .pointer (some ⟨b_2, 0, none⟩)), (3, .pointer (some ⟨b_4, 0, none⟩)), (4, .int .i64 r_6.1), (5, .bool ok_12), (6, .int .u64 last_13), (7, .int .i64 i_14), (8, .pointer (some ⟨b_17, 0, none⟩)), (31, .pointer (some ⟨b_2, 0, none⟩))]) (H' := [⟨1, b_2, [.string (bs r_18.2.S_), .bool r_18.2.Bad]⟩, ⟨41, b_17, [.int .u64 r_16.1, .int .u64 r_18.1, .int .u64 0, .int .i64 0, .int .u64 0, .int .u64 0]⟩, ⟨40, b_4, [.int .u64 r_3.1, .int .u64 r_5.1, .slice A_10 f_9.length c_11]⟩]) (ps := []) (by kernel_rfl) trivial ?_
      refine OpTo.go (GoO.call rfl (by kernel_rfl) (by kernel_rfl) (tontineref03_Reader_Num_ok n r_18.2 b_2) [[0], [1]] [(1, 1)] [(1, 0)] [] (hks := [1, 2]) (bks := [0]) (by kernel_rfl) (by kernel_rfl) (by kernel_rfl) (.inl rfl) rfl rfl (by kernel_rfl) (by kernel_rfl) _ (fun _ _ => rfl) _ _ (fun _ _ => rfl) (fun _ _ => rfl) (fun _ _ => by kernel_rfl) (fun _ _ => by kernel_rfl) (fun r_19 x_36 => ?_))
      refine GoO.shape (env' := [(0, .pointer (some ⟨b_2, 0, none⟩)), (3, .pointer (some ⟨b_4, 0, none⟩)), (4, .int .i64 r_6.1), (5, .bool ok_12), (6, .int .u64 last_13), (7, .int .i64 i_14), (8, .pointer (some ⟨b_17, 0, none⟩)), (31, .pointer (some ⟨b_2, 0, none⟩)), (32, .int .u64 r_19.1)]) (H' := [⟨1, b_2, [.string (bs r_19.2.S_), .bool r_19.2.Bad]⟩, ⟨41, b_17, [.int .u64 r_16.1, .int .u64 r_18.1, .int .u64 0, .int .i64 0, .int .u64 0, .int .u64 0]⟩, ⟨40, b_4, [.int .u64 r_3.1, .int .u64 r_5.1, .slice A_10 f_9.length c_11]⟩]) (B' := [Ow 43 kT_tontineref15_Row A_10 c_11 f_9]) (ks := [0, 3, 4, 5, 6, 7, 8, 31, 32]) (by kernel_rfl) (by kernel_rfl) (by kernel_rfl) ?_
      refine GoO.exec (is := [2, 3]) (hs := [.p, .b 1]) (rest := []) (ks := [0, 3, 4, 5, 6, 7, 8]) (env' := [(0, .pointer (some ⟨b_2, 0, none⟩)), (3, .pointer (some ⟨b_4, 0, none⟩)), (4, .int .i64 r_6.1), (5, .bool ok_12), (6, .int .u64 last_13), (7, .int .i64 i_14), (8, .pointer (some ⟨b_17, 0, none⟩))]) (H' := [⟨1, b_2, [.string (bs r_19.2.S_), .bool r_19.2.Bad]⟩, ⟨41, b_17, [.int .u64 r_16.1, .int .u64 r_18.1, .int .u64 r_19.1, .int .i64 0, .int .u64 0, .int .u64 0]⟩, ⟨40, b_4, [.int .u64 r_3.1, .int .u64 r_5.1, .slice A_10 f_9.length c_11]⟩]) (ps := [b_17 = b_17]) (by kernel_rfl) (And.intro rfl trivial) ?_
      refine GoO.regionEnd ?_
      refine GoO.seq' c36_31e ?_
      refine GoO.region' (is := [0, 1, 2, 3, 4]) c36_32e (by kernel_rfl) ?_
      refine GoO.exec (is := [0]) (hs := [.p]) (rest := [1, 2, 3, 4]) (ks := [0, 3, 4, 5, 6, 7, 8, 34]) (env' := [(0, .pointer (some ⟨b_2, 0, none⟩)), (3, .pointer (some ⟨b_4, 0, none⟩)), (4, .int .i64 r_6.1), (5, .bool ok_12), (6, .int .u64 last_13), (7, .int .i64 i_14), (8, .pointer (some ⟨b_17, 0, none⟩)), (34, .pointer (some ⟨b_2, 0, none⟩))]) (H' := [⟨1, b_2, [.string (bs r_19.2.S_), .bool r_19.2.Bad]⟩, ⟨41, b_17, [.int .u64 r_16.1, .int .u64 r_18.1, .int .u64 r_19.1, .int .i64 0, .int .u64 0, .int .u64 0]⟩, ⟨40, b_4, [.int .u64 r_3.1, .int .u64 r_5.1, .slice A_10 f_9.length c_11]⟩]) (ps := []) (by kernel_rfl) trivial ?_
      refine OpTo.go (GoO.call rfl (by kernel_rfl) (by kernel_rfl) (tontineref03_Reader_Up_ok n r_19.2 52 b_2) [[0], [1]] [(1, 1)] [(1, 0)] [] (hks := [1, 2]) (bks := [0]) (by kernel_rfl) (by kernel_rfl) (by kernel_rfl) (.inl rfl) rfl rfl (by kernel_rfl) (by kernel_rfl) _ (fun _ _ => rfl) _ _ (fun _ _ => rfl) (fun _ _ => rfl) (fun _ _ => by kernel_rfl) (fun _ _ => by kernel_rfl) (fun r_20 x_35 => ?_))
      refine GoO.shape (env' := [(0, .pointer (some ⟨b_2, 0, none⟩)), (3, .pointer (some ⟨b_4, 0, none⟩)), (4, .int .i64 r_6.1), (5, .bool ok_12), (6, .int .u64 last_13), (7, .int .i64 i_14), (8, .pointer (some ⟨b_17, 0, none⟩)), (34, .pointer (some ⟨b_2, 0, none⟩)), (35, .int .i64 r_20.1)]) (H' := [⟨1, b_2, [.string (bs r_20.2.S_), .bool r_20.2.Bad]⟩, ⟨41, b_17, [.int .u64 r_16.1, .int .u64 r_18.1, .int .u64 r_19.1, .int .i64 0, .int .u64 0, .int .u64 0]⟩, ⟨40, b_4, [.int .u64 r_3.1, .int .u64 r_5.1, .slice A_10 f_9.length c_11]⟩]) (B' := [Ow 43 kT_tontineref15_Row A_10 c_11 f_9]) (ks := [0, 3, 4, 5, 6, 7, 8, 34, 35]) (by kernel_rfl) (by kernel_rfl) (by kernel_rfl) ?_
      refine GoO.exec (is := [2, 3, 4]) (hs := [.p, .p, .b 1]) (rest := []) (ks := [0, 3, 4, 5, 6, 7, 8]) (env' := [(0, .pointer (some ⟨b_2, 0, none⟩)), (3, .pointer (some ⟨b_4, 0, none⟩)), (4, .int .i64 r_6.1), (5, .bool ok_12), (6, .int .u64 last_13), (7, .int .i64 i_14), (8, .pointer (some ⟨b_17, 0, none⟩))]) (H' := [⟨1, b_2, [.string (bs r_20.2.S_), .bool r_20.2.Bad]⟩, ⟨41, b_17, [.int .u64 r_16.1, .int .u64 r_18.1, .int .u64 r_19.1, .int .i64 r_20.1, .int .u64 0, .int .u64 0]⟩, ⟨40, b_4, [.int .u64 r_3.1, .int .u64 r_5.1, .slice A_10 f_9.length c_11]⟩]) (ps := [b_17 = b_17]) (by kernel_rfl) (And.intro rfl trivial) ?_
      refine GoO.regionEnd ?_
      refine GoO.seq' c36_33e ?_
      refine GoO.region' (is := [0, 1, 2, 3, 4]) c36_34e (by kernel_rfl) ?_
      refine GoO.exec (is := [0]) (hs := [.p]) (rest := [1, 2, 3, 4]) (ks := [0, 3, 4, 5, 6, 7, 8, 38]) (env' := [(0, .pointer (some ⟨b_2, 0, none⟩)), (3, .pointer (some ⟨b_4, 0, none⟩)), (4, .int .i64 r_6.1), (5, .bool ok_12), (6, .int .u64 last_13), (7, .int .i64 i_14), (8, .pointer (some ⟨b_17, 0, none⟩)), (38, .pointer (some ⟨b_2, 0, none⟩))]) (H' := [⟨1, b_2, [.string (bs r_20.2.S_), .bool r_20.2.Bad]⟩, ⟨41, b_17, [.int .u64 r_16.1, .int .u64 r_18.1, .int .u64 r_19.1, .int .i64 r_20.1, .int .u64 0, .int .u64 0]⟩, ⟨40, b_4, [.int .u64 r_3.1, .int .u64 r_5.1, .slice A_10 f_9.length c_11]⟩]) (ps := []) (by kernel_rfl) trivial ?_
      refine OpTo.go (GoO.call rfl (by kernel_rfl) (by kernel_rfl) (tontineref03_Reader_Num_ok n r_20.2 b_2) [[0], [1]] [(1, 1)] [(1, 0)] [] (hks := [1, 2]) (bks := [0]) (by kernel_rfl) (by kernel_rfl) (by kernel_rfl) (.inl rfl) rfl rfl (by kernel_rfl) (by kernel_rfl) _ (fun _ _ => rfl) _ _ (fun _ _ => rfl) (fun _ _ => rfl) (fun _ _ => by kernel_rfl) (fun _ _ => by kernel_rfl) (fun r_21 x_34 => ?_))
      refine GoO.shape (env' := [(0, .pointer (some ⟨b_2, 0, none⟩)), (3, .pointer (some ⟨b_4, 0, none⟩)), (4, .int .i64 r_6.1), (5, .bool ok_12), (6, .int .u64 last_13), (7, .int .i64 i_14), (8, .pointer (some ⟨b_17, 0, none⟩)), (38, .pointer (some ⟨b_2, 0, none⟩)), (39, .int .u64 r_21.1)]) (H' := [⟨1, b_2, [.string (bs r_21.2.S_), .bool r_21.2.Bad]⟩, ⟨41, b_17, [.int .u64 r_16.1, .int .u64 r_18.1, .int .u64 r_19.1, .int .i64 r_20.1, .int .u64 0, .int .u64 0]⟩, ⟨40, b_4, [.int .u64 r_3.1, .int .u64 r_5.1, .slice A_10 f_9.length c_11]⟩]) (B' := [Ow 43 kT_tontineref15_Row A_10 c_11 f_9]) (ks := [0, 3, 4, 5, 6, 7, 8, 38, 39]) (by kernel_rfl) (by kernel_rfl) (by kernel_rfl) ?_
      refine GoO.exec (is := [2, 3, 4]) (hs := [.p, .p, .b 1]) (rest := []) (ks := [0, 3, 4, 5, 6, 7, 8]) (env' := [(0, .pointer (some ⟨b_2, 0, none⟩)), (3, .pointer (some ⟨b_4, 0, none⟩)), (4, .int .i64 r_6.1), (5, .bool ok_12), (6, .int .u64 last_13), (7, .int .i64 i_14), (8, .pointer (some ⟨b_17, 0, none⟩))]) (H' := [⟨1, b_2, [.string (bs r_21.2.S_), .bool r_21.2.Bad]⟩, ⟨41, b_17, [.int .u64 r_16.1, .int .u64 r_18.1, .int .u64 r_19.1, .int .i64 r_20.1, .int .u64 r_21.1, .int .u64 0]⟩, ⟨40, b_4, [.int .u64 r_3.1, .int .u64 r_5.1, .slice A_10 f_9.length c_11]⟩]) (ps := [b_17 = b_17]) (by kernel_rfl) (And.intro rfl trivial) ?_
      refine GoO.regionEnd ?_
      refine GoO.seq' c36_35e ?_
      refine GoO.region' (is := [0, 1, 2, 3, 4]) c36_36e (by kernel_rfl) ?_
      refine GoO.exec (is := [0]) (hs := [.p]) (rest := [1, 2, 3, 4]) (ks := [0, 3, 4, 5, 6, 7, 8, 42]) (env' := [(0, .pointer (some ⟨b_2, 0, none⟩)), (3, .pointer (some ⟨b_4, 0, none⟩)), (4, .int .i64 r_6.1), (5, .bool ok_12), (6, .int .u64 last_13), (7, .int .i64 i_14), (8, .pointer (some ⟨b_17, 0, none⟩)), (42, .pointer (some ⟨b_2, 0, none⟩))]) (H' := [⟨1, b_2, [.string (bs r_21.2.S_), .bool r_21.2.Bad]⟩, ⟨41, b_17, [.int .u64 r_16.1, .int .u64 r_18.1, .int .u64 r_19.1, .int .i64 r_20.1, .int .u64 r_21.1, .int .u64 0]⟩, ⟨40, b_4, [.int .u64 r_3.1, .int .u64 r_5.1, .slice A_10 f_9.length c_11]⟩]) (ps := []) (by kernel_rfl) trivial ?_
      refine OpTo.go (GoO.call rfl (by kernel_rfl) (by kernel_rfl) (tontineref03_Reader_Num_ok n r_21.2 b_2) [[0], [1]] [(1, 1)] [(1, 0)] [] (hks := [1, 2]) (bks := [0]) (by kernel_rfl) (by kernel_rfl) (by kernel_rfl) (.inl rfl) rfl rfl (by kernel_rfl) (by kernel_rfl) _ (fun _ _ => rfl) _ _ (fun _ _ => rfl) (fun _ _ => rfl) (fun _ _ => by kernel_rfl) (fun _ _ => by kernel_rfl) (fun r_22 x_33 => ?_))
      refine GoO.shape (env' := [(0, .pointer (some ⟨b_2, 0, none⟩)), (3, .pointer (some ⟨b_4, 0, none⟩)), (4, .int .i64 r_6.1), (5, .bool ok_12), (6, .int .u64 last_13), (7, .int .i64 i_14), (8, .pointer (some ⟨b_17, 0, none⟩)), (42, .pointer (some ⟨b_2, 0, none⟩)), (43, .int .u64 r_22.1)]) (H' := [⟨1, b_2, [.string (bs r_22.2.S_), .bool r_22.2.Bad]⟩, ⟨41, b_17, [.int .u64 r_16.1, .int .u64 r_18.1, .int .u64 r_19.1, .int .i64 r_20.1, .int .u64 r_21.1, .int .u64 0]⟩, ⟨40, b_4, [.int .u64 r_3.1, .int .u64 r_5.1, .slice A_10 f_9.length c_11]⟩]) (B' := [Ow 43 kT_tontineref15_Row A_10 c_11 f_9]) (ks := [0, 3, 4, 5, 6, 7, 8, 42, 43]) (by kernel_rfl) (by kernel_rfl) (by kernel_rfl) ?_
      refine GoO.exec (is := [2, 3, 4]) (hs := [.p, .p, .b 1]) (rest := []) (ks := [0, 3, 4, 5, 6, 7, 8]) (env' := [(0, .pointer (some ⟨b_2, 0, none⟩)), (3, .pointer (some ⟨b_4, 0, none⟩)), (4, .int .i64 r_6.1), (5, .bool ok_12), (6, .int .u64 last_13), (7, .int .i64 i_14), (8, .pointer (some ⟨b_17, 0, none⟩))]) (H' := [⟨1, b_2, [.string (bs r_22.2.S_), .bool r_22.2.Bad]⟩, ⟨41, b_17, [.int .u64 r_16.1, .int .u64 r_18.1, .int .u64 r_19.1, .int .i64 r_20.1, .int .u64 r_21.1, .int .u64 r_22.1]⟩, ⟨40, b_4, [.int .u64 r_3.1, .int .u64 r_5.1, .slice A_10 f_9.length c_11]⟩]) (ps := [b_17 = b_17]) (by kernel_rfl) (And.intro rfl trivial) ?_
      refine GoO.regionEnd ?_
      refine GoO.seq' c36_37e ?_
      refine GoO.draw c36_38e (by kernel_rfl) [35] [⟨41, b_17, [.int .u64 r_16.1, .int .u64 r_18.1, .int .u64 r_19.1, .int .i64 r_20.1, .int .u64 r_21.1, .int .u64 r_22.1]⟩, ⟨40, b_4, [.int .u64 r_3.1, .int .u64 r_5.1, .slice A_10 f_9.length c_11]⟩] [] (n := 36) (by kernel_rfl) ?_
      simp only [List.replicate]
      refine GoF.take [0, 1] [.p, .p] (ks := [0, 3, 4, 6, 7, 8, 47]) (fu := 34) (li := [true, true, false, false, false, false, false, false, false, false, false, false, false, false, false, false, false, false, false, false, false, false, false, false, false, false, false, false, false, false, false, false, false, false, false, false]) (env' := [(0, .pointer (some ⟨b_2, 0, none⟩)), (3, .pointer (some ⟨b_4, 0, none⟩)), (4, .int .i64 r_6.1), (6, .int .u64 last_13), (7, .int .i64 i_14), (8, .pointer (some ⟨b_17, 0, none⟩)), (47, .bool ok_12)]) (ps := []) (hk := [1, 2]) (bk := []) (by kernel_rfl) trivial rfl rfl ?_
      refine GoF.bsplit (t := 47) (by kernel_rfl) (fun h23 => ?_) (fun h23 => ?_)
      · refine GoF.take [2, 3, 4, 5, 6, 7] [.p, .b 0, .p, .p, .p, .p] (ks := [0, 3, 4, 7, 8, 53]) (fu := 28) (li := [true, true, true, true, true, true, true, true, false, false, false, false, false, false, false, false, false, false, false, false, false, false, false, false, false, false, false, false, false, false, false, false, false, false, false, false]) (env' := [(0, .pointer (some ⟨b_2, 0, none⟩)), (3, .pointer (some ⟨b_4, 0, none⟩)), (4, .int .i64 r_6.1), (7, .int .i64 i_14), (8, .pointer (some ⟨b_17, 0, none⟩)), (53, .bool (decide (r_16.1 > last_13)))]) (ps := [b_17 = b_17]) (hk := [1, 2]) (bk := []) (by kernel_rfl) (And.intro rfl trivial) rfl rfl ?_
        refine GoF.bsplit (t := 53) (by kernel_rfl) (fun h24 => ?_) (fun h24 => ?_)
        · refine GoF.take [8, 9, 10, 11, 12, 13, 14, 15, 16] [.p, .b 0, .p, .p, .p, .b 1, .p, .p, .p] (ks := [0, 3, 4, 7, 8, 62]) (fu := 19) (li := [true, true, true, true, true, true, true, true, true, true, true, true, true, true, true, true, true, false, false, false, false, false, false, false, false, false, false, false, false, false, false, false, false, false, false, false]) (env' := [(0, .pointer (some ⟨b_2, 0, none⟩)), (3, .pointer (some ⟨b_4, 0, none⟩)), (4, .int .i64 r_6.1), (7, .int .i64 i_14), (8, .pointer (some ⟨b_17, 0, none⟩)), (62, .bool (decide (r_16.1 < r_5.1)))]) (ps := [b_17 = b_17, b_4 = b_4]) (hk := [1, 2]) (bk := []) (by kernel_rfl) (And.intro rfl (And.intro rfl trivial)) rfl rfl ?_
          refine GoF.bsplit (t := 62) (by kernel_rfl) (fun h25 => ?_) (fun h25 => ?_)
          · refine GoF.take [17, 18, 19, 20, 21, 22, 23, 24, 25] [.p, .b 0, .p, .p, .p, .b 1, .p, .p, .p] (ks := [0, 3, 4, 7, 8, 71]) (fu := 10) (li := [true, true, true, true, true, true, true, true, true, true, true, true, true, true, true, true, true, true, true, true, true, true, true, true, true, true, false, false, false, false, false, false, false, false, false, false]) (env' := [(0, .pointer (some ⟨b_2, 0, none⟩)), (3, .pointer (some ⟨b_4, 0, none⟩)), (4, .int .i64 r_6.1), (7, .int .i64 i_14), (8, .pointer (some ⟨b_17, 0, none⟩)), (71, .bool (decide (r_18.1 ≤ r_3.1)))]) (ps := [b_17 = b_17, b_4 = b_4]) (hk := [1, 2]) (bk := []) (by kernel_rfl) (And.intro rfl (And.intro rfl trivial)) rfl rfl ?_
            refine GoF.bsplit (t := 71) (by kernel_rfl) (fun h26 => ?_) (fun h26 => ?_)
            · refine GoF.take [26, 27, 28, 29, 30, 31, 32, 33, 34] [.p, .p, .p, .b 1, .p, .b 0, .p, .p, .p] (ks := [0, 3, 4, 7, 8, 80]) (fu := 1) (li := [true, true, true, true, true, true, true, true, true, true, true, true, true, true, true, true, true, true, true, true, true, true, true, true, true, true, true, true, true, true, true, true, true, true, true, false]) (env' := [(0, .pointer (some ⟨b_2, 0, none⟩)), (3, .pointer (some ⟨b_4, 0, none⟩)), (4, .int .i64 r_6.1), (7, .int .i64 i_14), (8, .pointer (some ⟨b_17, 0, none⟩)), (80, .bool (decide ((wu64 (r_3.1 - r_18.1)) ≤ 1000)))]) (ps := [b_4 = b_4, b_17 = b_17]) (hk := [1, 2]) (bk := []) (by kernel_rfl) (And.intro rfl (And.intro rfl trivial)) rfl rfl ?_
              refine GoF.fin1 (i := 35) (hint := .p) (ps := []) (hk := []) (bk := []) (by kernel_rfl) rfl trivial (.inl rfl) ?_
              refine GoF.done (by kernel_rfl) ?_
              exact GoO.sub (ks := [0, 3, 4, 5, 7, 8]) (hk := [0, 2, 1]) (bk := [0]) (by kernel_rfl) (by kernel_rfl) (by kernel_rfl) (tontineref15_Read_j0_ok n (tontineref15_Read.l0 n r_3 r_5 r_6 k) r_3 r_5 r_6 f_7 f_8 f_9 ok_12 last_13 i_14 r_16 r_18 r_19 r_20 r_21 r_22 b_2 b_4 A_10 c_11 b_17 w0 S0 ih0 (decide ((wu64 (r_3.1 - r_18.1)) ≤ 1000)))
            · refine GoF.take [26, 27, 28, 29, 30, 31, 32, 33, 34] [.p, .p, .p, .p, .p, .p, .p, .p, .p] (ks := [0, 3, 4, 7, 8, 80]) (fu := 1) (li := [true, true, true, true, true, true, true, true, true, true, true, true, true, true, true, true, true, true, true, true, true, true, true, true, true, true, true, true, true, true, true, true, true, true, true, false]) (env' := [(0, .pointer (some ⟨b_2, 0, none⟩)), (3, .pointer (some ⟨b_4, 0, none⟩)), (4, .int .i64 r_6.1), (7, .int .i64 i_14), (8, .pointer (some ⟨b_17, 0, none⟩)), (80, .bool false)]) (ps := []) (hk := [1, 2]) (bk := []) (by kernel_rfl) trivial rfl rfl ?_
              refine GoF.fin1 (i := 35) (hint := .p) (ps := []) (hk := []) (bk := []) (by kernel_rfl) rfl trivial (.inl rfl) ?_
              refine GoF.done (by kernel_rfl) ?_
              exact GoO.sub (ks := [0, 3, 4, 5, 7, 8]) (hk := [0, 2, 1]) (bk := [0]) (by kernel_rfl) (by kernel_rfl) (by kernel_rfl) (tontineref15_Read_j0_ok n (tontineref15_Read.l0 n r_3 r_5 r_6 k) r_3 r_5 r_6 f_7 f_8 f_9 ok_12 last_13 i_14 r_16 r_18 r_19 r_20 r_21 r_22 b_2 b_4 A_10 c_11 b_17 w0 S0 ih0 false)
          · refine GoF.take [17, 18, 19, 20, 21, 22, 23, 24, 25, 26, 27, 28, 29, 30, 31, 32, 33, 34] [.p, .p, .p, .p, .p, .p, .p, .p, .p, .p, .p, .p, .p, .p, .p, .p, .p, .p] (ks := [0, 3, 4, 7, 8, 80]) (fu := 1) (li := [true, true, true, true, true, true, true, true, true, true, true, true, true, true, true, true, true, true, true, true, true, true, true, true, true, true, true, true, true, true, true, true, true, true, true, false]) (env' := [(0, .pointer (some ⟨b_2, 0, none⟩)), (3, .pointer (some ⟨b_4, 0, none⟩)), (4, .int .i64 r_6.1), (7, .int .i64 i_14), (8, .pointer (some ⟨b_17, 0, none⟩)), (80, .bool false)]) (ps := []) (hk := [1, 2]) (bk := []) (by kernel_rfl) trivial rfl rfl ?_
            refine GoF.fin1 (i := 35) (hint := .p) (ps := []) (hk := []) (bk := []) (by kernel_rfl) rfl trivial (.inl rfl) ?_
            refine GoF.done (by kernel_rfl) ?_
            exact GoO.sub (ks := [0, 3, 4, 5, 7, 8]) (hk := [0, 2, 1]) (bk := [0]) (by kernel_rfl) (by kernel_rfl) (by kernel_rfl) (tontineref15_Read_j0_ok n (tontineref15_Read.l0 n r_3 r_5 r_6 k) r_3 r_5 r_6 f_7 f_8 f_9 ok_12 last_13 i_14 r_16 r_18 r_19 r_20 r_21 r_22 b_2 b_4 A_10 c_11 b_17 w0 S0 ih0 false)
        · refine GoF.take [8, 9, 10, 11, 12, 13, 14, 15, 16, 17, 18, 19, 20, 21, 22, 23, 24, 25, 26, 27, 28, 29, 30, 31, 32, 33, 34] [.p, .p, .p, .p, .p, .p, .p, .p, .p, .p, .p, .p, .p, .p, .p, .p, .p, .p, .p, .p, .p, .p, .p, .p, .p, .p, .p] (ks := [0, 3, 4, 7, 8, 80]) (fu := 1) (li := [true, true, true, true, true, true, true, true, true, true, true, true, true, true, true, true, true, true, true, true, true, true, true, true, true, true, true, true, true, true, true, true, true, true, true, false]) (env' := [(0, .pointer (some ⟨b_2, 0, none⟩)), (3, .pointer (some ⟨b_4, 0, none⟩)), (4, .int .i64 r_6.1), (7, .int .i64 i_14), (8, .pointer (some ⟨b_17, 0, none⟩)), (80, .bool false)]) (ps := []) (hk := [1, 2]) (bk := []) (by kernel_rfl) trivial rfl rfl ?_
          refine GoF.fin1 (i := 35) (hint := .p) (ps := []) (hk := []) (bk := []) (by kernel_rfl) rfl trivial (.inl rfl) ?_
          refine GoF.done (by kernel_rfl) ?_
          exact GoO.sub (ks := [0, 3, 4, 5, 7, 8]) (hk := [0, 2, 1]) (bk := [0]) (by kernel_rfl) (by kernel_rfl) (by kernel_rfl) (tontineref15_Read_j0_ok n (tontineref15_Read.l0 n r_3 r_5 r_6 k) r_3 r_5 r_6 f_7 f_8 f_9 ok_12 last_13 i_14 r_16 r_18 r_19 r_20 r_21 r_22 b_2 b_4 A_10 c_11 b_17 w0 S0 ih0 false)
      · refine GoF.take [2, 3, 4, 5, 6, 7, 8, 9, 10, 11, 12, 13, 14, 15, 16, 17, 18, 19, 20, 21, 22, 23, 24, 25, 26, 27, 28, 29, 30, 31, 32, 33, 34] [.p, .p, .p, .p, .p, .p, .p, .p, .p, .p, .p, .p, .p, .p, .p, .p, .p, .p, .p, .p, .p, .p, .p, .p, .p, .p, .p, .p, .p, .p, .p, .p, .p] (ks := [0, 3, 4, 7, 8, 80]) (fu := 1) (li := [true, true, true, true, true, true, true, true, true, true, true, true, true, true, true, true, true, true, true, true, true, true, true, true, true, true, true, true, true, true, true, true, true, true, true, false]) (env' := [(0, .pointer (some ⟨b_2, 0, none⟩)), (3, .pointer (some ⟨b_4, 0, none⟩)), (4, .int .i64 r_6.1), (7, .int .i64 i_14), (8, .pointer (some ⟨b_17, 0, none⟩)), (80, .bool false)]) (ps := []) (hk := [1, 2]) (bk := []) (by kernel_rfl) trivial rfl rfl ?_
        refine GoF.fin1 (i := 35) (hint := .p) (ps := []) (hk := []) (bk := []) (by kernel_rfl) rfl trivial (.inl rfl) ?_
        refine GoF.done (by kernel_rfl) ?_
        exact GoO.sub (ks := [0, 3, 4, 5, 7, 8]) (hk := [0, 2, 1]) (bk := [0]) (by kernel_rfl) (by kernel_rfl) (by kernel_rfl) (tontineref15_Read_j0_ok n (tontineref15_Read.l0 n r_3 r_5 r_6 k) r_3 r_5 r_6 f_7 f_8 f_9 ok_12 last_13 i_14 r_16 r_18 r_19 r_20 r_21 r_22 b_2 b_4 A_10 c_11 b_17 w0 S0 ih0 false)
    · refine GoO.exit' c36_22e rfl ?_
      refine GoO.seq' c36_43e ?_
      refine GoO.seq' c36_44e ?_
      refine GoO.region' (is := [0, 1, 2, 3, 4, 5, 6, 7, 8, 9, 10, 11, 12, 13, 14]) c36_45e (by kernel_rfl) ?_
      refine GoO.exec (is := [0, 1, 2, 3, 4]) (hs := [.p, .p, .p, .b 0, .p]) (rest := [5, 6, 7, 8, 9, 10, 11, 12, 13, 14]) (ks := [3, 5, 97]) (env' := [(3, .pointer (some ⟨b_4, 0, none⟩)), (5, .bool ok_12), (97, .bool f_8)]) (H' := [⟨1, b_2, [.string (bs f_7), .bool f_8]⟩, ⟨40, b_4, [.int .u64 r_3.1, .int .u64 r_5.1, .slice A_10 f_9.length c_11]⟩]) (ps := [b_2 = b_2]) (by kernel_rfl) (And.intro rfl trivial) ?_
      refine GoO.bsplit (t := 97) (by kernel_rfl) (fun h39 => ?_) (fun h39 => ?_)
      · refine GoO.exec (is := [5, 6, 7, 8, 9, 10, 11, 12, 13, 14]) (hs := [.p, .p, .p, .p, .p, .p, .p, .p, .p, .p]) (rest := []) (ks := [3, 107]) (env' := [(3, .pointer (some ⟨b_4, 0, none⟩)), (107, .bool true)]) (H' := [⟨1, b_2, [.string (bs f_7), .bool f_8]⟩, ⟨40, b_4, [.int .u64 r_3.1, .int .u64 r_5.1, .slice A_10 f_9.length c_11]⟩]) (ps := []) (by kernel_rfl) trivial ?_
        refine GoO.regionEnd ?_
        exact GoO.sub (ks := [3, 107]) (hk := [1, 0]) (bk := [0]) (by kernel_rfl) (by kernel_rfl) (by kernel_rfl) (tontineref15_Read_j1_ok n r_3 r_5 f_7 f_8 f_9 b_2 b_4 A_10 c_11 w0 S0 true)
      · refine GoO.exec (is := [5, 6, 7, 8]) (hs := [.p, .p, .p, .p]) (rest := [9, 10, 11, 12, 13, 14]) (ks := [3, 101]) (env' := [(3, .pointer (some ⟨b_4, 0, none⟩)), (101, .bool (!ok_12))]) (H' := [⟨1, b_2, [.string (bs f_7), .bool f_8]⟩, ⟨40, b_4, [.int .u64 r_3.1, .int .u64 r_5.1, .slice A_10 f_9.length c_11]⟩]) (ps := []) (by kernel_rfl) trivial ?_
        refine GoO.bsplit (t := 101) (by kernel_rfl) (fun h40 => ?_) (fun h40 => ?_)
        · refine GoO.exec (is := [9, 10, 11, 12, 13, 14]) (hs := [.p, .p, .p, .p, .p, .p]) (rest := []) (ks := [3, 107]) (env' := [(3, .pointer (some ⟨b_4, 0, none⟩)), (107, .bool true)]) (H' := [⟨1, b_2, [.string (bs f_7), .bool f_8]⟩, ⟨40, b_4, [.int .u64 r_3.1, .int .u64 r_5.1, .slice A_10 f_9.length c_11]⟩]) (ps := []) (by kernel_rfl) trivial ?_
          refine GoO.regionEnd ?_
          exact GoO.sub (ks := [3, 107]) (hk := [1, 0]) (bk := [0]) (by kernel_rfl) (by kernel_rfl) (by kernel_rfl) (tontineref15_Read_j1_ok n r_3 r_5 f_7 f_8 f_9 b_2 b_4 A_10 c_11 w0 S0 true)
        · refine GoO.exec (is := [9, 10, 11, 12, 13, 14]) (hs := [.p, .p, .p, .b 1, .p, .p]) (rest := []) (ks := [3, 107]) (env' := [(3, .pointer (some ⟨b_4, 0, none⟩)), (107, .bool (r_5.1 == 0))]) (H' := [⟨1, b_2, [.string (bs f_7), .bool f_8]⟩, ⟨40, b_4, [.int .u64 r_3.1, .int .u64 r_5.1, .slice A_10 f_9.length c_11]⟩]) (ps := [b_4 = b_4]) (by kernel_rfl) (And.intro rfl trivial) ?_
          refine GoO.regionEnd ?_
          exact GoO.sub (ks := [3, 107]) (hk := [1, 0]) (bk := [0]) (by kernel_rfl) (by kernel_rfl) (by kernel_rfl) (tontineref15_Read_j1_ok n r_3 r_5 f_7 f_8 f_9 b_2 b_4 A_10 c_11 w0 S0 (r_5.1 == 0))
theorem tontineref15_Read_ok (n : Nat) (r_1 : T_tontineref03_Reader) (b_2 : Nat) :
    Meets Try.prog 36 [.pointer (some ⟨b_2, 0, none⟩)] 1 [1] [⟨1, b_2, [.string (bs r_1.S_), .bool r_1.Bad]⟩] [] (tontineref15_Read.f n r_1) (tontineref15_Read.R b_2) := by
  refine Meets.of (c := c36_0) (n := 109) Try.func36 (by kernel_rfl) (by kernel_rfl) (by kernel_rfl) fun w0 S0 => ?_
  unfold tontineref15_Read.f
  show GoO (tontineref15_Read.cx b_2 w0 S0) [(0, .pointer (some ⟨b_2, 0, none⟩))] [⟨1, b_2, [.string (bs r_1.S_), .bool r_1.Bad]⟩] [] [.code c36_0] _
  refine GoO.seq' c36_0e ?_
  refine GoO.region' (is := [0]) c36_1e (by kernel_rfl) ?_
  refine GoO.exec (is := [0]) (hs := [.p]) (rest := []) (ks := [0]) (env' := [(0, .pointer (some ⟨b_2, 0, none⟩))]) (H' := [⟨1, b_2, [.string (bs r_1.S_), .bool r_1.Bad]⟩]) (ps := []) (by kernel_rfl) trivial ?_
  refine GoO.regionEnd ?_
  refine GoO.seq' c36_2e ?_
  refine GoO.region' (is := [0, 1, 2, 3, 4]) c36_3e (by kernel_rfl) ?_
  refine GoO.exec (is := [0]) (hs := [.p]) (rest := [1, 2, 3, 4]) (ks := [0, 9]) (env' := [(0, .pointer (some ⟨b_2, 0, none⟩)), (9, .pointer (some ⟨b_2, 0, none⟩))]) (H' := [⟨1, b_2, [.string (bs r_1.S_), .bool r_1.Bad]⟩]) (ps := []) (by kernel_rfl) trivial ?_
  refine OpTo.go (GoO.call rfl (by kernel_rfl) (by kernel_rfl) (tontineref03_Reader_Num_ok n r_1 b_2) [[0], [1]] [(1, 1)] [(1, 0)] [] (hks := []) (bks := []) (by kernel_rfl) (by kernel_rfl) (by kernel_rfl) (.inl rfl) rfl rfl (by kernel_rfl) (by kernel_rfl) _ (fun _ _ => rfl) _ _ (fun _ _ => rfl) (fun _ _ => rfl) (fun _ _ => by kernel_rfl) (fun _ _ => by kernel_rfl) (fun r_3 x_45 => ?_))
  refine GoO.shape (env' := [(0, .pointer (some ⟨b_2, 0, none⟩)), (9, .pointer (some ⟨b_2, 0, none⟩)), (10, .int .u64 r_3.1)]) (H' := [⟨1, b_2, [.string (bs r_3.2.S_), .bool r_3.2.Bad]⟩]) (B' := []) (ks := [0, 9, 10]) (by kernel_rfl) (by kernel_rfl) (by kernel_rfl) ?_
  refine GoO.exec (is := [2]) (hs := [.p]) (rest := [3, 4]) (ks := [0, 11]) (env' := [(0, .pointer (some ⟨b_2, 0, none⟩)), (11, .agg ⟨[.int .u64 r_3.1, .int .u64 0, .slice none ([] : List T_tontineref15_Row).length 0]⟩)]) (H' := [⟨1, b_2, [.string (bs r_3.2.S_), .bool r_3.2.Bad]⟩]) (ps := []) (by kernel_rfl) trivial ?_
  refine OpTo.go (GoO.new rfl 40 (cs := [.int .u64 r_3.1, .int .u64 0, .slice none ([] : List T_tontineref15_Row).length 0]) (by kernel_rfl) _ (fun _ => rfl) (fun b_4 => ?_))
  refine GoO.exec (is := [4]) (hs := [.p]) (rest := []) (ks := [0, 3]) (env' := [(0, .pointer (some ⟨b_2, 0, none⟩)), (3, .pointer (some ⟨b_4, 0, none⟩))]) (H' := [⟨40, b_4, [.int .u64 r_3.1, .int .u64 0, .slice none ([] : List T_tontineref15_Row).length 0]⟩, ⟨1, b_2, [.string (bs r_3.2.S_), .bool r_3.2.Bad]⟩]) (ps := []) (by kernel_rfl) trivial ?_
  refine GoO.regionEnd ?_
  refine GoO.seq' c36_4e ?_
  refine GoO.region' (is := [0, 1, 2, 3, 4, 5]) c36_5e (by kernel_rfl) ?_
  refine GoO.exec (is := [0, 1]) (hs := [.p, .p]) (rest := [2, 3, 4, 5]) (ks := [0, 3, 13, 14]) (env' := [(0, .pointer (some ⟨b_2, 0, none⟩)), (3, .pointer (some ⟨b_4, 0, none⟩)), (13, .pointer (some ⟨b_4, 0, none⟩)), (14, .pointer (some ⟨b_2, 0, none⟩))]) (H' := [⟨40, b_4, [.int .u64 r_3.1, .int .u64 0, .slice none ([] : List T_tontineref15_Row).length 0]⟩, ⟨1, b_2, [.string (bs r_3.2.S_), .bool r_3.2.Bad]⟩]) (ps := []) (by kernel_rfl) trivial ?_
  refine OpTo.go (GoO.call rfl (by kernel_rfl) (by kernel_rfl) (tontineref03_Reader_Num_ok n r_3.2 b_2) [[0], [1]] [(1, 1)] [(1, 1)] [] (hks := [0]) (bks := []) (by kernel_rfl) (by kernel_rfl) (by kernel_rfl) (.inl rfl) rfl rfl (by kernel_rfl) (by kernel_rfl) _ (fun _ _ => rfl) _ _ (fun _ _ => rfl) (fun _ _ => rfl) (fun _ _ => by kernel_rfl) (fun _ _ => by kernel_rfl) (fun r_5 x_44 => ?_))
  refine GoO.shape (env' := [(0, .pointer (some ⟨b_2, 0, none⟩)), (3, .pointer (some ⟨b_4, 0, none⟩)), (13, .pointer (some ⟨b_4, 0, none⟩)), (14, .pointer (some ⟨b_2, 0, none⟩)), (15, .int .u64 r_5.1)]) (H' := [⟨1, b_2, [.string (bs r_5.2.S_), .bool r_5.2.Bad]⟩, ⟨40, b_4, [.int .u64 r_3.1, .int .u64 0, .slice none ([] : List T_tontineref15_Row).length 0]⟩]) (B' := []) (ks := [0, 3, 13, 14, 15]) (by kernel_rfl) (by kernel_rfl) (by kernel_rfl) ?_
  refine GoO.exec (is := [3, 4, 5]) (hs := [.p, .p, .b 1]) (rest := []) (ks := [0, 3]) (env' := [(0, .pointer (some ⟨b_2, 0, none⟩)), (3, .pointer (some ⟨b_4, 0, none⟩))]) (H' := [⟨1, b_2, [.string (bs r_5.2.S_), .bool r_5.2.Bad]⟩, ⟨40, b_4, [.int .u64 r_3.1, .int .u64 r_5.1, .slice none ([] : List T_tontineref15_Row).length 0]⟩]) (ps := [b_4 = b_4]) (by kernel_rfl) (And.intro rfl trivial) ?_
  refine GoO.regionEnd ?_
  refine GoO.seq' c36_6e ?_
  refine GoO.region' (is := [0, 1, 2]) c36_7e (by kernel_rfl) ?_
  refine GoO.exec (is := [0]) (hs := [.p]) (rest := [1, 2]) (ks := [0, 3, 18]) (env' := [(0, .pointer (some ⟨b_2, 0, none⟩)), (3, .pointer (some ⟨b_4, 0, none⟩)), (18, .pointer (some ⟨b_2, 0, none⟩))]) (H' := [⟨1, b_2, [.string (bs r_5.2.S_), .bool r_5.2.Bad]⟩, ⟨40, b_4, [.int .u64 r_3.1, .int .u64 r_5.1, .slice none ([] : List T_tontineref15_Row).length 0]⟩]) (ps := []) (by kernel_rfl) trivial ?_
  refine OpTo.go (GoO.call rfl (by kernel_rfl) (by kernel_rfl) (tontineref03_Reader_Up_ok n r_5.2 16 b_2) [[0], [1]] [(1, 1)] [(1, 0)] [] (hks := [1]) (bks := []) (by kernel_rfl) (by kernel_rfl) (by kernel_rfl) (.inl rfl) rfl rfl (by kernel_rfl) (by kernel_rfl) _ (fun _ _ => rfl) _ _ (fun _ _ => rfl) (fun _ _ => rfl) (fun _ _ => by kernel_rfl) (fun _ _ => by kernel_rfl) (fun r_6 x_43 => ?_))
  refine GoO.shape (env' := [(0, .pointer (some ⟨b_2, 0, none⟩)), (3, .pointer (some ⟨b_4, 0, none⟩)), (18, .pointer (some ⟨b_2, 0, none⟩)), (19, .int .i64 r_6.1)]) (H' := [⟨1, b_2, [.string (bs r_6.2.S_), .bool r_6.2.Bad]⟩, ⟨40, b_4, [.int .u64 r_3.1, .int .u64 r_5.1, .slice none ([] : List T_tontineref15_Row).length 0]⟩]) (B' := []) (ks := [0, 3, 18, 19]) (by kernel_rfl) (by kernel_rfl) (by kernel_rfl) ?_
  refine GoO.exec (is := [2]) (hs := [.p]) (rest := []) (ks := [0, 3, 4]) (env' := [(0, .pointer (some ⟨b_2, 0, none⟩)), (3, .pointer (some ⟨b_4, 0, none⟩)), (4, .int .i64 r_6.1)]) (H' := [⟨1, b_2, [.string (bs r_6.2.S_), .bool r_6.2.Bad]⟩, ⟨40, b_4, [.int .u64 r_3.1, .int .u64 r_5.1, .slice none ([] : List T_tontineref15_Row).length 0]⟩]) (ps := []) (by kernel_rfl) trivial ?_
  refine GoO.regionEnd ?_
  refine GoO.seq' c36_8e ?_
  refine GoO.region' (is := [0]) c36_9e (by kernel_rfl) ?_
  refine GoO.exec (is := [0]) (hs := [.p]) (rest := []) (ks := [0, 3, 4, 5]) (env' := [(0, .pointer (some ⟨b_2, 0, none⟩)), (3, .pointer (some ⟨b_4, 0, none⟩)), (4, .int .i64 r_6.1), (5, .bool true)]) (H' := [⟨1, b_2, [.string (bs r_6.2.S_), .bool r_6.2.Bad]⟩, ⟨40, b_4, [.int .u64 r_3.1, .int .u64 r_5.1, .slice none ([] : List T_tontineref15_Row).length 0]⟩]) (ps := []) (by kernel_rfl) trivial ?_
  refine GoO.regionEnd ?_
  refine GoO.seq' c36_10e ?_
  refine GoO.region' (is := [0]) c36_11e (by kernel_rfl) ?_
  refine GoO.exec (is := [0]) (hs := [.p]) (rest := []) (ks := [0, 3, 4, 5, 6]) (env' := [(0, .pointer (some ⟨b_2, 0, none⟩)), (3, .pointer (some ⟨b_4, 0, none⟩)), (4, .int .i64 r_6.1), (5, .bool true), (6, .int .u64 0)]) (H' := [⟨1, b_2, [.string (bs r_6.2.S_), .bool r_6.2.Bad]⟩, ⟨40, b_4, [.int .u64 r_3.1, .int .u64 r_5.1, .slice none ([] : List T_tontineref15_Row).length 0]⟩]) (ps := []) (by kernel_rfl) trivial ?_
  refine GoO.regionEnd ?_
  refine GoO.seq' c36_12e ?_
  refine GoO.seq' c36_13e ?_
  refine GoO.region' (is := [0]) c36_14e (by kernel_rfl) ?_
  refine GoO.exec (is := [0]) (hs := [.p]) (rest := []) (ks := [0, 3, 4, 5, 6, 7]) (env' := [(0, .pointer (some ⟨b_2, 0, none⟩)), (3, .pointer (some ⟨b_4, 0, none⟩)), (4, .int .i64 r_6.1), (5, .bool true), (6, .int .u64 0), (7, .int .i64 0)]) (H' := [⟨1, b_2, [.string (bs r_6.2.S_), .bool r_6.2.Bad]⟩, ⟨40, b_4, [.int .u64 r_3.1, .int .u64 r_5.1, .slice none ([] : List T_tontineref15_Row).length 0]⟩]) (ps := []) (by kernel_rfl) trivial ?_
  refine GoO.regionEnd ?_
  refine GoO.block' c36_15e ?_
  refine GoO.loop' c36_16e ?_
  refine GoO.nilOwn kT_tontineref15_Row 43 ?_
  exact GoO.sub (ks := [0, 3, 4, 5, 6, 7]) (hk := [0, 1]) (bk := [0]) (by kernel_rfl) (by kernel_rfl) (by kernel_rfl) (tontineref15_Read_l0_ok n r_3 r_5 r_6 b_2 b_4 w0 S0 n r_6.2.S_ r_6.2.Bad ([] : List T_tontineref15_Row) true 0 0 none 0)

/-! (*tontine/session.Table).Rows -/
noncomputable def c24_0 : Code := bodyOf Try.f24
noncomputable def c24_1 : Code := cdL c24_0
noncomputable def c24_2 : Code := cdR c24_0
noncomputable def c24_3 : Code := cdL c24_2
noncomputable def c24_4 : Code := cdL c24_3
noncomputable def c24_5 : Code := cdR c24_3
noncomputable def c24_9 : Code := cdR c24_5
noncomputable def c24_10 : Code := cdR c24_2
noncomputable def c24_11 : Code := cdL c24_10
noncomputable def c24_12 : Code := cdR c24_10
noncomputable def c24_13 : Code := cdL c24_12
noncomputable def c24_14 : Code := cdR c24_12
noncomputable def c24_15 : Code := cdL c24_14
noncomputable def c24_16 : Code := cdR c24_14
noncomputable def c24_6 : Code := cdL c24_5
noncomputable def r24_1 : Array Oper := cdO c24_1
noncomputable def r24_4 : Array Oper := cdO c24_4
noncomputable def r24_11 : Array Oper := cdO c24_11
noncomputable def r24_13 : Array Oper := cdO c24_13
noncomputable def r24_15 : Array Oper := cdO c24_15
theorem c24_0e : c24_0 = .seq c24_1 c24_2 := by kernel_rfl
theorem c24_1e : c24_1 = .region 0 r24_1 false := by kernel_rfl
theorem c24_2e : c24_2 = .seq c24_3 c24_10 := by kernel_rfl
theorem c24_3e : c24_3 = .seq c24_4 c24_5 := by kernel_rfl
theorem c24_4e : c24_4 = .region 1 r24_4 false := by kernel_rfl
theorem c24_5e : c24_5 = .cond (cdC c24_5) c24_6 c24_9 := by kernel_rfl
theorem c24_9e : c24_9 = .skip := by kernel_rfl
theorem c24_10e : c24_10 = .seq c24_11 c24_12 := by kernel_rfl
theorem c24_11e : c24_11 = .region 3 r24_11 false := by kernel_rfl
theorem c24_12e : c24_12 = .seq c24_13 c24_14 := by kernel_rfl
theorem c24_13e : c24_13 = .region 4 r24_13 false := by kernel_rfl
theorem c24_14e : c24_14 = .seq c24_15 c24_16 := by kernel_rfl
theorem c24_15e : c24_15 = .region 5 r24_15 false := by kernel_rfl
theorem c24_16e : c24_16 = .ret := by kernel_rfl
noncomputable def session_Table_Rows.R (b_2 : Nat) (A_3 : Option Addr) (c_4 : Nat) : Pst (List T_session_Row) where
  ε := Option Addr × Nat
  v := fun r x => .slice x.1 r.length x.2
  H := fun r x => []
  B := fun r x => [Ow 3 kT_session_Row x.1 x.2 r]
noncomputable def session_Table_Rows.cx (b_2 : Nat) (A_3 : Option Addr) (c_4 : Nat) (w0 : World) (S0 : Fam) : Cx (List T_session_Row) := ⟨Try.prog, 24, Try.f24, 19, w0, S0, [], 2, session_Table_Rows.R b_2 A_3 c_4⟩
theorem session_Table_Rows_ok (n : Nat) (t_1 : T_session_Table) (b_2 : Nat) (A_3 : Option Addr) (c_4 : Nat) :
    Meets Try.prog 24 [.pointer (some ⟨b_2, 0, none⟩)] 2 [] [⟨1, b_2, [.int .u64 t_1.now, .int .u64 t_1.next, .slice A_3 t_1.rows.length c_4]⟩] [Ow 2 kT_session_Row A_3 c_4 t_1.rows] (session_Table_Rows.f n t_1) (session_Table_Rows.R b_2 A_3 c_4) := by
  refine Meets.of (c := c24_0) (n := 19) Try.func24 (by kernel_rfl) (by kernel_rfl) (by kernel_rfl) fun w0 S0 => ?_
  unfold session_Table_Rows.f
  show GoO (session_Table_Rows.cx b_2 A_3 c_4 w0 S0) [(0, .pointer (some ⟨b_2, 0, none⟩))] [⟨1, b_2, [.int .u64 t_1.now, .int .u64 t_1.next, .slice A_3 t_1.rows.length c_4]⟩] [Ow 2 kT_session_Row A_3 c_4 t_1.rows] [.code c24_0] _
  refine GoO.seq' c24_0e ?_
  refine GoO.region' (is := [0]) c24_1e (by kernel_rfl) ?_
  refine GoO.exec (is := [0]) (hs := [.p]) (rest := []) (ks := [0]) (env' := [(0, .pointer (some ⟨b_2, 0, none⟩))]) (H' := [⟨1, b_2, [.int .u64 t_1.now, .int .u64 t_1.next, .slice A_3 t_1.rows.length c_4]⟩]) (ps := []) (by kernel_rfl) trivial ?_
  refine GoO.regionEnd ?_
  refine GoO.seq' c24_2e ?_
  refine GoO.seq' c24_3e ?_
  refine GoO.region' (is := [0, 1]) c24_4e (by kernel_rfl) ?_
  refine GoO.exec (is := [0, 1]) (hs := [.p, .p]) (rest := []) (ks := [0, 5]) (env' := [(0, .pointer (some ⟨b_2, 0, none⟩)), (5, .bool false)]) (H' := [⟨1, b_2, [.int .u64 t_1.now, .int .u64 t_1.next, .slice A_3 t_1.rows.length c_4]⟩]) (ps := []) (by kernel_rfl) trivial ?_
  refine GoO.regionEnd ?_
  refine GoO.condF c24_5e (by kernel_rfl) ?_
  refine GoO.skip' c24_9e ?_
  refine GoO.seq' c24_10e ?_
  refine GoO.region' (is := [0, 1, 2, 3, 4, 5, 6]) c24_11e (by kernel_rfl) ?_
  refine GoO.exec (is := [0, 1, 2, 3, 4]) (hs := [.p, .p, .p, .b 0, .p]) (rest := [5, 6]) (ks := [0, 10]) (env' := [(0, .pointer (some ⟨b_2, 0, none⟩)), (10, .int .i64 (t_1.rows.length : Int))]) (H' := [⟨1, b_2, [.int .u64 t_1.now, .int .u64 t_1.next, .slice A_3 t_1.rows.length c_4]⟩]) (ps := [b_2 = b_2]) (by kernel_rfl) (And.intro rfl trivial) ?_
  refine GoO.guard (fun h7 => ?_)
  refine OpTo.go (GoO.mk (e := 87) (k1 := .i64) (k2 := .i64) (K := kT_session_Row) (n := (t_1.rows.length : Int)) (c := (t_1.rows.length : Int)) (bytes := 48) (zs := [.int .u64 0, .int .u64 0, .int .u64 0, .int .i64 0, .int .u64 0, .int .u64 0]) rfl (by kernel_rfl) (by kernel_rfl) (by kernel_rfl) (by kernel_rfl) ((⟨0, 0, 0, ⟨0, 0, 0⟩⟩ : T_session_Row)) (fun _ _ => rfl) h7.1 h7.2.1 (by kernel_rfl) h7.2.2 40 _ (fun _ _ => rfl) (fun A_5 c_6 => ?_))
  refine GoO.exec (is := [6]) (hs := [.p]) (rest := []) (ks := [0, 3]) (env' := [(0, .pointer (some ⟨b_2, 0, none⟩)), (3, .slice A_5 (List.replicate (t_1.rows.length : Int).toNat (⟨0, 0, 0, ⟨0, 0, 0⟩⟩ : T_session_Row)).length c_6)]) (H' := [⟨1, b_2, [.int .u64 t_1.now, .int .u64 t_1.next, .slice A_3 t_1.rows.length c_4]⟩]) (ps := []) (by kernel_rfl) trivial ?_
  refine GoO.regionEnd ?_
  refine GoO.seq' c24_12e ?_
  refine GoO.region' (is := [0, 1, 2, 3, 4, 5]) c24_13e (by kernel_rfl) ?_
  refine GoO.exec (is := [0, 1, 2, 3, 4]) (hs := [.p, .p, .p, .p, .b 0]) (rest := [5]) (ks := [3, 12, 16]) (env' := [(3, .slice A_5 (List.replicate (t_1.rows.length : Int).toNat (⟨0, 0, 0, ⟨0, 0, 0⟩⟩ : T_session_Row)).length c_6), (12, .slice A_5 (List.replicate (t_1.rows.length : Int).toNat (⟨0, 0, 0, ⟨0, 0, 0⟩⟩ : T_session_Row)).length c_6), (16, .slice A_3 t_1.rows.length c_4)]) (H' := [⟨1, b_2, [.int .u64 t_1.now, .int .u64 t_1.next, .slice A_3 t_1.rows.length c_4]⟩]) (ps := [b_2 = b_2]) (by kernel_rfl) (And.intro rfl trivial) ?_
  refine OpTo.go (GoO.copy1 (e := 87) (K := kT_session_Row) (A := A_5) (c := c_6) (xs := List.replicate (t_1.rows.length : Int).toNat (⟨0, 0, 0, ⟨0, 0, 0⟩⟩ : T_session_Row)) (A2 := A_3) (c2 := c_4) (ys := t_1.rows) (tg := 40) (j := 0) (j2 := 1) rfl rfl rfl (by kernel_rfl) (by kernel_rfl) rfl rfl Reads.own (by decide) (by kernel_rfl) (by kernel_rfl) (by kernel_rfl) rfl ?_)
  refine GoO.reval (t := 3) (v := .slice A_5 (List.replicate (t_1.rows.length : Int).toNat (⟨0, 0, 0, ⟨0, 0, 0⟩⟩ : T_session_Row)).length c_6) (v' := .slice A_5 (copyL (List.replicate (t_1.rows.length : Int).toNat (⟨0, 0, 0, ⟨0, 0, 0⟩⟩ : T_session_Row)) t_1.rows).length c_6) (by kernel_rfl) (by rw [copyL_length]) ?_
  refine GoO.reval (t := 12) (v := .slice A_5 (List.replicate (t_1.rows.length : Int).toNat (⟨0, 0, 0, ⟨0, 0, 0⟩⟩ : T_session_Row)).length c_6) (v' := .slice A_5 (copyL (List.replicate (t_1.rows.length : Int).toNat (⟨0, 0, 0, ⟨0, 0, 0⟩⟩ : T_session_Row)) t_1.rows).length c_6) (by kernel_rfl) (by rw [copyL_length]) ?_
  refine GoO.regionEnd ?_
  refine GoO.seq' c24_14e ?_
  refine GoO.region' (is := [0, 1]) c24_15e (by kernel_rfl) ?_
  refine GoO.exec (is := [0, 1]) (hs := [.p, .p]) (rest := []) (ks := [2]) (env' := [(2, .slice A_5 (copyL (List.replicate (t_1.rows.length : Int).toNat (⟨0, 0, 0, ⟨0, 0, 0⟩⟩ : T_session_Row)) t_1.rows).length c_6)]) (H' := [⟨1, b_2, [.int .u64 t_1.now, .int .u64 t_1.next, .slice A_3 t_1.rows.length c_4]⟩]) (ps := []) (by kernel_rfl) trivial ?_
  refine GoO.regionEnd ?_
  refine GoO.retag (t := 40) (u := 3) (j := 0) (hk := [0]) (bk := [1]) rfl rfl rfl rfl rfl rfl (by kernel_rfl) (by kernel_rfl) ?_
  exact GoO.ret' (h := c24_16e) (hs := []) (ps := []) (hk := []) (bk := [0]) Try.func24 (⟨A_5, c_6⟩ : Option Addr × Nat) (by kernel_rfl) trivial (by kernel_rfl) (by kernel_rfl)

/-! (*tontine/session.Table).Now -/
noncomputable def c26_0 : Code := bodyOf Try.f26
noncomputable def c26_1 : Code := cdL c26_0
noncomputable def c26_2 : Code := cdR c26_0
noncomputable def c26_3 : Code := cdL c26_2
noncomputable def c26_4 : Code := cdL c26_3
noncomputable def c26_5 : Code := cdR c26_3
noncomputable def c26_9 : Code := cdR c26_5
noncomputable def c26_10 : Code := cdR c26_2
noncomputable def c26_11 : Code := cdL c26_10
noncomputable def c26_12 : Code := cdR c26_10
noncomputable def c26_6 : Code := cdL c26_5
noncomputable def r26_1 : Array Oper := cdO c26_1
noncomputable def r26_4 : Array Oper := cdO c26_4
noncomputable def r26_11 : Array Oper := cdO c26_11
theorem c26_0e : c26_0 = .seq c26_1 c26_2 := by kernel_rfl
theorem c26_1e : c26_1 = .region 0 r26_1 false := by kernel_rfl
theorem c26_2e : c26_2 = .seq c26_3 c26_10 := by kernel_rfl
theorem c26_3e : c26_3 = .seq c26_4 c26_5 := by kernel_rfl
theorem c26_4e : c26_4 = .region 1 r26_4 false := by kernel_rfl
theorem c26_5e : c26_5 = .cond (cdC c26_5) c26_6 c26_9 := by kernel_rfl
theorem c26_9e : c26_9 = .skip := by kernel_rfl
theorem c26_10e : c26_10 = .seq c26_11 c26_12 := by kernel_rfl
theorem c26_11e : c26_11 = .region 3 r26_11 false := by kernel_rfl
theorem c26_12e : c26_12 = .ret := by kernel_rfl
noncomputable def session_Table_Now.R (b_2 : Nat) (A_3 : Option Addr) (c_4 : Nat) : Pst Int where
  ε := Unit
  v := fun r x => .int .u64 r
  H := fun r x => []
  B := fun r x => []
noncomputable def session_Table_Now.cx (b_2 : Nat) (A_3 : Option Addr) (c_4 : Nat) (w0 : World) (S0 : Fam) : Cx Int := ⟨Try.prog, 26, Try.f26, 9, w0, S0, [], 2, session_Table_Now.R b_2 A_3 c_4⟩
theorem session_Table_Now_ok (n : Nat) (t_1 : T_session_Table) (b_2 : Nat) (A_3 : Option Addr) (c_4 : Nat) :
    Meets Try.prog 26 [.pointer (some ⟨b_2, 0, none⟩)] 2 [] [⟨1, b_2, [.int .u64 t_1.now, .int .u64 t_1.next, .slice A_3 t_1.rows.length c_4]⟩] [Ow 2 kT_session_Row A_3 c_4 t_1.rows] (session_Table_Now.f n t_1) (session_Table_Now.R b_2 A_3 c_4) := by
  refine Meets.of (c := c26_0) (n := 9) Try.func26 (by kernel_rfl) (by kernel_rfl) (by kernel_rfl) fun w0 S0 => ?_
  unfold session_Table_Now.f
  show GoO (session_Table_Now.cx b_2 A_3 c_4 w0 S0) [(0, .pointer (some ⟨b_2, 0, none⟩))] [⟨1, b_2, [.int .u64 t_1.now, .int .u64 t_1.next, .slice A_3 t_1.rows.length c_4]⟩] [Ow 2 kT_session_Row A_3 c_4 t_1.rows] [.code c26_0] _
  refine GoO.seq' c26_0e ?_
  refine GoO.region' (is := [0]) c26_1e (by kernel_rfl) ?_
  refine GoO.exec (is := [0]) (hs := [.p]) (rest := []) (ks := [0]) (env' := [(0, .pointer (some ⟨b_2, 0, none⟩))]) (H' := [⟨1, b_2, [.int .u64 t_1.now, .int .u64 t_1.next, .slice A_3 t_1.rows.length c_4]⟩]) (ps := []) (by kernel_rfl) trivial ?_
  refine GoO.regionEnd ?_
  refine GoO.seq' c26_2e ?_
  refine GoO.seq' c26_3e ?_
  refine GoO.region' (is := [0, 1]) c26_4e (by kernel_rfl) ?_
  refine GoO.exec (is := [0, 1]) (hs := [.p, .p]) (rest := []) (ks := [0, 4]) (env' := [(0, .pointer (some ⟨b_2, 0, none⟩)), (4, .bool false)]) (H' := [⟨1, b_2, [.int .u64 t_1.now, .int .u64 t_1.next, .slice A_3 t_1.rows.length c_4]⟩]) (ps := []) (by kernel_rfl) trivial ?_
  refine GoO.regionEnd ?_
  refine GoO.condF c26_5e (by kernel_rfl) ?_
  refine GoO.skip' c26_9e ?_
  refine GoO.seq' c26_10e ?_
  refine GoO.region' (is := [0, 1, 2, 3, 4]) c26_11e (by kernel_rfl) ?_
  refine GoO.exec (is := [0, 1, 2, 3, 4]) (hs := [.p, .p, .p, .b 0, .p]) (rest := []) (ks := [2]) (env' := [(2, .int .u64 t_1.now)]) (H' := [⟨1, b_2, [.int .u64 t_1.now, .int .u64 t_1.next, .slice A_3 t_1.rows.length c_4]⟩]) (ps := [b_2 = b_2]) (by kernel_rfl) (And.intro rfl trivial) ?_
  refine GoO.regionEnd ?_
  exact GoO.ret' (h := c26_12e) (hs := []) (ps := []) (hk := []) (bk := []) Try.func26 () (by kernel_rfl) trivial (by kernel_rfl) (by kernel_rfl)

/-! tontine/tontinelaw15.alike -/
noncomputable def c28_0 : Code := bodyOf Try.f28
noncomputable def c28_1 : Code := cdL c28_0
noncomputable def c28_2 : Code := cdR c28_0
noncomputable def c28_3 : Code := cdL c28_2
noncomputable def c28_4 : Code := cdR c28_2
noncomputable def c28_5 : Code := cdL c28_4
noncomputable def c28_6 : Code := cdL c28_5
noncomputable def c28_7 : Code := cdR c28_5
noncomputable def c28_8 : Code := cdL c28_7
noncomputable def c28_9 : Code := cdL c28_8
noncomputable def c28_10 : Code := cdR c28_8
noncomputable def c28_11 : Code := cdR c28_7
noncomputable def c28_12 : Code := cdR c28_4
noncomputable def c28_13 : Code := cdL c28_12
noncomputable def c28_14 : Code := cdL c28_13
noncomputable def c28_15 : Code := cdR c28_13
noncomputable def c28_16 : Code := cdL c28_15
noncomputable def c28_17 : Code := cdL c28_16
noncomputable def c28_18 : Code := cdL c28_17
noncomputable def c28_19 : Code := cdR c28_17
noncomputable def c28_20 : Code := cdL c28_19
noncomputable def c28_21 : Code := cdL c28_20
noncomputable def c28_22 : Code := cdR c28_20
noncomputable def c28_23 : Code := cdR c28_19
noncomputable def c28_24 : Code := cdL c28_23
noncomputable def c28_25 : Code := cdL c28_24
noncomputable def c28_26 : Code := cdL c28_25
noncomputable def c28_27 : Code := cdR c28_25
noncomputable def c28_28 : Code := cdL c28_27
noncomputable def c28_29 : Code := cdR c28_27
noncomputable def c28_30 : Code := cdL c28_29
noncomputable def c28_31 : Code := cdL c28_30
noncomputable def c28_32 : Code := cdR c28_30
noncomputable def c28_33 : Code := cdR c28_29
noncomputable def c28_34 : Code := cdR c28_23
noncomputable def c28_35 : Code := cdR c28_12
noncomputable def c28_36 : Code := cdL c28_35
noncomputable def c28_37 : Code := cdR c28_35
noncomputable def r28_1 : Array Oper := cdO c28_1
noncomputable def r28_3 : Array Oper := cdO c28_3
noncomputable def r28_6 : Array Oper := cdO c28_6
noncomputable def r28_9 : Array Oper := cdO c28_9
noncomputable def r28_14 : Array Oper := cdO c28_14
noncomputable def r28_18 : Array Oper := cdO c28_18
noncomputable def r28_26 : Array Oper := cdO c28_26
noncomputable def r28_28 : Array Oper := cdO c28_28
noncomputable def r28_31 : Array Oper := cdO c28_31
noncomputable def r28_34 : Array Oper := cdO c28_34
noncomputable def r28_36 : Array Oper := cdO c28_36
theorem c28_0e : c28_0 = .seq c28_1 c28_2 := by kernel_rfl
theorem c28_1e : c28_1 = .region 0 r28_1 false := by kernel_rfl
theorem c28_2e : c28_2 = .seq c28_3 c28_4 := by kernel_rfl
theorem c28_3e : c28_3 = .region 1 r28_3 false := by kernel_rfl
theorem c28_4e : c28_4 = .seq c28_5 c28_12 := by kernel_rfl
theorem c28_5e : c28_5 = .seq c28_6 c28_7 := by kernel_rfl
theorem c28_6e : c28_6 = .region 2 r28_6 true := by kernel_rfl
theorem c28_7e : c28_7 = .cond (cdC c28_7) c28_8 c28_11 := by kernel_rfl
theorem c28_8e : c28_8 = .seq c28_9 c28_10 := by kernel_rfl
theorem c28_9e : c28_9 = .region 3 r28_9 false := by kernel_rfl
theorem c28_10e : c28_10 = .ret := by kernel_rfl
theorem c28_11e : c28_11 = .skip := by kernel_rfl
theorem c28_12e : c28_12 = .seq c28_13 c28_35 := by kernel_rfl
theorem c28_13e : c28_13 = .seq c28_14 c28_15 := by kernel_rfl
theorem c28_14e : c28_14 = .region 4 r28_14 false := by kernel_rfl
theorem c28_15e : c28_15 = .block 0 c28_16 := by kernel_rfl
theorem c28_16e : c28_16 = .loop c28_17 := by kernel_rfl
theorem c28_17e : c28_17 = .seq c28_18 c28_19 := by kernel_rfl
theorem c28_18e : c28_18 = .region 5 r28_18 false := by kernel_rfl
theorem c28_19e : c28_19 = .seq c28_20 c28_23 := by kernel_rfl
theorem c28_20e : c28_20 = .cond (cdC c28_20) c28_21 c28_22 := by kernel_rfl
theorem c28_21e : c28_21 = .skip := by kernel_rfl
theorem c28_22e : c28_22 = .exit 0 := by kernel_rfl
theorem c28_23e : c28_23 = .seq c28_24 c28_34 := by kernel_rfl
theorem c28_24e : c28_24 = .block 1 c28_25 := by kernel_rfl
theorem c28_25e : c28_25 = .seq c28_26 c28_27 := by kernel_rfl
theorem c28_26e : c28_26 = .region 6 r28_26 false := by kernel_rfl
theorem c28_27e : c28_27 = .seq c28_28 c28_29 := by kernel_rfl
theorem c28_28e : c28_28 = .region 7 r28_28 true := by kernel_rfl
theorem c28_29e : c28_29 = .cond (cdC c28_29) c28_30 c28_33 := by kernel_rfl
theorem c28_30e : c28_30 = .seq c28_31 c28_32 := by kernel_rfl
theorem c28_31e : c28_31 = .region 8 r28_31 false := by kernel_rfl
theorem c28_32e : c28_32 = .ret := by kernel_rfl
theorem c28_33e : c28_33 = .skip := by kernel_rfl
theorem c28_34e : c28_34 = .region 9 r28_34 false := by kernel_rfl
theorem c28_35e : c28_35 = .seq c28_36 c28_37 := by kernel_rfl
theorem c28_36e : c28_36 = .region 10 r28_36 false := by kernel_rfl
theorem c28_37e : c28_37 = .ret := by kernel_rfl
noncomputable def tontinelaw15_alike.R (b_2 : Nat) (A_3 : Option Addr) (c_4 : Nat) (b_6 : Nat) (A_7 : Option Addr) (c_8 : Nat) : Pst Bool where
  ε := Unit
  v := fun r x => .bool r
  H := fun r x => []
  B := fun r x => []
noncomputable def tontinelaw15_alike.cx (b_2 : Nat) (A_3 : Option Addr) (c_4 : Nat) (b_6 : Nat) (A_7 : Option Addr) (c_8 : Nat) (w0 : World) (S0 : Fam) : Cx Bool := ⟨Try.prog, 28, Try.f28, 52, w0, S0, [], 4, tontinelaw15_alike.R b_2 A_3 c_4 b_6 A_7 c_8⟩
theorem tontinelaw15_alike_l0_ok (n : Nat) (t_1 : T_session_Table) (m_5 : T_tontineref15_Table) (r_9 : (List T_session_Row)) (b_2 : Nat) (A_3 : Option Addr) (c_4 : Nat) (b_6 : Nat) (A_7 : Option Addr) (c_8 : Nat) (A_10 : Option Addr) (c_11 : Nat) (w0 : World) (S0 : Fam) :
    ∀ (k : Nat) (x_16 : Int), GoO (tontinelaw15_alike.cx b_2 A_3 c_4 b_6 A_7 c_8 w0 S0) [(1, .pointer (some ⟨b_6, 0, none⟩)), (27, .slice A_10 r_9.length c_11), (28, .int .i64 (r_9.length : Int)), (29, .int .i64 x_16)] [⟨3, b_6, [.int .u64 m_5.Now, .int .u64 m_5.Next, .slice A_7 m_5.Rows.length c_8]⟩, ⟨1, b_2, [.int .u64 t_1.now, .int .u64 t_1.next, .slice A_3 t_1.rows.length c_4]⟩] [Ow 4 kT_tontineref15_Row A_7 c_8 m_5.Rows, Ow 40 kT_session_Row A_10 c_11 r_9, Ow 2 kT_session_Row A_3 c_4 t_1.rows] [.code c28_17, .inLoop c28_17, .inBlock 0, .code c28_35] (tontinelaw15_alike.l0 n m_5 r_9 k x_16) := by
  intro k
  induction k with
  | zero => intros; rw [tontinelaw15_alike.l0.eq_1]; exact GoO.stop
  | succ k ih0 =>
    intro x_16
    rw [tontinelaw15_alike.l0.eq_2]
    refine GoO.seq' c28_17e ?_
    refine GoO.region' (is := [0]) c28_18e (by kernel_rfl) ?_
    refine GoO.exec (is := [0]) (hs := [.p]) (rest := []) (ks := [1, 27, 28, 29, 30]) (env' := [(1, .pointer (some ⟨b_6, 0, none⟩)), (27, .slice A_10 r_9.length c_11), (28, .int .i64 (r_9.length : Int)), (29, .int .i64 x_16), (30, .bool (decide (x_16 < (r_9.length : Int))))]) (H' := [⟨3, b_6, [.int .u64 m_5.Now, .int .u64 m_5.Next, .slice A_7 m_5.Rows.length c_8]⟩, ⟨1, b_2, [.int .u64 t_1.now, .int .u64 t_1.next, .slice A_3 t_1.rows.length c_4]⟩]) (ps := []) (by kernel_rfl) trivial ?_
    refine GoO.regionEnd ?_
    refine GoO.seq' c28_19e ?_
    refine GoO.ite' c28_20e (by kernel_rfl) (fun h17 => ?_) (fun h17 => ?_)
    · refine GoO.skip' c28_21e ?_
      refine GoO.seq' c28_23e ?_
      refine GoO.block' c28_24e ?_
      refine GoO.seq' c28_25e ?_
      refine GoO.region' (is := [0, 1, 2, 3, 4, 5]) c28_26e (by kernel_rfl) ?_
      refine GoO.exec (is := [0]) (hs := [.p]) (rest := [1, 2, 3, 4, 5]) (ks := [1, 27, 28, 29, 31]) (env' := [(1, .pointer (some ⟨b_6, 0, none⟩)), (27, .slice A_10 r_9.length c_11), (28, .int .i64 (r_9.length : Int)), (29, .int .i64 x_16), (31, .int .i64 x_16)]) (H' := [⟨3, b_6, [.int .u64 m_5.Now, .int .u64 m_5.Next, .slice A_7 m_5.Rows.length c_8]⟩, ⟨1, b_2, [.int .u64 t_1.now, .int .u64 t_1.next, .slice A_3 t_1.rows.length c_4]⟩]) (ps := []) (by kernel_rfl) trivial ?_
      refine GoO.guard (fun h18 => ?_)
      refine OpTo.go (GoO.idx (kk := .i64) (e := 87) (K := kT_session_Row) (A := A_10) (c := c_11) (xs := r_9) (iv := x_16) (j := 1) rfl (by kernel_rfl) (by kernel_rfl) (by kernel_rfl) (by kernel_rfl) rfl Reads.own rfl h18.1 h18.2 (by decide) rfl ?_)
      refine OpTo.go (GoO.ldE' (K := kT_session_Row) (A := A_10) (c := c_11) (xs := r_9) (iN := x_16.toNat) (off := 0) (j := 1) rfl (by kernel_rfl) rfl Reads.own (by first | exact idx_lt h18.1 h18.2 | (simp only [List.length_set]; exact idx_lt h18.1 h18.2)) (by decide) (Opn.flat _ _ _ _ _) (v := fun _ => .agg ⟨[.int .u64 ((rdL r_9 x_16).Id), .int .u64 ((rdL r_9 x_16).Used), .int .u64 ((rdL r_9 x_16).Seq), .int .i64 ((rdL r_9 x_16).Reply.Err), .int .u64 ((rdL r_9 x_16).Reply.Num), .int .u64 ((rdL r_9 x_16).Reply.Extra)]⟩) (fun _ => by kernel_rfl) _ (fun _ => rfl) (fun _ => ?_))
      refine OpTo.go (GoO.new rfl 41 (cs := [.int .u64 0, .int .u64 0, .int .u64 0, .int .i64 0, .int .u64 0, .int .u64 0]) (by kernel_rfl) _ (fun _ => rfl) (fun b_19 => ?_))
      refine GoO.exec (is := [4, 5]) (hs := [.p, .b 0]) (rest := []) (ks := [1, 6, 7, 27, 28, 29]) (env' := [(1, .pointer (some ⟨b_6, 0, none⟩)), (6, .int .i64 x_16), (7, .pointer (some ⟨b_19, 0, none⟩)), (27, .slice A_10 r_9.length c_11), (28, .int .i64 (r_9.length : Int)), (29, .int .i64 x_16)]) (H' := [⟨41, b_19, [.int .u64 ((rdL r_9 x_16).Id), .int .u64 ((rdL r_9 x_16).Used), .int .u64 ((rdL r_9 x_16).Seq), .int .i64 ((rdL r_9 x_16).Reply.Err), .int .u64 ((rdL r_9 x_16).Reply.Num), .int .u64 ((rdL r_9 x_16).Reply.Extra)]⟩, ⟨3, b_6, [.int .u64 m_5.Now, .int .u64 m_5.Next, .slice A_7 m_5.Rows.length c_8]⟩, ⟨1, b_2, [.int .u64 t_1.now, .int .u64 t_1.next, .slice A_3 t_1.rows.length c_4]⟩]) (ps := [b_19 = b_19]) (by kernel_rfl) (And.intro rfl trivial) ?_
      refine GoO.regionEnd ?_
      refine GoO.seq' c28_27e ?_
      refine GoO.draw c28_28e (by kernel_rfl) [] [⟨41, b_19, [.int .u64 ((rdL r_9 x_16).Id), .int .u64 ((rdL r_9 x_16).Used), .int .u64 ((rdL r_9 x_16).Seq), .int .i64 ((rdL r_9 x_16).Reply.Err), .int .u64 ((rdL r_9 x_16).Reply.Num), .int .u64 ((rdL r_9 x_16).Reply.Extra)]⟩, ⟨3, b_6, [.int .u64 m_5.Now, .int .u64 m_5.Next, .slice A_7 m_5.Rows.length c_8]⟩] [Ow 4 kT_tontineref15_Row A_7 c_8 m_5.Rows] (n := 17) (by kernel_rfl) ?_
      simp only [List.replicate]
      refine GoF.take [0, 1, 2, 3, 4, 5, 6, 7, 8, 9, 10, 11, 12, 13] [.p, .b 0, .p, .b 0, .p, .b 0, .p, .b 0, .p, .p, .p, .p, .b 1, .p] (ks := [1, 27, 28, 29, 42, 46, 47]) (fu := 3) (li := [true, true, true, true, true, true, true, true, true, true, true, true, true, true, false, false, false]) (env' := [(1, .pointer (some ⟨b_6, 0, none⟩)), (27, .slice A_10 r_9.length c_11), (28, .int .i64 (r_9.length : Int)), (29, .int .i64 x_16), (42, .agg ⟨[.int .u64 ((rdL r_9 x_16).Id), .int .u64 ((rdL r_9 x_16).Used), .int .u64 ((rdL r_9 x_16).Seq), .int .i64 ((rdL r_9 x_16).Reply.Err), .int .u64 ((rdL r_9 x_16).Reply.Num), .int .u64 ((rdL r_9 x_16).Reply.Extra)]⟩), (46, .slice A_7 m_5.Rows.length c_8), (47, .int .i64 x_16)]) (ps := [b_19 = b_19, b_19 = b_19, b_19 = b_19, b_19 = b_19, b_6 = b_6]) (hk := [0, 1]) (bk := [0]) (by kernel_rfl) (And.intro rfl (And.intro rfl (And.intro rfl (And.intro rfl (And.intro rfl trivial))))) rfl rfl ?_
      refine GoF.guard (fun h20 => ?_)
      refine GoF.idx (i := 14) (hk := [0, 1]) (bk := [0]) (kk := .i64) (e := 100) (K := kT_tontineref15_Row) (A := A_7) (c := c_8) (xs := m_5.Rows) (iv := x_16) (j := 0) (by kernel_rfl) rfl rfl rfl (by kernel_rfl) (by kernel_rfl) (by kernel_rfl) (by kernel_rfl) rfl Reads.own rfl h20.1 h20.2 (by decide) rfl ?_
      refine GoF.ldE (i := 15) (hk := [0, 1]) (bk := [0]) (K := kT_tontineref15_Row) (A := A_7) (c := c_8) (xs := m_5.Rows) (iN := x_16.toNat) (off := 0) (j := 0) (v := .agg ⟨[.int .u64 ((rdL m_5.Rows x_16).Id), .int .u64 ((rdL m_5.Rows x_16).Used), .int .u64 ((rdL m_5.Rows x_16).Seq), .int .i64 ((rdL m_5.Rows x_16).Reply.Err), .int .u64 ((rdL m_5.Rows x_16).Reply.Num), .int .u64 ((rdL m_5.Rows x_16).Reply.Extra)]⟩) (by kernel_rfl) rfl rfl rfl (hK := rfl) (by kernel_rfl) rfl Reads.own (by first | exact idx_lt h20.1 h20.2 | (simp only [List.length_set]; exact idx_lt h20.1 h20.2)) (by decide) (by kernel_rfl) rfl ?_
      refine GoF.take [16] [.p] (ks := [1, 27, 28, 29, 50]) (fu := 0) (li := [true, true, true, true, true, true, true, true, true, true, true, true, true, true, true, true, true]) (env' := [(1, .pointer (some ⟨b_6, 0, none⟩)), (27, .slice A_10 r_9.length c_11), (28, .int .i64 (r_9.length : Int)), (29, .int .i64 x_16), (50, .bool (!((((rdL r_9 x_16).Id) == ((rdL m_5.Rows x_16).Id)) && ((((rdL r_9 x_16).Used) == ((rdL m_5.Rows x_16).Used)) && ((((rdL r_9 x_16).Seq) == ((rdL m_5.Rows x_16).Seq)) && (((((rdL r_9 x_16).Reply.Err) == ((rdL m_5.Rows x_16).Reply.Err)) && ((((rdL r_9 x_16).Reply.Num) == ((rdL m_5.Rows x_16).Reply.Num)) && ((((rdL r_9 x_16).Reply.Extra) == ((rdL m_5.Rows x_16).Reply.Extra)) && true))) && true))))))]) (ps := []) (hk := [0, 1]) (bk := [0]) (by kernel_rfl) trivial rfl rfl ?_
      refine GoF.done (by kernel_rfl) ?_
      refine GoO.ite' c28_29e (by kernel_rfl) (fun h21 => ?_) (fun h21 => ?_)
      · refine GoO.seq' c28_30e ?_
        refine GoO.region' (is := [0]) c28_31e (by kernel_rfl) ?_
        refine GoO.exec (is := [0]) (hs := [.p]) (rest := []) (ks := [4]) (env' := [(4, .bool false)]) (H' := [⟨41, b_19, [.int .u64 ((rdL r_9 x_16).Id), .int .u64 ((rdL r_9 x_16).Used), .int .u64 ((rdL r_9 x_16).Seq), .int .i64 ((rdL r_9 x_16).Reply.Err), .int .u64 ((rdL r_9 x_16).Reply.Num), .int .u64 ((rdL r_9 x_16).Reply.Extra)]⟩, ⟨3, b_6, [.int .u64 m_5.Now, .int .u64 m_5.Next, .slice A_7 m_5.Rows.length c_8]⟩, ⟨1, b_2, [.int .u64 t_1.now, .int .u64 t_1.next, .slice A_3 t_1.rows.length c_4]⟩]) (ps := []) (by kernel_rfl) trivial ?_
        refine GoO.regionEnd ?_
        exact GoO.ret' (h := c28_32e) (hs := []) (ps := []) (hk := []) (bk := []) Try.func28 () (by kernel_rfl) trivial (by kernel_rfl) (by kernel_rfl)
      · refine GoO.skip' c28_33e ?_
        refine GoO.inBlock ?_
        refine GoO.region' (is := [0, 1]) c28_34e (by kernel_rfl) ?_
        refine GoO.exec (is := [0, 1]) (hs := [.p, .p]) (rest := []) (ks := [1, 27, 28, 29]) (env' := [(1, .pointer (some ⟨b_6, 0, none⟩)), (27, .slice A_10 r_9.length c_11), (28, .int .i64 (r_9.length : Int)), (29, .int .i64 (wi64 (x_16 + 1)))]) (H' := [⟨41, b_19, [.int .u64 ((rdL r_9 x_16).Id), .int .u64 ((rdL r_9 x_16).Used), .int .u64 ((rdL r_9 x_16).Seq), .int .i64 ((rdL r_9 x_16).Reply.Err), .int .u64 ((rdL r_9 x_16).Reply.Num), .int .u64 ((rdL r_9 x_16).Reply.Extra)]⟩, ⟨3, b_6, [.int .u64 m_5.Now, .int .u64 m_5.Next, .slice A_7 m_5.Rows.length c_8]⟩, ⟨1, b_2, [.int .u64 t_1.now, .int .u64 t_1.next, .slice A_3 t_1.rows.length c_4]⟩]) (ps := []) (by kernel_rfl) trivial ?_
        refine GoO.regionEnd ?_
        refine GoO.inLoop ?_
        exact GoO.sub (ks := [1, 27, 28, 29]) (hk := [1, 2]) (bk := [0, 1, 2]) (by kernel_rfl) (by kernel_rfl) (by kernel_rfl) (ih0 (wi64 (x_16 + 1)))
    · refine GoO.exit' c28_22e rfl ?_
      refine GoO.seq' c28_35e ?_
      refine GoO.region' (is := [0]) c28_36e (by kernel_rfl) ?_
      refine GoO.exec (is := [0]) (hs := [.p]) (rest := []) (ks := [4]) (env' := [(4, .bool true)]) (H' := [⟨3, b_6, [.int .u64 m_5.Now, .int .u64 m_5.Next, .slice A_7 m_5.Rows.length c_8]⟩, ⟨1, b_2, [.int .u64 t_1.now, .int .u64 t_1.next, .slice A_3 t_1.rows.length c_4]⟩]) (ps := []) (by kernel_rfl) trivial ?_
      refine GoO.regionEnd ?_
      exact GoO.ret' (h := c28_37e) (hs := []) (ps := []) (hk := []) (bk := []) Try.func28 () (by kernel_rfl) trivial (by kernel_rfl) (by kernel_rfl)
theorem tontinelaw15_alike_j0_ok (n : Nat) (t_1 : T_session_Table) (m_5 : T_tontineref15_Table) (r_9 : (List T_session_Row)) (b_2 : Nat) (A_3 : Option Addr) (c_4 : Nat) (b_6 : Nat) (A_7 : Option Addr) (c_8 : Nat) (A_10 : Option Addr) (c_11 : Nat) (w0 : World) (S0 : Fam) (b_14 : Bool) :
    GoO (tontinelaw15_alike.cx b_2 A_3 c_4 b_6 A_7 c_8 w0 S0) [(1, .pointer (some ⟨b_6, 0, none⟩)), (5, .slice A_10 r_9.length c_11), (26, .bool b_14)] [⟨3, b_6, [.int .u64 m_5.Now, .int .u64 m_5.Next, .slice A_7 m_5.Rows.length c_8]⟩, ⟨1, b_2, [.int .u64 t_1.now, .int .u64 t_1.next, .slice A_3 t_1.rows.length c_4]⟩] [Ow 4 kT_tontineref15_Row A_7 c_8 m_5.Rows, Ow 40 kT_session_Row A_10 c_11 r_9, Ow 2 kT_session_Row A_3 c_4 t_1.rows] [.code c28_7, .code c28_12] (tontinelaw15_alike.j0 n m_5 r_9 b_14) := by
  unfold tontinelaw15_alike.j0
  refine GoO.ite' c28_7e (by kernel_rfl) (fun h15 => ?_) (fun h15 => ?_)
  · refine GoO.seq' c28_8e ?_
    refine GoO.region' (is := [0]) c28_9e (by kernel_rfl) ?_
    refine GoO.exec (is := [0]) (hs := [.p]) (rest := []) (ks := [4]) (env' := [(4, .bool false)]) (H' := [⟨3, b_6, [.int .u64 m_5.Now, .int .u64 m_5.Next, .slice A_7 m_5.Rows.length c_8]⟩, ⟨1, b_2, [.int .u64 t_1.now, .int .u64 t_1.next, .slice A_3 t_1.rows.length c_4]⟩]) (ps := []) (by kernel_rfl) trivial ?_
    refine GoO.regionEnd ?_
    exact GoO.ret' (h := c28_10e) (hs := []) (ps := []) (hk := []) (bk := []) Try.func28 () (by kernel_rfl) trivial (by kernel_rfl) (by kernel_rfl)
  · refine GoO.skip' c28_11e ?_
    refine GoO.seq' c28_12e ?_
    refine GoO.seq' c28_13e ?_
    refine GoO.region' (is := [0, 1, 2]) c28_14e (by kernel_rfl) ?_
    refine GoO.exec (is := [0, 1, 2]) (hs := [.p, .p, .p]) (rest := []) (ks := [1, 27, 28, 29]) (env' := [(1, .pointer (some ⟨b_6, 0, none⟩)), (27, .slice A_10 r_9.length c_11), (28, .int .i64 (r_9.length : Int)), (29, .int .i64 0)]) (H' := [⟨3, b_6, [.int .u64 m_5.Now, .int .u64 m_5.Next, .slice A_7 m_5.Rows.length c_8]⟩, ⟨1, b_2, [.int .u64 t_1.now, .int .u64 t_1.next, .slice A_3 t_1.rows.length c_4]⟩]) (ps := []) (by kernel_rfl) trivial ?_
    refine GoO.regionEnd ?_
    refine GoO.block' c28_15e ?_
    refine GoO.loop' c28_16e ?_
    exact GoO.sub (ks := [1, 27, 28, 29]) (hk := [0, 1]) (bk := [0, 1, 2]) (by kernel_rfl) (by kernel_rfl) (by kernel_rfl) (tontinelaw15_alike_l0_ok n t_1 m_5 r_9 b_2 A_3 c_4 b_6 A_7 c_8 A_10 c_11 w0 S0 n 0)
theorem tontinelaw15_alike_ok (n : Nat) (t_1 : T_session_Table) (m_5 : T_tontineref15_Table) (b_2 : Nat) (A_3 : Option Addr) (c_4 : Nat) (b_6 : Nat) (A_7 : Option Addr) (c_8 : Nat) :
    Meets Try.prog 28 [.pointer (some ⟨b_2, 0, none⟩), .pointer (some ⟨b_6, 0, none⟩)] 4 [] [⟨1, b_2, [.int .u64 t_1.now, .int .u64 t_1.next, .slice A_3 t_1.rows.length c_4]⟩, ⟨3, b_6, [.int .u64 m_5.Now, .int .u64 m_5.Next, .slice A_7 m_5.Rows.length c_8]⟩] [Ow 2 kT_session_Row A_3 c_4 t_1.rows, Ow 4 kT_tontineref15_Row A_7 c_8 m_5.Rows] (tontinelaw15_alike.f n t_1 m_5) (tontinelaw15_alike.R b_2 A_3 c_4 b_6 A_7 c_8) := by
  refine Meets.of (c := c28_0) (n := 52) Try.func28 (by kernel_rfl) (by kernel_rfl) (by kernel_rfl) fun w0 S0 => ?_
  unfold tontinelaw15_alike.f
  show GoO (tontinelaw15_alike.cx b_2 A_3 c_4 b_6 A_7 c_8 w0 S0) [(0, .pointer (some ⟨b_2, 0, none⟩)), (1, .pointer (some ⟨b_6, 0, none⟩))] [⟨1, b_2, [.int .u64 t_1.now, .int .u64 t_1.next, .slice A_3 t_1.rows.length c_4]⟩, ⟨3, b_6, [.int .u64 m_5.Now, .int .u64 m_5.Next, .slice A_7 m_5.Rows.length c_8]⟩] [Ow 2 kT_session_Row A_3 c_4 t_1.rows, Ow 4 kT_tontineref15_Row A_7 c_8 m_5.Rows] [.code c28_0] _
  refine GoO.seq' c28_0e ?_
  refine GoO.region' (is := [0]) c28_1e (by kernel_rfl) ?_
  refine GoO.exec (is := [0]) (hs := [.p]) (rest := []) (ks := [0, 1]) (env' := [(0, .pointer (some ⟨b_2, 0, none⟩)), (1, .pointer (some ⟨b_6, 0, none⟩))]) (H' := [⟨1, b_2, [.int .u64 t_1.now, .int .u64 t_1.next, .slice A_3 t_1.rows.length c_4]⟩, ⟨3, b_6, [.int .u64 m_5.Now, .int .u64 m_5.Next, .slice A_7 m_5.Rows.length c_8]⟩]) (ps := []) (by kernel_rfl) trivial ?_
  refine GoO.regionEnd ?_
  refine GoO.seq' c28_2e ?_
  refine GoO.region' (is := [0, 1, 2]) c28_3e (by kernel_rfl) ?_
  refine GoO.exec (is := [0]) (hs := [.p]) (rest := [1, 2]) (ks := [0, 1, 8]) (env' := [(0, .pointer (some ⟨b_2, 0, none⟩)), (1, .pointer (some ⟨b_6, 0, none⟩)), (8, .pointer (some ⟨b_2, 0, none⟩))]) (H' := [⟨1, b_2, [.int .u64 t_1.now, .int .u64 t_1.next, .slice A_3 t_1.rows.length c_4]⟩, ⟨3, b_6, [.int .u64 m_5.Now, .int .u64 m_5.Next, .slice A_7 m_5.Rows.length c_8]⟩]) (ps := []) (by kernel_rfl) trivial ?_
  refine OpTo.go (GoO.call rfl (by kernel_rfl) (by kernel_rfl) (session_Table_Rows_ok n t_1 b_2 A_3 c_4) [[0], [1], [2]] [(40, 3)] [(1, 0)] [(2, 0)] (hks := [0, 1]) (bks := [0, 1]) (by kernel_rfl) (by kernel_rfl) (by kernel_rfl) (.inl rfl) rfl rfl (by kernel_rfl) (by kernel_rfl) _ (fun _ _ => rfl) _ _ (fun _ _ => rfl) (fun _ _ => rfl) (fun _ _ => by kernel_rfl) (fun _ _ => by kernel_rfl) (fun r_9 x_22 => ?_))
  obtain ⟨A_10, c_11⟩ := x_22
  refine GoO.shape (env' := [(0, .pointer (some ⟨b_2, 0, none⟩)), (1, .pointer (some ⟨b_6, 0, none⟩)), (8, .pointer (some ⟨b_2, 0, none⟩)), (9, .slice A_10 r_9.length c_11)]) (H' := [⟨1, b_2, [.int .u64 t_1.now, .int .u64 t_1.next, .slice A_3 t_1.rows.length c_4]⟩, ⟨3, b_6, [.int .u64 m_5.Now, .int .u64 m_5.Next, .slice A_7 m_5.Rows.length c_8]⟩]) (B' := [Ow 40 kT_session_Row A_10 c_11 r_9, Ow 2 kT_session_Row A_3 c_4 t_1.rows, Ow 4 kT_tontineref15_Row A_7 c_8 m_5.Rows]) (ks := [0, 1, 8, 9]) (by kernel_rfl) (by kernel_rfl) (by kernel_rfl) ?_
  refine GoO.exec (is := [2]) (hs := [.p]) (rest := []) (ks := [0, 1, 5]) (env' := [(0, .pointer (some ⟨b_2, 0, none⟩)), (1, .pointer (some ⟨b_6, 0, none⟩)), (5, .slice A_10 r_9.length c_11)]) (H' := [⟨1, b_2, [.int .u64 t_1.now, .int .u64 t_1.next, .slice A_3 t_1.rows.length c_4]⟩, ⟨3, b_6, [.int .u64 m_5.Now, .int .u64 m_5.Next, .slice A_7 m_5.Rows.length c_8]⟩]) (ps := []) (by kernel_rfl) trivial ?_
  refine GoO.regionEnd ?_
  refine GoO.seq' c28_4e ?_
  refine GoO.seq' c28_5e ?_
  refine GoO.draw c28_6e (by kernel_rfl) [] [⟨3, b_6, [.int .u64 m_5.Now, .int .u64 m_5.Next, .slice A_7 m_5.Rows.length c_8]⟩] [] (n := 17) (by kernel_rfl) ?_
  simp only [List.replicate]
  refine GoF.take [0, 2, 3, 4, 5] [.p, .p, .p, .p, .b 0] (ks := [1, 5, 10, 15]) (fu := 12) (li := [true, false, true, true, true, true, false, false, false, false, false, false, false, false, false, false, false]) (env' := [(1, .pointer (some ⟨b_6, 0, none⟩)), (5, .slice A_10 r_9.length c_11), (10, .pointer (some ⟨b_2, 0, none⟩)), (15, .int .u64 m_5.Now)]) (ps := [b_6 = b_6]) (hk := [1]) (bk := []) (by kernel_rfl) (And.intro rfl trivial) rfl rfl ?_
  refine OpTo.goF (i := 1) (by kernel_rfl) (hk := [1]) (bk := []) (GoO.call rfl (by kernel_rfl) (by kernel_rfl) (session_Table_Now_ok n t_1 b_2 A_3 c_4) [[0], [1], [2]] [] [(1, 0)] [(2, 1)] (hks := [0, 1]) (bks := [0, 1, 2]) (by kernel_rfl) (by kernel_rfl) (by kernel_rfl) (.inl rfl) rfl rfl (by kernel_rfl) (by kernel_rfl) _ (fun _ _ => rfl) _ _ (fun _ _ => rfl) (fun _ _ => rfl) (fun _ _ => by kernel_rfl) (fun _ _ => by kernel_rfl) (fun r_12 x_14 => ⟨rfl, rfl, ?_⟩))
  refine GoF.shape (env' := [(1, .pointer (some ⟨b_6, 0, none⟩)), (5, .slice A_10 r_9.length c_11), (10, .pointer (some ⟨b_2, 0, none⟩)), (11, .int .u64 r_12), (15, .int .u64 m_5.Now)]) (H' := [⟨1, b_2, [.int .u64 t_1.now, .int .u64 t_1.next, .slice A_3 t_1.rows.length c_4]⟩, ⟨3, b_6, [.int .u64 m_5.Now, .int .u64 m_5.Next, .slice A_7 m_5.Rows.length c_8]⟩]) (B' := [Ow 40 kT_session_Row A_10 c_11 r_9, Ow 2 kT_session_Row A_3 c_4 t_1.rows, Ow 4 kT_tontineref15_Row A_7 c_8 m_5.Rows]) (ks := [1, 5, 10, 11, 15]) (by kernel_rfl) (by kernel_rfl) (by kernel_rfl) ?_
  refine GoF.take [6, 7] [.p, .p] (ks := [1, 5, 17]) (fu := 9) (li := [true, true, true, true, true, true, true, true, false, false, false, false, false, false, false, false, false]) (env' := [(1, .pointer (some ⟨b_6, 0, none⟩)), (5, .slice A_10 r_9.length c_11), (17, .bool (r_12 != m_5.Now))]) (ps := []) (hk := [1]) (bk := []) (by kernel_rfl) trivial rfl rfl ?_
  refine GoF.bsplit (t := 17) (by kernel_rfl) (fun h13 => ?_) (fun h13 => ?_)
  · refine GoF.take [8, 9, 10, 11, 12, 13, 14, 15, 16] [.p, .p, .p, .p, .p, .p, .p, .p, .p] (ks := [1, 5, 26]) (fu := 0) (li := [true, true, true, true, true, true, true, true, true, true, true, true, true, true, true, true, true]) (env' := [(1, .pointer (some ⟨b_6, 0, none⟩)), (5, .slice A_10 r_9.length c_11), (26, .bool true)]) (ps := []) (hk := [1]) (bk := []) (by kernel_rfl) trivial rfl rfl ?_
    refine GoF.done (by kernel_rfl) ?_
    exact GoO.sub (ks := [1, 5, 26]) (hk := [1, 0]) (bk := [2, 0, 1]) (by kernel_rfl) (by kernel_rfl) (by kernel_rfl) (tontinelaw15_alike_j0_ok n t_1 m_5 r_9 b_2 A_3 c_4 b_6 A_7 c_8 A_10 c_11 w0 S0 true)
  · refine GoF.take [8, 9, 10, 11, 12, 13, 14, 15, 16] [.p, .p, .p, .p, .p, .b 0, .p, .p, .p] (ks := [1, 5, 26]) (fu := 0) (li := [true, true, true, true, true, true, true, true, true, true, true, true, true, true, true, true, true]) (env' := [(1, .pointer (some ⟨b_6, 0, none⟩)), (5, .slice A_10 r_9.length c_11), (26, .bool ((r_9.length : Int) != (m_5.Rows.length : Int)))]) (ps := [b_6 = b_6]) (hk := [1]) (bk := []) (by kernel_rfl) (And.intro rfl trivial) rfl rfl ?_
    refine GoF.done (by kernel_rfl) ?_
    exact GoO.sub (ks := [1, 5, 26]) (hk := [1, 0]) (bk := [2, 0, 1]) (by kernel_rfl) (by kernel_rfl) (by kernel_rfl) (tontinelaw15_alike_j0_ok n t_1 m_5 r_9 b_2 A_3 c_4 b_6 A_7 c_8 A_10 c_11 w0 S0 ((r_9.length : Int) != (m_5.Rows.length : Int)))

/-! (*tontine/session.Table).Clock -/
noncomputable def c16_0 : Code := bodyOf Try.f16
noncomputable def c16_1 : Code := cdL c16_0
noncomputable def c16_2 : Code := cdL c16_1
noncomputable def c16_3 : Code := cdR c16_1
noncomputable def c16_4 : Code := cdL c16_3
noncomputable def c16_5 : Code := cdR c16_3
noncomputable def c16_6 : Code := cdR c16_0
noncomputable def c16_7 : Code := cdL c16_6
noncomputable def c16_8 : Code := cdR c16_6
noncomputable def c16_9 : Code := cdL c16_8
noncomputable def c16_10 : Code := cdR c16_8
noncomputable def c16_11 : Code := cdL c16_10
noncomputable def c16_12 : Code := cdL c16_11
noncomputable def c16_13 : Code := cdR c16_11
noncomputable def c16_14 : Code := cdL c16_13
noncomputable def c16_15 : Code := cdL c16_14
noncomputable def c16_16 : Code := cdL c16_15
noncomputable def c16_17 : Code := cdR c16_15
noncomputable def c16_18 : Code := cdL c16_17
noncomputable def c16_19 : Code := cdL c16_18
noncomputable def c16_20 : Code := cdR c16_18
noncomputable def c16_21 : Code := cdR c16_17
noncomputable def c16_22 : Code := cdL c16_21
noncomputable def c16_23 : Code := cdL c16_22
noncomputable def c16_24 : Code := cdL c16_23
noncomputable def c16_25 : Code := cdR c16_23
noncomputable def c16_26 : Code := cdL c16_25
noncomputable def c16_27 : Code := cdR c16_25
noncomputable def c16_28 : Code := cdL c16_27
noncomputable def c16_29 : Code := cdR c16_27
noncomputable def c16_30 : Code := cdR c16_21
noncomputable def c16_31 : Code := cdR c16_10
noncomputable def r16_2 : Array Oper := cdO c16_2
noncomputable def r16_7 : Array Oper := cdO c16_7
noncomputable def r16_9 : Array Oper := cdO c16_9
noncomputable def r16_12 : Array Oper := cdO c16_12
noncomputable def r16_16 : Array Oper := cdO c16_16
noncomputable def r16_24 : Array Oper := cdO c16_24
noncomputable def r16_26 : Array Oper := cdO c16_26
noncomputable def r16_28 : Array Oper := cdO c16_28
noncomputable def r16_30 : Array Oper := cdO c16_30
noncomputable def r16_31 : Array Oper := cdO c16_31
theorem c16_0e : c16_0 = .seq c16_1 c16_6 := by kernel_rfl
theorem c16_1e : c16_1 = .seq c16_2 c16_3 := by kernel_rfl
theorem c16_2e : c16_2 = .region 0 r16_2 false := by kernel_rfl
theorem c16_3e : c16_3 = .cond (cdC c16_3) c16_4 c16_5 := by kernel_rfl
theorem c16_4e : c16_4 = .ret := by kernel_rfl
theorem c16_5e : c16_5 = .skip := by kernel_rfl
theorem c16_6e : c16_6 = .seq c16_7 c16_8 := by kernel_rfl
theorem c16_7e : c16_7 = .region 1 r16_7 false := by kernel_rfl
theorem c16_8e : c16_8 = .seq c16_9 c16_10 := by kernel_rfl
theorem c16_9e : c16_9 = .region 2 r16_9 false := by kernel_rfl
theorem c16_10e : c16_10 = .seq c16_11 c16_31 := by kernel_rfl
theorem c16_11e : c16_11 = .seq c16_12 c16_13 := by kernel_rfl
theorem c16_12e : c16_12 = .region 3 r16_12 false := by kernel_rfl
theorem c16_13e : c16_13 = .block 0 c16_14 := by kernel_rfl
theorem c16_14e : c16_14 = .loop c16_15 := by kernel_rfl
theorem c16_15e : c16_15 = .seq c16_16 c16_17 := by kernel_rfl
theorem c16_16e : c16_16 = .region 4 r16_16 false := by kernel_rfl
theorem c16_17e : c16_17 = .seq c16_18 c16_21 := by kernel_rfl
theorem c16_18e : c16_18 = .cond (cdC c16_18) c16_19 c16_20 := by kernel_rfl
theorem c16_19e : c16_19 = .skip := by kernel_rfl
theorem c16_20e : c16_20 = .exit 0 := by kernel_rfl
theorem c16_21e : c16_21 = .seq c16_22 c16_30 := by kernel_rfl
theorem c16_22e : c16_22 = .block 1 c16_23 := by kernel_rfl
theorem c16_23e : c16_23 = .seq c16_24 c16_25 := by kernel_rfl
theorem c16_24e : c16_24 = .region 5 r16_24 false := by kernel_rfl
theorem c16_25e : c16_25 = .seq c16_26 c16_27 := by kernel_rfl
theorem c16_26e : c16_26 = .region 6 r16_26 false := by kernel_rfl
theorem c16_27e : c16_27 = .cond (cdC c16_27) c16_28 c16_29 := by kernel_rfl
theorem c16_28e : c16_28 = .region 7 r16_28 false := by kernel_rfl
theorem c16_29e : c16_29 = .skip := by kernel_rfl
theorem c16_30e : c16_30 = .region 8 r16_30 false := by kernel_rfl
theorem c16_31e : c16_31 = .region 9 r16_31 false := by kernel_rfl
noncomputable def session_Table_Clock.R (b_2 : Nat) (A_3 : Option Addr) (c_4 : Nat) : Pst T_session_Table where
  ε := Option Addr × Nat
  v := fun r x => .tuple ⟨[]⟩
  H := fun r x => [⟨1, b_2, [.int .u64 r.now, .int .u64 r.next, .slice x.1 r.rows.length x.2]⟩]
  B := fun r x => [Ow 2 kT_session_Row x.1 x.2 r.rows]
noncomputable def session_Table_Clock.cx (b_2 : Nat) (A_3 : Option Addr) (c_4 : Nat) (w0 : World) (S0 : Fam) : Cx T_session_Table := ⟨Try.prog, 16, Try.f16, 44, w0, S0, [1, 2], 2, session_Table_Clock.R b_2 A_3 c_4⟩
theorem session_Table_Clock_l0_ok (n : Nat) (t_1 : T_session_Table) (now_5 : Int) (b_2 : Nat) (A_3 : Option Addr) (c_4 : Nat) (w0 : World) (S0 : Fam) :
    ∀ (k : Nat) (l_7 : (List T_session_Row)) (x_10 : Int) (A_8 : Option Addr) (c_9 : Nat), GoO (session_Table_Clock.cx b_2 A_3 c_4 w0 S0) [(0, .pointer (some ⟨b_2, 0, none⟩)), (1, .int .u64 now_5), (4, .slice A_8 l_7.length c_9), (24, .slice A_3 t_1.rows.length c_4), (25, .int .i64 (t_1.rows.length : Int)), (26, .int .i64 x_10)] [⟨1, b_2, [.int .u64 now_5, .int .u64 t_1.next, .slice A_3 t_1.rows.length c_4]⟩] [Ow 2 kT_session_Row A_3 c_4 t_1.rows, Ow 42 kT_session_Row A_8 c_9 l_7] [.code c16_15, .inLoop c16_15, .inBlock 0, .code c16_31] (session_Table_Clock.l0 n t_1 now_5 k l_7 x_10) := by
  intro k
  induction k with
  | zero => intros; rw [session_Table_Clock.l0.eq_1]; exact GoO.stop
  | succ k ih0 =>
    intro l_7 x_10 A_8 c_9
    rw [session_Table_Clock.l0.eq_2]
    refine GoO.seq' c16_15e ?_
    refine GoO.region' (is := [0]) c16_16e (by kernel_rfl) ?_
    refine GoO.exec (is := [0]) (hs := [.p]) (rest := []) (ks := [0, 1, 4, 24, 25, 26, 27]) (env' := [(0, .pointer (some ⟨b_2, 0, none⟩)), (1, .int .u64 now_5), (4, .slice A_8 l_7.length c_9), (24, .slice A_3 t_1.rows.length c_4), (25, .int .i64 (t_1.rows.length : Int)), (26, .int .i64 x_10), (27, .bool (decide (x_10 < (t_1.rows.length : Int))))]) (H' := [⟨1, b_2, [.int .u64 now_5, .int .u64 t_1.next, .slice A_3 t_1.rows.length c_4]⟩]) (ps := []) (by kernel_rfl) trivial ?_
    refine GoO.regionEnd ?_
    refine GoO.seq' c16_17e ?_
    refine GoO.ite' c16_18e (by kernel_rfl) (fun h11 => ?_) (fun h11 => ?_)
    · refine GoO.skip' c16_19e ?_
      refine GoO.seq' c16_21e ?_
      refine GoO.block' c16_22e ?_
      refine GoO.seq' c16_23e ?_
      refine GoO.region' (is := [0, 1, 2, 3]) c16_24e (by kernel_rfl) ?_
      refine GoO.guard (fun h12 => ?_)
      refine OpTo.go (GoO.idx (kk := .i64) (e := 87) (K := kT_session_Row) (A := A_3) (c := c_4) (xs := t_1.rows) (iv := x_10) (j := 0) rfl (by kernel_rfl) (by kernel_rfl) (by kernel_rfl) (by kernel_rfl) rfl Reads.own rfl h12.1 h12.2 (by decide) rfl ?_)
      refine OpTo.go (GoO.ldE' (K := kT_session_Row) (A := A_3) (c := c_4) (xs := t_1.rows) (iN := x_10.toNat) (off := 0) (j := 0) rfl (by kernel_rfl) rfl Reads.own (by first | exact idx_lt h12.1 h12.2 | (simp only [List.length_set]; exact idx_lt h12.1 h12.2)) (by decide) (Opn.flat _ _ _ _ _) (v := fun _ => .agg ⟨[.int .u64 ((rdL t_1.rows x_10).Id), .int .u64 ((rdL t_1.rows x_10).Used), .int .u64 ((rdL t_1.rows x_10).Seq), .int .i64 ((rdL t_1.rows x_10).Reply.Err), .int .u64 ((rdL t_1.rows x_10).Reply.Num), .int .u64 ((rdL t_1.rows x_10).Reply.Extra)]⟩) (fun _ => by kernel_rfl) _ (fun _ => rfl) (fun _ => ?_))
      refine OpTo.go (GoO.new rfl 40 (cs := [.int .u64 0, .int .u64 0, .int .u64 0, .int .i64 0, .int .u64 0, .int .u64 0]) (by kernel_rfl) _ (fun _ => rfl) (fun b_13 => ?_))
      refine GoO.exec (is := [3]) (hs := [.b 0]) (rest := []) (ks := [0, 1, 4, 6, 24, 25, 26]) (env' := [(0, .pointer (some ⟨b_2, 0, none⟩)), (1, .int .u64 now_5), (4, .slice A_8 l_7.length c_9), (6, .pointer (some ⟨b_13, 0, none⟩)), (24, .slice A_3 t_1.rows.length c_4), (25, .int .i64 (t_1.rows.length : Int)), (26, .int .i64 x_10)]) (H' := [⟨40, b_13, [.int .u64 ((rdL t_1.rows x_10).Id), .int .u64 ((rdL t_1.rows x_10).Used), .int .u64 ((rdL t_1.rows x_10).Seq), .int .i64 ((rdL t_1.rows x_10).Reply.Err), .int .u64 ((rdL t_1.rows x_10).Reply.Num), .int .u64 ((rdL t_1.rows x_10).Reply.Extra)]⟩, ⟨1, b_2, [.int .u64 now_5, .int .u64 t_1.next, .slice A_3 t_1.rows.length c_4]⟩]) (ps := [b_13 = b_13]) (by kernel_rfl) (And.intro rfl trivial) ?_
      refine GoO.regionEnd ?_
      refine GoO.seq' c16_25e ?_
      refine GoO.region' (is := [0, 1, 2, 3, 4]) c16_26e (by kernel_rfl) ?_
      refine GoO.exec (is := [0, 1, 2, 3, 4]) (hs := [.p, .p, .b 0, .p, .p]) (rest := []) (ks := [0, 1, 4, 6, 24, 25, 26, 34]) (env' := [(0, .pointer (some ⟨b_2, 0, none⟩)), (1, .int .u64 now_5), (4, .slice A_8 l_7.length c_9), (6, .pointer (some ⟨b_13, 0, none⟩)), (24, .slice A_3 t_1.rows.length c_4), (25, .int .i64 (t_1.rows.length : Int)), (26, .int .i64 x_10), (34, .bool (decide ((wu64 (now_5 - ((rdL t_1.rows x_10).Used))) ≤ 1000)))]) (H' := [⟨40, b_13, [.int .u64 ((rdL t_1.rows x_10).Id), .int .u64 ((rdL t_1.rows x_10).Used), .int .u64 ((rdL t_1.rows x_10).Seq), .int .i64 ((rdL t_1.rows x_10).Reply.Err), .int .u64 ((rdL t_1.rows x_10).Reply.Num), .int .u64 ((rdL t_1.rows x_10).Reply.Extra)]⟩, ⟨1, b_2, [.int .u64 now_5, .int .u64 t_1.next, .slice A_3 t_1.rows.length c_4]⟩]) (ps := [b_13 = b_13]) (by kernel_rfl) (And.intro rfl trivial) ?_
      refine GoO.regionEnd ?_
      refine GoO.ite' c16_27e (by kernel_rfl) (fun h14 => ?_) (fun h14 => ?_)
      · refine GoO.region' (is := [0, 1, 2, 3, 4]) c16_28e (by kernel_rfl) ?_
        refine GoO.exec (is := [0, 1]) (hs := [.p, .b 0]) (rest := [2, 3, 4]) (ks := [0, 1, 24, 25, 26, 35, 36]) (env' := [(0, .pointer (some ⟨b_2, 0, none⟩)), (1, .int .u64 now_5), (24, .slice A_3 t_1.rows.length c_4), (25, .int .i64 (t_1.rows.length : Int)), (26, .int .i64 x_10), (35, .slice A_8 l_7.length c_9), (36, .agg ⟨[.int .u64 ((rdL t_1.rows x_10).Id), .int .u64 ((rdL t_1.rows x_10).Used), .int .u64 ((rdL t_1.rows x_10).Seq), .int .i64 ((rdL t_1.rows x_10).Reply.Err), .int .u64 ((rdL t_1.rows x_10).Reply.Num), .int .u64 ((rdL t_1.rows x_10).Reply.Extra)]⟩)]) (H' := [⟨40, b_13, [.int .u64 ((rdL t_1.rows x_10).Id), .int .u64 ((rdL t_1.rows x_10).Used), .int .u64 ((rdL t_1.rows x_10).Seq), .int .i64 ((rdL t_1.rows x_10).Reply.Err), .int .u64 ((rdL t_1.rows x_10).Reply.Num), .int .u64 ((rdL t_1.rows x_10).Reply.Extra)]⟩, ⟨1, b_2, [.int .u64 now_5, .int .u64 t_1.next, .slice A_3 t_1.rows.length c_4]⟩]) (ps := [b_13 = b_13]) (by kernel_rfl) (And.intro rfl trivial) ?_
        refine OpTo.go (GoO.lit (e := 87) (K := kT_session_Row) rfl (by kernel_rfl) (by kernel_rfl) (cs := [.int .u64 ((rdL t_1.rows x_10).Id), .int .u64 ((rdL t_1.rows x_10).Used), .int .u64 ((rdL t_1.rows x_10).Seq), .int .i64 ((rdL t_1.rows x_10).Reply.Err), .int .u64 ((rdL t_1.rows x_10).Reply.Num), .int .u64 ((rdL t_1.rows x_10).Reply.Extra)]) (by kernel_rfl) [(⟨(rdL t_1.rows x_10).Id, (rdL t_1.rows x_10).Used, (rdL t_1.rows x_10).Seq, (⟨(rdL t_1.rows x_10).Reply.Err, (rdL t_1.rows x_10).Reply.Num, (rdL t_1.rows x_10).Reply.Extra⟩ : T_api_Reply)⟩ : T_session_Row)] (by kernel_rfl) (by kernel_rfl) (fun w S hB => ⟨[.int .u64 ((rdL t_1.rows x_10).Id), .int .u64 ((rdL t_1.rows x_10).Used), .int .u64 ((rdL t_1.rows x_10).Seq), .int .i64 ((rdL t_1.rows x_10).Reply.Err), .int .u64 ((rdL t_1.rows x_10).Reply.Num), .int .u64 ((rdL t_1.rows x_10).Reply.Extra)], _, rfl, rfl, rfl⟩) 41 _ (fun _ _ => rfl) (fun A_15 c_16 => ?_))
        refine GoO.guard (fun h17 => ?_)
        refine OpTo.go (GoO.appW (e := 87) (K := kT_session_Row) (A := A_8) (c := c_9) (tg := 42) (bytes := 48) (zs := [.int .u64 0, .int .u64 0, .int .u64 0, .int .i64 0, .int .u64 0, .int .u64 0]) (xs := l_7) (ys := [(⟨(rdL t_1.rows x_10).Id, (rdL t_1.rows x_10).Used, (rdL t_1.rows x_10).Seq, (⟨(rdL t_1.rows x_10).Reply.Err, (rdL t_1.rows x_10).Reply.Num, (rdL t_1.rows x_10).Reply.Extra⟩ : T_api_Reply)⟩ : T_session_Row)]) (xv := .slice A_15 [(⟨(rdL t_1.rows x_10).Id, (rdL t_1.rows x_10).Used, (rdL t_1.rows x_10).Seq, (⟨(rdL t_1.rows x_10).Reply.Err, (rdL t_1.rows x_10).Reply.Num, (rdL t_1.rows x_10).Reply.Extra⟩ : T_api_Reply)⟩ : T_session_Row)].length c_16) (j := 2) (bk := [0, 1]) rfl (by kernel_rfl) (by kernel_rfl) (by kernel_rfl) (by kernel_rfl) rfl (by kernel_rfl) rfl (fun w S hB => SrcIs.row (Reads.own w S (hB _ (List.mem_of_getElem? (i := 0) rfl)))) h17 rfl rfl rfl rfl _ (fun _ _ => rfl) (fun A_18 c_19 => ?_))
        refine GoO.exec (is := [4]) (hs := [.p]) (rest := []) (ks := [0, 1, 4, 24, 25, 26]) (env' := [(0, .pointer (some ⟨b_2, 0, none⟩)), (1, .int .u64 now_5), (4, .slice A_18 (l_7 ++ [(⟨(rdL t_1.rows x_10).Id, (rdL t_1.rows x_10).Used, (rdL t_1.rows x_10).Seq, (⟨(rdL t_1.rows x_10).Reply.Err, (rdL t_1.rows x_10).Reply.Num, (rdL t_1.rows x_10).Reply.Extra⟩ : T_api_Reply)⟩ : T_session_Row)]).length c_19), (24, .slice A_3 t_1.rows.length c_4), (25, .int .i64 (t_1.rows.length : Int)), (26, .int .i64 x_10)]) (H' := [⟨40, b_13, [.int .u64 ((rdL t_1.rows x_10).Id), .int .u64 ((rdL t_1.rows x_10).Used), .int .u64 ((rdL t_1.rows x_10).Seq), .int .i64 ((rdL t_1.rows x_10).Reply.Err), .int .u64 ((rdL t_1.rows x_10).Reply.Num), .int .u64 ((rdL t_1.rows x_10).Reply.Extra)]⟩, ⟨1, b_2, [.int .u64 now_5, .int .u64 t_1.next, .slice A_3 t_1.rows.length c_4]⟩]) (ps := []) (by kernel_rfl) trivial ?_
        refine GoO.regionEnd ?_
        refine GoO.inBlock ?_
        refine GoO.region' (is := [0, 1]) c16_30e (by kernel_rfl) ?_
        refine GoO.exec (is := [0, 1]) (hs := [.p, .p]) (rest := []) (ks := [0, 1, 4, 24, 25, 26]) (env' := [(0, .pointer (some ⟨b_2, 0, none⟩)), (1, .int .u64 now_5), (4, .slice A_18 (l_7 ++ [(⟨(rdL t_1.rows x_10).Id, (rdL t_1.rows x_10).Used, (rdL t_1.rows x_10).Seq, (⟨(rdL t_1.rows x_10).Reply.Err, (rdL t_1.rows x_10).Reply.Num, (rdL t_1.rows x_10).Reply.Extra⟩ : T_api_Reply)⟩ : T_session_Row)]).length c_19), (24, .slice A_3 t_1.rows.length c_4), (25, .int .i64 (t_1.rows.length : Int)), (26, .int .i64 (wi64 (x_10 + 1)))]) (H' := [⟨40, b_13, [.int .u64 ((rdL t_1.rows x_10).Id), .int .u64 ((rdL t_1.rows x_10).Used), .int .u64 ((rdL t_1.rows x_10).Seq), .int .i64 ((rdL t_1.rows x_10).Reply.Err), .int .u64 ((rdL t_1.rows x_10).Reply.Num), .int .u64 ((rdL t_1.rows x_10).Reply.Extra)]⟩, ⟨1, b_2, [.int .u64 now_5, .int .u64 t_1.next, .slice A_3 t_1.rows.length c_4]⟩]) (ps := []) (by kernel_rfl) trivial ?_
        refine GoO.regionEnd ?_
        refine GoO.inLoop ?_
        exact GoO.sub (ks := [0, 1, 4, 24, 25, 26]) (hk := [1]) (bk := [2, 0]) (by kernel_rfl) (by kernel_rfl) (by kernel_rfl) (ih0 (l_7 ++ [(⟨(rdL t_1.rows x_10).Id, (rdL t_1.rows x_10).Used, (rdL t_1.rows x_10).Seq, (⟨(rdL t_1.rows x_10).Reply.Err, (rdL t_1.rows x_10).Reply.Num, (rdL t_1.rows x_10).Reply.Extra⟩ : T_api_Reply)⟩ : T_session_Row)]) (wi64 (x_10 + 1)) A_18 c_19)
      · refine GoO.skip' c16_29e ?_
        refine GoO.inBlock ?_
        refine GoO.region' (is := [0, 1]) c16_30e (by kernel_rfl) ?_
        refine GoO.exec (is := [0, 1]) (hs := [.p, .p]) (rest := []) (ks := [0, 1, 4, 24, 25, 26]) (env' := [(0, .pointer (some ⟨b_2, 0, none⟩)), (1, .int .u64 now_5), (4, .slice A_8 l_7.length c_9), (24, .slice A_3 t_1.rows.length c_4), (25, .int .i64 (t_1.rows.length : Int)), (26, .int .i64 (wi64 (x_10 + 1)))]) (H' := [⟨40, b_13, [.int .u64 ((rdL t_1.rows x_10).Id), .int .u64 ((rdL t_1.rows x_10).Used), .int .u64 ((rdL t_1.rows x_10).Seq), .int .i64 ((rdL t_1.rows x_10).Reply.Err), .int .u64 ((rdL t_1.rows x_10).Reply.Num), .int .u64 ((rdL t_1.rows x_10).Reply.Extra)]⟩, ⟨1, b_2, [.int .u64 now_5, .int .u64 t_1.next, .slice A_3 t_1.rows.length c_4]⟩]) (ps := []) (by kernel_rfl) trivial ?_
        refine GoO.regionEnd ?_
        refine GoO.inLoop ?_
        exact GoO.sub (ks := [0, 1, 4, 24, 25, 26]) (hk := [1]) (bk := [0, 1]) (by kernel_rfl) (by kernel_rfl) (by kernel_rfl) (ih0 l_7 (wi64 (x_10 + 1)) A_8 c_9)
    · refine GoO.exit' c16_20e rfl ?_
      refine GoO.region' (is := [0, 1, 2, 3, 4]) c16_31e (by kernel_rfl) ?_
      refine GoO.exec (is := [0, 1, 2, 3, 4]) (hs := [.p, .p, .p, .p, .b 0]) (rest := []) (ks := []) (env' := []) (H' := [⟨1, b_2, [.int .u64 now_5, .int .u64 t_1.next, .slice A_8 l_7.length c_9]⟩]) (ps := [b_2 = b_2]) (by kernel_rfl) (And.intro rfl trivial) ?_
      refine GoO.regionEnd ?_
      refine GoO.sub (ks := []) (env' := []) (hk := [0]) (bk := [1]) (by kernel_rfl) rfl rfl ?_
      refine GoO.retag (t := 42) (u := 2) (j := 0) (hk := [0]) (bk := []) rfl rfl rfl rfl rfl rfl (by kernel_rfl) (by kernel_rfl) ?_
      exact GoO.fin (hs := []) (ps := []) (hk := [0]) (bk := [0]) Try.func16 (⟨A_8, c_9⟩ : Option Addr × Nat) (by kernel_rfl) trivial (by kernel_rfl) (by kernel_rfl)
theorem session_Table_Clock_ok (n : Nat) (t_1 : T_session_Table) (now_5 : Int) (b_2 : Nat) (A_3 : Option Addr) (c_4 : Nat) :
    Meets Try.prog 16 [.pointer (some ⟨b_2, 0, none⟩), .int .u64 now_5] 2 [1, 2] [⟨1, b_2, [.int .u64 t_1.now, .int .u64 t_1.next, .slice A_3 t_1.rows.length c_4]⟩] [Ow 2 kT_session_Row A_3 c_4 t_1.rows] (session_Table_Clock.f n t_1 now_5) (session_Table_Clock.R b_2 A_3 c_4) := by
  refine Meets.of (c := c16_0) (n := 44) Try.func16 (by kernel_rfl) (by kernel_rfl) (by kernel_rfl) fun w0 S0 => ?_
  unfold session_Table_Clock.f
  show GoO (session_Table_Clock.cx b_2 A_3 c_4 w0 S0) [(0, .pointer (some ⟨b_2, 0, none⟩)), (1, .int .u64 now_5)] [⟨1, b_2, [.int .u64 t_1.now, .int .u64 t_1.next, .slice A_3 t_1.rows.length c_4]⟩] [Ow 2 kT_session_Row A_3 c_4 t_1.rows] [.code c16_0] _
  refine GoO.seq' c16_0e ?_
  refine GoO.seq' c16_1e ?_
  refine GoO.region' (is := [0, 1, 2, 3, 4, 5, 6, 7, 8, 9]) c16_2e (by kernel_rfl) ?_
  refine GoO.exec (is := [0, 1, 2, 3, 4, 5, 6, 7, 8, 9]) (hs := [.p, .p, .p, .p, .p, .p, .p, .b 0, .p, .p]) (rest := []) (ks := [0, 1, 16]) (env' := [(0, .pointer (some ⟨b_2, 0, none⟩)), (1, .int .u64 now_5), (16, .bool (decide (now_5 ≤ t_1.now)))]) (H' := [⟨1, b_2, [.int .u64 t_1.now, .int .u64 t_1.next, .slice A_3 t_1.rows.length c_4]⟩]) (ps := [b_2 = b_2]) (by kernel_rfl) (And.intro rfl trivial) ?_
  refine GoO.regionEnd ?_
  refine GoO.ite' c16_3e (by kernel_rfl) (fun h6 => ?_) (fun h6 => ?_)
  · exact GoO.ret' (h := c16_4e) (hs := []) (ps := []) (hk := [0]) (bk := [0]) Try.func16 (⟨A_3, c_4⟩ : Option Addr × Nat) (by kernel_rfl) trivial (by kernel_rfl) (by kernel_rfl)
  · refine GoO.skip' c16_5e ?_
    refine GoO.seq' c16_6e ?_
    refine GoO.region' (is := [0, 1, 2, 3, 4]) c16_7e (by kernel_rfl) ?_
    refine GoO.exec (is := [0, 1, 2, 3, 4]) (hs := [.p, .p, .p, .p, .b 0]) (rest := []) (ks := [0, 1]) (env' := [(0, .pointer (some ⟨b_2, 0, none⟩)), (1, .int .u64 now_5)]) (H' := [⟨1, b_2, [.int .u64 now_5, .int .u64 t_1.next, .slice A_3 t_1.rows.length c_4]⟩]) (ps := [b_2 = b_2]) (by kernel_rfl) (And.intro rfl trivial) ?_
    refine GoO.regionEnd ?_
    refine GoO.seq' c16_8e ?_
    refine GoO.region' (is := [0]) c16_9e (by kernel_rfl) ?_
    refine GoO.exec (is := [0]) (hs := [.p]) (rest := []) (ks := [0, 1, 4]) (env' := [(0, .pointer (some ⟨b_2, 0, none⟩)), (1, .int .u64 now_5), (4, .slice none ([] : List T_session_Row).length 0)]) (H' := [⟨1, b_2, [.int .u64 now_5, .int .u64 t_1.next, .slice A_3 t_1.rows.length c_4]⟩]) (ps := []) (by kernel_rfl) trivial ?_
    refine GoO.regionEnd ?_
    refine GoO.seq' c16_10e ?_
    refine GoO.seq' c16_11e ?_
    refine GoO.region' (is := [0, 1, 2, 3, 4, 5]) c16_12e (by kernel_rfl) ?_
    refine GoO.exec (is := [0, 1, 2, 3, 4, 5]) (hs := [.p, .p, .p, .b 0, .p, .p]) (rest := []) (ks := [0, 1, 4, 24, 25, 26]) (env' := [(0, .pointer (some ⟨b_2, 0, none⟩)), (1, .int .u64 now_5), (4, .slice none ([] : List T_session_Row).length 0), (24, .slice A_3 t_1.rows.length c_4), (25, .int .i64 (t_1.rows.length : Int)), (26, .int .i64 0)]) (H' := [⟨1, b_2, [.int .u64 now_5, .int .u64 t_1.next, .slice A_3 t_1.rows.length c_4]⟩]) (ps := [b_2 = b_2]) (by kernel_rfl) (And.intro rfl trivial) ?_
    refine GoO.regionEnd ?_
    refine GoO.block' c16_13e ?_
    refine GoO.loop' c16_14e ?_
    refine GoO.nilOwn kT_session_Row 42 ?_
    exact GoO.sub (ks := [0, 1, 4, 24, 25, 26]) (hk := [0]) (bk := [1, 0]) (by kernel_rfl) (by kernel_rfl) (by kernel_rfl) (session_Table_Clock_l0_ok n t_1 now_5 b_2 A_3 c_4 w0 S0 n ([] : List T_session_Row) 0 none 0)

/-! (*tontine/tontineref15.Table).Clock -/
noncomputable def c44_0 : Code := bodyOf Try.f44
noncomputable def c44_1 : Code := cdL c44_0
noncomputable def c44_2 : Code := cdL c44_1
noncomputable def c44_3 : Code := cdR c44_1
noncomputable def c44_4 : Code := cdL c44_3
noncomputable def c44_5 : Code := cdR c44_3
noncomputable def c44_6 : Code := cdR c44_0
noncomputable def c44_7 : Code := cdL c44_6
noncomputable def c44_8 : Code := cdR c44_6
noncomputable def c44_9 : Code := cdL c44_8
noncomputable def c44_10 : Code := cdR c44_8
noncomputable def c44_11 : Code := cdL c44_10
noncomputable def c44_12 : Code := cdL c44_11
noncomputable def c44_13 : Code := cdR c44_11
noncomputable def c44_14 : Code := cdL c44_13
noncomputable def c44_15 : Code := cdL c44_14
noncomputable def c44_16 : Code := cdL c44_15
noncomputable def c44_17 : Code := cdL c44_16
noncomputable def c44_18 : Code := cdR c44_16
noncomputable def c44_19 : Code := cdL c44_18
noncomputable def c44_20 : Code := cdR c44_18
noncomputable def c44_21 : Code := cdR c44_15
noncomputable def c44_22 : Code := cdL c44_21
noncomputable def c44_23 : Code := cdL c44_22
noncomputable def c44_24 : Code := cdL c44_23
noncomputable def c44_25 : Code := cdR c44_23
noncomputable def c44_26 : Code := cdL c44_25
noncomputable def c44_27 : Code := cdR c44_25
noncomputable def c44_28 : Code := cdR c44_21
noncomputable def c44_29 : Code := cdR c44_10
noncomputable def r44_2 : Array Oper := cdO c44_2
noncomputable def r44_7 : Array Oper := cdO c44_7
noncomputable def r44_9 : Array Oper := cdO c44_9
noncomputable def r44_12 : Array Oper := cdO c44_12
noncomputable def r44_17 : Array Oper := cdO c44_17
noncomputable def r44_24 : Array Oper := cdO c44_24
noncomputable def r44_26 : Array Oper := cdO c44_26
noncomputable def r44_28 : Array Oper := cdO c44_28
noncomputable def r44_29 : Array Oper := cdO c44_29
theorem c44_0e : c44_0 = .seq c44_1 c44_6 := by kernel_rfl
theorem c44_1e : c44_1 = .seq c44_2 c44_3 := by kernel_rfl
theorem c44_2e : c44_2 = .region 0 r44_2 false := by kernel_rfl
theorem c44_3e : c44_3 = .cond (cdC c44_3) c44_4 c44_5 := by kernel_rfl
theorem c44_4e : c44_4 = .ret := by kernel_rfl
theorem c44_5e : c44_5 = .skip := by kernel_rfl
theorem c44_6e : c44_6 = .seq c44_7 c44_8 := by kernel_rfl
theorem c44_7e : c44_7 = .region 1 r44_7 false := by kernel_rfl
theorem c44_8e : c44_8 = .seq c44_9 c44_10 := by kernel_rfl
theorem c44_9e : c44_9 = .region 2 r44_9 false := by kernel_rfl
theorem c44_10e : c44_10 = .seq c44_11 c44_29 := by kernel_rfl
theorem c44_11e : c44_11 = .seq c44_12 c44_13 := by kernel_rfl
theorem c44_12e : c44_12 = .region 3 r44_12 false := by kernel_rfl
theorem c44_13e : c44_13 = .block 0 c44_14 := by kernel_rfl
theorem c44_14e : c44_14 = .loop c44_15 := by kernel_rfl
theorem c44_15e : c44_15 = .seq c44_16 c44_21 := by kernel_rfl
theorem c44_16e : c44_16 = .seq c44_17 c44_18 := by kernel_rfl
theorem c44_17e : c44_17 = .region 4 r44_17 false := by kernel_rfl
theorem c44_18e : c44_18 = .cond (cdC c44_18) c44_19 c44_20 := by kernel_rfl
theorem c44_19e : c44_19 = .skip := by kernel_rfl
theorem c44_20e : c44_20 = .exit 0 := by kernel_rfl
theorem c44_21e : c44_21 = .seq c44_22 c44_28 := by kernel_rfl
theorem c44_22e : c44_22 = .block 1 c44_23 := by kernel_rfl
theorem c44_23e : c44_23 = .seq c44_24 c44_25 := by kernel_rfl
theorem c44_24e : c44_24 = .region 6 r44_24 false := by kernel_rfl
theorem c44_25e : c44_25 = .cond (cdC c44_25) c44_26 c44_27 := by kernel_rfl
theorem c44_26e : c44_26 = .region 7 r44_26 false := by kernel_rfl
theorem c44_27e : c44_27 = .skip := by kernel_rfl
theorem c44_28e : c44_28 = .region 5 r44_28 false := by kernel_rfl
theorem c44_29e : c44_29 = .region 8 r44_29 false := by kernel_rfl
noncomputable def tontineref15_Table_Clock.R (b_2 : Nat) (A_3 : Option Addr) (c_4 : Nat) : Pst T_tontineref15_Table where
  ε := Option Addr × Nat
  v := fun r x => .tuple ⟨[]⟩
  H := fun r x => [⟨1, b_2, [.int .u64 r.Now, .int .u64 r.Next, .slice x.1 r.Rows.length x.2]⟩]
  B := fun r x => [Ow 2 kT_tontineref15_Row x.1 x.2 r.Rows]
noncomputable def tontineref15_Table_Clock.cx (b_2 : Nat) (A_3 : Option Addr) (c_4 : Nat) (w0 : World) (S0 : Fam) : Cx T_tontineref15_Table := ⟨Try.prog, 44, Try.f44, 62, w0, S0, [1, 2], 2, tontineref15_Table_Clock.R b_2 A_3 c_4⟩
theorem tontineref15_Table_Clock_j0_ok (n : Nat) (L0 : (List T_tontineref15_Row) → Int → Option T_tontineref15_Table) (t_1 : T_tontineref15_Table) (now_5 : Int) (l_7 : (List T_tontineref15_Row)) (i_10 : Int) (b_2 : Nat) (A_3 : Option Addr) (c_4 : Nat) (A_8 : Option Addr) (c_9 : Nat) (w0 : World) (S0 : Fam) (ih0 : ∀ (l_7 : (List T_tontineref15_Row)) (i_10 : Int) (A_8 : Option Addr) (c_9 : Nat), GoO (tontineref15_Table_Clock.cx b_2 A_3 c_4 w0 S0) [(0, .pointer (some ⟨b_2, 0, none⟩)), (1, .int .u64 now_5), (4, .slice A_8 l_7.length c_9), (5, .int .i64 i_10)] [⟨1, b_2, [.int .u64 now_5, .int .u64 t_1.Next, .slice A_3 t_1.Rows.length c_4]⟩] [Ow 2 kT_tontineref15_Row A_3 c_4 t_1.Rows, Ow 41 kT_tontineref15_Row A_8 c_9 l_7] [.code c44_15, .inLoop c44_15, .inBlock 0, .code c44_29] (L0 l_7 i_10)) (b_15 : Bool) :
    GoO (tontineref15_Table_Clock.cx b_2 A_3 c_4 w0 S0) [(0, .pointer (some ⟨b_2, 0, none⟩)), (1, .int .u64 now_5), (4, .slice A_8 l_7.length c_9), (5, .int .i64 i_10), (47, .bool b_15)] [⟨1, b_2, [.int .u64 now_5, .int .u64 t_1.Next, .slice A_3 t_1.Rows.length c_4]⟩] [Ow 2 kT_tontineref15_Row A_3 c_4 t_1.Rows, Ow 41 kT_tontineref15_Row A_8 c_9 l_7] [.code c44_25, .inBlock 1, .code c44_28, .inLoop c44_15, .inBlock 0, .code c44_29] (tontineref15_Table_Clock.j0 n L0 t_1 l_7 i_10 b_15) := by
  unfold tontineref15_Table_Clock.j0
  refine GoO.ite' c44_25e (by kernel_rfl) (fun h16 => ?_) (fun h16 => ?_)
  · refine GoO.region' (is := [0, 1, 2, 3, 4, 5, 6, 7, 8, 9, 10]) c44_26e (by kernel_rfl) ?_
    refine GoO.exec (is := [0, 1, 2, 3, 4, 5]) (hs := [.p, .p, .p, .p, .b 0, .p]) (rest := [6, 7, 8, 9, 10]) (ks := [0, 1, 5, 48, 52, 53]) (env' := [(0, .pointer (some ⟨b_2, 0, none⟩)), (1, .int .u64 now_5), (5, .int .i64 i_10), (48, .slice A_8 l_7.length c_9), (52, .slice A_3 t_1.Rows.length c_4), (53, .int .i64 i_10)]) (H' := [⟨1, b_2, [.int .u64 now_5, .int .u64 t_1.Next, .slice A_3 t_1.Rows.length c_4]⟩]) (ps := [b_2 = b_2]) (by kernel_rfl) (And.intro rfl trivial) ?_
    refine GoO.guard (fun h17 => ?_)
    refine OpTo.go (GoO.idx (kk := .i64) (e := 100) (K := kT_tontineref15_Row) (A := A_3) (c := c_4) (xs := t_1.Rows) (iv := i_10) (j := 0) rfl (by kernel_rfl) (by kernel_rfl) (by kernel_rfl) (by kernel_rfl) rfl Reads.own rfl h17.1 h17.2 (by decide) rfl ?_)
    refine OpTo.go (GoO.ldE' (K := kT_tontineref15_Row) (A := A_3) (c := c_4) (xs := t_1.Rows) (iN := i_10.toNat) (off := 0) (j := 0) rfl (by kernel_rfl) rfl Reads.own (by first | exact idx_lt h17.1 h17.2 | (simp only [List.length_set]; exact idx_lt h17.1 h17.2)) (by decide) (Opn.flat _ _ _ _ _) (v := fun _ => .agg ⟨[.int .u64 ((rdL t_1.Rows i_10).Id), .int .u64 ((rdL t_1.Rows i_10).Used), .int .u64 ((rdL t_1.Rows i_10).Seq), .int .i64 ((rdL t_1.Rows i_10).Reply.Err), .int .u64 ((rdL t_1.Rows i_10).Reply.Num), .int .u64 ((rdL t_1.Rows i_10).Reply.Extra)]⟩) (fun _ => by kernel_rfl) _ (fun _ => rfl) (fun _ => ?_))
    refine OpTo.go (GoO.lit (e := 100) (K := kT_tontineref15_Row) rfl (by kernel_rfl) (by kernel_rfl) (cs := [.int .u64 ((rdL t_1.Rows i_10).Id), .int .u64 ((rdL t_1.Rows i_10).Used), .int .u64 ((rdL t_1.Rows i_10).Seq), .int .i64 ((rdL t_1.Rows i_10).Reply.Err), .int .u64 ((rdL t_1.Rows i_10).Reply.Num), .int .u64 ((rdL t_1.Rows i_10).Reply.Extra)]) (by kernel_rfl) [(⟨(rdL t_1.Rows i_10).Id, (rdL t_1.Rows i_10).Used, (rdL t_1.Rows i_10).Seq, (⟨(rdL t_1.Rows i_10).Reply.Err, (rdL t_1.Rows i_10).Reply.Num, (rdL t_1.Rows i_10).Reply.Extra⟩ : T_api_Reply)⟩ : T_tontineref15_Row)] (by kernel_rfl) (by kernel_rfl) (fun w S hB => ⟨[.int .u64 ((rdL t_1.Rows i_10).Id), .int .u64 ((rdL t_1.Rows i_10).Used), .int .u64 ((rdL t_1.Rows i_10).Seq), .int .i64 ((rdL t_1.Rows i_10).Reply.Err), .int .u64 ((rdL t_1.Rows i_10).Reply.Num), .int .u64 ((rdL t_1.Rows i_10).Reply.Extra)], _, rfl, rfl, rfl⟩) 40 _ (fun _ _ => rfl) (fun A_18 c_19 => ?_))
    refine GoO.guard (fun h20 => ?_)
    refine OpTo.go (GoO.appW (e := 100) (K := kT_tontineref15_Row) (A := A_8) (c := c_9) (tg := 41) (bytes := 48) (zs := [.int .u64 0, .int .u64 0, .int .u64 0, .int .i64 0, .int .u64 0, .int .u64 0]) (xs := l_7) (ys := [(⟨(rdL t_1.Rows i_10).Id, (rdL t_1.Rows i_10).Used, (rdL t_1.Rows i_10).Seq, (⟨(rdL t_1.Rows i_10).Reply.Err, (rdL t_1.Rows i_10).Reply.Num, (rdL t_1.Rows i_10).Reply.Extra⟩ : T_api_Reply)⟩ : T_tontineref15_Row)]) (xv := .slice A_18 [(⟨(rdL t_1.Rows i_10).Id, (rdL t_1.Rows i_10).Used, (rdL t_1.Rows i_10).Seq, (⟨(rdL t_1.Rows i_10).Reply.Err, (rdL t_1.Rows i_10).Reply.Num, (rdL t_1.Rows i_10).Reply.Extra⟩ : T_api_Reply)⟩ : T_tontineref15_Row)].length c_19) (j := 2) (bk := [0, 1]) rfl (by kernel_rfl) (by kernel_rfl) (by kernel_rfl) (by kernel_rfl) rfl (by kernel_rfl) rfl (fun w S hB => SrcIs.row (Reads.own w S (hB _ (List.mem_of_getElem? (i := 0) rfl)))) h20 rfl rfl rfl rfl _ (fun _ _ => rfl) (fun A_21 c_22 => ?_))
    refine GoO.exec (is := [10]) (hs := [.p]) (rest := []) (ks := [0, 1, 4, 5]) (env' := [(0, .pointer (some ⟨b_2, 0, none⟩)), (1, .int .u64 now_5), (4, .slice A_21 (l_7 ++ [(⟨(rdL t_1.Rows i_10).Id, (rdL t_1.Rows i_10).Used, (rdL t_1.Rows i_10).Seq, (⟨(rdL t_1.Rows i_10).Reply.Err, (rdL t_1.Rows i_10).Reply.Num, (rdL t_1.Rows i_10).Reply.Extra⟩ : T_api_Reply)⟩ : T_tontineref15_Row)]).length c_22), (5, .int .i64 i_10)]) (H' := [⟨1, b_2, [.int .u64 now_5, .int .u64 t_1.Next, .slice A_3 t_1.Rows.length c_4]⟩]) (ps := []) (by kernel_rfl) trivial ?_
    refine GoO.regionEnd ?_
    refine GoO.inBlock ?_
    refine GoO.region' (is := [0, 1, 2]) c44_28e (by kernel_rfl) ?_
    refine GoO.exec (is := [0, 1, 2]) (hs := [.p, .p, .p]) (rest := []) (ks := [0, 1, 4, 5]) (env' := [(0, .pointer (some ⟨b_2, 0, none⟩)), (1, .int .u64 now_5), (4, .slice A_21 (l_7 ++ [(⟨(rdL t_1.Rows i_10).Id, (rdL t_1.Rows i_10).Used, (rdL t_1.Rows i_10).Seq, (⟨(rdL t_1.Rows i_10).Reply.Err, (rdL t_1.Rows i_10).Reply.Num, (rdL t_1.Rows i_10).Reply.Extra⟩ : T_api_Reply)⟩ : T_tontineref15_Row)]).length c_22), (5, .int .i64 (wi64 (i_10 + 1)))]) (H' := [⟨1, b_2, [.int .u64 now_5, .int .u64 t_1.Next, .slice A_3 t_1.Rows.length c_4]⟩]) (ps := []) (by kernel_rfl) trivial ?_
    refine GoO.regionEnd ?_
    refine GoO.inLoop ?_
    exact GoO.sub (ks := [0, 1, 4, 5]) (hk := [0]) (bk := [2, 0]) (by kernel_rfl) (by kernel_rfl) (by kernel_rfl) (ih0 (l_7 ++ [(⟨(rdL t_1.Rows i_10).Id, (rdL t_1.Rows i_10).Used, (rdL t_1.Rows i_10).Seq, (⟨(rdL t_1.Rows i_10).Reply.Err, (rdL t_1.Rows i_10).Reply.Num, (rdL t_1.Rows i_10).Reply.Extra⟩ : T_api_Reply)⟩ : T_tontineref15_Row)]) (wi64 (i_10 + 1)) A_21 c_22)
  · refine GoO.skip' c44_27e ?_
    refine GoO.inBlock ?_
    refine GoO.region' (is := [0, 1, 2]) c44_28e (by kernel_rfl) ?_
    refine GoO.exec (is := [0, 1, 2]) (hs := [.p, .p, .p]) (rest := []) (ks := [0, 1, 4, 5]) (env' := [(0, .pointer (some ⟨b_2, 0, none⟩)), (1, .int .u64 now_5), (4, .slice A_8 l_7.length c_9), (5, .int .i64 (wi64 (i_10 + 1)))]) (H' := [⟨1, b_2, [.int .u64 now_5, .int .u64 t_1.Next, .slice A_3 t_1.Rows.length c_4]⟩]) (ps := []) (by kernel_rfl) trivial ?_
    refine GoO.regionEnd ?_
    refine GoO.inLoop ?_
    exact GoO.sub (ks := [0, 1, 4, 5]) (hk := [0]) (bk := [0, 1]) (by kernel_rfl) (by kernel_rfl) (by kernel_rfl) (ih0 l_7 (wi64 (i_10 + 1)) A_8 c_9)
theorem tontineref15_Table_Clock_l0_ok (n : Nat) (t_1 : T_tontineref15_Table) (now_5 : Int) (b_2 : Nat) (A_3 : Option Addr) (c_4 : Nat) (w0 : World) (S0 : Fam) :
    ∀ (k : Nat) (l_7 : (List T_tontineref15_Row)) (i_10 : Int) (A_8 : Option Addr) (c_9 : Nat), GoO (tontineref15_Table_Clock.cx b_2 A_3 c_4 w0 S0) [(0, .pointer (some ⟨b_2, 0, none⟩)), (1, .int .u64 now_5), (4, .slice A_8 l_7.length c_9), (5, .int .i64 i_10)] [⟨1, b_2, [.int .u64 now_5, .int .u64 t_1.Next, .slice A_3 t_1.Rows.length c_4]⟩] [Ow 2 kT_tontineref15_Row A_3 c_4 t_1.Rows, Ow 41 kT_tontineref15_Row A_8 c_9 l_7] [.code c44_15, .inLoop c44_15, .inBlock 0, .code c44_29] (tontineref15_Table_Clock.l0 n t_1 now_5 k l_7 i_10) := by
  intro k
  induction k with
  | zero => intros; rw [tontineref15_Table_Clock.l0.eq_1]; exact GoO.stop
  | succ k ih0 =>
    intro l_7 i_10 A_8 c_9
    rw [tontineref15_Table_Clock.l0.eq_2]
    refine GoO.seq' c44_15e ?_
    refine GoO.seq' c44_16e ?_
    refine GoO.region' (is := [0, 1, 2, 3, 4, 5, 6]) c44_17e (by kernel_rfl) ?_
    refine GoO.exec (is := [0, 1, 2, 3, 4, 5, 6]) (hs := [.p, .p, .p, .p, .b 0, .p, .p]) (rest := []) (ks := [0, 1, 4, 5, 22]) (env' := [(0, .pointer (some ⟨b_2, 0, none⟩)), (1, .int .u64 now_5), (4, .slice A_8 l_7.length c_9), (5, .int .i64 i_10), (22, .bool (decide (i_10 < (t_1.Rows.length : Int))))]) (H' := [⟨1, b_2, [.int .u64 now_5, .int .u64 t_1.Next, .slice A_3 t_1.Rows.length c_4]⟩]) (ps := [b_2 = b_2]) (by kernel_rfl) (And.intro rfl trivial) ?_
    refine GoO.regionEnd ?_
    refine GoO.ite' c44_18e (by kernel_rfl) (fun h11 => ?_) (fun h11 => ?_)
    · refine GoO.skip' c44_19e ?_
      refine GoO.seq' c44_21e ?_
      refine GoO.block' c44_22e ?_
      refine GoO.seq' c44_23e ?_
      refine GoO.region' (is := [0, 1, 2, 3, 4, 5, 6, 7, 8, 9, 10, 11, 12, 13, 14, 15, 16, 17, 18, 19, 20, 21, 22]) c44_24e (by kernel_rfl) ?_
      refine GoO.exec (is := [0, 1, 2, 3, 4]) (hs := [.p, .p, .p, .b 0, .p]) (rest := [5, 6, 7, 8, 9, 10, 11, 12, 13, 14, 15, 16, 17, 18, 19, 20, 21, 22]) (ks := [0, 1, 4, 5, 28, 29]) (env' := [(0, .pointer (some ⟨b_2, 0, none⟩)), (1, .int .u64 now_5), (4, .slice A_8 l_7.length c_9), (5, .int .i64 i_10), (28, .slice A_3 t_1.Rows.length c_4), (29, .int .i64 i_10)]) (H' := [⟨1, b_2, [.int .u64 now_5, .int .u64 t_1.Next, .slice A_3 t_1.Rows.length c_4]⟩]) (ps := [b_2 = b_2]) (by kernel_rfl) (And.intro rfl trivial) ?_
      refine GoO.guard (fun h12 => ?_)
      refine OpTo.go (GoO.idx (kk := .i64) (e := 100) (K := kT_tontineref15_Row) (A := A_3) (c := c_4) (xs := t_1.Rows) (iv := i_10) (j := 0) rfl (by kernel_rfl) (by kernel_rfl) (by kernel_rfl) (by kernel_rfl) rfl Reads.own rfl h12.1 h12.2 (by decide) rfl ?_)
      refine OpTo.go (GoO.fldE (K := kT_tontineref15_Row) (A := A_3) (c := c_4) (xs := t_1.Rows) (iN := i_10.toNat) (off := 0) (n := 1) (j := 0) rfl (by kernel_rfl) (by kernel_rfl) rfl Reads.own (by first | exact idx_lt h12.1 h12.2 | (simp only [List.length_set]; exact idx_lt h12.1 h12.2)) (by decide) rfl ?_)
      refine OpTo.go (GoO.ldE' (K := kT_tontineref15_Row) (A := A_3) (c := c_4) (xs := t_1.Rows) (iN := i_10.toNat) (off := 1) (j := 0) rfl (by kernel_rfl) rfl Reads.own (by first | exact idx_lt h12.1 h12.2 | (simp only [List.length_set]; exact idx_lt h12.1 h12.2)) (by decide) (Opn.flat _ _ _ _ _) (v := fun _ => .int .u64 ((rdL t_1.Rows i_10).Used)) (fun _ => by kernel_rfl) _ (fun _ => rfl) (fun _ => ?_))
      refine GoO.exec (is := [8, 9, 10, 11]) (hs := [.p, .p, .p, .p]) (rest := [12, 13, 14, 15, 16, 17, 18, 19, 20, 21, 22]) (ks := [0, 1, 4, 5, 36]) (env' := [(0, .pointer (some ⟨b_2, 0, none⟩)), (1, .int .u64 now_5), (4, .slice A_8 l_7.length c_9), (5, .int .i64 i_10), (36, .bool (decide ((wu64 (((rdL t_1.Rows i_10).Used) + 1000)) ≥ now_5)))]) (H' := [⟨1, b_2, [.int .u64 now_5, .int .u64 t_1.Next, .slice A_3 t_1.Rows.length c_4]⟩]) (ps := []) (by kernel_rfl) trivial ?_
      refine GoO.bsplit (t := 36) (by kernel_rfl) (fun h13 => ?_) (fun h13 => ?_)
      · refine GoO.exec (is := [12, 13, 14, 15, 16, 17, 18, 19, 20, 21, 22]) (hs := [.p, .p, .p, .p, .p, .p, .p, .p, .p, .p, .p]) (rest := []) (ks := [0, 1, 4, 5, 47]) (env' := [(0, .pointer (some ⟨b_2, 0, none⟩)), (1, .int .u64 now_5), (4, .slice A_8 l_7.length c_9), (5, .int .i64 i_10), (47, .bool true)]) (H' := [⟨1, b_2, [.int .u64 now_5, .int .u64 t_1.Next, .slice A_3 t_1.Rows.length c_4]⟩]) (ps := []) (by kernel_rfl) trivial ?_
        refine GoO.regionEnd ?_
        exact GoO.sub (ks := [0, 1, 4, 5, 47]) (hk := [0]) (bk := [0, 1]) (by kernel_rfl) (by kernel_rfl) (by kernel_rfl) (tontineref15_Table_Clock_j0_ok n (tontineref15_Table_Clock.l0 n t_1 now_5 k) t_1 now_5 l_7 i_10 b_2 A_3 c_4 A_8 c_9 w0 S0 ih0 true)
      · refine GoO.exec (is := [12, 13, 14, 15, 16]) (hs := [.p, .p, .p, .b 0, .p]) (rest := [17, 18, 19, 20, 21, 22]) (ks := [0, 1, 4, 5, 36, 40, 41]) (env' := [(0, .pointer (some ⟨b_2, 0, none⟩)), (1, .int .u64 now_5), (4, .slice A_8 l_7.length c_9), (5, .int .i64 i_10), (36, .bool false), (40, .slice A_3 t_1.Rows.length c_4), (41, .int .i64 i_10)]) (H' := [⟨1, b_2, [.int .u64 now_5, .int .u64 t_1.Next, .slice A_3 t_1.Rows.length c_4]⟩]) (ps := [b_2 = b_2]) (by kernel_rfl) (And.intro rfl trivial) ?_
        refine GoO.guard (fun h14 => ?_)
        refine OpTo.go (GoO.idx (kk := .i64) (e := 100) (K := kT_tontineref15_Row) (A := A_3) (c := c_4) (xs := t_1.Rows) (iv := i_10) (j := 0) rfl (by kernel_rfl) (by kernel_rfl) (by kernel_rfl) (by kernel_rfl) rfl Reads.own rfl h14.1 h14.2 (by decide) rfl ?_)
        refine OpTo.go (GoO.fldE (K := kT_tontineref15_Row) (A := A_3) (c := c_4) (xs := t_1.Rows) (iN := i_10.toNat) (off := 0) (n := 1) (j := 0) rfl (by kernel_rfl) (by kernel_rfl) rfl Reads.own (by first | exact idx_lt h14.1 h14.2 | (simp only [List.length_set]; exact idx_lt h14.1 h14.2)) (by decide) rfl ?_)
        refine OpTo.go (GoO.ldE' (K := kT_tontineref15_Row) (A := A_3) (c := c_4) (xs := t_1.Rows) (iN := i_10.toNat) (off := 1) (j := 0) rfl (by kernel_rfl) rfl Reads.own (by first | exact idx_lt h14.1 h14.2 | (simp only [List.length_set]; exact idx_lt h14.1 h14.2)) (by decide) (Opn.flat _ _ _ _ _) (v := fun _ => .int .u64 ((rdL t_1.Rows i_10).Used)) (fun _ => by kernel_rfl) _ (fun _ => rfl) (fun _ => ?_))
        refine GoO.exec (is := [20, 21, 22]) (hs := [.p, .p, .p]) (rest := []) (ks := [0, 1, 4, 5, 47]) (env' := [(0, .pointer (some ⟨b_2, 0, none⟩)), (1, .int .u64 now_5), (4, .slice A_8 l_7.length c_9), (5, .int .i64 i_10), (47, .bool (decide ((wu64 (((rdL t_1.Rows i_10).Used) + 1000)) < 1000)))]) (H' := [⟨1, b_2, [.int .u64 now_5, .int .u64 t_1.Next, .slice A_3 t_1.Rows.length c_4]⟩]) (ps := []) (by kernel_rfl) trivial ?_
        refine GoO.regionEnd ?_
        exact GoO.sub (ks := [0, 1, 4, 5, 47]) (hk := [0]) (bk := [0, 1]) (by kernel_rfl) (by kernel_rfl) (by kernel_rfl) (tontineref15_Table_Clock_j0_ok n (tontineref15_Table_Clock.l0 n t_1 now_5 k) t_1 now_5 l_7 i_10 b_2 A_3 c_4 A_8 c_9 w0 S0 ih0 (decide ((wu64 (((rdL t_1.Rows i_10).Used) + 1000)) < 1000)))
    · refine GoO.exit' c44_20e rfl ?_
      refine GoO.region' (is := [0, 1, 2, 3, 4]) c44_29e (by kernel_rfl) ?_
      refine GoO.exec (is := [0, 1, 2, 3, 4]) (hs := [.p, .p, .p, .p, .b 0]) (rest := []) (ks := []) (env' := []) (H' := [⟨1, b_2, [.int .u64 now_5, .int .u64 t_1.Next, .slice A_8 l_7.length c_9]⟩]) (ps := [b_2 = b_2]) (by kernel_rfl) (And.intro rfl trivial) ?_
      refine GoO.regionEnd ?_
      refine GoO.sub (ks := []) (env' := []) (hk := [0]) (bk := [1]) (by kernel_rfl) rfl rfl ?_
      refine GoO.retag (t := 41) (u := 2) (j := 0) (hk := [0]) (bk := []) rfl rfl rfl rfl rfl rfl (by kernel_rfl) (by kernel_rfl) ?_
      exact GoO.fin (hs := []) (ps := []) (hk := [0]) (bk := [0]) Try.func44 (⟨A_8, c_9⟩ : Option Addr × Nat) (by kernel_rfl) trivial (by kernel_rfl) (by kernel_rfl)
theorem tontineref15_Table_Clock_ok (n : Nat) (t_1 : T_tontineref15_Table) (now_5 : Int) (b_2 : Nat) (A_3 : Option Addr) (c_4 : Nat) :
    Meets Try.prog 44 [.pointer (some ⟨b_2, 0, none⟩), .int .u64 now_5] 2 [1, 2] [⟨1, b_2, [.int .u64 t_1.Now, .int .u64 t_1.Next, .slice A_3 t_1.Rows.length c_4]⟩] [Ow 2 kT_tontineref15_Row A_3 c_4 t_1.Rows] (tontineref15_Table_Clock.f n t_1 now_5) (tontineref15_Table_Clock.R b_2 A_3 c_4) := by
  refine Meets.of (c := c44_0) (n := 62) Try.func44 (by kernel_rfl) (by kernel_rfl) (by kernel_rfl) fun w0 S0 => ?_
  unfold tontineref15_Table_Clock.f
  show GoO (tontineref15_Table_Clock.cx b_2 A_3 c_4 w0 S0) [(0, .pointer (some ⟨b_2, 0, none⟩)), (1, .int .u64 now_5)] [⟨1, b_2, [.int .u64 t_1.Now, .int .u64 t_1.Next, .slice A_3 t_1.Rows.length c_4]⟩] [Ow 2 kT_tontineref15_Row A_3 c_4 t_1.Rows] [.code c44_0] _
  refine GoO.seq' c44_0e ?_
  refine GoO.seq' c44_1e ?_
  refine GoO.region' (is := [0, 1, 2, 3, 4, 5]) c44_2e (by kernel_rfl) ?_
  refine GoO.exec (is := [0, 1, 2, 3, 4, 5]) (hs := [.p, .p, .p, .p, .b 0, .p]) (rest := []) (ks := [0, 1, 11]) (env' := [(0, .pointer (some ⟨b_2, 0, none⟩)), (1, .int .u64 now_5), (11, .bool (decide (now_5 ≤ t_1.Now)))]) (H' := [⟨1, b_2, [.int .u64 t_1.Now, .int .u64 t_1.Next, .slice A_3 t_1.Rows.length c_4]⟩]) (ps := [b_2 = b_2]) (by kernel_rfl) (And.intro rfl trivial) ?_
  refine GoO.regionEnd ?_
  refine GoO.ite' c44_3e (by kernel_rfl) (fun h6 => ?_) (fun h6 => ?_)
  · exact GoO.ret' (h := c44_4e) (hs := []) (ps := []) (hk := [0]) (bk := [0]) Try.func44 (⟨A_3, c_4⟩ : Option Addr × Nat) (by kernel_rfl) trivial (by kernel_rfl) (by kernel_rfl)
  · refine GoO.skip' c44_5e ?_
    refine GoO.seq' c44_6e ?_
    refine GoO.region' (is := [0, 1, 2, 3, 4]) c44_7e (by kernel_rfl) ?_
    refine GoO.exec (is := [0, 1, 2, 3, 4]) (hs := [.p, .p, .p, .p, .b 0]) (rest := []) (ks := [0, 1]) (env' := [(0, .pointer (some ⟨b_2, 0, none⟩)), (1, .int .u64 now_5)]) (H' := [⟨1, b_2, [.int .u64 now_5, .int .u64 t_1.Next, .slice A_3 t_1.Rows.length c_4]⟩]) (ps := [b_2 = b_2]) (by kernel_rfl) (And.intro rfl trivial) ?_
    refine GoO.regionEnd ?_
    refine GoO.seq' c44_8e ?_
    refine GoO.region' (is := [0]) c44_9e (by kernel_rfl) ?_
    refine GoO.exec (is := [0]) (hs := [.p]) (rest := []) (ks := [0, 1, 4]) (env' := [(0, .pointer (some ⟨b_2, 0, none⟩)), (1, .int .u64 now_5), (4, .slice none ([] : List T_tontineref15_Row).length 0)]) (H' := [⟨1, b_2, [.int .u64 now_5, .int .u64 t_1.Next, .slice A_3 t_1.Rows.length c_4]⟩]) (ps := []) (by kernel_rfl) trivial ?_
    refine GoO.regionEnd ?_
    refine GoO.seq' c44_10e ?_
    refine GoO.seq' c44_11e ?_
    refine GoO.region' (is := [0]) c44_12e (by kernel_rfl) ?_
    refine GoO.exec (is := [0]) (hs := [.p]) (rest := []) (ks := [0, 1, 4, 5]) (env' := [(0, .pointer (some ⟨b_2, 0, none⟩)), (1, .int .u64 now_5), (4, .slice none ([] : List T_tontineref15_Row).length 0), (5, .int .i64 0)]) (H' := [⟨1, b_2, [.int .u64 now_5, .int .u64 t_1.Next, .slice A_3 t_1.Rows.length c_4]⟩]) (ps := []) (by kernel_rfl) trivial ?_
    refine GoO.regionEnd ?_
    refine GoO.block' c44_13e ?_
    refine GoO.loop' c44_14e ?_
    refine GoO.nilOwn kT_tontineref15_Row 41 ?_
    exact GoO.sub (ks := [0, 1, 4, 5]) (hk := [0]) (bk := [1, 0]) (by kernel_rfl) (by kernel_rfl) (by kernel_rfl) (tontineref15_Table_Clock_l0_ok n t_1 now_5 b_2 A_3 c_4 w0 S0 n ([] : List T_tontineref15_Row) 0 none 0)

/-! (*tontine/tontineref15.Table).Register -/
noncomputable def c45_0 : Code := bodyOf Try.f45
noncomputable def c45_1 : Code := cdL c45_0
noncomputable def c45_2 : Code := cdR c45_0
noncomputable def c45_3 : Code := cdL c45_2
noncomputable def c45_4 : Code := cdL c45_3
noncomputable def c45_5 : Code := cdR c45_3
noncomputable def c45_6 : Code := cdL c45_5
noncomputable def c45_7 : Code := cdL c45_6
noncomputable def c45_8 : Code := cdR c45_6
noncomputable def c45_9 : Code := cdR c45_5
noncomputable def c45_10 : Code := cdR c45_2
noncomputable def c45_11 : Code := cdL c45_10
noncomputable def c45_12 : Code := cdR c45_10
noncomputable def c45_13 : Code := cdL c45_12
noncomputable def c45_14 : Code := cdR c45_12
noncomputable def c45_15 : Code := cdL c45_14
noncomputable def c45_16 : Code := cdR c45_14
noncomputable def r45_1 : Array Oper := cdO c45_1
noncomputable def r45_4 : Array Oper := cdO c45_4
noncomputable def r45_7 : Array Oper := cdO c45_7
noncomputable def r45_11 : Array Oper := cdO c45_11
noncomputable def r45_13 : Array Oper := cdO c45_13
noncomputable def r45_15 : Array Oper := cdO c45_15
theorem c45_0e : c45_0 = .seq c45_1 c45_2 := by kernel_rfl
theorem c45_1e : c45_1 = .region 0 r45_1 false := by kernel_rfl
theorem c45_2e : c45_2 = .seq c45_3 c45_10 := by kernel_rfl
theorem c45_3e : c45_3 = .seq c45_4 c45_5 := by kernel_rfl
theorem c45_4e : c45_4 = .region 1 r45_4 false := by kernel_rfl
theorem c45_5e : c45_5 = .cond (cdC c45_5) c45_6 c45_9 := by kernel_rfl
theorem c45_6e : c45_6 = .seq c45_7 c45_8 := by kernel_rfl
theorem c45_7e : c45_7 = .region 2 r45_7 false := by kernel_rfl
theorem c45_8e : c45_8 = .ret := by kernel_rfl
theorem c45_9e : c45_9 = .skip := by kernel_rfl
theorem c45_10e : c45_10 = .seq c45_11 c45_12 := by kernel_rfl
theorem c45_11e : c45_11 = .region 3 r45_11 true := by kernel_rfl
theorem c45_12e : c45_12 = .seq c45_13 c45_14 := by kernel_rfl
theorem c45_13e : c45_13 = .region 4 r45_13 false := by kernel_rfl
theorem c45_14e : c45_14 = .seq c45_15 c45_16 := by kernel_rfl
theorem c45_15e : c45_15 = .region 5 r45_15 false := by kernel_rfl
theorem c45_16e : c45_16 = .ret := by kernel_rfl
noncomputable def tontineref15_Table_Register.R (b_2 : Nat) (A_3 : Option Addr) (c_4 : Nat) : Pst (Int × Int × T_tontineref15_Table) where
  ε := Option Addr × Nat
  v := fun r x => .tuple ⟨[.int .u64 r.1, .int .i64 r.2.1]⟩
  H := fun r x => [⟨1, b_2, [.int .u64 r.2.2.Now, .int .u64 r.2.2.Next, .slice x.1 r.2.2.Rows.length x.2]⟩]
  B := fun r x => [Ow 2 kT_tontineref15_Row x.1 x.2 r.2.2.Rows]
noncomputable def tontineref15_Table_Register.cx (b_2 : Nat) (A_3 : Option Addr) (c_4 : Nat) (w0 : World) (S0 : Fam) : Cx (Int × Int × T_tontineref15_Table) := ⟨Try.prog, 45, Try.f45, 48, w0, S0, [1, 2], 2, tontineref15_Table_Register.R b_2 A_3 c_4⟩
theorem tontineref15_Table_Register_j0_ok (n : Nat) (t_1 : T_tontineref15_Table) (b_2 : Nat) (A_3 : Option Addr) (c_4 : Nat) (w0 : World) (S0 : Fam) (b_6 : Bool) :
    GoO (tontineref15_Table_Register.cx b_2 A_3 c_4 w0 S0) [(0, .pointer (some ⟨b_2, 0, none⟩)), (17, .bool b_6)] [⟨1, b_2, [.int .u64 t_1.Now, .int .u64 t_1.Next, .slice A_3 t_1.Rows.length c_4]⟩] [Ow 2 kT_tontineref15_Row A_3 c_4 t_1.Rows] [.code c45_5, .code c45_10] (tontineref15_Table_Register.j0 n t_1 b_6) := by
  unfold tontineref15_Table_Register.j0
  refine GoO.ite' c45_5e (by kernel_rfl) (fun h7 => ?_) (fun h7 => ?_)
  · refine GoO.seq' c45_6e ?_
    refine GoO.region' (is := [0, 1]) c45_7e (by kernel_rfl) ?_
    refine GoO.exec (is := [0, 1]) (hs := [.p, .p]) (rest := []) (ks := [2, 3]) (env' := [(2, .int .u64 0), (3, .int .i64 11)]) (H' := [⟨1, b_2, [.int .u64 t_1.Now, .int .u64 t_1.Next, .slice A_3 t_1.Rows.length c_4]⟩]) (ps := []) (by kernel_rfl) trivial ?_
    refine GoO.regionEnd ?_
    exact GoO.ret' (h := c45_8e) (hs := []) (ps := []) (hk := [0]) (bk := [0]) Try.func45 (⟨A_3, c_4⟩ : Option Addr × Nat) (by kernel_rfl) trivial (by kernel_rfl) (by kernel_rfl)
  · refine GoO.skip' c45_9e ?_
    refine GoO.seq' c45_10e ?_
    refine GoO.draw c45_11e (by kernel_rfl) [16, 17, 18] [⟨1, b_2, [.int .u64 t_1.Now, .int .u64 t_1.Next, .slice A_3 t_1.Rows.length c_4]⟩] [] (n := 19) (by kernel_rfl) ?_
    simp only [List.replicate]
    refine GoF.take [0, 1, 2, 3, 4, 5, 6, 7, 8, 9, 10, 11, 12, 13] [.p, .p, .p, .p, .b 0, .p, .p, .p, .b 0, .p, .p, .p, .b 0, .p] (ks := [0, 18, 22, 31]) (fu := 5) (li := [true, true, true, true, true, true, true, true, true, true, true, true, true, true, false, false, false, false, false]) (env' := [(0, .pointer (some ⟨b_2, 0, none⟩)), (18, .pointer (some ⟨b_2, 0, none⟩)), (22, .slice A_3 t_1.Rows.length c_4), (31, .agg ⟨[.int .u64 t_1.Next, .int .u64 t_1.Now, .int .u64 0, .int .i64 0, .int .u64 0, .int .u64 0]⟩)]) (ps := [b_2 = b_2, b_2 = b_2, b_2 = b_2]) (hk := [0]) (bk := []) (by kernel_rfl) (And.intro rfl (And.intro rfl (And.intro rfl trivial))) rfl rfl ?_
    refine OpTo.goF (i := 14) (by kernel_rfl) (hk := [0]) (bk := []) (GoO.lit (e := 100) (K := kT_tontineref15_Row) rfl (by kernel_rfl) (by kernel_rfl) (cs := [.int .u64 t_1.Next, .int .u64 t_1.Now, .int .u64 0, .int .i64 0, .int .u64 0, .int .u64 0]) (by kernel_rfl) [(⟨t_1.Next, t_1.Now, 0, (⟨0, 0, 0⟩ : T_api_Reply)⟩ : T_tontineref15_Row)] (by kernel_rfl) (by kernel_rfl) (fun w S hB => ⟨[.int .u64 t_1.Next, .int .u64 t_1.Now, .int .u64 0, .int .i64 0, .int .u64 0, .int .u64 0], _, rfl, rfl, rfl⟩) 40 _ (fun _ _ => rfl) (fun A_8 c_9 => ⟨rfl, rfl, ?_⟩))
    refine GoF.guard (fun h10 => ?_)
    refine OpTo.goF (i := 15) (by kernel_rfl) (hk := [0]) (bk := []) (GoO.appW (e := 100) (K := kT_tontineref15_Row) (A := A_3) (c := c_4) (tg := 2) (bytes := 48) (zs := [.int .u64 0, .int .u64 0, .int .u64 0, .int .i64 0, .int .u64 0, .int .u64 0]) (xs := t_1.Rows) (ys := [(⟨t_1.Next, t_1.Now, 0, (⟨0, 0, 0⟩ : T_api_Reply)⟩ : T_tontineref15_Row)]) (xv := .slice A_8 [(⟨t_1.Next, t_1.Now, 0, (⟨0, 0, 0⟩ : T_api_Reply)⟩ : T_tontineref15_Row)].length c_9) (j := 1) (bk := [0]) rfl (by kernel_rfl) (by kernel_rfl) (by kernel_rfl) (by kernel_rfl) rfl (by kernel_rfl) rfl (fun w S hB => SrcIs.row (Reads.own w S (hB _ (List.mem_of_getElem? (i := 0) rfl)))) h10 rfl rfl rfl rfl _ (fun _ _ => rfl) (fun A_11 c_12 => ⟨rfl, rfl, ?_⟩))
    refine GoF.fin1 (i := 16) (hint := .p) (ps := []) (hk := []) (bk := []) (by kernel_rfl) rfl trivial (.inl rfl) ?_
    refine GoF.fin1 (i := 17) (hint := .p) (ps := []) (hk := []) (bk := []) (by kernel_rfl) rfl trivial (.inl rfl) ?_
    refine GoF.fin1 (i := 18) (hint := .b 0) (ps := [b_2 = b_2]) (hk := []) (bk := []) (by kernel_rfl) rfl (And.intro rfl trivial) (.inl rfl) ?_
    refine GoF.done (by kernel_rfl) ?_
    refine GoO.seq' c45_12e ?_
    refine GoO.region' (is := [0, 1, 2, 3, 4, 5, 6, 7]) c45_13e (by kernel_rfl) ?_
    refine GoO.exec (is := [0, 1, 2, 3, 4, 5, 6, 7]) (hs := [.p, .p, .p, .b 0, .p, .p, .p, .b 0]) (rest := []) (ks := [0]) (env' := [(0, .pointer (some ⟨b_2, 0, none⟩))]) (H' := [⟨1, b_2, [.int .u64 t_1.Now, .int .u64 (wu64 (t_1.Next + 1)), .slice A_11 (t_1.Rows ++ [(⟨t_1.Next, t_1.Now, 0, (⟨0, 0, 0⟩ : T_api_Reply)⟩ : T_tontineref15_Row)]).length c_12]⟩]) (ps := [b_2 = b_2, b_2 = b_2]) (by kernel_rfl) (And.intro rfl (And.intro rfl trivial)) ?_
    refine GoO.regionEnd ?_
    refine GoO.seq' c45_14e ?_
    refine GoO.region' (is := [0, 1, 2, 3, 4, 5, 6]) c45_15e (by kernel_rfl) ?_
    refine GoO.exec (is := [0, 1, 2, 3, 4, 5, 6]) (hs := [.p, .p, .p, .b 0, .p, .p, .p]) (rest := []) (ks := [2, 3]) (env' := [(2, .int .u64 (wu64 ((wu64 (t_1.Next + 1)) - 1))), (3, .int .i64 0)]) (H' := [⟨1, b_2, [.int .u64 t_1.Now, .int .u64 (wu64 (t_1.Next + 1)), .slice A_11 (t_1.Rows ++ [(⟨t_1.Next, t_1.Now, 0, (⟨0, 0, 0⟩ : T_api_Reply)⟩ : T_tontineref15_Row)]).length c_12]⟩]) (ps := [b_2 = b_2]) (by kernel_rfl) (And.intro rfl trivial) ?_
    refine GoO.regionEnd ?_
    exact GoO.ret' (h := c45_16e) (hs := []) (ps := []) (hk := [0]) (bk := [0]) Try.func45 (⟨A_11, c_12⟩ : Option Addr × Nat) (by kernel_rfl) trivial (by kernel_rfl) (by kernel_rfl)
theorem tontineref15_Table_Register_ok (n : Nat) (t_1 : T_tontineref15_Table) (b_2 : Nat) (A_3 : Option Addr) (c_4 : Nat) :
    Meets Try.prog 45 [.pointer (some ⟨b_2, 0, none⟩)] 2 [1, 2] [⟨1, b_2, [.int .u64 t_1.Now, .int .u64 t_1.Next, .slice A_3 t_1.Rows.length c_4]⟩] [Ow 2 kT_tontineref15_Row A_3 c_4 t_1.Rows] (tontineref15_Table_Register.f n t_1) (tontineref15_Table_Register.R b_2 A_3 c_4) := by
  refine Meets.of (c := c45_0) (n := 48) Try.func45 (by kernel_rfl) (by kernel_rfl) (by kernel_rfl) fun w0 S0 => ?_
  unfold tontineref15_Table_Register.f
  show GoO (tontineref15_Table_Register.cx b_2 A_3 c_4 w0 S0) [(0, .pointer (some ⟨b_2, 0, none⟩))] [⟨1, b_2, [.int .u64 t_1.Now, .int .u64 t_1.Next, .slice A_3 t_1.Rows.length c_4]⟩] [Ow 2 kT_tontineref15_Row A_3 c_4 t_1.Rows] [.code c45_0] _
  refine GoO.seq' c45_0e ?_
  refine GoO.region' (is := [0, 1]) c45_1e (by kernel_rfl) ?_
  refine GoO.exec (is := [0, 1]) (hs := [.p, .p]) (rest := []) (ks := [0]) (env' := [(0, .pointer (some ⟨b_2, 0, none⟩))]) (H' := [⟨1, b_2, [.int .u64 t_1.Now, .int .u64 t_1.Next, .slice A_3 t_1.Rows.length c_4]⟩]) (ps := []) (by kernel_rfl) trivial ?_
  refine GoO.regionEnd ?_
  refine GoO.seq' c45_2e ?_
  refine GoO.seq' c45_3e ?_
  refine GoO.region' (is := [0, 1, 2, 3, 4, 5, 6, 7, 8, 9, 10, 11, 12, 13]) c45_4e (by kernel_rfl) ?_
  refine GoO.exec (is := [0, 1, 2, 3, 4, 5, 6]) (hs := [.p, .p, .p, .b 0, .p, .p, .p]) (rest := [7, 8, 9, 10, 11, 12, 13]) (ks := [0, 10]) (env' := [(0, .pointer (some ⟨b_2, 0, none⟩)), (10, .bool ((t_1.Rows.length : Int) == 16))]) (H' := [⟨1, b_2, [.int .u64 t_1.Now, .int .u64 t_1.Next, .slice A_3 t_1.Rows.length c_4]⟩]) (ps := [b_2 = b_2]) (by kernel_rfl) (And.intro rfl trivial) ?_
  refine GoO.bsplit (t := 10) (by kernel_rfl) (fun h5 => ?_) (fun h5 => ?_)
  · refine GoO.exec (is := [7, 8, 9, 10, 11, 12, 13]) (hs := [.p, .p, .p, .p, .p, .p, .p]) (rest := []) (ks := [0, 17]) (env' := [(0, .pointer (some ⟨b_2, 0, none⟩)), (17, .bool true)]) (H' := [⟨1, b_2, [.int .u64 t_1.Now, .int .u64 t_1.Next, .slice A_3 t_1.Rows.length c_4]⟩]) (ps := []) (by kernel_rfl) trivial ?_
    refine GoO.regionEnd ?_
    exact GoO.sub (ks := [0, 17]) (hk := [0]) (bk := [0]) (by kernel_rfl) (by kernel_rfl) (by kernel_rfl) (tontineref15_Table_Register_j0_ok n t_1 b_2 A_3 c_4 w0 S0 true)
  · refine GoO.exec (is := [7, 8, 9, 10, 11, 12, 13]) (hs := [.p, .p, .p, .b 0, .p, .p, .p]) (rest := []) (ks := [0, 17]) (env' := [(0, .pointer (some ⟨b_2, 0, none⟩)), (17, .bool ((wu64 (t_1.Next + 1)) == 0))]) (H' := [⟨1, b_2, [.int .u64 t_1.Now, .int .u64 t_1.Next, .slice A_3 t_1.Rows.length c_4]⟩]) (ps := [b_2 = b_2]) (by kernel_rfl) (And.intro rfl trivial) ?_
    refine GoO.regionEnd ?_
    exact GoO.sub (ks := [0, 17]) (hk := [0]) (bk := [0]) (by kernel_rfl) (by kernel_rfl) (by kernel_rfl) (tontineref15_Table_Register_j0_ok n t_1 b_2 A_3 c_4 w0 S0 ((wu64 (t_1.Next + 1)) == 0))

/-! (*tontine/tontineref15.Table).find -/
noncomputable def c58_0 : Code := bodyOf Try.f58
noncomputable def c58_1 : Code := cdL c58_0
noncomputable def c58_2 : Code := cdR c58_0
noncomputable def c58_3 : Code := cdL c58_2
noncomputable def c58_4 : Code := cdL c58_3
noncomputable def c58_5 : Code := cdR c58_3
noncomputable def c58_6 : Code := cdL c58_5
noncomputable def c58_7 : Code := cdL c58_6
noncomputable def c58_8 : Code := cdL c58_7
noncomputable def c58_9 : Code := cdL c58_8
noncomputable def c58_10 : Code := cdR c58_8
noncomputable def c58_11 : Code := cdL c58_10
noncomputable def c58_12 : Code := cdR c58_10
noncomputable def c58_13 : Code := cdR c58_7
noncomputable def c58_14 : Code := cdL c58_13
noncomputable def c58_15 : Code := cdL c58_14
noncomputable def c58_16 : Code := cdL c58_15
noncomputable def c58_17 : Code := cdR c58_15
noncomputable def c58_18 : Code := cdL c58_17
noncomputable def c58_19 : Code := cdL c58_18
noncomputable def c58_20 : Code := cdR c58_18
noncomputable def c58_21 : Code := cdR c58_17
noncomputable def c58_22 : Code := cdR c58_13
noncomputable def c58_23 : Code := cdR c58_2
noncomputable def c58_24 : Code := cdL c58_23
noncomputable def c58_25 : Code := cdR c58_23
noncomputable def r58_1 : Array Oper := cdO c58_1
noncomputable def r58_4 : Array Oper := cdO c58_4
noncomputable def r58_9 : Array Oper := cdO c58_9
noncomputable def r58_16 : Array Oper := cdO c58_16
noncomputable def r58_19 : Array Oper := cdO c58_19
noncomputable def r58_22 : Array Oper := cdO c58_22
noncomputable def r58_24 : Array Oper := cdO c58_24
theorem c58_0e : c58_0 = .seq c58_1 c58_2 := by kernel_rfl
theorem c58_1e : c58_1 = .region 0 r58_1 false := by kernel_rfl
theorem c58_2e : c58_2 = .seq c58_3 c58_23 := by kernel_rfl
theorem c58_3e : c58_3 = .seq c58_4 c58_5 := by kernel_rfl
theorem c58_4e : c58_4 = .region 1 r58_4 false := by kernel_rfl
theorem c58_5e : c58_5 = .block 0 c58_6 := by kernel_rfl
theorem c58_6e : c58_6 = .loop c58_7 := by kernel_rfl
theorem c58_7e : c58_7 = .seq c58_8 c58_13 := by kernel_rfl
theorem c58_8e : c58_8 = .seq c58_9 c58_10 := by kernel_rfl
theorem c58_9e : c58_9 = .region 2 r58_9 false := by kernel_rfl
theorem c58_10e : c58_10 = .cond (cdC c58_10) c58_11 c58_12 := by kernel_rfl
theorem c58_11e : c58_11 = .skip := by kernel_rfl
theorem c58_12e : c58_12 = .exit 0 := by kernel_rfl
theorem c58_13e : c58_13 = .seq c58_14 c58_22 := by kernel_rfl
theorem c58_14e : c58_14 = .block 1 c58_15 := by kernel_rfl
theorem c58_15e : c58_15 = .seq c58_16 c58_17 := by kernel_rfl
theorem c58_16e : c58_16 = .region 4 r58_16 false := by kernel_rfl
theorem c58_17e : c58_17 = .cond (cdC c58_17) c58_18 c58_21 := by kernel_rfl
theorem c58_18e : c58_18 = .seq c58_19 c58_20 := by kernel_rfl
theorem c58_19e : c58_19 = .region 5 r58_19 false := by kernel_rfl
theorem c58_20e : c58_20 = .ret := by kernel_rfl
theorem c58_21e : c58_21 = .skip := by kernel_rfl
theorem c58_22e : c58_22 = .region 3 r58_22 false := by kernel_rfl
theorem c58_23e : c58_23 = .seq c58_24 c58_25 := by kernel_rfl
theorem c58_24e : c58_24 = .region 6 r58_24 false := by kernel_rfl
theorem c58_25e : c58_25 = .ret := by kernel_rfl
noncomputable def tontineref15_Table_find.R (b_2 : Nat) (A_3 : Option Addr) (c_4 : Nat) : Pst Int where
  ε := Unit
  v := fun r x => .int .i64 r
  H := fun r x => []
  B := fun r x => []
noncomputable def tontineref15_Table_find.cx (b_2 : Nat) (A_3 : Option Addr) (c_4 : Nat) (w0 : World) (S0 : Fam) : Cx Int := ⟨Try.prog, 58, Try.f58, 26, w0, S0, [], 2, tontineref15_Table_find.R b_2 A_3 c_4⟩
theorem tontineref15_Table_find_l0_ok (n : Nat) (t_1 : T_tontineref15_Table) (id_5 : Int) (b_2 : Nat) (A_3 : Option Addr) (c_4 : Nat) (w0 : World) (S0 : Fam) :
    ∀ (k : Nat) (i_6 : Int), GoO (tontineref15_Table_find.cx b_2 A_3 c_4 w0 S0) [(0, .pointer (some ⟨b_2, 0, none⟩)), (1, .int .u64 id_5), (5, .int .i64 i_6)] [⟨1, b_2, [.int .u64 t_1.Now, .int .u64 t_1.Next, .slice A_3 t_1.Rows.length c_4]⟩] [Ow 2 kT_tontineref15_Row A_3 c_4 t_1.Rows] [.code c58_7, .inLoop c58_7, .inBlock 0, .code c58_23] (tontineref15_Table_find.l0 n t_1 id_5 k i_6) := by
  intro k
  induction k with
  | zero => intros; rw [tontineref15_Table_find.l0.eq_1]; exact GoO.stop
  | succ k ih0 =>
    intro i_6
    rw [tontineref15_Table_find.l0.eq_2]
    refine GoO.seq' c58_7e ?_
    refine GoO.seq' c58_8e ?_
    refine GoO.region' (is := [0, 1, 2, 3, 4, 5, 6]) c58_9e (by kernel_rfl) ?_
    refine GoO.exec (is := [0, 1, 2, 3, 4, 5, 6]) (hs := [.p, .p, .p, .p, .b 0, .p, .p]) (rest := []) (ks := [0, 1, 5, 12]) (env' := [(0, .pointer (some ⟨b_2, 0, none⟩)), (1, .int .u64 id_5), (5, .int .i64 i_6), (12, .bool (decide (i_6 < (t_1.Rows.length : Int))))]) (H' := [⟨1, b_2, [.int .u64 t_1.Now, .int .u64 t_1.Next, .slice A_3 t_1.Rows.length c_4]⟩]) (ps := [b_2 = b_2]) (by kernel_rfl) (And.intro rfl trivial) ?_
    refine GoO.regionEnd ?_
    refine GoO.ite' c58_10e (by kernel_rfl) (fun h7 => ?_) (fun h7 => ?_)
    · refine GoO.skip' c58_11e ?_
      refine GoO.seq' c58_13e ?_
      refine GoO.block' c58_14e ?_
      refine GoO.seq' c58_15e ?_
      refine GoO.region' (is := [0, 1, 2, 3, 4, 5, 6, 7, 8, 9]) c58_16e (by kernel_rfl) ?_
      refine GoO.exec (is := [0, 1, 2, 3, 4]) (hs := [.p, .p, .p, .b 0, .p]) (rest := [5, 6, 7, 8, 9]) (ks := [0, 1, 5, 18, 19]) (env' := [(0, .pointer (some ⟨b_2, 0, none⟩)), (1, .int .u64 id_5), (5, .int .i64 i_6), (18, .slice A_3 t_1.Rows.length c_4), (19, .int .i64 i_6)]) (H' := [⟨1, b_2, [.int .u64 t_1.Now, .int .u64 t_1.Next, .slice A_3 t_1.Rows.length c_4]⟩]) (ps := [b_2 = b_2]) (by kernel_rfl) (And.intro rfl trivial) ?_
      refine GoO.guard (fun h8 => ?_)
      refine OpTo.go (GoO.idx (kk := .i64) (e := 100) (K := kT_tontineref15_Row) (A := A_3) (c := c_4) (xs := t_1.Rows) (iv := i_6) (j := 0) rfl (by kernel_rfl) (by kernel_rfl) (by kernel_rfl) (by kernel_rfl) rfl Reads.own rfl h8.1 h8.2 (by decide) rfl ?_)
      refine OpTo.go (GoO.fldE (K := kT_tontineref15_Row) (A := A_3) (c := c_4) (xs := t_1.Rows) (iN := i_6.toNat) (off := 0) (n := 0) (j := 0) rfl (by kernel_rfl) (by kernel_rfl) rfl Reads.own (by first | exact idx_lt h8.1 h8.2 | (simp only [List.length_set]; exact idx_lt h8.1 h8.2)) (by decide) rfl ?_)
      refine OpTo.go (GoO.ldE' (K := kT_tontineref15_Row) (A := A_3) (c := c_4) (xs := t_1.Rows) (iN := i_6.toNat) (off := 0) (j := 0) rfl (by kernel_rfl) rfl Reads.own (by first | exact idx_lt h8.1 h8.2 | (simp only [List.length_set]; exact idx_lt h8.1 h8.2)) (by decide) (Opn.flat _ _ _ _ _) (v := fun _ => .int .u64 ((rdL t_1.Rows i_6).Id)) (fun _ => by kernel_rfl) _ (fun _ => rfl) (fun _ => ?_))
      refine GoO.exec (is := [8, 9]) (hs := [.p, .p]) (rest := []) (ks := [0, 1, 5, 24]) (env' := [(0, .pointer (some ⟨b_2, 0, none⟩)), (1, .int .u64 id_5), (5, .int .i64 i_6), (24, .bool (((rdL t_1.Rows i_6).Id) == id_5))]) (H' := [⟨1, b_2, [.int .u64 t_1.Now, .int .u64 t_1.Next, .slice A_3 t_1.Rows.length c_4]⟩]) (ps := []) (by kernel_rfl) trivial ?_
      refine GoO.regionEnd ?_
      refine GoO.ite' c58_17e (by kernel_rfl) (fun h9 => ?_) (fun h9 => ?_)
      · refine GoO.seq' c58_18e ?_
        refine GoO.region' (is := [0, 1]) c58_19e (by kernel_rfl) ?_
        refine GoO.exec (is := [0, 1]) (hs := [.p, .p]) (rest := []) (ks := [4]) (env' := [(4, .int .i64 i_6)]) (H' := [⟨1, b_2, [.int .u64 t_1.Now, .int .u64 t_1.Next, .slice A_3 t_1.Rows.length c_4]⟩]) (ps := []) (by kernel_rfl) trivial ?_
        refine GoO.regionEnd ?_
        exact GoO.ret' (h := c58_20e) (hs := []) (ps := []) (hk := []) (bk := []) Try.func58 () (by kernel_rfl) trivial (by kernel_rfl) (by kernel_rfl)
      · refine GoO.skip' c58_21e ?_
        refine GoO.inBlock ?_
        refine GoO.region' (is := [0, 1, 2]) c58_22e (by kernel_rfl) ?_
        refine GoO.exec (is := [0, 1, 2]) (hs := [.p, .p, .p]) (rest := []) (ks := [0, 1, 5]) (env' := [(0, .pointer (some ⟨b_2, 0, none⟩)), (1, .int .u64 id_5), (5, .int .i64 (wi64 (i_6 + 1)))]) (H' := [⟨1, b_2, [.int .u64 t_1.Now, .int .u64 t_1.Next, .slice A_3 t_1.Rows.length c_4]⟩]) (ps := []) (by kernel_rfl) trivial ?_
        refine GoO.regionEnd ?_
        refine GoO.inLoop ?_
        exact GoO.sub (ks := [0, 1, 5]) (hk := [0]) (bk := [0]) (by kernel_rfl) (by kernel_rfl) (by kernel_rfl) (ih0 (wi64 (i_6 + 1)))
    · refine GoO.exit' c58_12e rfl ?_
      refine GoO.seq' c58_23e ?_
      refine GoO.region' (is := [0]) c58_24e (by kernel_rfl) ?_
      refine GoO.exec (is := [0]) (hs := [.p]) (rest := []) (ks := [4]) (env' := [(4, .int .i64 (-1))]) (H' := [⟨1, b_2, [.int .u64 t_1.Now, .int .u64 t_1.Next, .slice A_3 t_1.Rows.length c_4]⟩]) (ps := []) (by kernel_rfl) trivial ?_
      refine GoO.regionEnd ?_
      exact GoO.ret' (h := c58_25e) (hs := []) (ps := []) (hk := []) (bk := []) Try.func58 () (by kernel_rfl) trivial (by kernel_rfl) (by kernel_rfl)
theorem tontineref15_Table_find_ok (n : Nat) (t_1 : T_tontineref15_Table) (id_5 : Int) (b_2 : Nat) (A_3 : Option Addr) (c_4 : Nat) :
    Meets Try.prog 58 [.pointer (some ⟨b_2, 0, none⟩), .int .u64 id_5] 2 [] [⟨1, b_2, [.int .u64 t_1.Now, .int .u64 t_1.Next, .slice A_3 t_1.Rows.length c_4]⟩] [Ow 2 kT_tontineref15_Row A_3 c_4 t_1.Rows] (tontineref15_Table_find.f n t_1 id_5) (tontineref15_Table_find.R b_2 A_3 c_4) := by
  refine Meets.of (c := c58_0) (n := 26) Try.func58 (by kernel_rfl) (by kernel_rfl) (by kernel_rfl) fun w0 S0 => ?_
  unfold tontineref15_Table_find.f
  show GoO (tontineref15_Table_find.cx b_2 A_3 c_4 w0 S0) [(0, .pointer (some ⟨b_2, 0, none⟩)), (1, .int .u64 id_5)] [⟨1, b_2, [.int .u64 t_1.Now, .int .u64 t_1.Next, .slice A_3 t_1.Rows.length c_4]⟩] [Ow 2 kT_tontineref15_Row A_3 c_4 t_1.Rows] [.code c58_0] _
  refine GoO.seq' c58_0e ?_
  refine GoO.region' (is := [0]) c58_1e (by kernel_rfl) ?_
  refine GoO.exec (is := [0]) (hs := [.p]) (rest := []) (ks := [0, 1]) (env' := [(0, .pointer (some ⟨b_2, 0, none⟩)), (1, .int .u64 id_5)]) (H' := [⟨1, b_2, [.int .u64 t_1.Now, .int .u64 t_1.Next, .slice A_3 t_1.Rows.length c_4]⟩]) (ps := []) (by kernel_rfl) trivial ?_
  refine GoO.regionEnd ?_
  refine GoO.seq' c58_2e ?_
  refine GoO.seq' c58_3e ?_
  refine GoO.region' (is := [0]) c58_4e (by kernel_rfl) ?_
  refine GoO.exec (is := [0]) (hs := [.p]) (rest := []) (ks := [0, 1, 5]) (env' := [(0, .pointer (some ⟨b_2, 0, none⟩)), (1, .int .u64 id_5), (5, .int .i64 0)]) (H' := [⟨1, b_2, [.int .u64 t_1.Now, .int .u64 t_1.Next, .slice A_3 t_1.Rows.length c_4]⟩]) (ps := []) (by kernel_rfl) trivial ?_
  refine GoO.regionEnd ?_
  refine GoO.block' c58_5e ?_
  refine GoO.loop' c58_6e ?_
  exact GoO.sub (ks := [0, 1, 5]) (hk := [0]) (bk := [0]) (by kernel_rfl) (by kernel_rfl) (by kernel_rfl) (tontineref15_Table_find_l0_ok n t_1 id_5 b_2 A_3 c_4 w0 S0 n 0)

/-! (*tontine/tontineref15.Table).Begin -/
noncomputable def c46_0 : Code := bodyOf Try.f46
noncomputable def c46_1 : Code := cdL c46_0
noncomputable def c46_2 : Code := cdR c46_0
noncomputable def c46_3 : Code := cdL c46_2
noncomputable def c46_4 : Code := cdR c46_2
noncomputable def c46_5 : Code := cdL c46_4
noncomputable def c46_6 : Code := cdL c46_5
noncomputable def c46_7 : Code := cdR c46_5
noncomputable def c46_8 : Code := cdL c46_7
noncomputable def c46_9 : Code := cdL c46_8
noncomputable def c46_10 : Code := cdR c46_8
noncomputable def c46_11 : Code := cdR c46_7
noncomputable def c46_12 : Code := cdR c46_4
noncomputable def c46_13 : Code := cdL c46_12
noncomputable def c46_14 : Code := cdR c46_12
noncomputable def c46_15 : Code := cdL c46_14
noncomputable def c46_16 : Code := cdL c46_15
noncomputable def c46_17 : Code := cdR c46_15
noncomputable def c46_18 : Code := cdL c46_17
noncomputable def c46_19 : Code := cdL c46_18
noncomputable def c46_20 : Code := cdR c46_18
noncomputable def c46_21 : Code := cdR c46_17
noncomputable def c46_22 : Code := cdR c46_14
noncomputable def c46_23 : Code := cdL c46_22
noncomputable def c46_24 : Code := cdL c46_23
noncomputable def c46_25 : Code := cdR c46_23
noncomputable def c46_26 : Code := cdL c46_25
noncomputable def c46_27 : Code := cdL c46_26
noncomputable def c46_28 : Code := cdR c46_26
noncomputable def c46_29 : Code := cdR c46_25
noncomputable def c46_30 : Code := cdR c46_22
noncomputable def c46_31 : Code := cdL c46_30
noncomputable def c46_32 : Code := cdR c46_30
noncomputable def r46_1 : Array Oper := cdO c46_1
noncomputable def r46_3 : Array Oper := cdO c46_3
noncomputable def r46_6 : Array Oper := cdO c46_6
noncomputable def r46_9 : Array Oper := cdO c46_9
noncomputable def r46_13 : Array Oper := cdO c46_13
noncomputable def r46_16 : Array Oper := cdO c46_16
noncomputable def r46_19 : Array Oper := cdO c46_19
noncomputable def r46_24 : Array Oper := cdO c46_24
noncomputable def r46_27 : Array Oper := cdO c46_27
noncomputable def r46_31 : Array Oper := cdO c46_31
theorem c46_0e : c46_0 = .seq c46_1 c46_2 := by kernel_rfl
theorem c46_1e : c46_1 = .region 0 r46_1 false := by kernel_rfl
theorem c46_2e : c46_2 = .seq c46_3 c46_4 := by kernel_rfl
theorem c46_3e : c46_3 = .region 1 r46_3 false := by kernel_rfl
theorem c46_4e : c46_4 = .seq c46_5 c46_12 := by kernel_rfl
theorem c46_5e : c46_5 = .seq c46_6 c46_7 := by kernel_rfl
theorem c46_6e : c46_6 = .region 2 r46_6 false := by kernel_rfl
theorem c46_7e : c46_7 = .cond (cdC c46_7) c46_8 c46_11 := by kernel_rfl
theorem c46_8e : c46_8 = .seq c46_9 c46_10 := by kernel_rfl
theorem c46_9e : c46_9 = .region 3 r46_9 false := by kernel_rfl
theorem c46_10e : c46_10 = .ret := by kernel_rfl
theorem c46_11e : c46_11 = .skip := by kernel_rfl
theorem c46_12e : c46_12 = .seq c46_13 c46_14 := by kernel_rfl
theorem c46_13e : c46_13 = .region 4 r46_13 true := by kernel_rfl
theorem c46_14e : c46_14 = .seq c46_15 c46_22 := by kernel_rfl
theorem c46_15e : c46_15 = .seq c46_16 c46_17 := by kernel_rfl
theorem c46_16e : c46_16 = .region 5 r46_16 false := by kernel_rfl
theorem c46_17e : c46_17 = .cond (cdC c46_17) c46_18 c46_21 := by kernel_rfl
theorem c46_18e : c46_18 = .seq c46_19 c46_20 := by kernel_rfl
theorem c46_19e : c46_19 = .region 6 r46_19 false := by kernel_rfl
theorem c46_20e : c46_20 = .ret := by kernel_rfl
theorem c46_21e : c46_21 = .skip := by kernel_rfl
theorem c46_22e : c46_22 = .seq c46_23 c46_30 := by kernel_rfl
theorem c46_23e : c46_23 = .seq c46_24 c46_25 := by kernel_rfl
theorem c46_24e : c46_24 = .region 7 r46_24 false := by kernel_rfl
theorem c46_25e : c46_25 = .cond (cdC c46_25) c46_26 c46_29 := by kernel_rfl
theorem c46_26e : c46_26 = .seq c46_27 c46_28 := by kernel_rfl
theorem c46_27e : c46_27 = .region 8 r46_27 false := by kernel_rfl
theorem c46_28e : c46_28 = .ret := by kernel_rfl
theorem c46_29e : c46_29 = .skip := by kernel_rfl
theorem c46_30e : c46_30 = .seq c46_31 c46_32 := by kernel_rfl
theorem c46_31e : c46_31 = .region 9 r46_31 false := by kernel_rfl
theorem c46_32e : c46_32 = .ret := by kernel_rfl
noncomputable def tontineref15_Table_Begin.R (b_2 : Nat) (A_3 : Option Addr) (c_4 : Nat) : Pst (T_api_Reply × Bool × T_tontineref15_Table) where
  ε := Option Addr × Nat
  v := fun r x => .tuple ⟨[.agg ⟨[.int .i64 r.1.Err, .int .u64 r.1.Num, .int .u64 r.1.Extra]⟩, .bool r.2.1]⟩
  H := fun r x => [⟨1, b_2, [.int .u64 r.2.2.Now, .int .u64 r.2.2.Next, .slice x.1 r.2.2.Rows.length x.2]⟩]
  B := fun r x => [Ow 2 kT_tontineref15_Row x.1 x.2 r.2.2.Rows]
noncomputable def tontineref15_Table_Begin.cx (b_2 : Nat) (A_3 : Option Addr) (c_4 : Nat) (w0 : World) (S0 : Fam) : Cx (T_api_Reply × Bool × T_tontineref15_Table) := ⟨Try.prog, 46, Try.f46, 65, w0, S0, [1, 2], 2, tontineref15_Table_Begin.R b_2 A_3 c_4⟩
theorem tontineref15_Table_Begin_j0_ok (n : Nat) (t_1 : T_tontineref15_Table) (seq_6 : Int) (r_8 : Int) (b_2 : Nat) (A_3 : Option Addr) (c_4 : Nat) (b_7 : Nat) (w0 : World) (S0 : Fam) (b_13 : Bool) :
    GoO (tontineref15_Table_Begin.cx b_2 A_3 c_4 w0 S0) [(0, .pointer (some ⟨b_2, 0, none⟩)), (2, .int .u64 seq_6), (6, .pointer (some ⟨b_7, 0, none⟩)), (8, .int .i64 r_8), (39, .bool b_13)] [⟨1, b_2, [.int .u64 t_1.Now, .int .u64 t_1.Next, .slice A_3 (t_1.Rows.set r_8.toNat (⟨(rdL t_1.Rows r_8).Id, t_1.Now, (rdL t_1.Rows r_8).Seq, (⟨(rdL t_1.Rows r_8).Reply.Err, (rdL t_1.Rows r_8).Reply.Num, (rdL t_1.Rows r_8).Reply.Extra⟩ : T_api_Reply)⟩ : T_tontineref15_Row)).length c_4]⟩, ⟨40, b_7, [.int .i64 0, .int .u64 0, .int .u64 0]⟩] [Ow 2 kT_tontineref15_Row A_3 c_4 (t_1.Rows.set r_8.toNat (⟨(rdL t_1.Rows r_8).Id, t_1.Now, (rdL t_1.Rows r_8).Seq, (⟨(rdL t_1.Rows r_8).Reply.Err, (rdL t_1.Rows r_8).Reply.Num, (rdL t_1.Rows r_8).Reply.Extra⟩ : T_api_Reply)⟩ : T_tontineref15_Row))] [.code c46_17, .code c46_22] (tontineref15_Table_Begin.j0 n t_1 seq_6 r_8 b_13) := by
  unfold tontineref15_Table_Begin.j0
  refine GoO.ite' c46_17e (by kernel_rfl) (fun h14 => ?_) (fun h14 => ?_)
  · refine GoO.seq' c46_18e ?_
    refine GoO.region' (is := [0, 1, 2, 3, 4, 5, 6, 7, 8, 9]) c46_19e (by kernel_rfl) ?_
    refine GoO.exec (is := [0, 1, 2, 3, 4]) (hs := [.p, .p, .p, .b 0, .p]) (rest := [5, 6, 7, 8, 9]) (ks := [6, 43, 44]) (env' := [(6, .pointer (some ⟨b_7, 0, none⟩)), (43, .slice A_3 (t_1.Rows.set r_8.toNat (⟨(rdL t_1.Rows r_8).Id, t_1.Now, (rdL t_1.Rows r_8).Seq, (⟨(rdL t_1.Rows r_8).Reply.Err, (rdL t_1.Rows r_8).Reply.Num, (rdL t_1.Rows r_8).Reply.Extra⟩ : T_api_Reply)⟩ : T_tontineref15_Row)).length c_4), (44, .int .i64 r_8)]) (H' := [⟨1, b_2, [.int .u64 t_1.Now, .int .u64 t_1.Next, .slice A_3 (t_1.Rows.set r_8.toNat (⟨(rdL t_1.Rows r_8).Id, t_1.Now, (rdL t_1.Rows r_8).Seq, (⟨(rdL t_1.Rows r_8).Reply.Err, (rdL t_1.Rows r_8).Reply.Num, (rdL t_1.Rows r_8).Reply.Extra⟩ : T_api_Reply)⟩ : T_tontineref15_Row)).length c_4]⟩, ⟨40, b_7, [.int .i64 0, .int .u64 0, .int .u64 0]⟩]) (ps := [b_2 = b_2]) (by kernel_rfl) (And.intro rfl trivial) ?_
    refine GoO.guard (fun h15 => ?_)
    refine OpTo.go (GoO.idx (kk := .i64) (e := 100) (K := kT_tontineref15_Row) (A := A_3) (c := c_4) (xs := t_1.Rows.set r_8.toNat (⟨(rdL t_1.Rows r_8).Id, t_1.Now, (rdL t_1.Rows r_8).Seq, (⟨(rdL t_1.Rows r_8).Reply.Err, (rdL t_1.Rows r_8).Reply.Num, (rdL t_1.Rows r_8).Reply.Extra⟩ : T_api_Reply)⟩ : T_tontineref15_Row)) (iv := r_8) (j := 0) rfl (by kernel_rfl) (by kernel_rfl) (by kernel_rfl) (by kernel_rfl) rfl Reads.own rfl h15.1 h15.2 (by decide) rfl ?_)
    refine OpTo.go (GoO.fldE (K := kT_tontineref15_Row) (A := A_3) (c := c_4) (xs := t_1.Rows.set r_8.toNat (⟨(rdL t_1.Rows r_8).Id, t_1.Now, (rdL t_1.Rows r_8).Seq, (⟨(rdL t_1.Rows r_8).Reply.Err, (rdL t_1.Rows r_8).Reply.Num, (rdL t_1.Rows r_8).Reply.Extra⟩ : T_api_Reply)⟩ : T_tontineref15_Row)) (iN := r_8.toNat) (off := 0) (n := 3) (j := 0) rfl (by kernel_rfl) (by kernel_rfl) rfl Reads.own (by first | exact idx_lt h15.1 h15.2 | (simp only [List.length_set]; exact idx_lt h15.1 h15.2)) (by decide) rfl ?_)
    refine OpTo.go (GoO.ldE' (K := kT_tontineref15_Row) (A := A_3) (c := c_4) (xs := t_1.Rows.set r_8.toNat (⟨(rdL t_1.Rows r_8).Id, t_1.Now, (rdL t_1.Rows r_8).Seq, (⟨(rdL t_1.Rows r_8).Reply.Err, (rdL t_1.Rows r_8).Reply.Num, (rdL t_1.Rows r_8).Reply.Extra⟩ : T_api_Reply)⟩ : T_tontineref15_Row)) (iN := r_8.toNat) (off := 3) (j := 0) rfl (by kernel_rfl) rfl Reads.own (by first | exact idx_lt h15.1 h15.2 | (simp only [List.length_set]; exact idx_lt h15.1 h15.2)) (by decide) (Opn.flat _ _ _ _ _) (v := fun _ => .agg ⟨[.int .i64 ((rdL (t_1.Rows.set r_8.toNat (⟨(rdL t_1.Rows r_8).Id, t_1.Now, (rdL t_1.Rows r_8).Seq, (⟨(rdL t_1.Rows r_8).Reply.Err, (rdL t_1.Rows r_8).Reply.Num, (rdL t_1.Rows r_8).Reply.Extra⟩ : T_api_Reply)⟩ : T_tontineref15_Row)) r_8).Reply.Err), .int .u64 ((rdL (t_1.Rows.set r_8.toNat (⟨(rdL t_1.Rows r_8).Id, t_1.Now, (rdL t_1.Rows r_8).Seq, (⟨(rdL t_1.Rows r_8).Reply.Err, (rdL t_1.Rows r_8).Reply.Num, (rdL t_1.Rows r_8).Reply.Extra⟩ : T_api_Reply)⟩ : T_tontineref15_Row)) r_8).Reply.Num), .int .u64 ((rdL (t_1.Rows.set r_8.toNat (⟨(rdL t_1.Rows r_8).Id, t_1.Now, (rdL t_1.Rows r_8).Seq, (⟨(rdL t_1.Rows r_8).Reply.Err, (rdL t_1.Rows r_8).Reply.Num, (rdL t_1.Rows r_8).Reply.Extra⟩ : T_api_Reply)⟩ : T_tontineref15_Row)) r_8).Reply.Extra)]⟩) (fun _ => by kernel_rfl) _ (fun _ => rfl) (fun _ => ?_))
    refine GoO.exec (is := [8, 9]) (hs := [.b 1, .p]) (rest := []) (ks := [6, 7]) (env' := [(6, .pointer (some ⟨b_7, 0, none⟩)), (7, .bool false)]) (H' := [⟨1, b_2, [.int .u64 t_1.Now, .int .u64 t_1.Next, .slice A_3 (t_1.Rows.set r_8.toNat (⟨(rdL t_1.Rows r_8).Id, t_1.Now, (rdL t_1.Rows r_8).Seq, (⟨(rdL t_1.Rows r_8).Reply.Err, (rdL t_1.Rows r_8).Reply.Num, (rdL t_1.Rows r_8).Reply.Extra⟩ : T_api_Reply)⟩ : T_tontineref15_Row)).length c_4]⟩, ⟨40, b_7, [.int .i64 ((rdL (t_1.Rows.set r_8.toNat (⟨(rdL t_1.Rows r_8).Id, t_1.Now, (rdL t_1.Rows r_8).Seq, (⟨(rdL t_1.Rows r_8).Reply.Err, (rdL t_1.Rows r_8).Reply.Num, (rdL t_1.Rows r_8).Reply.Extra⟩ : T_api_Reply)⟩ : T_tontineref15_Row)) r_8).Reply.Err), .int .u64 ((rdL (t_1.Rows.set r_8.toNat (⟨(rdL t_1.Rows r_8).Id, t_1.Now, (rdL t_1.Rows r_8).Seq, (⟨(rdL t_1.Rows r_8).Reply.Err, (rdL t_1.Rows r_8).Reply.Num, (rdL t_1.Rows r_8).Reply.Extra⟩ : T_api_Reply)⟩ : T_tontineref15_Row)) r_8).Reply.Num), .int .u64 ((rdL (t_1.Rows.set r_8.toNat (⟨(rdL t_1.Rows r_8).Id, t_1.Now, (rdL t_1.Rows r_8).Seq, (⟨(rdL t_1.Rows r_8).Reply.Err, (rdL t_1.Rows r_8).Reply.Num, (rdL t_1.Rows r_8).Reply.Extra⟩ : T_api_Reply)⟩ : T_tontineref15_Row)) r_8).Reply.Extra)]⟩]) (ps := [b_7 = b_7]) (by kernel_rfl) (And.intro rfl trivial) ?_
    refine GoO.regionEnd ?_
    exact GoO.ret' (h := c46_20e) (hs := [1]) (ps := [b_7 = b_7]) (hk := [0]) (bk := [0]) Try.func46 (⟨A_3, c_4⟩ : Option Addr × Nat) (by kernel_rfl) (And.intro rfl trivial) (by kernel_rfl) (by kernel_rfl)
  · refine GoO.skip' c46_21e ?_
    refine GoO.seq' c46_22e ?_
    refine GoO.seq' c46_23e ?_
    refine GoO.region' (is := [0, 1, 2, 3, 4, 5, 6, 7, 8, 9, 10, 11, 12, 13, 14]) c46_24e (by kernel_rfl) ?_
    refine GoO.exec (is := [0, 1, 2]) (hs := [.p, .p, .p]) (rest := [3, 4, 5, 6, 7, 8, 9, 10, 11, 12, 13, 14]) (ks := [0, 2, 6, 8, 50]) (env' := [(0, .pointer (some ⟨b_2, 0, none⟩)), (2, .int .u64 seq_6), (6, .pointer (some ⟨b_7, 0, none⟩)), (8, .int .i64 r_8), (50, .bool (seq_6 == 0))]) (H' := [⟨1, b_2, [.int .u64 t_1.Now, .int .u64 t_1.Next, .slice A_3 (t_1.Rows.set r_8.toNat (⟨(rdL t_1.Rows r_8).Id, t_1.Now, (rdL t_1.Rows r_8).Seq, (⟨(rdL t_1.Rows r_8).Reply.Err, (rdL t_1.Rows r_8).Reply.Num, (rdL t_1.Rows r_8).Reply.Extra⟩ : T_api_Reply)⟩ : T_tontineref15_Row)).length c_4]⟩, ⟨40, b_7, [.int .i64 0, .int .u64 0, .int .u64 0]⟩]) (ps := []) (by kernel_rfl) trivial ?_
    refine GoO.bsplit (t := 50) (by kernel_rfl) (fun h16 => ?_) (fun h16 => ?_)
    · refine GoO.exec (is := [3, 4, 5, 6, 7, 8, 9, 10, 11, 12, 13, 14]) (hs := [.p, .p, .p, .p, .p, .p, .p, .p, .p, .p, .p, .p]) (rest := []) (ks := [6, 62]) (env' := [(6, .pointer (some ⟨b_7, 0, none⟩)), (62, .bool true)]) (H' := [⟨1, b_2, [.int .u64 t_1.Now, .int .u64 t_1.Next, .slice A_3 (t_1.Rows.set r_8.toNat (⟨(rdL t_1.Rows r_8).Id, t_1.Now, (rdL t_1.Rows r_8).Seq, (⟨(rdL t_1.Rows r_8).Reply.Err, (rdL t_1.Rows r_8).Reply.Num, (rdL t_1.Rows r_8).Reply.Extra⟩ : T_api_Reply)⟩ : T_tontineref15_Row)).length c_4]⟩, ⟨40, b_7, [.int .i64 0, .int .u64 0, .int .u64 0]⟩]) (ps := []) (by kernel_rfl) trivial ?_
      refine GoO.regionEnd ?_
      refine GoO.condT c46_25e (by kernel_rfl) ?_
      refine GoO.seq' c46_26e ?_
      refine GoO.region' (is := [0, 1, 2]) c46_27e (by kernel_rfl) ?_
      refine GoO.exec (is := [0, 1, 2]) (hs := [.p, .b 1, .p]) (rest := []) (ks := [6, 7]) (env' := [(6, .pointer (some ⟨b_7, 0, none⟩)), (7, .bool false)]) (H' := [⟨1, b_2, [.int .u64 t_1.Now, .int .u64 t_1.Next, .slice A_3 (t_1.Rows.set r_8.toNat (⟨(rdL t_1.Rows r_8).Id, t_1.Now, (rdL t_1.Rows r_8).Seq, (⟨(rdL t_1.Rows r_8).Reply.Err, (rdL t_1.Rows r_8).Reply.Num, (rdL t_1.Rows r_8).Reply.Extra⟩ : T_api_Reply)⟩ : T_tontineref15_Row)).length c_4]⟩, ⟨40, b_7, [.int .i64 41, .int .u64 0, .int .u64 0]⟩]) (ps := [b_7 = b_7]) (by kernel_rfl) (And.intro rfl trivial) ?_
      refine GoO.regionEnd ?_
      exact GoO.ret' (h := c46_28e) (hs := [1]) (ps := [b_7 = b_7]) (hk := [0]) (bk := [0]) Try.func46 (⟨A_3, c_4⟩ : Option Addr × Nat) (by kernel_rfl) (And.intro rfl trivial) (by kernel_rfl) (by kernel_rfl)
    · refine GoO.exec (is := [3, 4, 5, 6, 7, 8, 9]) (hs := [.p, .p, .p, .p, .p, .b 0, .p]) (rest := [10, 11, 12, 13, 14]) (ks := [6, 50, 52, 56, 57]) (env' := [(6, .pointer (some ⟨b_7, 0, none⟩)), (50, .bool false), (52, .int .u64 (wu64 (seq_6 - 1))), (56, .slice A_3 (t_1.Rows.set r_8.toNat (⟨(rdL t_1.Rows r_8).Id, t_1.Now, (rdL t_1.Rows r_8).Seq, (⟨(rdL t_1.Rows r_8).Reply.Err, (rdL t_1.Rows r_8).Reply.Num, (rdL t_1.Rows r_8).Reply.Extra⟩ : T_api_Reply)⟩ : T_tontineref15_Row)).length c_4), (57, .int .i64 r_8)]) (H' := [⟨1, b_2, [.int .u64 t_1.Now, .int .u64 t_1.Next, .slice A_3 (t_1.Rows.set r_8.toNat (⟨(rdL t_1.Rows r_8).Id, t_1.Now, (rdL t_1.Rows r_8).Seq, (⟨(rdL t_1.Rows r_8).Reply.Err, (rdL t_1.Rows r_8).Reply.Num, (rdL t_1.Rows r_8).Reply.Extra⟩ : T_api_Reply)⟩ : T_tontineref15_Row)).length c_4]⟩, ⟨40, b_7, [.int .i64 0, .int .u64 0, .int .u64 0]⟩]) (ps := [b_2 = b_2]) (by kernel_rfl) (And.intro rfl trivial) ?_
      refine GoO.guard (fun h17 => ?_)
      refine OpTo.go (GoO.idx (kk := .i64) (e := 100) (K := kT_tontineref15_Row) (A := A_3) (c := c_4) (xs := t_1.Rows.set r_8.toNat (⟨(rdL t_1.Rows r_8).Id, t_1.Now, (rdL t_1.Rows r_8).Seq, (⟨(rdL t_1.Rows r_8).Reply.Err, (rdL t_1.Rows r_8).Reply.Num, (rdL t_1.Rows r_8).Reply.Extra⟩ : T_api_Reply)⟩ : T_tontineref15_Row)) (iv := r_8) (j := 0) rfl (by kernel_rfl) (by kernel_rfl) (by kernel_rfl) (by kernel_rfl) rfl Reads.own rfl h17.1 h17.2 (by decide) rfl ?_)
      refine OpTo.go (GoO.fldE (K := kT_tontineref15_Row) (A := A_3) (c := c_4) (xs := t_1.Rows.set r_8.toNat (⟨(rdL t_1.Rows r_8).Id, t_1.Now, (rdL t_1.Rows r_8).Seq, (⟨(rdL t_1.Rows r_8).Reply.Err, (rdL t_1.Rows r_8).Reply.Num, (rdL t_1.Rows r_8).Reply.Extra⟩ : T_api_Reply)⟩ : T_tontineref15_Row)) (iN := r_8.toNat) (off := 0) (n := 2) (j := 0) rfl (by kernel_rfl) (by kernel_rfl) rfl Reads.own (by first | exact idx_lt h17.1 h17.2 | (simp only [List.length_set]; exact idx_lt h17.1 h17.2)) (by decide) rfl ?_)
      refine OpTo.go (GoO.ldE' (K := kT_tontineref15_Row) (A := A_3) (c := c_4) (xs := t_1.Rows.set r_8.toNat (⟨(rdL t_1.Rows r_8).Id, t_1.Now, (rdL t_1.Rows r_8).Seq, (⟨(rdL t_1.Rows r_8).Reply.Err, (rdL t_1.Rows r_8).Reply.Num, (rdL t_1.Rows r_8).Reply.Extra⟩ : T_api_Reply)⟩ : T_tontineref15_Row)) (iN := r_8.toNat) (off := 2) (j := 0) rfl (by kernel_rfl) rfl Reads.own (by first | exact idx_lt h17.1 h17.2 | (simp only [List.length_set]; exact idx_lt h17.1 h17.2)) (by decide) (Opn.flat _ _ _ _ _) (v := fun _ => .int .u64 ((rdL (t_1.Rows.set r_8.toNat (⟨(rdL t_1.Rows r_8).Id, t_1.Now, (rdL t_1.Rows r_8).Seq, (⟨(rdL t_1.Rows r_8).Reply.Err, (rdL t_1.Rows r_8).Reply.Num, (rdL t_1.Rows r_8).Reply.Extra⟩ : T_api_Reply)⟩ : T_tontineref15_Row)) r_8).Seq)) (fun _ => by kernel_rfl) _ (fun _ => rfl) (fun _ => ?_))
      refine GoO.exec (is := [13, 14]) (hs := [.p, .p]) (rest := []) (ks := [6, 62]) (env' := [(6, .pointer (some ⟨b_7, 0, none⟩)), (62, .bool ((wu64 (seq_6 - 1)) != ((rdL (t_1.Rows.set r_8.toNat (⟨(rdL t_1.Rows r_8).Id, t_1.Now, (rdL t_1.Rows r_8).Seq, (⟨(rdL t_1.Rows r_8).Reply.Err, (rdL t_1.Rows r_8).Reply.Num, (rdL t_1.Rows r_8).Reply.Extra⟩ : T_api_Reply)⟩ : T_tontineref15_Row)) r_8).Seq)))]) (H' := [⟨1, b_2, [.int .u64 t_1.Now, .int .u64 t_1.Next, .slice A_3 (t_1.Rows.set r_8.toNat (⟨(rdL t_1.Rows r_8).Id, t_1.Now, (rdL t_1.Rows r_8).Seq, (⟨(rdL t_1.Rows r_8).Reply.Err, (rdL t_1.Rows r_8).Reply.Num, (rdL t_1.Rows r_8).Reply.Extra⟩ : T_api_Reply)⟩ : T_tontineref15_Row)).length c_4]⟩, ⟨40, b_7, [.int .i64 0, .int .u64 0, .int .u64 0]⟩]) (ps := []) (by kernel_rfl) trivial ?_
      refine GoO.regionEnd ?_
      refine GoO.ite' c46_25e (by kernel_rfl) (fun h18 => ?_) (fun h18 => ?_)
      · refine GoO.seq' c46_26e ?_
        refine GoO.region' (is := [0, 1, 2]) c46_27e (by kernel_rfl) ?_
        refine GoO.exec (is := [0, 1, 2]) (hs := [.p, .b 1, .p]) (rest := []) (ks := [6, 7]) (env' := [(6, .pointer (some ⟨b_7, 0, none⟩)), (7, .bool false)]) (H' := [⟨1, b_2, [.int .u64 t_1.Now, .int .u64 t_1.Next, .slice A_3 (t_1.Rows.set r_8.toNat (⟨(rdL t_1.Rows r_8).Id, t_1.Now, (rdL t_1.Rows r_8).Seq, (⟨(rdL t_1.Rows r_8).Reply.Err, (rdL t_1.Rows r_8).Reply.Num, (rdL t_1.Rows r_8).Reply.Extra⟩ : T_api_Reply)⟩ : T_tontineref15_Row)).length c_4]⟩, ⟨40, b_7, [.int .i64 41, .int .u64 0, .int .u64 0]⟩]) (ps := [b_7 = b_7]) (by kernel_rfl) (And.intro rfl trivial) ?_
        refine GoO.regionEnd ?_
        exact GoO.ret' (h := c46_28e) (hs := [1]) (ps := [b_7 = b_7]) (hk := [0]) (bk := [0]) Try.func46 (⟨A_3, c_4⟩ : Option Addr × Nat) (by kernel_rfl) (And.intro rfl trivial) (by kernel_rfl) (by kernel_rfl)
      · refine GoO.skip' c46_29e ?_
        refine GoO.seq' c46_30e ?_
        refine GoO.region' (is := [0, 1, 2]) c46_31e (by kernel_rfl) ?_
        refine GoO.exec (is := [0, 1, 2]) (hs := [.p, .b 1, .p]) (rest := []) (ks := [6, 7]) (env' := [(6, .pointer (some ⟨b_7, 0, none⟩)), (7, .bool true)]) (H' := [⟨1, b_2, [.int .u64 t_1.Now, .int .u64 t_1.Next, .slice A_3 (t_1.Rows.set r_8.toNat (⟨(rdL t_1.Rows r_8).Id, t_1.Now, (rdL t_1.Rows r_8).Seq, (⟨(rdL t_1.Rows r_8).Reply.Err, (rdL t_1.Rows r_8).Reply.Num, (rdL t_1.Rows r_8).Reply.Extra⟩ : T_api_Reply)⟩ : T_tontineref15_Row)).length c_4]⟩, ⟨40, b_7, [.int .i64 0, .int .u64 0, .int .u64 0]⟩]) (ps := [b_7 = b_7]) (by kernel_rfl) (And.intro rfl trivial) ?_
        refine GoO.regionEnd ?_
        exact GoO.ret' (h := c46_32e) (hs := [1]) (ps := [b_7 = b_7]) (hk := [0]) (bk := [0]) Try.func46 (⟨A_3, c_4⟩ : Option Addr × Nat) (by kernel_rfl) (And.intro rfl trivial) (by kernel_rfl) (by kernel_rfl)
theorem tontineref15_Table_Begin_ok (n : Nat) (t_1 : T_tontineref15_Table) (id_5 : Int) (seq_6 : Int) (b_2 : Nat) (A_3 : Option Addr) (c_4 : Nat) :
    Meets Try.prog 46 [.pointer (some ⟨b_2, 0, none⟩), .int .u64 id_5, .int .u64 seq_6] 2 [1, 2] [⟨1, b_2, [.int .u64 t_1.Now, .int .u64 t_1.Next, .slice A_3 t_1.Rows.length c_4]⟩] [Ow 2 kT_tontineref15_Row A_3 c_4 t_1.Rows] (tontineref15_Table_Begin.f n t_1 id_5 seq_6) (tontineref15_Table_Begin.R b_2 A_3 c_4) := by
  refine Meets.of (c := c46_0) (n := 65) Try.func46 (by kernel_rfl) (by kernel_rfl) (by kernel_rfl) fun w0 S0 => ?_
  unfold tontineref15_Table_Begin.f
  show GoO (tontineref15_Table_Begin.cx b_2 A_3 c_4 w0 S0) [(0, .pointer (some ⟨b_2, 0, none⟩)), (1, .int .u64 id_5), (2, .int .u64 seq_6)] [⟨1, b_2, [.int .u64 t_1.Now, .int .u64 t_1.Next, .slice A_3 t_1.Rows.length c_4]⟩] [Ow 2 kT_tontineref15_Row A_3 c_4 t_1.Rows] [.code c46_0] _
  refine GoO.seq' c46_0e ?_
  refine GoO.region' (is := [0, 1]) c46_1e (by kernel_rfl) ?_
  refine OpTo.go (GoO.new rfl 40 (cs := [.int .i64 0, .int .u64 0, .int .u64 0]) (by kernel_rfl) _ (fun _ => rfl) (fun b_7 => ?_))
  refine GoO.exec (is := [1]) (hs := [.p]) (rest := []) (ks := [0, 1, 2, 6]) (env' := [(0, .pointer (some ⟨b_2, 0, none⟩)), (1, .int .u64 id_5), (2, .int .u64 seq_6), (6, .pointer (some ⟨b_7, 0, none⟩))]) (H' := [⟨40, b_7, [.int .i64 0, .int .u64 0, .int .u64 0]⟩, ⟨1, b_2, [.int .u64 t_1.Now, .int .u64 t_1.Next, .slice A_3 t_1.Rows.length c_4]⟩]) (ps := []) (by kernel_rfl) trivial ?_
  refine GoO.regionEnd ?_
  refine GoO.seq' c46_2e ?_
  refine GoO.region' (is := [0, 1, 2, 3]) c46_3e (by kernel_rfl) ?_
  refine GoO.exec (is := [0, 1]) (hs := [.p, .p]) (rest := [2, 3]) (ks := [0, 2, 6, 9, 10]) (env' := [(0, .pointer (some ⟨b_2, 0, none⟩)), (2, .int .u64 seq_6), (6, .pointer (some ⟨b_7, 0, none⟩)), (9, .pointer (some ⟨b_2, 0, none⟩)), (10, .int .u64 id_5)]) (H' := [⟨40, b_7, [.int .i64 0, .int .u64 0, .int .u64 0]⟩, ⟨1, b_2, [.int .u64 t_1.Now, .int .u64 t_1.Next, .slice A_3 t_1.Rows.length c_4]⟩]) (ps := []) (by kernel_rfl) trivial ?_
  refine OpTo.go (GoO.call rfl (by kernel_rfl) (by kernel_rfl) (tontineref15_Table_find_ok n t_1 id_5 b_2 A_3 c_4) [[0], [1], [2]] [] [(1, 1)] [(2, 0)] (hks := [0, 1]) (bks := [0]) (by kernel_rfl) (by kernel_rfl) (by kernel_rfl) (.inl rfl) rfl rfl (by kernel_rfl) (by kernel_rfl) _ (fun _ _ => rfl) _ _ (fun _ _ => rfl) (fun _ _ => rfl) (fun _ _ => by kernel_rfl) (fun _ _ => by kernel_rfl) (fun r_8 x_19 => ?_))
  refine GoO.shape (env' := [(0, .pointer (some ⟨b_2, 0, none⟩)), (2, .int .u64 seq_6), (6, .pointer (some ⟨b_7, 0, none⟩)), (9, .pointer (some ⟨b_2, 0, none⟩)), (10, .int .u64 id_5), (11, .int .i64 r_8)]) (H' := [⟨40, b_7, [.int .i64 0, .int .u64 0, .int .u64 0]⟩, ⟨1, b_2, [.int .u64 t_1.Now, .int .u64 t_1.Next, .slice A_3 t_1.Rows.length c_4]⟩]) (B' := [Ow 2 kT_tontineref15_Row A_3 c_4 t_1.Rows]) (ks := [0, 2, 6, 9, 10, 11]) (by kernel_rfl) (by kernel_rfl) (by kernel_rfl) ?_
  refine GoO.exec (is := [3]) (hs := [.p]) (rest := []) (ks := [0, 2, 6, 8]) (env' := [(0, .pointer (some ⟨b_2, 0, none⟩)), (2, .int .u64 seq_6), (6, .pointer (some ⟨b_7, 0, none⟩)), (8, .int .i64 r_8)]) (H' := [⟨40, b_7, [.int .i64 0, .int .u64 0, .int .u64 0]⟩, ⟨1, b_2, [.int .u64 t_1.Now, .int .u64 t_1.Next, .slice A_3 t_1.Rows.length c_4]⟩]) (ps := []) (by kernel_rfl) trivial ?_
  refine GoO.regionEnd ?_
  refine GoO.seq' c46_4e ?_
  refine GoO.seq' c46_5e ?_
  refine GoO.region' (is := [0, 1]) c46_6e (by kernel_rfl) ?_
  refine GoO.exec (is := [0, 1]) (hs := [.p, .p]) (rest := []) (ks := [0, 2, 6, 8, 13]) (env' := [(0, .pointer (some ⟨b_2, 0, none⟩)), (2, .int .u64 seq_6), (6, .pointer (some ⟨b_7, 0, none⟩)), (8, .int .i64 r_8), (13, .bool (decide (r_8 < 0)))]) (H' := [⟨40, b_7, [.int .i64 0, .int .u64 0, .int .u64 0]⟩, ⟨1, b_2, [.int .u64 t_1.Now, .int .u64 t_1.Next, .slice A_3 t_1.Rows.length c_4]⟩]) (ps := []) (by kernel_rfl) trivial ?_
  refine GoO.regionEnd ?_
  refine GoO.ite' c46_7e (by kernel_rfl) (fun h9 => ?_) (fun h9 => ?_)
  · refine GoO.seq' c46_8e ?_
    refine GoO.region' (is := [0, 1, 2]) c46_9e (by kernel_rfl) ?_
    refine GoO.exec (is := [0, 1, 2]) (hs := [.p, .b 0, .p]) (rest := []) (ks := [6, 7]) (env' := [(6, .pointer (some ⟨b_7, 0, none⟩)), (7, .bool false)]) (H' := [⟨40, b_7, [.int .i64 40, .int .u64 0, .int .u64 0]⟩, ⟨1, b_2, [.int .u64 t_1.Now, .int .u64 t_1.Next, .slice A_3 t_1.Rows.length c_4]⟩]) (ps := [b_7 = b_7]) (by kernel_rfl) (And.intro rfl trivial) ?_
    refine GoO.regionEnd ?_
    exact GoO.ret' (h := c46_10e) (hs := [0]) (ps := [b_7 = b_7]) (hk := [1]) (bk := [0]) Try.func46 (⟨A_3, c_4⟩ : Option Addr × Nat) (by kernel_rfl) (And.intro rfl trivial) (by kernel_rfl) (by kernel_rfl)
  · refine GoO.skip' c46_11e ?_
    refine GoO.seq' c46_12e ?_
    refine GoO.draw c46_13e (by kernel_rfl) [9, 10, 11] [⟨1, b_2, [.int .u64 t_1.Now, .int .u64 t_1.Next, .slice A_3 t_1.Rows.length c_4]⟩] [] (n := 12) (by kernel_rfl) ?_
    simp only [List.replicate]
    refine GoF.take [0, 1, 2, 3, 4, 5, 6, 7, 8] [.p, .p, .p, .b 0, .p, .p, .p, .p, .b 0] (ks := [0, 2, 6, 8, 18, 19, 23]) (fu := 3) (li := [true, true, true, true, true, true, true, true, true, false, false, false]) (env' := [(0, .pointer (some ⟨b_2, 0, none⟩)), (2, .int .u64 seq_6), (6, .pointer (some ⟨b_7, 0, none⟩)), (8, .int .i64 r_8), (18, .slice A_3 t_1.Rows.length c_4), (19, .int .i64 r_8), (23, .int .u64 t_1.Now)]) (ps := [b_2 = b_2, b_2 = b_2]) (hk := [1]) (bk := []) (by kernel_rfl) (And.intro rfl (And.intro rfl trivial)) rfl rfl ?_
    refine GoF.guard (fun h10 => ?_)
    refine OpTo.goE (i := 9) (by kernel_rfl) rfl (GoO.idx (kk := .i64) (e := 100) (K := kT_tontineref15_Row) (A := A_3) (c := c_4) (xs := t_1.Rows) (iv := r_8) (j := 0) rfl (by kernel_rfl) (by kernel_rfl) (by kernel_rfl) (by kernel_rfl) rfl Reads.own rfl h10.1 h10.2 (by decide) rfl ?_)
    refine OpTo.goE (i := 10) (by kernel_rfl) rfl (GoO.fldE (K := kT_tontineref15_Row) (A := A_3) (c := c_4) (xs := t_1.Rows) (iN := r_8.toNat) (off := 0) (n := 1) (j := 0) rfl (by kernel_rfl) (by kernel_rfl) rfl Reads.own (by first | exact idx_lt h10.1 h10.2 | (simp only [List.length_set]; exact idx_lt h10.1 h10.2)) (by decide) rfl ?_)
    refine OpTo.goE (i := 11) (by kernel_rfl) rfl (GoO.stE (K := kT_tontineref15_Row) (A := A_3) (c := c_4) (xs := t_1.Rows) (iN := r_8.toNat) (off := 1) (tg := 2) (j := 0) (v := .int .u64 t_1.Now) rfl (by kernel_rfl) (by kernel_rfl) rfl (by first | exact idx_lt h10.1 h10.2 | (simp only [List.length_set]; exact idx_lt h10.1 h10.2)) (by decide) (by kernel_rfl) (by kernel_rfl) (by kernel_rfl) ((⟨(rdL t_1.Rows r_8).Id, t_1.Now, (rdL t_1.Rows r_8).Seq, (⟨(rdL t_1.Rows r_8).Reply.Err, (rdL t_1.Rows r_8).Reply.Num, (rdL t_1.Rows r_8).Reply.Extra⟩ : T_api_Reply)⟩ : T_tontineref15_Row)) (fun w S cs _ hr => ⟨_, by subst hr; exact stored_flat rfl, rfl⟩) rfl ?_)
    refine GoF.reval (t := 18) (v := .slice A_3 t_1.Rows.length c_4) (v' := .slice A_3 (t_1.Rows.set r_8.toNat (⟨(rdL t_1.Rows r_8).Id, t_1.Now, (rdL t_1.Rows r_8).Seq, (⟨(rdL t_1.Rows r_8).Reply.Err, (rdL t_1.Rows r_8).Reply.Num, (rdL t_1.Rows r_8).Reply.Extra⟩ : T_api_Reply)⟩ : T_tontineref15_Row)).length c_4) (by kernel_rfl) (by simp) ?_
    refine GoF.rebox (j := 1) (t := 1) (b := b_2) (cs := [.int .u64 t_1.Now, .int .u64 t_1.Next, .slice A_3 t_1.Rows.length c_4]) (cs' := [.int .u64 t_1.Now, .int .u64 t_1.Next, .slice A_3 (t_1.Rows.set r_8.toNat (⟨(rdL t_1.Rows r_8).Id, t_1.Now, (rdL t_1.Rows r_8).Seq, (⟨(rdL t_1.Rows r_8).Reply.Err, (rdL t_1.Rows r_8).Reply.Num, (rdL t_1.Rows r_8).Reply.Extra⟩ : T_api_Reply)⟩ : T_tontineref15_Row)).length c_4]) (by kernel_rfl) (by simp) ?_
    refine GoF.done (by kernel_rfl) ?_
    refine GoO.seq' c46_14e ?_
    refine GoO.seq' c46_15e ?_
    refine GoO.region' (is := [0, 1, 2, 3, 4, 5, 6, 7, 8, 9, 10, 11, 12, 13]) c46_16e (by kernel_rfl) ?_
    refine GoO.exec (is := [0, 1, 2]) (hs := [.p, .p, .p]) (rest := [3, 4, 5, 6, 7, 8, 9, 10, 11, 12, 13]) (ks := [0, 2, 6, 8, 28]) (env' := [(0, .pointer (some ⟨b_2, 0, none⟩)), (2, .int .u64 seq_6), (6, .pointer (some ⟨b_7, 0, none⟩)), (8, .int .i64 r_8), (28, .bool (seq_6 != 0))]) (H' := [⟨40, b_7, [.int .i64 0, .int .u64 0, .int .u64 0]⟩, ⟨1, b_2, [.int .u64 t_1.Now, .int .u64 t_1.Next, .slice A_3 (t_1.Rows.set r_8.toNat (⟨(rdL t_1.Rows r_8).Id, t_1.Now, (rdL t_1.Rows r_8).Seq, (⟨(rdL t_1.Rows r_8).Reply.Err, (rdL t_1.Rows r_8).Reply.Num, (rdL t_1.Rows r_8).Reply.Extra⟩ : T_api_Reply)⟩ : T_tontineref15_Row)).length c_4]⟩]) (ps := []) (by kernel_rfl) trivial ?_
    refine GoO.bsplit (t := 28) (by kernel_rfl) (fun h11 => ?_) (fun h11 => ?_)
    · refine GoO.exec (is := [3, 4, 5, 6, 7, 8]) (hs := [.p, .p, .p, .p, .b 1, .p]) (rest := [9, 10, 11, 12, 13]) (ks := [0, 2, 6, 8, 28, 29, 33, 34]) (env' := [(0, .pointer (some ⟨b_2, 0, none⟩)), (2, .int .u64 seq_6), (6, .pointer (some ⟨b_7, 0, none⟩)), (8, .int .i64 r_8), (28, .bool true), (29, .int .u64 seq_6), (33, .slice A_3 (t_1.Rows.set r_8.toNat (⟨(rdL t_1.Rows r_8).Id, t_1.Now, (rdL t_1.Rows r_8).Seq, (⟨(rdL t_1.Rows r_8).Reply.Err, (rdL t_1.Rows r_8).Reply.Num, (rdL t_1.Rows r_8).Reply.Extra⟩ : T_api_Reply)⟩ : T_tontineref15_Row)).length c_4), (34, .int .i64 r_8)]) (H' := [⟨40, b_7, [.int .i64 0, .int .u64 0, .int .u64 0]⟩, ⟨1, b_2, [.int .u64 t_1.Now, .int .u64 t_1.Next, .slice A_3 (t_1.Rows.set r_8.toNat (⟨(rdL t_1.Rows r_8).Id, t_1.Now, (rdL t_1.Rows r_8).Seq, (⟨(rdL t_1.Rows r_8).Reply.Err, (rdL t_1.Rows r_8).Reply.Num, (rdL t_1.Rows r_8).Reply.Extra⟩ : T_api_Reply)⟩ : T_tontineref15_Row)).length c_4]⟩]) (ps := [b_2 = b_2]) (by kernel_rfl) (And.intro rfl trivial) ?_
      refine GoO.guard (fun h12 => ?_)
      refine OpTo.go (GoO.idx (kk := .i64) (e := 100) (K := kT_tontineref15_Row) (A := A_3) (c := c_4) (xs := t_1.Rows.set r_8.toNat (⟨(rdL t_1.Rows r_8).Id, t_1.Now, (rdL t_1.Rows r_8).Seq, (⟨(rdL t_1.Rows r_8).Reply.Err, (rdL t_1.Rows r_8).Reply.Num, (rdL t_1.Rows r_8).Reply.Extra⟩ : T_api_Reply)⟩ : T_tontineref15_Row)) (iv := r_8) (j := 0) rfl (by kernel_rfl) (by kernel_rfl) (by kernel_rfl) (by kernel_rfl) rfl Reads.own rfl h12.1 h12.2 (by decide) rfl ?_)
      refine OpTo.go (GoO.fldE (K := kT_tontineref15_Row) (A := A_3) (c := c_4) (xs := t_1.Rows.set r_8.toNat (⟨(rdL t_1.Rows r_8).Id, t_1.Now, (rdL t_1.Rows r_8).Seq, (⟨(rdL t_1.Rows r_8).Reply.Err, (rdL t_1.Rows r_8).Reply.Num, (rdL t_1.Rows r_8).Reply.Extra⟩ : T_api_Reply)⟩ : T_tontineref15_Row)) (iN := r_8.toNat) (off := 0) (n := 2) (j := 0) rfl (by kernel_rfl) (by kernel_rfl) rfl Reads.own (by first | exact idx_lt h12.1 h12.2 | (simp only [List.length_set]; exact idx_lt h12.1 h12.2)) (by decide) rfl ?_)
      refine OpTo.go (GoO.ldE' (K := kT_tontineref15_Row) (A := A_3) (c := c_4) (xs := t_1.Rows.set r_8.toNat (⟨(rdL t_1.Rows r_8).Id, t_1.Now, (rdL t_1.Rows r_8).Seq, (⟨(rdL t_1.Rows r_8).Reply.Err, (rdL t_1.Rows r_8).Reply.Num, (rdL t_1.Rows r_8).Reply.Extra⟩ : T_api_Reply)⟩ : T_tontineref15_Row)) (iN := r_8.toNat) (off := 2) (j := 0) rfl (by kernel_rfl) rfl Reads.own (by first | exact idx_lt h12.1 h12.2 | (simp only [List.length_set]; exact idx_lt h12.1 h12.2)) (by decide) (Opn.flat _ _ _ _ _) (v := fun _ => .int .u64 ((rdL (t_1.Rows.set r_8.toNat (⟨(rdL t_1.Rows r_8).Id, t_1.Now, (rdL t_1.Rows r_8).Seq, (⟨(rdL t_1.Rows r_8).Reply.Err, (rdL t_1.Rows r_8).Reply.Num, (rdL t_1.Rows r_8).Reply.Extra⟩ : T_api_Reply)⟩ : T_tontineref15_Row)) r_8).Seq)) (fun _ => by kernel_rfl) _ (fun _ => rfl) (fun _ => ?_))
      refine GoO.exec (is := [12, 13]) (hs := [.p, .p]) (rest := []) (ks := [0, 2, 6, 8, 39]) (env' := [(0, .pointer (some ⟨b_2, 0, none⟩)), (2, .int .u64 seq_6), (6, .pointer (some ⟨b_7, 0, none⟩)), (8, .int .i64 r_8), (39, .bool (seq_6 == ((rdL (t_1.Rows.set r_8.toNat (⟨(rdL t_1.Rows r_8).Id, t_1.Now, (rdL t_1.Rows r_8).Seq, (⟨(rdL t_1.Rows r_8).Reply.Err, (rdL t_1.Rows r_8).Reply.Num, (rdL t_1.Rows r_8).Reply.Extra⟩ : T_api_Reply)⟩ : T_tontineref15_Row)) r_8).Seq)))]) (H' := [⟨40, b_7, [.int .i64 0, .int .u64 0, .int .u64 0]⟩, ⟨1, b_2, [.int .u64 t_1.Now, .int .u64 t_1.Next, .slice A_3 (t_1.Rows.set r_8.toNat (⟨(rdL t_1.Rows r_8).Id, t_1.Now, (rdL t_1.Rows r_8).Seq, (⟨(rdL t_1.Rows r_8).Reply.Err, (rdL t_1.Rows r_8).Reply.Num, (rdL t_1.Rows r_8).Reply.Extra⟩ : T_api_Reply)⟩ : T_tontineref15_Row)).length c_4]⟩]) (ps := []) (by kernel_rfl) trivial ?_
      refine GoO.regionEnd ?_
      exact GoO.sub (ks := [0, 2, 6, 8, 39]) (hk := [1, 0]) (bk := [0]) (by kernel_rfl) (by kernel_rfl) (by kernel_rfl) (tontineref15_Table_Begin_j0_ok n t_1 seq_6 r_8 b_2 A_3 c_4 b_7 w0 S0 (seq_6 == ((rdL (t_1.Rows.set r_8.toNat (⟨(rdL t_1.Rows r_8).Id, t_1.Now, (rdL t_1.Rows r_8).Seq, (⟨(rdL t_1.Rows r_8).Reply.Err, (rdL t_1.Rows r_8).Reply.Num, (rdL t_1.Rows r_8).Reply.Extra⟩ : T_api_Reply)⟩ : T_tontineref15_Row)) r_8).Seq)))
    · refine GoO.exec (is := [3, 4, 5, 6, 7, 8, 9, 10, 11, 12, 13]) (hs := [.p, .p, .p, .p, .p, .p, .p, .p, .p, .p, .p]) (rest := []) (ks := [0, 2, 6, 8, 39]) (env' := [(0, .pointer (some ⟨b_2, 0, none⟩)), (2, .int .u64 seq_6), (6, .pointer (some ⟨b_7, 0, none⟩)), (8, .int .i64 r_8), (39, .bool false)]) (H' := [⟨40, b_7, [.int .i64 0, .int .u64 0, .int .u64 0]⟩, ⟨1, b_2, [.int .u64 t_1.Now, .int .u64 t_1.Next, .slice A_3 (t_1.Rows.set r_8.toNat (⟨(rdL t_1.Rows r_8).Id, t_1.Now, (rdL t_1.Rows r_8).Seq, (⟨(rdL t_1.Rows r_8).Reply.Err, (rdL t_1.Rows r_8).Reply.Num, (rdL t_1.Rows r_8).Reply.Extra⟩ : T_api_Reply)⟩ : T_tontineref15_Row)).length c_4]⟩]) (ps := []) (by kernel_rfl) trivial ?_
      refine GoO.regionEnd ?_
      exact GoO.sub (ks := [0, 2, 6, 8, 39]) (hk := [1, 0]) (bk := [0]) (by kernel_rfl) (by kernel_rfl) (by kernel_rfl) (tontineref15_Table_Begin_j0_ok n t_1 seq_6 r_8 b_2 A_3 c_4 b_7 w0 S0 false)

/-! (*tontine/tontineref15.Table).End -/
noncomputable def c47_0 : Code := bodyOf Try.f47
noncomputable def c47_1 : Code := cdL c47_0
noncomputable def c47_2 : Code := cdR c47_0
noncomputable def c47_3 : Code := cdL c47_2
noncomputable def c47_4 : Code := cdR c47_2
noncomputable def c47_5 : Code := cdL c47_4
noncomputable def c47_6 : Code := cdL c47_5
noncomputable def c47_7 : Code := cdR c47_5
noncomputable def c47_8 : Code := cdL c47_7
noncomputable def c47_9 : Code := cdL c47_8
noncomputable def c47_10 : Code := cdR c47_8
noncomputable def c47_11 : Code := cdR c47_7
noncomputable def c47_12 : Code := cdR c47_4
noncomputable def c47_13 : Code := cdL c47_12
noncomputable def c47_14 : Code := cdR c47_12
noncomputable def c47_15 : Code := cdL c47_14
noncomputable def c47_16 : Code := cdR c47_14
noncomputable def c47_17 : Code := cdL c47_16
noncomputable def c47_18 : Code := cdR c47_16
noncomputable def r47_1 : Array Oper := cdO c47_1
noncomputable def r47_3 : Array Oper := cdO c47_3
noncomputable def r47_6 : Array Oper := cdO c47_6
noncomputable def r47_9 : Array Oper := cdO c47_9
noncomputable def r47_13 : Array Oper := cdO c47_13
noncomputable def r47_15 : Array Oper := cdO c47_15
noncomputable def r47_17 : Array Oper := cdO c47_17
theorem c47_0e : c47_0 = .seq c47_1 c47_2 := by kernel_rfl
theorem c47_1e : c47_1 = .region 0 r47_1 false := by kernel_rfl
theorem c47_2e : c47_2 = .seq c47_3 c47_4 := by kernel_rfl
theorem c47_3e : c47_3 = .region 1 r47_3 false := by kernel_rfl
theorem c47_4e : c47_4 = .seq c47_5 c47_12 := by kernel_rfl
theorem c47_5e : c47_5 = .seq c47_6 c47_7 := by kernel_rfl
theorem c47_6e : c47_6 = .region 2 r47_6 false := by kernel_rfl
theorem c47_7e : c47_7 = .cond (cdC c47_7) c47_8 c47_11 := by kernel_rfl
theorem c47_8e : c47_8 = .seq c47_9 c47_10 := by kernel_rfl
theorem c47_9e : c47_9 = .region 3 r47_9 false := by kernel_rfl
theorem c47_10e : c47_10 = .ret := by kernel_rfl
theorem c47_11e : c47_11 = .skip := by kernel_rfl
theorem c47_12e : c47_12 = .seq c47_13 c47_14 := by kernel_rfl
theorem c47_13e : c47_13 = .region 4 r47_13 false := by kernel_rfl
theorem c47_14e : c47_14 = .seq c47_15 c47_16 := by kernel_rfl
theorem c47_15e : c47_15 = .region 5 r47_15 true := by kernel_rfl
theorem c47_16e : c47_16 = .seq c47_17 c47_18 := by kernel_rfl
theorem c47_17e : c47_17 = .region 6 r47_17 false := by kernel_rfl
theorem c47_18e : c47_18 = .ret := by kernel_rfl
noncomputable def tontineref15_Table_End.R (b_2 : Nat) (A_3 : Option Addr) (c_4 : Nat) : Pst (Bool × T_tontineref15_Table) where
  ε := Option Addr × Nat
  v := fun r x => .bool r.1
  H := fun r x => [⟨1, b_2, [.int .u64 r.2.Now, .int .u64 r.2.Next, .slice x.1 r.2.Rows.length x.2]⟩]
  B := fun r x => [Ow 2 kT_tontineref15_Row x.1 x.2 r.2.Rows]
noncomputable def tontineref15_Table_End.cx (b_2 : Nat) (A_3 : Option Addr) (c_4 : Nat) (w0 : World) (S0 : Fam) : Cx (Bool × T_tontineref15_Table) := ⟨Try.prog, 47, Try.f47, 48, w0, S0, [1, 2], 2, tontineref15_Table_End.R b_2 A_3 c_4⟩
theorem tontineref15_Table_End_j0_ok (n : Nat) (t_1 : T_tontineref15_Table) (seq_6 : Int) (y_7 : T_api_Reply) (r_9 : Int) (b_2 : Nat) (A_3 : Option Addr) (c_4 : Nat) (b_8 : Nat) (w0 : World) (S0 : Fam) (b_13 : Bool) :
    GoO (tontineref15_Table_End.cx b_2 A_3 c_4 w0 S0) [(0, .pointer (some ⟨b_2, 0, none⟩)), (2, .int .u64 seq_6), (7, .pointer (some ⟨b_8, 0, none⟩)), (9, .int .i64 r_9), (31, .bool b_13)] [⟨1, b_2, [.int .u64 t_1.Now, .int .u64 t_1.Next, .slice A_3 t_1.Rows.length c_4]⟩, ⟨40, b_8, [.int .i64 y_7.Err, .int .u64 y_7.Num, .int .u64 y_7.Extra]⟩] [Ow 2 kT_tontineref15_Row A_3 c_4 t_1.Rows] [.code c47_7, .code c47_12] (tontineref15_Table_End.j0 n t_1 seq_6 y_7 r_9 b_13) := by
  unfold tontineref15_Table_End.j0
  refine GoO.ite' c47_7e (by kernel_rfl) (fun h14 => ?_) (fun h14 => ?_)
  · refine GoO.seq' c47_8e ?_
    refine GoO.region' (is := [0]) c47_9e (by kernel_rfl) ?_
    refine GoO.exec (is := [0]) (hs := [.p]) (rest := []) (ks := [8]) (env' := [(8, .bool false)]) (H' := [⟨1, b_2, [.int .u64 t_1.Now, .int .u64 t_1.Next, .slice A_3 t_1.Rows.length c_4]⟩, ⟨40, b_8, [.int .i64 y_7.Err, .int .u64 y_7.Num, .int .u64 y_7.Extra]⟩]) (ps := []) (by kernel_rfl) trivial ?_
    refine GoO.regionEnd ?_
    exact GoO.ret' (h := c47_10e) (hs := []) (ps := []) (hk := [0]) (bk := [0]) Try.func47 (⟨A_3, c_4⟩ : Option Addr × Nat) (by kernel_rfl) trivial (by kernel_rfl) (by kernel_rfl)
  · refine GoO.skip' c47_11e ?_
    refine GoO.seq' c47_12e ?_
    refine GoO.region' (is := [0, 1, 2, 3, 4, 5, 6, 7, 8]) c47_13e (by kernel_rfl) ?_
    refine GoO.exec (is := [0, 1, 2, 3, 4, 5]) (hs := [.p, .p, .p, .b 0, .p, .p]) (rest := [6, 7, 8]) (ks := [0, 7, 9, 35, 36, 37]) (env' := [(0, .pointer (some ⟨b_2, 0, none⟩)), (7, .pointer (some ⟨b_8, 0, none⟩)), (9, .int .i64 r_9), (35, .slice A_3 t_1.Rows.length c_4), (36, .int .i64 r_9), (37, .int .u64 seq_6)]) (H' := [⟨1, b_2, [.int .u64 t_1.Now, .int .u64 t_1.Next, .slice A_3 t_1.Rows.length c_4]⟩, ⟨40, b_8, [.int .i64 y_7.Err, .int .u64 y_7.Num, .int .u64 y_7.Extra]⟩]) (ps := [b_2 = b_2]) (by kernel_rfl) (And.intro rfl trivial) ?_
    refine GoO.guard (fun h15 => ?_)
    refine OpTo.go (GoO.idx (kk := .i64) (e := 100) (K := kT_tontineref15_Row) (A := A_3) (c := c_4) (xs := t_1.Rows) (iv := r_9) (j := 0) rfl (by kernel_rfl) (by kernel_rfl) (by kernel_rfl) (by kernel_rfl) rfl Reads.own rfl h15.1 h15.2 (by decide) rfl ?_)
    refine OpTo.go (GoO.fldE (K := kT_tontineref15_Row) (A := A_3) (c := c_4) (xs := t_1.Rows) (iN := r_9.toNat) (off := 0) (n := 2) (j := 0) rfl (by kernel_rfl) (by kernel_rfl) rfl Reads.own (by first | exact idx_lt h15.1 h15.2 | (simp only [List.length_set]; exact idx_lt h15.1 h15.2)) (by decide) rfl ?_)
    refine OpTo.go (GoO.stE (K := kT_tontineref15_Row) (A := A_3) (c := c_4) (xs := t_1.Rows) (iN := r_9.toNat) (off := 2) (tg := 2) (j := 0) (v := .int .u64 seq_6) rfl (by kernel_rfl) (by kernel_rfl) rfl (by first | exact idx_lt h15.1 h15.2 | (simp only [List.length_set]; exact idx_lt h15.1 h15.2)) (by decide) (by kernel_rfl) (by kernel_rfl) (by kernel_rfl) ((⟨(rdL t_1.Rows r_9).Id, (rdL t_1.Rows r_9).Used, seq_6, (⟨(rdL t_1.Rows r_9).Reply.Err, (rdL t_1.Rows r_9).Reply.Num, (rdL t_1.Rows r_9).Reply.Extra⟩ : T_api_Reply)⟩ : T_tontineref15_Row)) (fun w S cs _ hr => ⟨_, by subst hr; exact stored_flat rfl, rfl⟩) rfl ?_)
    refine GoO.reval (t := 35) (v := .slice A_3 t_1.Rows.length c_4) (v' := .slice A_3 (t_1.Rows.set r_9.toNat (⟨(rdL t_1.Rows r_9).Id, (rdL t_1.Rows r_9).Used, seq_6, (⟨(rdL t_1.Rows r_9).Reply.Err, (rdL t_1.Rows r_9).Reply.Num, (rdL t_1.Rows r_9).Reply.Extra⟩ : T_api_Reply)⟩ : T_tontineref15_Row)).length c_4) (by kernel_rfl) (by simp) ?_
    refine GoO.rebox (j := 0) (t := 1) (b := b_2) (cs := [.int .u64 t_1.Now, .int .u64 t_1.Next, .slice A_3 t_1.Rows.length c_4]) (cs' := [.int .u64 t_1.Now, .int .u64 t_1.Next, .slice A_3 (t_1.Rows.set r_9.toNat (⟨(rdL t_1.Rows r_9).Id, (rdL t_1.Rows r_9).Used, seq_6, (⟨(rdL t_1.Rows r_9).Reply.Err, (rdL t_1.Rows r_9).Reply.Num, (rdL t_1.Rows r_9).Reply.Extra⟩ : T_api_Reply)⟩ : T_tontineref15_Row)).length c_4]) (by kernel_rfl) (by simp) ?_
    refine GoO.regionEnd ?_
    refine GoO.seq' c47_14e ?_
    refine GoO.draw c47_15e (by kernel_rfl) [6, 7, 8] [⟨1, b_2, [.int .u64 t_1.Now, .int .u64 t_1.Next, .slice A_3 (t_1.Rows.set r_9.toNat (⟨(rdL t_1.Rows r_9).Id, (rdL t_1.Rows r_9).Used, seq_6, (⟨(rdL t_1.Rows r_9).Reply.Err, (rdL t_1.Rows r_9).Reply.Num, (rdL t_1.Rows r_9).Reply.Extra⟩ : T_api_Reply)⟩ : T_tontineref15_Row)).length c_4]⟩, ⟨40, b_8, [.int .i64 y_7.Err, .int .u64 y_7.Num, .int .u64 y_7.Extra]⟩] [] (n := 9) (by kernel_rfl) ?_
    simp only [List.replicate]
    refine GoF.take [0, 1, 2, 3, 4, 5] [.p, .p, .p, .b 0, .p, .b 1] (ks := [43, 44, 45]) (fu := 3) (li := [true, true, true, true, true, true, false, false, false]) (env' := [(43, .slice A_3 (t_1.Rows.set r_9.toNat (⟨(rdL t_1.Rows r_9).Id, (rdL t_1.Rows r_9).Used, seq_6, (⟨(rdL t_1.Rows r_9).Reply.Err, (rdL t_1.Rows r_9).Reply.Num, (rdL t_1.Rows r_9).Reply.Extra⟩ : T_api_Reply)⟩ : T_tontineref15_Row)).length c_4), (44, .int .i64 r_9), (45, .agg ⟨[.int .i64 y_7.Err, .int .u64 y_7.Num, .int .u64 y_7.Extra]⟩)]) (ps := [b_2 = b_2, b_8 = b_8]) (hk := [0, 1]) (bk := []) (by kernel_rfl) (And.intro rfl (And.intro rfl trivial)) rfl rfl ?_
    refine GoF.guard (fun h16 => ?_)
    refine OpTo.goE (i := 6) (by kernel_rfl) rfl (GoO.idx (kk := .i64) (e := 100) (K := kT_tontineref15_Row) (A := A_3) (c := c_4) (xs := t_1.Rows.set r_9.toNat (⟨(rdL t_1.Rows r_9).Id, (rdL t_1.Rows r_9).Used, seq_6, (⟨(rdL t_1.Rows r_9).Reply.Err, (rdL t_1.Rows r_9).Reply.Num, (rdL t_1.Rows r_9).Reply.Extra⟩ : T_api_Reply)⟩ : T_tontineref15_Row)) (iv := r_9) (j := 0) rfl (by kernel_rfl) (by kernel_rfl) (by kernel_rfl) (by kernel_rfl) rfl Reads.own rfl h16.1 h16.2 (by decide) rfl ?_)
    refine OpTo.goE (i := 7) (by kernel_rfl) rfl (GoO.fldE (K := kT_tontineref15_Row) (A := A_3) (c := c_4) (xs := t_1.Rows.set r_9.toNat (⟨(rdL t_1.Rows r_9).Id, (rdL t_1.Rows r_9).Used, seq_6, (⟨(rdL t_1.Rows r_9).Reply.Err, (rdL t_1.Rows r_9).Reply.Num, (rdL t_1.Rows r_9).Reply.Extra⟩ : T_api_Reply)⟩ : T_tontineref15_Row)) (iN := r_9.toNat) (off := 0) (n := 3) (j := 0) rfl (by kernel_rfl) (by kernel_rfl) rfl Reads.own (by first | exact idx_lt h16.1 h16.2 | (simp only [List.length_set]; exact idx_lt h16.1 h16.2)) (by decide) rfl ?_)
    refine OpTo.goE (i := 8) (by kernel_rfl) rfl (GoO.stE (K := kT_tontineref15_Row) (A := A_3) (c := c_4) (xs := t_1.Rows.set r_9.toNat (⟨(rdL t_1.Rows r_9).Id, (rdL t_1.Rows r_9).Used, seq_6, (⟨(rdL t_1.Rows r_9).Reply.Err, (rdL t_1.Rows r_9).Reply.Num, (rdL t_1.Rows r_9).Reply.Extra⟩ : T_api_Reply)⟩ : T_tontineref15_Row)) (iN := r_9.toNat) (off := 3) (tg := 2) (j := 0) (v := .agg ⟨[.int .i64 y_7.Err, .int .u64 y_7.Num, .int .u64 y_7.Extra]⟩) rfl (by kernel_rfl) (by kernel_rfl) rfl (by first | exact idx_lt h16.1 h16.2 | (simp only [List.length_set]; exact idx_lt h16.1 h16.2)) (by decide) (by kernel_rfl) (by kernel_rfl) (by kernel_rfl) ((⟨(rdL (t_1.Rows.set r_9.toNat (⟨(rdL t_1.Rows r_9).Id, (rdL t_1.Rows r_9).Used, seq_6, (⟨(rdL t_1.Rows r_9).Reply.Err, (rdL t_1.Rows r_9).Reply.Num, (rdL t_1.Rows r_9).Reply.Extra⟩ : T_api_Reply)⟩ : T_tontineref15_Row)) r_9).Id, (rdL (t_1.Rows.set r_9.toNat (⟨(rdL t_1.Rows r_9).Id, (rdL t_1.Rows r_9).Used, seq_6, (⟨(rdL t_1.Rows r_9).Reply.Err, (rdL t_1.Rows r_9).Reply.Num, (rdL t_1.Rows r_9).Reply.Extra⟩ : T_api_Reply)⟩ : T_tontineref15_Row)) r_9).Used, (rdL (t_1.Rows.set r_9.toNat (⟨(rdL t_1.Rows r_9).Id, (rdL t_1.Rows r_9).Used, seq_6, (⟨(rdL t_1.Rows r_9).Reply.Err, (rdL t_1.Rows r_9).Reply.Num, (rdL t_1.Rows r_9).Reply.Extra⟩ : T_api_Reply)⟩ : T_tontineref15_Row)) r_9).Seq, y_7⟩ : T_tontineref15_Row)) (fun w S cs _ hr => ⟨_, by subst hr; exact stored_flat rfl, rfl⟩) rfl ?_)
    refine GoF.reval (t := 43) (v := .slice A_3 (t_1.Rows.set r_9.toNat (⟨(rdL t_1.Rows r_9).Id, (rdL t_1.Rows r_9).Used, seq_6, (⟨(rdL t_1.Rows r_9).Reply.Err, (rdL t_1.Rows r_9).Reply.Num, (rdL t_1.Rows r_9).Reply.Extra⟩ : T_api_Reply)⟩ : T_tontineref15_Row)).length c_4) (v' := .slice A_3 ((t_1.Rows.set r_9.toNat (⟨(rdL t_1.Rows r_9).Id, (rdL t_1.Rows r_9).Used, seq_6, (⟨(rdL t_1.Rows r_9).Reply.Err, (rdL t_1.Rows r_9).Reply.Num, (rdL t_1.Rows r_9).Reply.Extra⟩ : T_api_Reply)⟩ : T_tontineref15_Row)).set r_9.toNat (⟨(rdL (t_1.Rows.set r_9.toNat (⟨(rdL t_1.Rows r_9).Id, (rdL t_1.Rows r_9).Used, seq_6, (⟨(rdL t_1.Rows r_9).Reply.Err, (rdL t_1.Rows r_9).Reply.Num, (rdL t_1.Rows r_9).Reply.Extra⟩ : T_api_Reply)⟩ : T_tontineref15_Row)) r_9).Id, (rdL (t_1.Rows.set r_9.toNat (⟨(rdL t_1.Rows r_9).Id, (rdL t_1.Rows r_9).Used, seq_6, (⟨(rdL t_1.Rows r_9).Reply.Err, (rdL t_1.Rows r_9).Reply.Num, (rdL t_1.Rows r_9).Reply.Extra⟩ : T_api_Reply)⟩ : T_tontineref15_Row)) r_9).Used, (rdL (t_1.Rows.set r_9.toNat (⟨(rdL t_1.Rows r_9).Id, (rdL t_1.Rows r_9).Used, seq_6, (⟨(rdL t_1.Rows r_9).Reply.Err, (rdL t_1.Rows r_9).Reply.Num, (rdL t_1.Rows r_9).Reply.Extra⟩ : T_api_Reply)⟩ : T_tontineref15_Row)) r_9).Seq, y_7⟩ : T_tontineref15_Row)).length c_4) (by kernel_rfl) (by simp) ?_
    refine GoF.rebox (j := 0) (t := 1) (b := b_2) (cs := [.int .u64 t_1.Now, .int .u64 t_1.Next, .slice A_3 (t_1.Rows.set r_9.toNat (⟨(rdL t_1.Rows r_9).Id, (rdL t_1.Rows r_9).Used, seq_6, (⟨(rdL t_1.Rows r_9).Reply.Err, (rdL t_1.Rows r_9).Reply.Num, (rdL t_1.Rows r_9).Reply.Extra⟩ : T_api_Reply)⟩ : T_tontineref15_Row)).length c_4]) (cs' := [.int .u64 t_1.Now, .int .u64 t_1.Next, .slice A_3 ((t_1.Rows.set r_9.toNat (⟨(rdL t_1.Rows r_9).Id, (rdL t_1.Rows r_9).Used, seq_6, (⟨(rdL t_1.Rows r_9).Reply.Err, (rdL t_1.Rows r_9).Reply.Num, (rdL t_1.Rows r_9).Reply.Extra⟩ : T_api_Reply)⟩ : T_tontineref15_Row)).set r_9.toNat (⟨(rdL (t_1.Rows.set r_9.toNat (⟨(rdL t_1.Rows r_9).Id, (rdL t_1.Rows r_9).Used, seq_6, (⟨(rdL t_1.Rows r_9).Reply.Err, (rdL t_1.Rows r_9).Reply.Num, (rdL t_1.Rows r_9).Reply.Extra⟩ : T_api_Reply)⟩ : T_tontineref15_Row)) r_9).Id, (rdL (t_1.Rows.set r_9.toNat (⟨(rdL t_1.Rows r_9).Id, (rdL t_1.Rows r_9).Used, seq_6, (⟨(rdL t_1.Rows r_9).Reply.Err, (rdL t_1.Rows r_9).Reply.Num, (rdL t_1.Rows r_9).Reply.Extra⟩ : T_api_Reply)⟩ : T_tontineref15_Row)) r_9).Used, (rdL (t_1.Rows.set r_9.toNat (⟨(rdL t_1.Rows r_9).Id, (rdL t_1.Rows r_9).Used, seq_6, (⟨(rdL t_1.Rows r_9).Reply.Err, (rdL t_1.Rows r_9).Reply.Num, (rdL t_1.Rows r_9).Reply.Extra⟩ : T_api_Reply)⟩ : T_tontineref15_Row)) r_9).Seq, y_7⟩ : T_tontineref15_Row)).length c_4]) (by kernel_rfl) (by simp) ?_
    refine GoF.done (by kernel_rfl) ?_
    refine GoO.seq' c47_16e ?_
    refine GoO.region' (is := [0]) c47_17e (by kernel_rfl) ?_
    refine GoO.exec (is := [0]) (hs := [.p]) (rest := []) (ks := [8]) (env' := [(8, .bool true)]) (H' := [⟨1, b_2, [.int .u64 t_1.Now, .int .u64 t_1.Next, .slice A_3 ((t_1.Rows.set r_9.toNat (⟨(rdL t_1.Rows r_9).Id, (rdL t_1.Rows r_9).Used, seq_6, (⟨(rdL t_1.Rows r_9).Reply.Err, (rdL t_1.Rows r_9).Reply.Num, (rdL t_1.Rows r_9).Reply.Extra⟩ : T_api_Reply)⟩ : T_tontineref15_Row)).set r_9.toNat (⟨(rdL (t_1.Rows.set r_9.toNat (⟨(rdL t_1.Rows r_9).Id, (rdL t_1.Rows r_9).Used, seq_6, (⟨(rdL t_1.Rows r_9).Reply.Err, (rdL t_1.Rows r_9).Reply.Num, (rdL t_1.Rows r_9).Reply.Extra⟩ : T_api_Reply)⟩ : T_tontineref15_Row)) r_9).Id, (rdL (t_1.Rows.set r_9.toNat (⟨(rdL t_1.Rows r_9).Id, (rdL t_1.Rows r_9).Used, seq_6, (⟨(rdL t_1.Rows r_9).Reply.Err, (rdL t_1.Rows r_9).Reply.Num, (rdL t_1.Rows r_9).Reply.Extra⟩ : T_api_Reply)⟩ : T_tontineref15_Row)) r_9).Used, (rdL (t_1.Rows.set r_9.toNat (⟨(rdL t_1.Rows r_9).Id, (rdL t_1.Rows r_9).Used, seq_6, (⟨(rdL t_1.Rows r_9).Reply.Err, (rdL t_1.Rows r_9).Reply.Num, (rdL t_1.Rows r_9).Reply.Extra⟩ : T_api_Reply)⟩ : T_tontineref15_Row)) r_9).Seq, y_7⟩ : T_tontineref15_Row)).length c_4]⟩, ⟨40, b_8, [.int .i64 y_7.Err, .int .u64 y_7.Num, .int .u64 y_7.Extra]⟩]) (ps := []) (by kernel_rfl) trivial ?_
    refine GoO.regionEnd ?_
    exact GoO.ret' (h := c47_18e) (hs := []) (ps := []) (hk := [0]) (bk := [0]) Try.func47 (⟨A_3, c_4⟩ : Option Addr × Nat) (by kernel_rfl) trivial (by kernel_rfl) (by kernel_rfl)
theorem tontineref15_Table_End_ok (n : Nat) (t_1 : T_tontineref15_Table) (id_5 : Int) (seq_6 : Int) (y_7 : T_api_Reply) (b_2 : Nat) (A_3 : Option Addr) (c_4 : Nat) :
    Meets Try.prog 47 [.pointer (some ⟨b_2, 0, none⟩), .int .u64 id_5, .int .u64 seq_6, .agg ⟨[.int .i64 y_7.Err, .int .u64 y_7.Num, .int .u64 y_7.Extra]⟩] 2 [1, 2] [⟨1, b_2, [.int .u64 t_1.Now, .int .u64 t_1.Next, .slice A_3 t_1.Rows.length c_4]⟩] [Ow 2 kT_tontineref15_Row A_3 c_4 t_1.Rows] (tontineref15_Table_End.f n t_1 id_5 seq_6 y_7) (tontineref15_Table_End.R b_2 A_3 c_4) := by
  refine Meets.of (c := c47_0) (n := 48) Try.func47 (by kernel_rfl) (by kernel_rfl) (by kernel_rfl) fun w0 S0 => ?_
  unfold tontineref15_Table_End.f
  show GoO (tontineref15_Table_End.cx b_2 A_3 c_4 w0 S0) [(0, .pointer (some ⟨b_2, 0, none⟩)), (1, .int .u64 id_5), (2, .int .u64 seq_6), (3, .agg ⟨[.int .i64 y_7.Err, .int .u64 y_7.Num, .int .u64 y_7.Extra]⟩)] [⟨1, b_2, [.int .u64 t_1.Now, .int .u64 t_1.Next, .slice A_3 t_1.Rows.length c_4]⟩] [Ow 2 kT_tontineref15_Row A_3 c_4 t_1.Rows] [.code c47_0] _
  refine GoO.seq' c47_0e ?_
  refine GoO.region' (is := [0, 1]) c47_1e (by kernel_rfl) ?_
  refine OpTo.go (GoO.new rfl 40 (cs := [.int .i64 y_7.Err, .int .u64 y_7.Num, .int .u64 y_7.Extra]) (by kernel_rfl) _ (fun _ => rfl) (fun b_8 => ?_))
  refine GoO.exec (is := [1]) (hs := [.p]) (rest := []) (ks := [0, 1, 2, 7]) (env' := [(0, .pointer (some ⟨b_2, 0, none⟩)), (1, .int .u64 id_5), (2, .int .u64 seq_6), (7, .pointer (some ⟨b_8, 0, none⟩))]) (H' := [⟨40, b_8, [.int .i64 y_7.Err, .int .u64 y_7.Num, .int .u64 y_7.Extra]⟩, ⟨1, b_2, [.int .u64 t_1.Now, .int .u64 t_1.Next, .slice A_3 t_1.Rows.length c_4]⟩]) (ps := []) (by kernel_rfl) trivial ?_
  refine GoO.regionEnd ?_
  refine GoO.seq' c47_2e ?_
  refine GoO.region' (is := [0, 1, 2, 3]) c47_3e (by kernel_rfl) ?_
  refine GoO.exec (is := [0, 1]) (hs := [.p, .p]) (rest := [2, 3]) (ks := [0, 2, 7, 10, 11]) (env' := [(0, .pointer (some ⟨b_2, 0, none⟩)), (2, .int .u64 seq_6), (7, .pointer (some ⟨b_8, 0, none⟩)), (10, .pointer (some ⟨b_2, 0, none⟩)), (11, .int .u64 id_5)]) (H' := [⟨40, b_8, [.int .i64 y_7.Err, .int .u64 y_7.Num, .int .u64 y_7.Extra]⟩, ⟨1, b_2, [.int .u64 t_1.Now, .int .u64 t_1.Next, .slice A_3 t_1.Rows.length c_4]⟩]) (ps := []) (by kernel_rfl) trivial ?_
  refine OpTo.go (GoO.call rfl (by kernel_rfl) (by kernel_rfl) (tontineref15_Table_find_ok n t_1 id_5 b_2 A_3 c_4) [[0], [1], [2]] [] [(1, 1)] [(2, 0)] (hks := [0, 1]) (bks := [0]) (by kernel_rfl) (by kernel_rfl) (by kernel_rfl) (.inl rfl) rfl rfl (by kernel_rfl) (by kernel_rfl) _ (fun _ _ => rfl) _ _ (fun _ _ => rfl) (fun _ _ => rfl) (fun _ _ => by kernel_rfl) (fun _ _ => by kernel_rfl) (fun r_9 x_17 => ?_))
  refine GoO.shape (env' := [(0, .pointer (some ⟨b_2, 0, none⟩)), (2, .int .u64 seq_6), (7, .pointer (some ⟨b_8, 0, none⟩)), (10, .pointer (some ⟨b_2, 0, none⟩)), (11, .int .u64 id_5), (12, .int .i64 r_9)]) (H' := [⟨40, b_8, [.int .i64 y_7.Err, .int .u64 y_7.Num, .int .u64 y_7.Extra]⟩, ⟨1, b_2, [.int .u64 t_1.Now, .int .u64 t_1.Next, .slice A_3 t_1.Rows.length c_4]⟩]) (B' := [Ow 2 kT_tontineref15_Row A_3 c_4 t_1.Rows]) (ks := [0, 2, 7, 10, 11, 12]) (by kernel_rfl) (by kernel_rfl) (by kernel_rfl) ?_
  refine GoO.exec (is := [3]) (hs := [.p]) (rest := []) (ks := [0, 2, 7, 9]) (env' := [(0, .pointer (some ⟨b_2, 0, none⟩)), (2, .int .u64 seq_6), (7, .pointer (some ⟨b_8, 0, none⟩)), (9, .int .i64 r_9)]) (H' := [⟨40, b_8, [.int .i64 y_7.Err, .int .u64 y_7.Num, .int .u64 y_7.Extra]⟩, ⟨1, b_2, [.int .u64 t_1.Now, .int .u64 t_1.Next, .slice A_3 t_1.Rows.length c_4]⟩]) (ps := []) (by kernel_rfl) trivial ?_
  refine GoO.regionEnd ?_
  refine GoO.seq' c47_4e ?_
  refine GoO.seq' c47_5e ?_
  refine GoO.region' (is := [0, 1, 2, 3, 4, 5, 6, 7, 8, 9, 10, 11, 12, 13, 14, 15, 16, 17, 18]) c47_6e (by kernel_rfl) ?_
  refine GoO.exec (is := [0, 1, 2]) (hs := [.p, .p, .p]) (rest := [3, 4, 5, 6, 7, 8, 9, 10, 11, 12, 13, 14, 15, 16, 17, 18]) (ks := [0, 2, 7, 9, 15]) (env' := [(0, .pointer (some ⟨b_2, 0, none⟩)), (2, .int .u64 seq_6), (7, .pointer (some ⟨b_8, 0, none⟩)), (9, .int .i64 r_9), (15, .bool (decide (r_9 < 0)))]) (H' := [⟨40, b_8, [.int .i64 y_7.Err, .int .u64 y_7.Num, .int .u64 y_7.Extra]⟩, ⟨1, b_2, [.int .u64 t_1.Now, .int .u64 t_1.Next, .slice A_3 t_1.Rows.length c_4]⟩]) (ps := []) (by kernel_rfl) trivial ?_
  refine GoO.bsplit (t := 15) (by kernel_rfl) (fun h10 => ?_) (fun h10 => ?_)
  · refine GoO.exec (is := [3, 4, 5, 6, 7, 8, 9, 10, 11, 12, 13, 14, 15, 16, 17, 18]) (hs := [.p, .p, .p, .p, .p, .p, .p, .p, .p, .p, .p, .p, .p, .p, .p, .p]) (rest := []) (ks := [0, 2, 7, 9, 31]) (env' := [(0, .pointer (some ⟨b_2, 0, none⟩)), (2, .int .u64 seq_6), (7, .pointer (some ⟨b_8, 0, none⟩)), (9, .int .i64 r_9), (31, .bool true)]) (H' := [⟨40, b_8, [.int .i64 y_7.Err, .int .u64 y_7.Num, .int .u64 y_7.Extra]⟩, ⟨1, b_2, [.int .u64 t_1.Now, .int .u64 t_1.Next, .slice A_3 t_1.Rows.length c_4]⟩]) (ps := []) (by kernel_rfl) trivial ?_
    refine GoO.regionEnd ?_
    exact GoO.sub (ks := [0, 2, 7, 9, 31]) (hk := [1, 0]) (bk := [0]) (by kernel_rfl) (by kernel_rfl) (by kernel_rfl) (tontineref15_Table_End_j0_ok n t_1 seq_6 y_7 r_9 b_2 A_3 c_4 b_8 w0 S0 true)
  · refine GoO.exec (is := [3, 4, 5, 6]) (hs := [.p, .p, .p, .p]) (rest := [7, 8, 9, 10, 11, 12, 13, 14, 15, 16, 17, 18]) (ks := [0, 2, 7, 9, 19]) (env' := [(0, .pointer (some ⟨b_2, 0, none⟩)), (2, .int .u64 seq_6), (7, .pointer (some ⟨b_8, 0, none⟩)), (9, .int .i64 r_9), (19, .bool (seq_6 == 0))]) (H' := [⟨40, b_8, [.int .i64 y_7.Err, .int .u64 y_7.Num, .int .u64 y_7.Extra]⟩, ⟨1, b_2, [.int .u64 t_1.Now, .int .u64 t_1.Next, .slice A_3 t_1.Rows.length c_4]⟩]) (ps := []) (by kernel_rfl) trivial ?_
    refine GoO.bsplit (t := 19) (by kernel_rfl) (fun h11 => ?_) (fun h11 => ?_)
    · refine GoO.exec (is := [7, 8, 9, 10, 11, 12, 13, 14, 15, 16, 17, 18]) (hs := [.p, .p, .p, .p, .p, .p, .p, .p, .p, .p, .p, .p]) (rest := []) (ks := [0, 2, 7, 9, 31]) (env' := [(0, .pointer (some ⟨b_2, 0, none⟩)), (2, .int .u64 seq_6), (7, .pointer (some ⟨b_8, 0, none⟩)), (9, .int .i64 r_9), (31, .bool true)]) (H' := [⟨40, b_8, [.int .i64 y_7.Err, .int .u64 y_7.Num, .int .u64 y_7.Extra]⟩, ⟨1, b_2, [.int .u64 t_1.Now, .int .u64 t_1.Next, .slice A_3 t_1.Rows.length c_4]⟩]) (ps := []) (by kernel_rfl) trivial ?_
      refine GoO.regionEnd ?_
      exact GoO.sub (ks := [0, 2, 7, 9, 31]) (hk := [1, 0]) (bk := [0]) (by kernel_rfl) (by kernel_rfl) (by kernel_rfl) (tontineref15_Table_End_j0_ok n t_1 seq_6 y_7 r_9 b_2 A_3 c_4 b_8 w0 S0 true)
    · refine GoO.exec (is := [7, 8, 9, 10, 11, 12, 13]) (hs := [.p, .p, .p, .p, .p, .b 1, .p]) (rest := [14, 15, 16, 17, 18]) (ks := [0, 2, 7, 9, 19, 21, 25, 26]) (env' := [(0, .pointer (some ⟨b_2, 0, none⟩)), (2, .int .u64 seq_6), (7, .pointer (some ⟨b_8, 0, none⟩)), (9, .int .i64 r_9), (19, .bool false), (21, .int .u64 (wu64 (seq_6 - 1))), (25, .slice A_3 t_1.Rows.length c_4), (26, .int .i64 r_9)]) (H' := [⟨40, b_8, [.int .i64 y_7.Err, .int .u64 y_7.Num, .int .u64 y_7.Extra]⟩, ⟨1, b_2, [.int .u64 t_1.Now, .int .u64 t_1.Next, .slice A_3 t_1.Rows.length c_4]⟩]) (ps := [b_2 = b_2]) (by kernel_rfl) (And.intro rfl trivial) ?_
      refine GoO.guard (fun h12 => ?_)
      refine OpTo.go (GoO.idx (kk := .i64) (e := 100) (K := kT_tontineref15_Row) (A := A_3) (c := c_4) (xs := t_1.Rows) (iv := r_9) (j := 0) rfl (by kernel_rfl) (by kernel_rfl) (by kernel_rfl) (by kernel_rfl) rfl Reads.own rfl h12.1 h12.2 (by decide) rfl ?_)
      refine OpTo.go (GoO.fldE (K := kT_tontineref15_Row) (A := A_3) (c := c_4) (xs := t_1.Rows) (iN := r_9.toNat) (off := 0) (n := 2) (j := 0) rfl (by kernel_rfl) (by kernel_rfl) rfl Reads.own (by first | exact idx_lt h12.1 h12.2 | (simp only [List.length_set]; exact idx_lt h12.1 h12.2)) (by decide) rfl ?_)
      refine OpTo.go (GoO.ldE' (K := kT_tontineref15_Row) (A := A_3) (c := c_4) (xs := t_1.Rows) (iN := r_9.toNat) (off := 2) (j := 0) rfl (by kernel_rfl) rfl Reads.own (by first | exact idx_lt h12.1 h12.2 | (simp only [List.length_set]; exact idx_lt h12.1 h12.2)) (by decide) (Opn.flat _ _ _ _ _) (v := fun _ => .int .u64 ((rdL t_1.Rows r_9).Seq)) (fun _ => by kernel_rfl) _ (fun _ => rfl) (fun _ => ?_))
      refine GoO.exec (is := [17, 18]) (hs := [.p, .p]) (rest := []) (ks := [0, 2, 7, 9, 31]) (env' := [(0, .pointer (some ⟨b_2, 0, none⟩)), (2, .int .u64 seq_6), (7, .pointer (some ⟨b_8, 0, none⟩)), (9, .int .i64 r_9), (31, .bool ((wu64 (seq_6 - 1)) != ((rdL t_1.Rows r_9).Seq)))]) (H' := [⟨40, b_8, [.int .i64 y_7.Err, .int .u64 y_7.Num, .int .u64 y_7.Extra]⟩, ⟨1, b_2, [.int .u64 t_1.Now, .int .u64 t_1.Next, .slice A_3 t_1.Rows.length c_4]⟩]) (ps := []) (by kernel_rfl) trivial ?_
      refine GoO.regionEnd ?_
      exact GoO.sub (ks := [0, 2, 7, 9, 31]) (hk := [1, 0]) (bk := [0]) (by kernel_rfl) (by kernel_rfl) (by kernel_rfl) (tontineref15_Table_End_j0_ok n t_1 seq_6 y_7 r_9 b_2 A_3 c_4 b_8 w0 S0 ((wu64 (seq_6 - 1)) != ((rdL t_1.Rows r_9).Seq)))

/-! tontine/tontinelaw15.both -/
noncomputable def c27_0 : Code := bodyOf Try.f27
noncomputable def c27_1 : Code := cdL c27_0
noncomputable def c27_2 : Code := cdR c27_0
noncomputable def c27_3 : Code := cdL c27_2
noncomputable def c27_4 : Code := cdL c27_3
noncomputable def c27_5 : Code := cdR c27_3
noncomputable def c27_6 : Code := cdL c27_5
noncomputable def c27_7 : Code := cdL c27_6
noncomputable def c27_8 : Code := cdR c27_6
noncomputable def c27_9 : Code := cdL c27_8
noncomputable def c27_10 : Code := cdL c27_9
noncomputable def c27_11 : Code := cdR c27_9
noncomputable def c27_12 : Code := cdR c27_8
noncomputable def c27_13 : Code := cdL c27_12
noncomputable def c27_14 : Code := cdR c27_12
noncomputable def c27_15 : Code := cdL c27_14
noncomputable def c27_16 : Code := cdL c27_15
noncomputable def c27_17 : Code := cdR c27_15
noncomputable def c27_18 : Code := cdL c27_17
noncomputable def c27_19 : Code := cdR c27_17
noncomputable def c27_20 : Code := cdL c27_19
noncomputable def c27_21 : Code := cdR c27_19
noncomputable def c27_22 : Code := cdR c27_14
noncomputable def c27_23 : Code := cdL c27_22
noncomputable def c27_24 : Code := cdR c27_22
noncomputable def c27_25 : Code := cdL c27_24
noncomputable def c27_26 : Code := cdL c27_25
noncomputable def c27_27 : Code := cdR c27_25
noncomputable def c27_28 : Code := cdL c27_27
noncomputable def c27_29 : Code := cdR c27_27
noncomputable def c27_30 : Code := cdL c27_29
noncomputable def c27_31 : Code := cdR c27_29
noncomputable def c27_32 : Code := cdR c27_24
noncomputable def c27_33 : Code := cdL c27_32
noncomputable def c27_34 : Code := cdR c27_32
noncomputable def c27_35 : Code := cdR c27_2
noncomputable def c27_36 : Code := cdL c27_35
noncomputable def c27_37 : Code := cdR c27_35
noncomputable def r27_1 : Array Oper := cdO c27_1
noncomputable def r27_4 : Array Oper := cdO c27_4
noncomputable def r27_7 : Array Oper := cdO c27_7
noncomputable def r27_10 : Array Oper := cdO c27_10
noncomputable def r27_11 : Array Oper := cdO c27_11
noncomputable def r27_13 : Array Oper := cdO c27_13
noncomputable def r27_16 : Array Oper := cdO c27_16
noncomputable def r27_18 : Array Oper := cdO c27_18
noncomputable def r27_20 : Array Oper := cdO c27_20
noncomputable def r27_23 : Array Oper := cdO c27_23
noncomputable def r27_26 : Array Oper := cdO c27_26
noncomputable def r27_28 : Array Oper := cdO c27_28
noncomputable def r27_30 : Array Oper := cdO c27_30
noncomputable def r27_33 : Array Oper := cdO c27_33
noncomputable def r27_36 : Array Oper := cdO c27_36
theorem c27_0e : c27_0 = .seq c27_1 c27_2 := by kernel_rfl
theorem c27_1e : c27_1 = .region 0 r27_1 false := by kernel_rfl
theorem c27_2e : c27_2 = .seq c27_3 c27_35 := by kernel_rfl
theorem c27_3e : c27_3 = .seq c27_4 c27_5 := by kernel_rfl
theorem c27_4e : c27_4 = .region 1 r27_4 false := by kernel_rfl
theorem c27_5e : c27_5 = .block 0 c27_6 := by kernel_rfl
theorem c27_6e : c27_6 = .seq c27_7 c27_8 := by kernel_rfl
theorem c27_7e : c27_7 = .region 3 r27_7 false := by kernel_rfl
theorem c27_8e : c27_8 = .cond (cdC c27_8) c27_9 c27_12 := by kernel_rfl
theorem c27_9e : c27_9 = .seq c27_10 c27_11 := by kernel_rfl
theorem c27_10e : c27_10 = .region 4 r27_10 false := by kernel_rfl
theorem c27_11e : c27_11 = .region 5 r27_11 false := by kernel_rfl
theorem c27_12e : c27_12 = .seq c27_13 c27_14 := by kernel_rfl
theorem c27_13e : c27_13 = .region 6 r27_13 false := by kernel_rfl
theorem c27_14e : c27_14 = .cond (cdC c27_14) c27_15 c27_22 := by kernel_rfl
theorem c27_15e : c27_15 = .seq c27_16 c27_17 := by kernel_rfl
theorem c27_16e : c27_16 = .region 7 r27_16 false := by kernel_rfl
theorem c27_17e : c27_17 = .seq c27_18 c27_19 := by kernel_rfl
theorem c27_18e : c27_18 = .region 8 r27_18 false := by kernel_rfl
theorem c27_19e : c27_19 = .seq c27_20 c27_21 := by kernel_rfl
theorem c27_20e : c27_20 = .region 9 r27_20 false := by kernel_rfl
theorem c27_21e : c27_21 = .ret := by kernel_rfl
theorem c27_22e : c27_22 = .seq c27_23 c27_24 := by kernel_rfl
theorem c27_23e : c27_23 = .region 10 r27_23 false := by kernel_rfl
theorem c27_24e : c27_24 = .cond (cdC c27_24) c27_25 c27_32 := by kernel_rfl
theorem c27_25e : c27_25 = .seq c27_26 c27_27 := by kernel_rfl
theorem c27_26e : c27_26 = .region 11 r27_26 false := by kernel_rfl
theorem c27_27e : c27_27 = .seq c27_28 c27_29 := by kernel_rfl
theorem c27_28e : c27_28 = .region 12 r27_28 false := by kernel_rfl
theorem c27_29e : c27_29 = .seq c27_30 c27_31 := by kernel_rfl
theorem c27_30e : c27_30 = .region 13 r27_30 false := by kernel_rfl
theorem c27_31e : c27_31 = .ret := by kernel_rfl
theorem c27_32e : c27_32 = .seq c27_33 c27_34 := by kernel_rfl
theorem c27_33e : c27_33 = .region 2 r27_33 true := by kernel_rfl
theorem c27_34e : c27_34 = .ret := by kernel_rfl
theorem c27_35e : c27_35 = .seq c27_36 c27_37 := by kernel_rfl
theorem c27_36e : c27_36 = .region 14 r27_36 false := by kernel_rfl
theorem c27_37e : c27_37 = .ret := by kernel_rfl
noncomputable def tontinelaw15_both.R (b_2 : Nat) (A_3 : Option Addr) (c_4 : Nat) (b_6 : Nat) (A_7 : Option Addr) (c_8 : Nat) : Pst (Bool × T_session_Table × T_tontineref15_Table) where
  ε := Option Addr × Nat × Option Addr × Nat
  v := fun r x => .bool r.1
  H := fun r x => [⟨1, b_2, [.int .u64 r.2.1.now, .int .u64 r.2.1.next, .slice x.1 r.2.1.rows.length x.2.1]⟩, ⟨3, b_6, [.int .u64 r.2.2.Now, .int .u64 r.2.2.Next, .slice x.2.2.1 r.2.2.Rows.length x.2.2.2]⟩]
  B := fun r x => [Ow 2 kT_session_Row x.1 x.2.1 r.2.1.rows, Ow 4 kT_tontineref15_Row x.2.2.1 x.2.2.2 r.2.2.Rows]
noncomputable def tontinelaw15_both.cx (b_2 : Nat) (A_3 : Option Addr) (c_4 : Nat) (b_6 : Nat) (A_7 : Option Addr) (c_8 : Nat) (w0 : World) (S0 : Fam) : Cx (Bool × T_session_Table × T_tontineref15_Table) := ⟨Try.prog, 27, Try.f27, 92, w0, S0, [1, 2, 3, 4], 4, tontinelaw15_both.R b_2 A_3 c_4 b_6 A_7 c_8⟩
theorem tontinelaw15_both_ok (n : Nat) (t_1 : T_session_Table) (m_5 : T_tontineref15_Table) (c_9 : T_tontinelaw15_Call) (b_2 : Nat) (A_3 : Option Addr) (c_4 : Nat) (b_6 : Nat) (A_7 : Option Addr) (c_8 : Nat) :
    Meets Try.prog 27 [.pointer (some ⟨b_2, 0, none⟩), .pointer (some ⟨b_6, 0, none⟩), .agg ⟨[.int .i64 c_9.Kind, .int .u64 c_9.Id, .int .u64 c_9.Seq, .int .i64 c_9.Reply.Err, .int .u64 c_9.Reply.Num, .int .u64 c_9.Reply.Extra]⟩] 4 [1, 2, 3, 4] [⟨1, b_2, [.int .u64 t_1.now, .int .u64 t_1.next, .slice A_3 t_1.rows.length c_4]⟩, ⟨3, b_6, [.int .u64 m_5.Now, .int .u64 m_5.Next, .slice A_7 m_5.Rows.length c_8]⟩] [Ow 2 kT_session_Row A_3 c_4 t_1.rows, Ow 4 kT_tontineref15_Row A_7 c_8 m_5.Rows] (tontinelaw15_both.f n t_1 m_5 c_9) (tontinelaw15_both.R b_2 A_3 c_4 b_6 A_7 c_8) := by
  refine Meets.of (c := c27_0) (n := 92) Try.func27 (by kernel_rfl) (by kernel_rfl) (by kernel_rfl) fun w0 S0 => ?_
  unfold tontinelaw15_both.f
  show GoO (tontinelaw15_both.cx b_2 A_3 c_4 b_6 A_7 c_8 w0 S0) [(0, .pointer (some ⟨b_2, 0, none⟩)), (1, .pointer (some ⟨b_6, 0, none⟩)), (2, .agg ⟨[.int .i64 c_9.Kind, .int .u64 c_9.Id, .int .u64 c_9.Seq, .int .i64 c_9.Reply.Err, .int .u64 c_9.Reply.Num, .int .u64 c_9.Reply.Extra]⟩)] [⟨1, b_2, [.int .u64 t_1.now, .int .u64 t_1.next, .slice A_3 t_1.rows.length c_4]⟩, ⟨3, b_6, [.int .u64 m_5.Now, .int .u64 m_5.Next, .slice A_7 m_5.Rows.length c_8]⟩] [Ow 2 kT_session_Row A_3 c_4 t_1.rows, Ow 4 kT_tontineref15_Row A_7 c_8 m_5.Rows] [.code c27_0] _
  refine GoO.seq' c27_0e ?_
  refine GoO.region' (is := [0, 1]) c27_1e (by kernel_rfl) ?_
  refine OpTo.go (GoO.new rfl 40 (cs := [.int .i64 c_9.Kind, .int .u64 c_9.Id, .int .u64 c_9.Seq, .int .i64 c_9.Reply.Err, .int .u64 c_9.Reply.Num, .int .u64 c_9.Reply.Extra]) (by kernel_rfl) _ (fun _ => rfl) (fun b_10 => ?_))
  refine GoO.exec (is := [1]) (hs := [.p]) (rest := []) (ks := [0, 1, 5]) (env' := [(0, .pointer (some ⟨b_2, 0, none⟩)), (1, .pointer (some ⟨b_6, 0, none⟩)), (5, .pointer (some ⟨b_10, 0, none⟩))]) (H' := [⟨40, b_10, [.int .i64 c_9.Kind, .int .u64 c_9.Id, .int .u64 c_9.Seq, .int .i64 c_9.Reply.Err, .int .u64 c_9.Reply.Num, .int .u64 c_9.Reply.Extra]⟩, ⟨1, b_2, [.int .u64 t_1.now, .int .u64 t_1.next, .slice A_3 t_1.rows.length c_4]⟩, ⟨3, b_6, [.int .u64 m_5.Now, .int .u64 m_5.Next, .slice A_7 m_5.Rows.length c_8]⟩]) (ps := []) (by kernel_rfl) trivial ?_
  refine GoO.regionEnd ?_
  refine GoO.seq' c27_2e ?_
  refine GoO.seq' c27_3e ?_
  refine GoO.region' (is := [0, 1]) c27_4e (by kernel_rfl) ?_
  refine GoO.exec (is := [0, 1]) (hs := [.p, .b 0]) (rest := []) (ks := [0, 1, 5, 16]) (env' := [(0, .pointer (some ⟨b_2, 0, none⟩)), (1, .pointer (some ⟨b_6, 0, none⟩)), (5, .pointer (some ⟨b_10, 0, none⟩)), (16, .int .i64 c_9.Kind)]) (H' := [⟨40, b_10, [.int .i64 c_9.Kind, .int .u64 c_9.Id, .int .u64 c_9.Seq, .int .i64 c_9.Reply.Err, .int .u64 c_9.Reply.Num, .int .u64 c_9.Reply.Extra]⟩, ⟨1, b_2, [.int .u64 t_1.now, .int .u64 t_1.next, .slice A_3 t_1.rows.length c_4]⟩, ⟨3, b_6, [.int .u64 m_5.Now, .int .u64 m_5.Next, .slice A_7 m_5.Rows.length c_8]⟩]) (ps := [b_10 = b_10]) (by kernel_rfl) (And.intro rfl trivial) ?_
  refine GoO.regionEnd ?_
  refine GoO.block' c27_5e ?_
  refine GoO.seq' c27_6e ?_
  refine GoO.region' (is := [0, 1]) c27_7e (by kernel_rfl) ?_
  refine GoO.exec (is := [0, 1]) (hs := [.p, .p]) (rest := []) (ks := [0, 1, 5, 16, 34]) (env' := [(0, .pointer (some ⟨b_2, 0, none⟩)), (1, .pointer (some ⟨b_6, 0, none⟩)), (5, .pointer (some ⟨b_10, 0, none⟩)), (16, .int .i64 c_9.Kind), (34, .bool (c_9.Kind == 0))]) (H' := [⟨40, b_10, [.int .i64 c_9.Kind, .int .u64 c_9.Id, .int .u64 c_9.Seq, .int .i64 c_9.Reply.Err, .int .u64 c_9.Reply.Num, .int .u64 c_9.Reply.Extra]⟩, ⟨1, b_2, [.int .u64 t_1.now, .int .u64 t_1.next, .slice A_3 t_1.rows.length c_4]⟩, ⟨3, b_6, [.int .u64 m_5.Now, .int .u64 m_5.Next, .slice A_7 m_5.Rows.length c_8]⟩]) (ps := []) (by kernel_rfl) trivial ?_
  refine GoO.regionEnd ?_
  refine GoO.ite' c27_8e (by kernel_rfl) (fun h11 => ?_) (fun h11 => ?_)
  · refine GoO.seq' c27_9e ?_
    refine GoO.region' (is := [0, 1, 2, 3]) c27_10e (by kernel_rfl) ?_
    refine GoO.exec (is := [0, 1, 2]) (hs := [.p, .p, .b 0]) (rest := [3]) (ks := [1, 5, 36, 38]) (env' := [(1, .pointer (some ⟨b_6, 0, none⟩)), (5, .pointer (some ⟨b_10, 0, none⟩)), (36, .pointer (some ⟨b_2, 0, none⟩)), (38, .int .u64 c_9.Id)]) (H' := [⟨40, b_10, [.int .i64 c_9.Kind, .int .u64 c_9.Id, .int .u64 c_9.Seq, .int .i64 c_9.Reply.Err, .int .u64 c_9.Reply.Num, .int .u64 c_9.Reply.Extra]⟩, ⟨1, b_2, [.int .u64 t_1.now, .int .u64 t_1.next, .slice A_3 t_1.rows.length c_4]⟩, ⟨3, b_6, [.int .u64 m_5.Now, .int .u64 m_5.Next, .slice A_7 m_5.Rows.length c_8]⟩]) (ps := [b_10 = b_10]) (by kernel_rfl) (And.intro rfl trivial) ?_
    refine OpTo.go (GoO.call rfl (by kernel_rfl) (by kernel_rfl) (session_Table_Clock_ok n t_1 c_9.Id b_2 A_3 c_4) [[0], [1], [2]] [(1, 1), (2, 2)] [(1, 1)] [(2, 0)] (hks := [0, 2]) (bks := [1]) (by kernel_rfl) (by kernel_rfl) (by kernel_rfl) (.inl rfl) rfl rfl (by kernel_rfl) (by kernel_rfl) _ (fun _ _ => rfl) _ _ (fun _ _ => rfl) (fun _ _ => rfl) (fun _ _ => by kernel_rfl) (fun _ _ => by kernel_rfl) (fun r_12 x_19 => ?_))
    obtain ⟨A_13, c_14⟩ := x_19
    refine GoO.shape (env' := [(1, .pointer (some ⟨b_6, 0, none⟩)), (5, .pointer (some ⟨b_10, 0, none⟩)), (36, .pointer (some ⟨b_2, 0, none⟩)), (38, .int .u64 c_9.Id), (39, .tuple ⟨[]⟩)]) (H' := [⟨1, b_2, [.int .u64 r_12.now, .int .u64 r_12.next, .slice A_13 r_12.rows.length c_14]⟩, ⟨40, b_10, [.int .i64 c_9.Kind, .int .u64 c_9.Id, .int .u64 c_9.Seq, .int .i64 c_9.Reply.Err, .int .u64 c_9.Reply.Num, .int .u64 c_9.Reply.Extra]⟩, ⟨3, b_6, [.int .u64 m_5.Now, .int .u64 m_5.Next, .slice A_7 m_5.Rows.length c_8]⟩]) (B' := [Ow 2 kT_session_Row A_13 c_14 r_12.rows, Ow 4 kT_tontineref15_Row A_7 c_8 m_5.Rows]) (ks := [1, 5, 36, 38, 39]) (by kernel_rfl) (by kernel_rfl) (by kernel_rfl) ?_
    refine GoO.regionEnd ?_
    refine GoO.region' (is := [0, 1, 2, 3]) c27_11e (by kernel_rfl) ?_
    refine GoO.exec (is := [0, 1, 2]) (hs := [.p, .p, .b 1]) (rest := [3]) (ks := [40, 42]) (env' := [(40, .pointer (some ⟨b_6, 0, none⟩)), (42, .int .u64 c_9.Id)]) (H' := [⟨1, b_2, [.int .u64 r_12.now, .int .u64 r_12.next, .slice A_13 r_12.rows.length c_14]⟩, ⟨40, b_10, [.int .i64 c_9.Kind, .int .u64 c_9.Id, .int .u64 c_9.Seq, .int .i64 c_9.Reply.Err, .int .u64 c_9.Reply.Num, .int .u64 c_9.Reply.Extra]⟩, ⟨3, b_6, [.int .u64 m_5.Now, .int .u64 m_5.Next, .slice A_7 m_5.Rows.length c_8]⟩]) (ps := [b_10 = b_10]) (by kernel_rfl) (And.intro rfl trivial) ?_
    refine OpTo.go (GoO.call rfl (by kernel_rfl) (by kernel_rfl) (tontineref15_Table_Clock_ok n m_5 c_9.Id b_6 A_7 c_8) [[0], [3], [4]] [(3, 1), (4, 2)] [(1, 2)] [(2, 1)] (hks := [0, 1]) (bks := [0]) (by kernel_rfl) (by kernel_rfl) (by kernel_rfl) (.inl rfl) rfl rfl (by kernel_rfl) (by kernel_rfl) _ (fun _ _ => rfl) _ _ (fun _ _ => rfl) (fun _ _ => rfl) (fun _ _ => by kernel_rfl) (fun _ _ => by kernel_rfl) (fun r_15 x_18 => ?_))
    obtain ⟨A_16, c_17⟩ := x_18
    refine GoO.shape (env' := [(40, .pointer (some ⟨b_6, 0, none⟩)), (42, .int .u64 c_9.Id), (43, .tuple ⟨[]⟩)]) (H' := [⟨3, b_6, [.int .u64 r_15.Now, .int .u64 r_15.Next, .slice A_16 r_15.Rows.length c_17]⟩, ⟨1, b_2, [.int .u64 r_12.now, .int .u64 r_12.next, .slice A_13 r_12.rows.length c_14]⟩, ⟨40, b_10, [.int .i64 c_9.Kind, .int .u64 c_9.Id, .int .u64 c_9.Seq, .int .i64 c_9.Reply.Err, .int .u64 c_9.Reply.Num, .int .u64 c_9.Reply.Extra]⟩]) (B' := [Ow 4 kT_tontineref15_Row A_16 c_17 r_15.Rows, Ow 2 kT_session_Row A_13 c_14 r_12.rows]) (ks := [40, 42, 43]) (by kernel_rfl) (by kernel_rfl) (by kernel_rfl) ?_
    refine GoO.regionEnd ?_
    refine GoO.inBlock ?_
    refine GoO.seq' c27_35e ?_
    refine GoO.region' (is := [0]) c27_36e (by kernel_rfl) ?_
    refine GoO.exec (is := [0]) (hs := [.p]) (rest := []) (ks := [6]) (env' := [(6, .bool true)]) (H' := [⟨3, b_6, [.int .u64 r_15.Now, .int .u64 r_15.Next, .slice A_16 r_15.Rows.length c_17]⟩, ⟨1, b_2, [.int .u64 r_12.now, .int .u64 r_12.next, .slice A_13 r_12.rows.length c_14]⟩, ⟨40, b_10, [.int .i64 c_9.Kind, .int .u64 c_9.Id, .int .u64 c_9.Seq, .int .i64 c_9.Reply.Err, .int .u64 c_9.Reply.Num, .int .u64 c_9.Reply.Extra]⟩]) (ps := []) (by kernel_rfl) trivial ?_
    refine GoO.regionEnd ?_
    exact GoO.ret' (h := c27_37e) (hs := []) (ps := []) (hk := [1, 0]) (bk := [1, 0]) Try.func27 (⟨A_13, c_14, A_16, c_17⟩ : Option Addr × Nat × Option Addr × Nat) (by kernel_rfl) trivial (by kernel_rfl) (by kernel_rfl)
  · refine GoO.seq' c27_12e ?_
    refine GoO.region' (is := [0, 1]) c27_13e (by kernel_rfl) ?_
    refine GoO.exec (is := [0, 1]) (hs := [.p, .p]) (rest := []) (ks := [0, 1, 5, 16, 44]) (env' := [(0, .pointer (some ⟨b_2, 0, none⟩)), (1, .pointer (some ⟨b_6, 0, none⟩)), (5, .pointer (some ⟨b_10, 0, none⟩)), (16, .int .i64 c_9.Kind), (44, .bool (c_9.Kind == 1))]) (H' := [⟨40, b_10, [.int .i64 c_9.Kind, .int .u64 c_9.Id, .int .u64 c_9.Seq, .int .i64 c_9.Reply.Err, .int .u64 c_9.Reply.Num, .int .u64 c_9.Reply.Extra]⟩, ⟨1, b_2, [.int .u64 t_1.now, .int .u64 t_1.next, .slice A_3 t_1.rows.length c_4]⟩, ⟨3, b_6, [.int .u64 m_5.Now, .int .u64 m_5.Next, .slice A_7 m_5.Rows.length c_8]⟩]) (ps := []) (by kernel_rfl) trivial ?_
    refine GoO.regionEnd ?_
    refine GoO.ite' c27_14e (by kernel_rfl) (fun h20 => ?_) (fun h20 => ?_)
    · refine GoO.seq' c27_15e ?_
      refine GoO.region' (is := [0, 1, 2, 3, 4, 5, 6]) c27_16e (by kernel_rfl) ?_
      refine GoO.exec (is := [0]) (hs := [.p]) (rest := [1, 2, 3, 4, 5, 6]) (ks := [1, 47]) (env' := [(1, .pointer (some ⟨b_6, 0, none⟩)), (47, .pointer (some ⟨b_2, 0, none⟩))]) (H' := [⟨40, b_10, [.int .i64 c_9.Kind, .int .u64 c_9.Id, .int .u64 c_9.Seq, .int .i64 c_9.Reply.Err, .int .u64 c_9.Reply.Num, .int .u64 c_9.Reply.Extra]⟩, ⟨1, b_2, [.int .u64 t_1.now, .int .u64 t_1.next, .slice A_3 t_1.rows.length c_4]⟩, ⟨3, b_6, [.int .u64 m_5.Now, .int .u64 m_5.Next, .slice A_7 m_5.Rows.length c_8]⟩]) (ps := []) (by kernel_rfl) trivial ?_
      refine OpTo.go (GoO.call rfl (by kernel_rfl) (by kernel_rfl) (session_Table_Register_ok n t_1 b_2 A_3 c_4) [[0], [1], [2]] [(1, 1), (2, 2)] [(1, 1)] [(2, 0)] (hks := [0, 2]) (bks := [1]) (by kernel_rfl) (by kernel_rfl) (by kernel_rfl) (.inl rfl) rfl rfl (by kernel_rfl) (by kernel_rfl) _ (fun _ _ => rfl) _ _ (fun _ _ => rfl) (fun _ _ => rfl) (fun _ _ => by kernel_rfl) (fun _ _ => by kernel_rfl) (fun r_21 x_29 => ?_))
      obtain ⟨A_22, c_23⟩ := x_29
      refine GoO.shape (env' := [(1, .pointer (some ⟨b_6, 0, none⟩)), (47, .pointer (some ⟨b_2, 0, none⟩)), (48, .tuple ⟨[.int .u64 r_21.1, .int .i64 r_21.2.1]⟩)]) (H' := [⟨1, b_2, [.int .u64 r_21.2.2.now, .int .u64 r_21.2.2.next, .slice A_22 r_21.2.2.rows.length c_23]⟩, ⟨40, b_10, [.int .i64 c_9.Kind, .int .u64 c_9.Id, .int .u64 c_9.Seq, .int .i64 c_9.Reply.Err, .int .u64 c_9.Reply.Num, .int .u64 c_9.Reply.Extra]⟩, ⟨3, b_6, [.int .u64 m_5.Now, .int .u64 m_5.Next, .slice A_7 m_5.Rows.length c_8]⟩]) (B' := [Ow 2 kT_session_Row A_22 c_23 r_21.2.2.rows, Ow 4 kT_tontineref15_Row A_7 c_8 m_5.Rows]) (ks := [1, 47, 48]) (by kernel_rfl) (by kernel_rfl) (by kernel_rfl) ?_
      refine GoO.exec (is := [2, 3, 4, 5, 6]) (hs := [.p, .p, .p, .p, .p]) (rest := []) (ks := [1, 7, 8]) (env' := [(1, .pointer (some ⟨b_6, 0, none⟩)), (7, .int .u64 r_21.1), (8, .int .i64 r_21.2.1)]) (H' := [⟨1, b_2, [.int .u64 r_21.2.2.now, .int .u64 r_21.2.2.next, .slice A_22 r_21.2.2.rows.length c_23]⟩, ⟨40, b_10, [.int .i64 c_9.Kind, .int .u64 c_9.Id, .int .u64 c_9.Seq, .int .i64 c_9.Reply.Err, .int .u64 c_9.Reply.Num, .int .u64 c_9.Reply.Extra]⟩, ⟨3, b_6, [.int .u64 m_5.Now, .int .u64 m_5.Next, .slice A_7 m_5.Rows.length c_8]⟩]) (ps := []) (by kernel_rfl) trivial ?_
      refine GoO.regionEnd ?_
      refine GoO.seq' c27_17e ?_
      refine GoO.region' (is := [0, 1, 2, 3, 4, 5, 6]) c27_18e (by kernel_rfl) ?_
      refine GoO.exec (is := [0]) (hs := [.p]) (rest := [1, 2, 3, 4, 5, 6]) (ks := [7, 8, 52]) (env' := [(7, .int .u64 r_21.1), (8, .int .i64 r_21.2.1), (52, .pointer (some ⟨b_6, 0, none⟩))]) (H' := [⟨1, b_2, [.int .u64 r_21.2.2.now, .int .u64 r_21.2.2.next, .slice A_22 r_21.2.2.rows.length c_23]⟩, ⟨40, b_10, [.int .i64 c_9.Kind, .int .u64 c_9.Id, .int .u64 c_9.Seq, .int .i64 c_9.Reply.Err, .int .u64 c_9.Reply.Num, .int .u64 c_9.Reply.Extra]⟩, ⟨3, b_6, [.int .u64 m_5.Now, .int .u64 m_5.Next, .slice A_7 m_5.Rows.length c_8]⟩]) (ps := []) (by kernel_rfl) trivial ?_
      refine OpTo.go (GoO.call rfl (by kernel_rfl) (by kernel_rfl) (tontineref15_Table_Register_ok n m_5 b_6 A_7 c_8) [[0], [3], [4]] [(3, 1), (4, 2)] [(1, 2)] [(2, 1)] (hks := [0, 1]) (bks := [0]) (by kernel_rfl) (by kernel_rfl) (by kernel_rfl) (.inl rfl) rfl rfl (by kernel_rfl) (by kernel_rfl) _ (fun _ _ => rfl) _ _ (fun _ _ => rfl) (fun _ _ => rfl) (fun _ _ => by kernel_rfl) (fun _ _ => by kernel_rfl) (fun r_24 x_28 => ?_))
      obtain ⟨A_25, c_26⟩ := x_28
      refine GoO.shape (env' := [(7, .int .u64 r_21.1), (8, .int .i64 r_21.2.1), (52, .pointer (some ⟨b_6, 0, none⟩)), (53, .tuple ⟨[.int .u64 r_24.1, .int .i64 r_24.2.1]⟩)]) (H' := [⟨3, b_6, [.int .u64 r_24.2.2.Now, .int .u64 r_24.2.2.Next, .slice A_25 r_24.2.2.Rows.length c_26]⟩, ⟨1, b_2, [.int .u64 r_21.2.2.now, .int .u64 r_21.2.2.next, .slice A_22 r_21.2.2.rows.length c_23]⟩, ⟨40, b_10, [.int .i64 c_9.Kind, .int .u64 c_9.Id, .int .u64 c_9.Seq, .int .i64 c_9.Reply.Err, .int .u64 c_9.Reply.Num, .int .u64 c_9.Reply.Extra]⟩]) (B' := [Ow 4 kT_tontineref15_Row A_25 c_26 r_24.2.2.Rows, Ow 2 kT_session_Row A_22 c_23 r_21.2.2.rows]) (ks := [7, 8, 52, 53]) (by kernel_rfl) (by kernel_rfl) (by kernel_rfl) ?_
      refine GoO.exec (is := [2, 3, 4, 5, 6]) (hs := [.p, .p, .p, .p, .p]) (rest := []) (ks := [7, 8, 9, 10]) (env' := [(7, .int .u64 r_21.1), (8, .int .i64 r_21.2.1), (9, .int .u64 r_24.1), (10, .int .i64 r_24.2.1)]) (H' := [⟨3, b_6, [.int .u64 r_24.2.2.Now, .int .u64 r_24.2.2.Next, .slice A_25 r_24.2.2.Rows.length c_26]⟩, ⟨1, b_2, [.int .u64 r_21.2.2.now, .int .u64 r_21.2.2.next, .slice A_22 r_21.2.2.rows.length c_23]⟩, ⟨40, b_10, [.int .i64 c_9.Kind, .int .u64 c_9.Id, .int .u64 c_9.Seq, .int .i64 c_9.Reply.Err, .int .u64 c_9.Reply.Num, .int .u64 c_9.Reply.Extra]⟩]) (ps := []) (by kernel_rfl) trivial ?_
      refine GoO.regionEnd ?_
      refine GoO.seq' c27_19e ?_
      refine GoO.region' (is := [0, 1, 2, 3, 4, 5, 6, 7, 8]) c27_20e (by kernel_rfl) ?_
      refine GoO.exec (is := [0, 1, 2, 3]) (hs := [.p, .p, .p, .p]) (rest := [4, 5, 6, 7, 8]) (ks := [8, 10, 59]) (env' := [(8, .int .i64 r_21.2.1), (10, .int .i64 r_24.2.1), (59, .bool (r_21.1 == r_24.1))]) (H' := [⟨3, b_6, [.int .u64 r_24.2.2.Now, .int .u64 r_24.2.2.Next, .slice A_25 r_24.2.2.Rows.length c_26]⟩, ⟨1, b_2, [.int .u64 r_21.2.2.now, .int .u64 r_21.2.2.next, .slice A_22 r_21.2.2.rows.length c_23]⟩, ⟨40, b_10, [.int .i64 c_9.Kind, .int .u64 c_9.Id, .int .u64 c_9.Seq, .int .i64 c_9.Reply.Err, .int .u64 c_9.Reply.Num, .int .u64 c_9.Reply.Extra]⟩]) (ps := []) (by kernel_rfl) trivial ?_
      refine GoO.bsplit (t := 59) (by kernel_rfl) (fun h27 => ?_) (fun h27 => ?_)
      · refine GoO.exec (is := [4, 5, 6, 7, 8]) (hs := [.p, .p, .p, .p, .p]) (rest := []) (ks := [6]) (env' := [(6, .bool (r_21.2.1 == r_24.2.1))]) (H' := [⟨3, b_6, [.int .u64 r_24.2.2.Now, .int .u64 r_24.2.2.Next, .slice A_25 r_24.2.2.Rows.length c_26]⟩, ⟨1, b_2, [.int .u64 r_21.2.2.now, .int .u64 r_21.2.2.next, .slice A_22 r_21.2.2.rows.length c_23]⟩, ⟨40, b_10, [.int .i64 c_9.Kind, .int .u64 c_9.Id, .int .u64 c_9.Seq, .int .i64 c_9.Reply.Err, .int .u64 c_9.Reply.Num, .int .u64 c_9.Reply.Extra]⟩]) (ps := []) (by kernel_rfl) trivial ?_
        refine GoO.regionEnd ?_
        exact GoO.ret' (h := c27_21e) (hs := []) (ps := []) (hk := [1, 0]) (bk := [1, 0]) Try.func27 (⟨A_22, c_23, A_25, c_26⟩ : Option Addr × Nat × Option Addr × Nat) (by kernel_rfl) trivial (by kernel_rfl) (by kernel_rfl)
      · refine GoO.exec (is := [4, 5, 6, 7, 8]) (hs := [.p, .p, .p, .p, .p]) (rest := []) (ks := [6]) (env' := [(6, .bool false)]) (H' := [⟨3, b_6, [.int .u64 r_24.2.2.Now, .int .u64 r_24.2.2.Next, .slice A_25 r_24.2.2.Rows.length c_26]⟩, ⟨1, b_2, [.int .u64 r_21.2.2.now, .int .u64 r_21.2.2.next, .slice A_22 r_21.2.2.rows.length c_23]⟩, ⟨40, b_10, [.int .i64 c_9.Kind, .int .u64 c_9.Id, .int .u64 c_9.Seq, .int .i64 c_9.Reply.Err, .int .u64 c_9.Reply.Num, .int .u64 c_9.Reply.Extra]⟩]) (ps := []) (by kernel_rfl) trivial ?_
        refine GoO.regionEnd ?_
        exact GoO.ret' (h := c27_21e) (hs := []) (ps := []) (hk := [1, 0]) (bk := [1, 0]) Try.func27 (⟨A_22, c_23, A_25, c_26⟩ : Option Addr × Nat × Option Addr × Nat) (by kernel_rfl) trivial (by kernel_rfl) (by kernel_rfl)
    · refine GoO.seq' c27_22e ?_
      refine GoO.region' (is := [0, 1]) c27_23e (by kernel_rfl) ?_
      refine GoO.exec (is := [0, 1]) (hs := [.p, .p]) (rest := []) (ks := [0, 1, 5, 64]) (env' := [(0, .pointer (some ⟨b_2, 0, none⟩)), (1, .pointer (some ⟨b_6, 0, none⟩)), (5, .pointer (some ⟨b_10, 0, none⟩)), (64, .bool (c_9.Kind == 2))]) (H' := [⟨40, b_10, [.int .i64 c_9.Kind, .int .u64 c_9.Id, .int .u64 c_9.Seq, .int .i64 c_9.Reply.Err, .int .u64 c_9.Reply.Num, .int .u64 c_9.Reply.Extra]⟩, ⟨1, b_2, [.int .u64 t_1.now, .int .u64 t_1.next, .slice A_3 t_1.rows.length c_4]⟩, ⟨3, b_6, [.int .u64 m_5.Now, .int .u64 m_5.Next, .slice A_7 m_5.Rows.length c_8]⟩]) (ps := []) (by kernel_rfl) trivial ?_
      refine GoO.regionEnd ?_
      refine GoO.ite' c27_24e (by kernel_rfl) (fun h30 => ?_) (fun h30 => ?_)
      · refine GoO.seq' c27_25e ?_
        refine GoO.region' (is := [0, 1, 2, 3, 4, 5, 6, 7, 8, 9, 10, 11]) c27_26e (by kernel_rfl) ?_
        refine GoO.exec (is := [0, 1, 2, 3, 4]) (hs := [.p, .p, .b 0, .p, .b 0]) (rest := [5, 6, 7, 8, 9, 10, 11]) (ks := [1, 5, 67, 69, 71]) (env' := [(1, .pointer (some ⟨b_6, 0, none⟩)), (5, .pointer (some ⟨b_10, 0, none⟩)), (67, .pointer (some ⟨b_2, 0, none⟩)), (69, .int .u64 c_9.Id), (71, .int .u64 c_9.Seq)]) (H' := [⟨40, b_10, [.int .i64 c_9.Kind, .int .u64 c_9.Id, .int .u64 c_9.Seq, .int .i64 c_9.Reply.Err, .int .u64 c_9.Reply.Num, .int .u64 c_9.Reply.Extra]⟩, ⟨1, b_2, [.int .u64 t_1.now, .int .u64 t_1.next, .slice A_3 t_1.rows.length c_4]⟩, ⟨3, b_6, [.int .u64 m_5.Now, .int .u64 m_5.Next, .slice A_7 m_5.Rows.length c_8]⟩]) (ps := [b_10 = b_10, b_10 = b_10]) (by kernel_rfl) (And.intro rfl (And.intro rfl trivial)) ?_
        refine OpTo.go (GoO.call rfl (by kernel_rfl) (by kernel_rfl) (session_Table_Begin_ok n t_1 c_9.Id c_9.Seq b_2 A_3 c_4) [[0], [1], [2]] [(1, 1), (2, 2)] [(1, 1)] [(2, 0)] (hks := [0, 2]) (bks := [1]) (by kernel_rfl) (by kernel_rfl) (by kernel_rfl) (.inl rfl) rfl rfl (by kernel_rfl) (by kernel_rfl) _ (fun _ _ => rfl) _ _ (fun _ _ => rfl) (fun _ _ => rfl) (fun _ _ => by kernel_rfl) (fun _ _ => by kernel_rfl) (fun r_31 x_41 => ?_))
        obtain ⟨A_32, c_33⟩ := x_41
        refine GoO.shape (env' := [(1, .pointer (some ⟨b_6, 0, none⟩)), (5, .pointer (some ⟨b_10, 0, none⟩)), (67, .pointer (some ⟨b_2, 0, none⟩)), (69, .int .u64 c_9.Id), (71, .int .u64 c_9.Seq), (72, .tuple ⟨[.agg ⟨[.int .i64 r_31.1.Err, .int .u64 r_31.1.Num, .int .u64 r_31.1.Extra]⟩, .bool r_31.2.1]⟩)]) (H' := [⟨1, b_2, [.int .u64 r_31.2.2.now, .int .u64 r_31.2.2.next, .slice A_32 r_31.2.2.rows.length c_33]⟩, ⟨40, b_10, [.int .i64 c_9.Kind, .int .u64 c_9.Id, .int .u64 c_9.Seq, .int .i64 c_9.Reply.Err, .int .u64 c_9.Reply.Num, .int .u64 c_9.Reply.Extra]⟩, ⟨3, b_6, [.int .u64 m_5.Now, .int .u64 m_5.Next, .slice A_7 m_5.Rows.length c_8]⟩]) (B' := [Ow 2 kT_session_Row A_32 c_33 r_31.2.2.rows, Ow 4 kT_tontineref15_Row A_7 c_8 m_5.Rows]) (ks := [1, 5, 67, 69, 71, 72]) (by kernel_rfl) (by kernel_rfl) (by kernel_rfl) ?_
        refine GoO.exec (is := [6, 7, 8]) (hs := [.p, .p, .p]) (rest := [9, 10, 11]) (ks := [1, 5, 73, 74]) (env' := [(1, .pointer (some ⟨b_6, 0, none⟩)), (5, .pointer (some ⟨b_10, 0, none⟩)), (73, .agg ⟨[.int .i64 r_31.1.Err, .int .u64 r_31.1.Num, .int .u64 r_31.1.Extra]⟩), (74, .bool r_31.2.1)]) (H' := [⟨1, b_2, [.int .u64 r_31.2.2.now, .int .u64 r_31.2.2.next, .slice A_32 r_31.2.2.rows.length c_33]⟩, ⟨40, b_10, [.int .i64 c_9.Kind, .int .u64 c_9.Id, .int .u64 c_9.Seq, .int .i64 c_9.Reply.Err, .int .u64 c_9.Reply.Num, .int .u64 c_9.Reply.Extra]⟩, ⟨3, b_6, [.int .u64 m_5.Now, .int .u64 m_5.Next, .slice A_7 m_5.Rows.length c_8]⟩]) (ps := []) (by kernel_rfl) trivial ?_
        refine OpTo.go (GoO.new rfl 41 (cs := [.int .i64 0, .int .u64 0, .int .u64 0]) (by kernel_rfl) _ (fun _ => rfl) (fun b_34 => ?_))
        refine GoO.exec (is := [10, 11]) (hs := [.b 0, .p]) (rest := []) (ks := [1, 5, 11, 12]) (env' := [(1, .pointer (some ⟨b_6, 0, none⟩)), (5, .pointer (some ⟨b_10, 0, none⟩)), (11, .pointer (some ⟨b_34, 0, none⟩)), (12, .bool r_31.2.1)]) (H' := [⟨41, b_34, [.int .i64 r_31.1.Err, .int .u64 r_31.1.Num, .int .u64 r_31.1.Extra]⟩, ⟨1, b_2, [.int .u64 r_31.2.2.now, .int .u64 r_31.2.2.next, .slice A_32 r_31.2.2.rows.length c_33]⟩, ⟨40, b_10, [.int .i64 c_9.Kind, .int .u64 c_9.Id, .int .u64 c_9.Seq, .int .i64 c_9.Reply.Err, .int .u64 c_9.Reply.Num, .int .u64 c_9.Reply.Extra]⟩, ⟨3, b_6, [.int .u64 m_5.Now, .int .u64 m_5.Next, .slice A_7 m_5.Rows.length c_8]⟩]) (ps := [b_34 = b_34]) (by kernel_rfl) (And.intro rfl trivial) ?_
        refine GoO.regionEnd ?_
        refine GoO.seq' c27_27e ?_
        refine GoO.region' (is := [0, 1, 2, 3, 4, 5, 6, 7, 8, 9, 10, 11]) c27_28e (by kernel_rfl) ?_
        refine GoO.exec (is := [0, 1, 2, 3, 4]) (hs := [.p, .p, .b 2, .p, .b 2]) (rest := [5, 6, 7, 8, 9, 10, 11]) (ks := [11, 12, 76, 78, 80]) (env' := [(11, .pointer (some ⟨b_34, 0, none⟩)), (12, .bool r_31.2.1), (76, .pointer (some ⟨b_6, 0, none⟩)), (78, .int .u64 c_9.Id), (80, .int .u64 c_9.Seq)]) (H' := [⟨41, b_34, [.int .i64 r_31.1.Err, .int .u64 r_31.1.Num, .int .u64 r_31.1.Extra]⟩, ⟨1, b_2, [.int .u64 r_31.2.2.now, .int .u64 r_31.2.2.next, .slice A_32 r_31.2.2.rows.length c_33]⟩, ⟨40, b_10, [.int .i64 c_9.Kind, .int .u64 c_9.Id, .int .u64 c_9.Seq, .int .i64 c_9.Reply.Err, .int .u64 c_9.Reply.Num, .int .u64 c_9.Reply.Extra]⟩, ⟨3, b_6, [.int .u64 m_5.Now, .int .u64 m_5.Next, .slice A_7 m_5.Rows.length c_8]⟩]) (ps := [b_10 = b_10, b_10 = b_10]) (by kernel_rfl) (And.intro rfl (And.intro rfl trivial)) ?_
        refine OpTo.go (GoO.call rfl (by kernel_rfl) (by kernel_rfl) (tontineref15_Table_Begin_ok n m_5 c_9.Id c_9.Seq b_6 A_7 c_8) [[0], [3], [4]] [(3, 1), (4, 2)] [(1, 3)] [(2, 1)] (hks := [0, 1, 2]) (bks := [0]) (by kernel_rfl) (by kernel_rfl) (by kernel_rfl) (.inl rfl) rfl rfl (by kernel_rfl) (by kernel_rfl) _ (fun _ _ => rfl) _ _ (fun _ _ => rfl) (fun _ _ => rfl) (fun _ _ => by kernel_rfl) (fun _ _ => by kernel_rfl) (fun r_35 x_40 => ?_))
        obtain ⟨A_36, c_37⟩ := x_40
        refine GoO.shape (env' := [(11, .pointer (some ⟨b_34, 0, none⟩)), (12, .bool r_31.2.1), (76, .pointer (some ⟨b_6, 0, none⟩)), (78, .int .u64 c_9.Id), (80, .int .u64 c_9.Seq), (81, .tuple ⟨[.agg ⟨[.int .i64 r_35.1.Err, .int .u64 r_35.1.Num, .int .u64 r_35.1.Extra]⟩, .bool r_35.2.1]⟩)]) (H' := [⟨3, b_6, [.int .u64 r_35.2.2.Now, .int .u64 r_35.2.2.Next, .slice A_36 r_35.2.2.Rows.length c_37]⟩, ⟨41, b_34, [.int .i64 r_31.1.Err, .int .u64 r_31.1.Num, .int .u64 r_31.1.Extra]⟩, ⟨1, b_2, [.int .u64 r_31.2.2.now, .int .u64 r_31.2.2.next, .slice A_32 r_31.2.2.rows.length c_33]⟩, ⟨40, b_10, [.int .i64 c_9.Kind, .int .u64 c_9.Id, .int .u64 c_9.Seq, .int .i64 c_9.Reply.Err, .int .u64 c_9.Reply.Num, .int .u64 c_9.Reply.Extra]⟩]) (B' := [Ow 4 kT_tontineref15_Row A_36 c_37 r_35.2.2.Rows, Ow 2 kT_session_Row A_32 c_33 r_31.2.2.rows]) (ks := [11, 12, 76, 78, 80, 81]) (by kernel_rfl) (by kernel_rfl) (by kernel_rfl) ?_
        refine GoO.exec (is := [6, 7, 8]) (hs := [.p, .p, .p]) (rest := [9, 10, 11]) (ks := [11, 12, 82, 83]) (env' := [(11, .pointer (some ⟨b_34, 0, none⟩)), (12, .bool r_31.2.1), (82, .agg ⟨[.int .i64 r_35.1.Err, .int .u64 r_35.1.Num, .int .u64 r_35.1.Extra]⟩), (83, .bool r_35.2.1)]) (H' := [⟨3, b_6, [.int .u64 r_35.2.2.Now, .int .u64 r_35.2.2.Next, .slice A_36 r_35.2.2.Rows.length c_37]⟩, ⟨41, b_34, [.int .i64 r_31.1.Err, .int .u64 r_31.1.Num, .int .u64 r_31.1.Extra]⟩, ⟨1, b_2, [.int .u64 r_31.2.2.now, .int .u64 r_31.2.2.next, .slice A_32 r_31.2.2.rows.length c_33]⟩, ⟨40, b_10, [.int .i64 c_9.Kind, .int .u64 c_9.Id, .int .u64 c_9.Seq, .int .i64 c_9.Reply.Err, .int .u64 c_9.Reply.Num, .int .u64 c_9.Reply.Extra]⟩]) (ps := []) (by kernel_rfl) trivial ?_
        refine OpTo.go (GoO.new rfl 42 (cs := [.int .i64 0, .int .u64 0, .int .u64 0]) (by kernel_rfl) _ (fun _ => rfl) (fun b_38 => ?_))
        refine GoO.exec (is := [10, 11]) (hs := [.b 0, .p]) (rest := []) (ks := [11, 12, 13, 14]) (env' := [(11, .pointer (some ⟨b_34, 0, none⟩)), (12, .bool r_31.2.1), (13, .pointer (some ⟨b_38, 0, none⟩)), (14, .bool r_35.2.1)]) (H' := [⟨42, b_38, [.int .i64 r_35.1.Err, .int .u64 r_35.1.Num, .int .u64 r_35.1.Extra]⟩, ⟨3, b_6, [.int .u64 r_35.2.2.Now, .int .u64 r_35.2.2.Next, .slice A_36 r_35.2.2.Rows.length c_37]⟩, ⟨41, b_34, [.int .i64 r_31.1.Err, .int .u64 r_31.1.Num, .int .u64 r_31.1.Extra]⟩, ⟨1, b_2, [.int .u64 r_31.2.2.now, .int .u64 r_31.2.2.next, .slice A_32 r_31.2.2.rows.length c_33]⟩, ⟨40, b_10, [.int .i64 c_9.Kind, .int .u64 c_9.Id, .int .u64 c_9.Seq, .int .i64 c_9.Reply.Err, .int .u64 c_9.Reply.Num, .int .u64 c_9.Reply.Extra]⟩]) (ps := [b_38 = b_38]) (by kernel_rfl) (And.intro rfl trivial) ?_
        refine GoO.regionEnd ?_
        refine GoO.seq' c27_29e ?_
        refine GoO.region' (is := [0, 1, 2, 3, 4, 5, 6, 7, 8]) c27_30e (by kernel_rfl) ?_
        refine GoO.exec (is := [0, 1, 2, 3]) (hs := [.b 2, .b 0, .p, .p]) (rest := [4, 5, 6, 7, 8]) (ks := [12, 14, 87]) (env' := [(12, .bool r_31.2.1), (14, .bool r_35.2.1), (87, .bool ((r_31.1.Err == r_35.1.Err) && ((r_31.1.Num == r_35.1.Num) && ((r_31.1.Extra == r_35.1.Extra) && true))))]) (H' := [⟨42, b_38, [.int .i64 r_35.1.Err, .int .u64 r_35.1.Num, .int .u64 r_35.1.Extra]⟩, ⟨3, b_6, [.int .u64 r_35.2.2.Now, .int .u64 r_35.2.2.Next, .slice A_36 r_35.2.2.Rows.length c_37]⟩, ⟨41, b_34, [.int .i64 r_31.1.Err, .int .u64 r_31.1.Num, .int .u64 r_31.1.Extra]⟩, ⟨1, b_2, [.int .u64 r_31.2.2.now, .int .u64 r_31.2.2.next, .slice A_32 r_31.2.2.rows.length c_33]⟩, ⟨40, b_10, [.int .i64 c_9.Kind, .int .u64 c_9.Id, .int .u64 c_9.Seq, .int .i64 c_9.Reply.Err, .int .u64 c_9.Reply.Num, .int .u64 c_9.Reply.Extra]⟩]) (ps := [b_34 = b_34, b_38 = b_38]) (by kernel_rfl) (And.intro rfl (And.intro rfl trivial)) ?_
        refine GoO.bsplit (t := 87) (by kernel_rfl) (fun h39 => ?_) (fun h39 => ?_)
        · refine GoO.exec (is := [4, 5, 6, 7, 8]) (hs := [.p, .p, .p, .p, .p]) (rest := []) (ks := [6]) (env' := [(6, .bool (r_31.2.1 == r_35.2.1))]) (H' := [⟨42, b_38, [.int .i64 r_35.1.Err, .int .u64 r_35.1.Num, .int .u64 r_35.1.Extra]⟩, ⟨3, b_6, [.int .u64 r_35.2.2.Now, .int .u64 r_35.2.2.Next, .slice A_36 r_35.2.2.Rows.length c_37]⟩, ⟨41, b_34, [.int .i64 r_31.1.Err, .int .u64 r_31.1.Num, .int .u64 r_31.1.Extra]⟩, ⟨1, b_2, [.int .u64 r_31.2.2.now, .int .u64 r_31.2.2.next, .slice A_32 r_31.2.2.rows.length c_33]⟩, ⟨40, b_10, [.int .i64 c_9.Kind, .int .u64 c_9.Id, .int .u64 c_9.Seq, .int .i64 c_9.Reply.Err, .int .u64 c_9.Reply.Num, .int .u64 c_9.Reply.Extra]⟩]) (ps := []) (by kernel_rfl) trivial ?_
          refine GoO.regionEnd ?_
          exact GoO.ret' (h := c27_31e) (hs := []) (ps := []) (hk := [3, 1]) (bk := [1, 0]) Try.func27 (⟨A_32, c_33, A_36, c_37⟩ : Option Addr × Nat × Option Addr × Nat) (by kernel_rfl) trivial (by kernel_rfl) (by kernel_rfl)
        · refine GoO.exec (is := [4, 5, 6, 7, 8]) (hs := [.p, .p, .p, .p, .p]) (rest := []) (ks := [6]) (env' := [(6, .bool false)]) (H' := [⟨42, b_38, [.int .i64 r_35.1.Err, .int .u64 r_35.1.Num, .int .u64 r_35.1.Extra]⟩, ⟨3, b_6, [.int .u64 r_35.2.2.Now, .int .u64 r_35.2.2.Next, .slice A_36 r_35.2.2.Rows.length c_37]⟩, ⟨41, b_34, [.int .i64 r_31.1.Err, .int .u64 r_31.1.Num, .int .u64 r_31.1.Extra]⟩, ⟨1, b_2, [.int .u64 r_31.2.2.now, .int .u64 r_31.2.2.next, .slice A_32 r_31.2.2.rows.length c_33]⟩, ⟨40, b_10, [.int .i64 c_9.Kind, .int .u64 c_9.Id, .int .u64 c_9.Seq, .int .i64 c_9.Reply.Err, .int .u64 c_9.Reply.Num, .int .u64 c_9.Reply.Extra]⟩]) (ps := []) (by kernel_rfl) trivial ?_
          refine GoO.regionEnd ?_
          exact GoO.ret' (h := c27_31e) (hs := []) (ps := []) (hk := [3, 1]) (bk := [1, 0]) Try.func27 (⟨A_32, c_33, A_36, c_37⟩ : Option Addr × Nat × Option Addr × Nat) (by kernel_rfl) trivial (by kernel_rfl) (by kernel_rfl)
      · refine GoO.seq' c27_32e ?_
        refine GoO.draw c27_33e (by kernel_rfl) [17] [⟨40, b_10, [.int .i64 c_9.Kind, .int .u64 c_9.Id, .int .u64 c_9.Seq, .int .i64 c_9.Reply.Err, .int .u64 c_9.Reply.Num, .int .u64 c_9.Reply.Extra]⟩] [] (n := 18) (by kernel_rfl) ?_
        simp only [List.replicate]
        refine GoF.take [0, 1, 2, 3, 4, 5, 6, 8, 9, 10, 11, 12, 13, 14] [.p, .p, .b 0, .p, .b 0, .p, .b 0, .p, .p, .b 0, .p, .b 0, .p, .b 0] (ks := [17, 19, 21, 23, 25, 27, 29, 31]) (fu := 4) (li := [true, true, true, true, true, true, true, false, true, true, true, true, true, true, true, false, false, false]) (env' := [(17, .pointer (some ⟨b_2, 0, none⟩)), (19, .int .u64 c_9.Id), (21, .int .u64 c_9.Seq), (23, .agg ⟨[.int .i64 c_9.Reply.Err, .int .u64 c_9.Reply.Num, .int .u64 c_9.Reply.Extra]⟩), (25, .pointer (some ⟨b_6, 0, none⟩)), (27, .int .u64 c_9.Id), (29, .int .u64 c_9.Seq), (31, .agg ⟨[.int .i64 c_9.Reply.Err, .int .u64 c_9.Reply.Num, .int .u64 c_9.Reply.Extra]⟩)]) (ps := [b_10 = b_10, b_10 = b_10, b_10 = b_10, b_10 = b_10, b_10 = b_10, b_10 = b_10]) (hk := [0]) (bk := []) (by kernel_rfl) (And.intro rfl (And.intro rfl (And.intro rfl (And.intro rfl (And.intro rfl (And.intro rfl trivial)))))) rfl rfl ?_
        refine OpTo.goF (i := 7) (by kernel_rfl) (hk := [1]) (bk := []) (GoO.call rfl (by kernel_rfl) (by kernel_rfl) (session_Table_End_ok n t_1 c_9.Id c_9.Seq (⟨c_9.Reply.Err, c_9.Reply.Num, c_9.Reply.Extra⟩ : T_api_Reply) b_2 A_3 c_4) [[0], [1], [2]] [(1, 1), (2, 2)] [(1, 1)] [(2, 0)] (hks := [0, 2]) (bks := [1]) (by kernel_rfl) (by kernel_rfl) (by kernel_rfl) (.inl rfl) rfl rfl (by kernel_rfl) (by kernel_rfl) _ (fun _ _ => rfl) _ _ (fun _ _ => rfl) (fun _ _ => rfl) (fun _ _ => by kernel_rfl) (fun _ _ => by kernel_rfl) (fun r_42 x_49 => ⟨rfl, rfl, ?_⟩))
        obtain ⟨A_43, c_44⟩ := x_49
        refine GoF.shape (env' := [(17, .pointer (some ⟨b_2, 0, none⟩)), (19, .int .u64 c_9.Id), (21, .int .u64 c_9.Seq), (23, .agg ⟨[.int .i64 c_9.Reply.Err, .int .u64 c_9.Reply.Num, .int .u64 c_9.Reply.Extra]⟩), (24, .bool r_42.1), (25, .pointer (some ⟨b_6, 0, none⟩)), (27, .int .u64 c_9.Id), (29, .int .u64 c_9.Seq), (31, .agg ⟨[.int .i64 c_9.Reply.Err, .int .u64 c_9.Reply.Num, .int .u64 c_9.Reply.Extra]⟩)]) (H' := [⟨1, b_2, [.int .u64 r_42.2.now, .int .u64 r_42.2.next, .slice A_43 r_42.2.rows.length c_44]⟩, ⟨40, b_10, [.int .i64 c_9.Kind, .int .u64 c_9.Id, .int .u64 c_9.Seq, .int .i64 c_9.Reply.Err, .int .u64 c_9.Reply.Num, .int .u64 c_9.Reply.Extra]⟩, ⟨3, b_6, [.int .u64 m_5.Now, .int .u64 m_5.Next, .slice A_7 m_5.Rows.length c_8]⟩]) (B' := [Ow 2 kT_session_Row A_43 c_44 r_42.2.rows, Ow 4 kT_tontineref15_Row A_7 c_8 m_5.Rows]) (ks := [17, 19, 21, 23, 24, 25, 27, 29, 31]) (by kernel_rfl) (by kernel_rfl) (by kernel_rfl) ?_
        refine OpTo.goF (i := 15) (by kernel_rfl) (hk := [2]) (bk := []) (GoO.call rfl (by kernel_rfl) (by kernel_rfl) (tontineref15_Table_End_ok n m_5 c_9.Id c_9.Seq (⟨c_9.Reply.Err, c_9.Reply.Num, c_9.Reply.Extra⟩ : T_api_Reply) b_6 A_7 c_8) [[0], [3], [4]] [(3, 1), (4, 2)] [(1, 2)] [(2, 1)] (hks := [0, 1]) (bks := [0]) (by kernel_rfl) (by kernel_rfl) (by kernel_rfl) (.inl rfl) rfl rfl (by kernel_rfl) (by kernel_rfl) _ (fun _ _ => rfl) _ _ (fun _ _ => rfl) (fun _ _ => rfl) (fun _ _ => by kernel_rfl) (fun _ _ => by kernel_rfl) (fun r_45 x_48 => ⟨rfl, rfl, ?_⟩))
        obtain ⟨A_46, c_47⟩ := x_48
        refine GoF.shape (env' := [(17, .pointer (some ⟨b_2, 0, none⟩)), (19, .int .u64 c_9.Id), (21, .int .u64 c_9.Seq), (23, .agg ⟨[.int .i64 c_9.Reply.Err, .int .u64 c_9.Reply.Num, .int .u64 c_9.Reply.Extra]⟩), (24, .bool r_42.1), (25, .pointer (some ⟨b_6, 0, none⟩)), (27, .int .u64 c_9.Id), (29, .int .u64 c_9.Seq), (31, .agg ⟨[.int .i64 c_9.Reply.Err, .int .u64 c_9.Reply.Num, .int .u64 c_9.Reply.Extra]⟩), (32, .bool r_45.1)]) (H' := [⟨3, b_6, [.int .u64 r_45.2.Now, .int .u64 r_45.2.Next, .slice A_46 r_45.2.Rows.length c_47]⟩, ⟨1, b_2, [.int .u64 r_42.2.now, .int .u64 r_42.2.next, .slice A_43 r_42.2.rows.length c_44]⟩, ⟨40, b_10, [.int .i64 c_9.Kind, .int .u64 c_9.Id, .int .u64 c_9.Seq, .int .i64 c_9.Reply.Err, .int .u64 c_9.Reply.Num, .int .u64 c_9.Reply.Extra]⟩]) (B' := [Ow 4 kT_tontineref15_Row A_46 c_47 r_45.2.Rows, Ow 2 kT_session_Row A_43 c_44 r_42.2.rows]) (ks := [17, 19, 21, 23, 24, 25, 27, 29, 31, 32]) (by kernel_rfl) (by kernel_rfl) (by kernel_rfl) ?_
        refine GoF.take [16] [.p] (ks := [33]) (fu := 1) (li := [true, true, true, true, true, true, true, true, true, true, true, true, true, true, true, true, true, false]) (env' := [(33, .bool (r_42.1 == r_45.1))]) (ps := []) (hk := [2]) (bk := []) (by kernel_rfl) trivial rfl rfl ?_
        refine GoF.fin1 (i := 17) (hint := .p) (ps := []) (hk := []) (bk := []) (by kernel_rfl) rfl trivial (.inl rfl) ?_
        refine GoF.done (by kernel_rfl) ?_
        exact GoO.ret' (h := c27_34e) (hs := []) (ps := []) (hk := [1, 0]) (bk := [1, 0]) Try.func27 (⟨A_43, c_44, A_46, c_47⟩ : Option Addr × Nat × Option Addr × Nat) (by kernel_rfl) trivial (by kernel_rfl) (by kernel_rfl)

/-! tontine/tontinelaw15.SessionReads -/
noncomputable def c12_0 : Code := bodyOf Try.f12
noncomputable def c12_1 : Code := cdL c12_0
noncomputable def c12_2 : Code := cdR c12_0
noncomputable def c12_3 : Code := cdL c12_2
noncomputable def c12_4 : Code := cdL c12_3
noncomputable def c12_5 : Code := cdR c12_3
noncomputable def c12_6 : Code := cdL c12_5
noncomputable def c12_7 : Code := cdL c12_6
noncomputable def c12_8 : Code := cdR c12_6
noncomputable def c12_9 : Code := cdR c12_5
noncomputable def c12_10 : Code := cdR c12_2
noncomputable def c12_11 : Code := cdL c12_10
noncomputable def c12_12 : Code := cdR c12_10
noncomputable def c12_13 : Code := cdL c12_12
noncomputable def c12_14 : Code := cdR c12_12
noncomputable def c12_15 : Code := cdL c12_14
noncomputable def c12_16 : Code := cdL c12_15
noncomputable def c12_17 : Code := cdR c12_15
noncomputable def c12_18 : Code := cdL c12_17
noncomputable def c12_19 : Code := cdL c12_18
noncomputable def c12_20 : Code := cdR c12_18
noncomputable def c12_21 : Code := cdR c12_17
noncomputable def c12_22 : Code := cdR c12_14
noncomputable def c12_23 : Code := cdL c12_22
noncomputable def c12_24 : Code := cdL c12_23
noncomputable def c12_25 : Code := cdR c12_23
noncomputable def c12_26 : Code := cdL c12_25
noncomputable def c12_27 : Code := cdL c12_26
noncomputable def c12_28 : Code := cdR c12_26
noncomputable def c12_29 : Code := cdR c12_25
noncomputable def c12_30 : Code := cdR c12_22
noncomputable def c12_31 : Code := cdL c12_30
noncomputable def c12_32 : Code := cdL c12_31
noncomputable def c12_33 : Code := cdR c12_31
noncomputable def c12_34 : Code := cdL c12_33
noncomputable def c12_35 : Code := cdL c12_34
noncomputable def c12_36 : Code := cdR c12_34
noncomputable def c12_37 : Code := cdR c12_33
noncomputable def c12_38 : Code := cdR c12_30
noncomputable def c12_39 : Code := cdL c12_38
noncomputable def c12_40 : Code := cdL c12_39
noncomputable def c12_41 : Code := cdR c12_39
noncomputable def c12_42 : Code := cdL c12_41
noncomputable def c12_43 : Code := cdL c12_42
noncomputable def c12_44 : Code := cdL c12_43
noncomputable def c12_45 : Code := cdR c12_43
noncomputable def c12_46 : Code := cdL c12_45
noncomputable def c12_47 : Code := cdL c12_46
noncomputable def c12_48 : Code := cdR c12_46
noncomputable def c12_49 : Code := cdR c12_45
noncomputable def c12_50 : Code := cdL c12_49
noncomputable def c12_51 : Code := cdL c12_50
noncomputable def c12_52 : Code := cdL c12_51
noncomputable def c12_53 : Code := cdR c12_51
noncomputable def c12_54 : Code := cdL c12_53
noncomputable def c12_55 : Code := cdL c12_54
noncomputable def c12_56 : Code := cdR c12_54
noncomputable def c12_57 : Code := cdL c12_56
noncomputable def c12_58 : Code := cdR c12_56
noncomputable def c12_59 : Code := cdR c12_53
noncomputable def c12_60 : Code := cdL c12_59
noncomputable def c12_61 : Code := cdR c12_59
noncomputable def c12_62 : Code := cdL c12_61
noncomputable def c12_63 : Code := cdL c12_62
noncomputable def c12_64 : Code := cdR c12_62
noncomputable def c12_65 : Code := cdR c12_61
noncomputable def c12_66 : Code := cdR c12_49
noncomputable def c12_67 : Code := cdR c12_38
noncomputable def c12_68 : Code := cdL c12_67
noncomputable def c12_69 : Code := cdR c12_67
noncomputable def r12_1 : Array Oper := cdO c12_1
noncomputable def r12_4 : Array Oper := cdO c12_4
noncomputable def r12_7 : Array Oper := cdO c12_7
noncomputable def r12_11 : Array Oper := cdO c12_11
noncomputable def r12_13 : Array Oper := cdO c12_13
noncomputable def r12_16 : Array Oper := cdO c12_16
noncomputable def r12_19 : Array Oper := cdO c12_19
noncomputable def r12_24 : Array Oper := cdO c12_24
noncomputable def r12_27 : Array Oper := cdO c12_27
noncomputable def r12_32 : Array Oper := cdO c12_32
noncomputable def r12_35 : Array Oper := cdO c12_35
noncomputable def r12_40 : Array Oper := cdO c12_40
noncomputable def r12_44 : Array Oper := cdO c12_44
noncomputable def r12_52 : Array Oper := cdO c12_52
noncomputable def r12_55 : Array Oper := cdO c12_55
noncomputable def r12_60 : Array Oper := cdO c12_60
noncomputable def r12_63 : Array Oper := cdO c12_63
noncomputable def r12_66 : Array Oper := cdO c12_66
noncomputable def r12_68 : Array Oper := cdO c12_68
theorem c12_0e : c12_0 = .seq c12_1 c12_2 := by kernel_rfl
theorem c12_1e : c12_1 = .region 0 r12_1 false := by kernel_rfl
theorem c12_2e : c12_2 = .seq c12_3 c12_10 := by kernel_rfl
theorem c12_3e : c12_3 = .seq c12_4 c12_5 := by kernel_rfl
theorem c12_4e : c12_4 = .region 1 r12_4 false := by kernel_rfl
theorem c12_5e : c12_5 = .cond (cdC c12_5) c12_6 c12_9 := by kernel_rfl
theorem c12_6e : c12_6 = .seq c12_7 c12_8 := by kernel_rfl
theorem c12_7e : c12_7 = .region 2 r12_7 false := by kernel_rfl
theorem c12_8e : c12_8 = .ret := by kernel_rfl
theorem c12_9e : c12_9 = .skip := by kernel_rfl
theorem c12_10e : c12_10 = .seq c12_11 c12_12 := by kernel_rfl
theorem c12_11e : c12_11 = .region 3 r12_11 false := by kernel_rfl
theorem c12_12e : c12_12 = .seq c12_13 c12_14 := by kernel_rfl
theorem c12_13e : c12_13 = .region 4 r12_13 false := by kernel_rfl
theorem c12_14e : c12_14 = .seq c12_15 c12_22 := by kernel_rfl
theorem c12_15e : c12_15 = .seq c12_16 c12_17 := by kernel_rfl
theorem c12_16e : c12_16 = .region 5 r12_16 false := by kernel_rfl
theorem c12_17e : c12_17 = .cond (cdC c12_17) c12_18 c12_21 := by kernel_rfl
theorem c12_18e : c12_18 = .seq c12_19 c12_20 := by kernel_rfl
theorem c12_19e : c12_19 = .region 6 r12_19 false := by kernel_rfl
theorem c12_20e : c12_20 = .ret := by kernel_rfl
theorem c12_21e : c12_21 = .skip := by kernel_rfl
theorem c12_22e : c12_22 = .seq c12_23 c12_30 := by kernel_rfl
theorem c12_23e : c12_23 = .seq c12_24 c12_25 := by kernel_rfl
theorem c12_24e : c12_24 = .region 7 r12_24 false := by kernel_rfl
theorem c12_25e : c12_25 = .cond (cdC c12_25) c12_26 c12_29 := by kernel_rfl
theorem c12_26e : c12_26 = .seq c12_27 c12_28 := by kernel_rfl
theorem c12_27e : c12_27 = .region 8 r12_27 false := by kernel_rfl
theorem c12_28e : c12_28 = .ret := by kernel_rfl
theorem c12_29e : c12_29 = .skip := by kernel_rfl
theorem c12_30e : c12_30 = .seq c12_31 c12_38 := by kernel_rfl
theorem c12_31e : c12_31 = .seq c12_32 c12_33 := by kernel_rfl
theorem c12_32e : c12_32 = .region 9 r12_32 false := by kernel_rfl
theorem c12_33e : c12_33 = .cond (cdC c12_33) c12_34 c12_37 := by kernel_rfl
theorem c12_34e : c12_34 = .seq c12_35 c12_36 := by kernel_rfl
theorem c12_35e : c12_35 = .region 10 r12_35 false := by kernel_rfl
theorem c12_36e : c12_36 = .ret := by kernel_rfl
theorem c12_37e : c12_37 = .skip := by kernel_rfl
theorem c12_38e : c12_38 = .seq c12_39 c12_67 := by kernel_rfl
theorem c12_39e : c12_39 = .seq c12_40 c12_41 := by kernel_rfl
theorem c12_40e : c12_40 = .region 11 r12_40 false := by kernel_rfl
theorem c12_41e : c12_41 = .block 0 c12_42 := by kernel_rfl
theorem c12_42e : c12_42 = .loop c12_43 := by kernel_rfl
theorem c12_43e : c12_43 = .seq c12_44 c12_45 := by kernel_rfl
theorem c12_44e : c12_44 = .region 12 r12_44 false := by kernel_rfl
theorem c12_45e : c12_45 = .seq c12_46 c12_49 := by kernel_rfl
theorem c12_46e : c12_46 = .cond (cdC c12_46) c12_47 c12_48 := by kernel_rfl
theorem c12_47e : c12_47 = .skip := by kernel_rfl
theorem c12_48e : c12_48 = .exit 0 := by kernel_rfl
theorem c12_49e : c12_49 = .seq c12_50 c12_66 := by kernel_rfl
theorem c12_50e : c12_50 = .block 1 c12_51 := by kernel_rfl
theorem c12_51e : c12_51 = .seq c12_52 c12_53 := by kernel_rfl
theorem c12_52e : c12_52 = .region 13 r12_52 false := by kernel_rfl
theorem c12_53e : c12_53 = .seq c12_54 c12_59 := by kernel_rfl
theorem c12_54e : c12_54 = .seq c12_55 c12_56 := by kernel_rfl
theorem c12_55e : c12_55 = .region 14 r12_55 false := by kernel_rfl
theorem c12_56e : c12_56 = .cond (cdC c12_56) c12_57 c12_58 := by kernel_rfl
theorem c12_57e : c12_57 = .exit 0 := by kernel_rfl
theorem c12_58e : c12_58 = .skip := by kernel_rfl
theorem c12_59e : c12_59 = .seq c12_60 c12_61 := by kernel_rfl
theorem c12_60e : c12_60 = .region 15 r12_60 false := by kernel_rfl
theorem c12_61e : c12_61 = .cond (cdC c12_61) c12_62 c12_65 := by kernel_rfl
theorem c12_62e : c12_62 = .seq c12_63 c12_64 := by kernel_rfl
theorem c12_63e : c12_63 = .region 16 r12_63 false := by kernel_rfl
theorem c12_64e : c12_64 = .ret := by kernel_rfl
theorem c12_65e : c12_65 = .skip := by kernel_rfl
theorem c12_66e : c12_66 = .region 17 r12_66 false := by kernel_rfl
theorem c12_67e : c12_67 = .seq c12_68 c12_69 := by kernel_rfl
theorem c12_68e : c12_68 = .region 18 r12_68 false := by kernel_rfl
theorem c12_69e : c12_69 = .ret := by kernel_rfl
noncomputable def tontinelaw15_SessionReads.R (A_3 : Option Addr) (c_4 : Nat) : Pst Bool where
  ε := Unit
  v := fun r x => .bool r
  H := fun r x => []
  B := fun r x => []
noncomputable def tontinelaw15_SessionReads.cx (A_3 : Option Addr) (c_4 : Nat) (w0 : World) (S0 : Fam) : Cx Bool := ⟨Try.prog, 12, Try.f12, 54, w0, S0, [], 0, tontinelaw15_SessionReads.R A_3 c_4⟩
theorem tontinelaw15_SessionReads_l0_ok (n : Nat) (calls_2 : (List T_tontinelaw15_Call)) (A_3 : Option Addr) (c_4 : Nat) (c_11 : Nat) (c_22 : Nat) (w0 : World) (S0 : Fam) :
    ∀ (k : Nat) (f_28 : Int) (f_29 : Int) (f_30 : (List T_session_Row)) (f_33 : Int) (f_34 : Int) (f_35 : (List T_tontineref15_Row)) (x_38 : Int) (A_31 : Option Addr) (c_32 : Nat) (A_36 : Option Addr) (c_37 : Nat), GoO (tontinelaw15_SessionReads.cx A_3 c_4 w0 S0) [(7, .pointer (some ⟨c_11, 0, none⟩)), (8, .pointer (some ⟨c_22, 0, none⟩)), (33, .slice A_3 calls_2.length c_4), (34, .int .i64 (calls_2.length : Int)), (35, .int .i64 x_38)] [⟨42, c_11, [.int .u64 f_28, .int .u64 f_29, .slice A_31 f_30.length c_32]⟩, ⟨44, c_22, [.int .u64 f_33, .int .u64 f_34, .slice A_36 f_35.length c_37]⟩] [Ow 43 kT_session_Row A_31 c_32 f_30, Ow 45 kT_tontineref15_Row A_36 c_37 f_35, Rd 0 kT_tontinelaw15_Call A_3 c_4 calls_2] [.code c12_43, .inLoop c12_43, .inBlock 0, .code c12_67] (tontinelaw15_SessionReads.l0 n calls_2 k f_28 f_29 f_30 f_33 f_34 f_35 x_38) := by
  intro k
  induction k with
  | zero => intros; rw [tontinelaw15_SessionReads.l0.eq_1]; exact GoO.stop
  | succ k ih0 =>
    intro f_28 f_29 f_30 f_33 f_34 f_35 x_38 A_31 c_32 A_36 c_37
    rw [tontinelaw15_SessionReads.l0.eq_2]
    refine GoO.seq' c12_43e ?_
    refine GoO.region' (is := [0]) c12_44e (by kernel_rfl) ?_
    refine GoO.exec (is := [0]) (hs := [.p]) (rest := []) (ks := [7, 8, 33, 34, 35, 36]) (env' := [(7, .pointer (some ⟨c_11, 0, none⟩)), (8, .pointer (some ⟨c_22, 0, none⟩)), (33, .slice A_3 calls_2.length c_4), (34, .int .i64 (calls_2.length : Int)), (35, .int .i64 x_38), (36, .bool (decide (x_38 < (calls_2.length : Int))))]) (H' := [⟨42, c_11, [.int .u64 f_28, .int .u64 f_29, .slice A_31 f_30.length c_32]⟩, ⟨44, c_22, [.int .u64 f_33, .int .u64 f_34, .slice A_36 f_35.length c_37]⟩]) (ps := []) (by kernel_rfl) trivial ?_
    refine GoO.regionEnd ?_
    refine GoO.seq' c12_45e ?_
    refine GoO.ite' c12_46e (by kernel_rfl) (fun h39 => ?_) (fun h39 => ?_)
    · refine GoO.skip' c12_47e ?_
      refine GoO.seq' c12_49e ?_
      refine GoO.block' c12_50e ?_
      refine GoO.seq' c12_51e ?_
      refine GoO.region' (is := [0, 1, 2, 3, 4, 5]) c12_52e (by kernel_rfl) ?_
      refine GoO.exec (is := [0]) (hs := [.p]) (rest := [1, 2, 3, 4, 5]) (ks := [7, 8, 33, 34, 35, 37]) (env' := [(7, .pointer (some ⟨c_11, 0, none⟩)), (8, .pointer (some ⟨c_22, 0, none⟩)), (33, .slice A_3 calls_2.length c_4), (34, .int .i64 (calls_2.length : Int)), (35, .int .i64 x_38), (37, .int .i64 x_38)]) (H' := [⟨42, c_11, [.int .u64 f_28, .int .u64 f_29, .slice A_31 f_30.length c_32]⟩, ⟨44, c_22, [.int .u64 f_33, .int .u64 f_34, .slice A_36 f_35.length c_37]⟩]) (ps := []) (by kernel_rfl) trivial ?_
      refine GoO.guard (fun h40 => ?_)
      refine OpTo.go (GoO.idx (kk := .i64) (e := 33) (K := kT_tontinelaw15_Call) (A := A_3) (c := c_4) (xs := calls_2) (iv := x_38) (j := 2) rfl (by kernel_rfl) (by kernel_rfl) (by kernel_rfl) (by kernel_rfl) rfl Reads.rd rfl h40.1 h40.2 (by decide) rfl ?_)
      refine OpTo.go (GoO.ldE' (K := kT_tontinelaw15_Call) (A := A_3) (c := c_4) (xs := calls_2) (iN := x_38.toNat) (off := 0) (j := 2) rfl (by kernel_rfl) rfl Reads.rd (by first | exact idx_lt h40.1 h40.2 | (simp only [List.length_set]; exact idx_lt h40.1 h40.2)) (by decide) (Opn.flat _ _ _ _ _) (v := fun _ => .agg ⟨[.int .i64 ((rdL calls_2 x_38).Kind), .int .u64 ((rdL calls_2 x_38).Id), .int .u64 ((rdL calls_2 x_38).Seq), .int .i64 ((rdL calls_2 x_38).Reply.Err), .int .u64 ((rdL calls_2 x_38).Reply.Num), .int .u64 ((rdL calls_2 x_38).Reply.Extra)]⟩) (fun _ => by kernel_rfl) _ (fun _ => rfl) (fun _ => ?_))
      refine OpTo.go (GoO.new rfl 46 (cs := [.int .i64 0, .int .u64 0, .int .u64 0, .int .i64 0, .int .u64 0, .int .u64 0]) (by kernel_rfl) _ (fun _ => rfl) (fun b_41 => ?_))
      refine GoO.exec (is := [4, 5]) (hs := [.p, .b 0]) (rest := []) (ks := [7, 8, 9, 10, 33, 34, 35]) (env' := [(7, .pointer (some ⟨c_11, 0, none⟩)), (8, .pointer (some ⟨c_22, 0, none⟩)), (9, .int .i64 x_38), (10, .pointer (some ⟨b_41, 0, none⟩)), (33, .slice A_3 calls_2.length c_4), (34, .int .i64 (calls_2.length : Int)), (35, .int .i64 x_38)]) (H' := [⟨46, b_41, [.int .i64 ((rdL calls_2 x_38).Kind), .int .u64 ((rdL calls_2 x_38).Id), .int .u64 ((rdL calls_2 x_38).Seq), .int .i64 ((rdL calls_2 x_38).Reply.Err), .int .u64 ((rdL calls_2 x_38).Reply.Num), .int .u64 ((rdL calls_2 x_38).Reply.Extra)]⟩, ⟨42, c_11, [.int .u64 f_28, .int .u64 f_29, .slice A_31 f_30.length c_32]⟩, ⟨44, c_22, [.int .u64 f_33, .int .u64 f_34, .slice A_36 f_35.length c_37]⟩]) (ps := [b_41 = b_41]) (by kernel_rfl) (And.intro rfl trivial) ?_
      refine GoO.regionEnd ?_
      refine GoO.seq' c12_53e ?_
      refine GoO.seq' c12_54e ?_
      refine GoO.region' (is := [0, 1]) c12_55e (by kernel_rfl) ?_
      refine GoO.exec (is := [0, 1]) (hs := [.p, .p]) (rest := []) (ks := [7, 8, 10, 33, 34, 35, 41]) (env' := [(7, .pointer (some ⟨c_11, 0, none⟩)), (8, .pointer (some ⟨c_22, 0, none⟩)), (10, .pointer (some ⟨b_41, 0, none⟩)), (33, .slice A_3 calls_2.length c_4), (34, .int .i64 (calls_2.length : Int)), (35, .int .i64 x_38), (41, .bool (x_38 == 300))]) (H' := [⟨46, b_41, [.int .i64 ((rdL calls_2 x_38).Kind), .int .u64 ((rdL calls_2 x_38).Id), .int .u64 ((rdL calls_2 x_38).Seq), .int .i64 ((rdL calls_2 x_38).Reply.Err), .int .u64 ((rdL calls_2 x_38).Reply.Num), .int .u64 ((rdL calls_2 x_38).Reply.Extra)]⟩, ⟨42, c_11, [.int .u64 f_28, .int .u64 f_29, .slice A_31 f_30.length c_32]⟩, ⟨44, c_22, [.int .u64 f_33, .int .u64 f_34, .slice A_36 f_35.length c_37]⟩]) (ps := []) (by kernel_rfl) trivial ?_
      refine GoO.regionEnd ?_
      refine GoO.ite' c12_56e (by kernel_rfl) (fun h42 => ?_) (fun h42 => ?_)
      · refine GoO.exit' c12_57e rfl ?_
        refine GoO.seq' c12_67e ?_
        refine GoO.region' (is := [0]) c12_68e (by kernel_rfl) ?_
        refine GoO.exec (is := [0]) (hs := [.p]) (rest := []) (ks := [4]) (env' := [(4, .bool true)]) (H' := [⟨46, b_41, [.int .i64 ((rdL calls_2 x_38).Kind), .int .u64 ((rdL calls_2 x_38).Id), .int .u64 ((rdL calls_2 x_38).Seq), .int .i64 ((rdL calls_2 x_38).Reply.Err), .int .u64 ((rdL calls_2 x_38).Reply.Num), .int .u64 ((rdL calls_2 x_38).Reply.Extra)]⟩, ⟨42, c_11, [.int .u64 f_28, .int .u64 f_29, .slice A_31 f_30.length c_32]⟩, ⟨44, c_22, [.int .u64 f_33, .int .u64 f_34, .slice A_36 f_35.length c_37]⟩]) (ps := []) (by kernel_rfl) trivial ?_
        refine GoO.regionEnd ?_
        exact GoO.ret' (h := c12_69e) (hs := []) (ps := []) (hk := []) (bk := []) Try.func12 () (by kernel_rfl) trivial (by kernel_rfl) (by kernel_rfl)
      · refine GoO.skip' c12_58e ?_
        refine GoO.seq' c12_59e ?_
        refine GoO.region' (is := [0, 1, 2, 3, 4, 5, 6, 7, 8, 9, 10]) c12_60e (by kernel_rfl) ?_
        refine GoO.exec (is := [0, 1, 2]) (hs := [.p, .p, .b 0]) (rest := [3, 4, 5, 6, 7, 8, 9, 10]) (ks := [7, 8, 33, 34, 35, 42, 43, 44]) (env' := [(7, .pointer (some ⟨c_11, 0, none⟩)), (8, .pointer (some ⟨c_22, 0, none⟩)), (33, .slice A_3 calls_2.length c_4), (34, .int .i64 (calls_2.length : Int)), (35, .int .i64 x_38), (42, .pointer (some ⟨c_11, 0, none⟩)), (43, .pointer (some ⟨c_22, 0, none⟩)), (44, .agg ⟨[.int .i64 ((rdL calls_2 x_38).Kind), .int .u64 ((rdL calls_2 x_38).Id), .int .u64 ((rdL calls_2 x_38).Seq), .int .i64 ((rdL calls_2 x_38).Reply.Err), .int .u64 ((rdL calls_2 x_38).Reply.Num), .int .u64 ((rdL calls_2 x_38).Reply.Extra)]⟩)]) (H' := [⟨46, b_41, [.int .i64 ((rdL calls_2 x_38).Kind), .int .u64 ((rdL calls_2 x_38).Id), .int .u64 ((rdL calls_2 x_38).Seq), .int .i64 ((rdL calls_2 x_38).Reply.Err), .int .u64 ((rdL calls_2 x_38).Reply.Num), .int .u64 ((rdL calls_2 x_38).Reply.Extra)]⟩, ⟨42, c_11, [.int .u64 f_28, .int .u64 f_29, .slice A_31 f_30.length c_32]⟩, ⟨44, c_22, [.int .u64 f_33, .int .u64 f_34, .slice A_36 f_35.length c_37]⟩]) (ps := [b_41 = b_41]) (by kernel_rfl) (And.intro rfl trivial) ?_
        refine OpTo.go (GoO.call rfl (by kernel_rfl) (by kernel_rfl) (tontinelaw15_both_ok n (⟨f_28, f_29, f_30⟩ : T_session_Table) (⟨f_33, f_34, f_35⟩ : T_tontineref15_Table) (⟨(rdL calls_2 x_38).Kind, (rdL calls_2 x_38).Id, (rdL calls_2 x_38).Seq, (⟨(rdL calls_2 x_38).Reply.Err, (rdL calls_2 x_38).Reply.Num, (rdL calls_2 x_38).Reply.Extra⟩ : T_api_Reply)⟩ : T_tontinelaw15_Call) c_11 A_31 c_32 c_22 A_36 c_37) [[0], [42], [43], [44], [45]] [(42, 1), (43, 2), (44, 3), (45, 4)] [(1, 1), (3, 2)] [(2, 0), (4, 1)] (hks := [0]) (bks := [2]) (by kernel_rfl) (by kernel_rfl) (by kernel_rfl) (.inl rfl) rfl rfl (by kernel_rfl) (by kernel_rfl) _ (fun _ _ => rfl) _ _ (fun _ _ => rfl) (fun _ _ => rfl) (fun _ _ => by kernel_rfl) (fun _ _ => by kernel_rfl) (fun r_43 x_52 => ?_))
        obtain ⟨A_44, c_45, A_46, c_47⟩ := x_52
        refine GoO.shape (env' := [(7, .pointer (some ⟨c_11, 0, none⟩)), (8, .pointer (some ⟨c_22, 0, none⟩)), (33, .slice A_3 calls_2.length c_4), (34, .int .i64 (calls_2.length : Int)), (35, .int .i64 x_38), (42, .pointer (some ⟨c_11, 0, none⟩)), (43, .pointer (some ⟨c_22, 0, none⟩)), (44, .agg ⟨[.int .i64 ((rdL calls_2 x_38).Kind), .int .u64 ((rdL calls_2 x_38).Id), .int .u64 ((rdL calls_2 x_38).Seq), .int .i64 ((rdL calls_2 x_38).Reply.Err), .int .u64 ((rdL calls_2 x_38).Reply.Num), .int .u64 ((rdL calls_2 x_38).Reply.Extra)]⟩), (45, .bool r_43.1)]) (H' := [⟨42, c_11, [.int .u64 r_43.2.1.now, .int .u64 r_43.2.1.next, .slice A_44 r_43.2.1.rows.length c_45]⟩, ⟨44, c_22, [.int .u64 r_43.2.2.Now, .int .u64 r_43.2.2.Next, .slice A_46 r_43.2.2.Rows.length c_47]⟩, ⟨46, b_41, [.int .i64 ((rdL calls_2 x_38).Kind), .int .u64 ((rdL calls_2 x_38).Id), .int .u64 ((rdL calls_2 x_38).Seq), .int .i64 ((rdL calls_2 x_38).Reply.Err), .int .u64 ((rdL calls_2 x_38).Reply.Num), .int .u64 ((rdL calls_2 x_38).Reply.Extra)]⟩]) (B' := [Ow 43 kT_session_Row A_44 c_45 r_43.2.1.rows, Ow 45 kT_tontineref15_Row A_46 c_47 r_43.2.2.Rows, Rd 0 kT_tontinelaw15_Call A_3 c_4 calls_2]) (ks := [7, 8, 33, 34, 35, 42, 43, 44, 45]) (by kernel_rfl) (by kernel_rfl) (by kernel_rfl) ?_
        refine GoO.exec (is := [4, 5]) (hs := [.p, .p]) (rest := [6, 7, 8, 9, 10]) (ks := [7, 8, 33, 34, 35, 47]) (env' := [(7, .pointer (some ⟨c_11, 0, none⟩)), (8, .pointer (some ⟨c_22, 0, none⟩)), (33, .slice A_3 calls_2.length c_4), (34, .int .i64 (calls_2.length : Int)), (35, .int .i64 x_38), (47, .bool (!r_43.1))]) (H' := [⟨42, c_11, [.int .u64 r_43.2.1.now, .int .u64 r_43.2.1.next, .slice A_44 r_43.2.1.rows.length c_45]⟩, ⟨44, c_22, [.int .u64 r_43.2.2.Now, .int .u64 r_43.2.2.Next, .slice A_46 r_43.2.2.Rows.length c_47]⟩, ⟨46, b_41, [.int .i64 ((rdL calls_2 x_38).Kind), .int .u64 ((rdL calls_2 x_38).Id), .int .u64 ((rdL calls_2 x_38).Seq), .int .i64 ((rdL calls_2 x_38).Reply.Err), .int .u64 ((rdL calls_2 x_38).Reply.Num), .int .u64 ((rdL calls_2 x_38).Reply.Extra)]⟩]) (ps := []) (by kernel_rfl) trivial ?_
        refine GoO.bsplit (t := 47) (by kernel_rfl) (fun h48 => ?_) (fun h48 => ?_)
        · refine GoO.exec (is := [6, 7, 8, 9, 10]) (hs := [.p, .p, .p, .p, .p]) (rest := []) (ks := [7, 8, 33, 34, 35, 52]) (env' := [(7, .pointer (some ⟨c_11, 0, none⟩)), (8, .pointer (some ⟨c_22, 0, none⟩)), (33, .slice A_3 calls_2.length c_4), (34, .int .i64 (calls_2.length : Int)), (35, .int .i64 x_38), (52, .bool true)]) (H' := [⟨42, c_11, [.int .u64 r_43.2.1.now, .int .u64 r_43.2.1.next, .slice A_44 r_43.2.1.rows.length c_45]⟩, ⟨44, c_22, [.int .u64 r_43.2.2.Now, .int .u64 r_43.2.2.Next, .slice A_46 r_43.2.2.Rows.length c_47]⟩, ⟨46, b_41, [.int .i64 ((rdL calls_2 x_38).Kind), .int .u64 ((rdL calls_2 x_38).Id), .int .u64 ((rdL calls_2 x_38).Seq), .int .i64 ((rdL calls_2 x_38).Reply.Err), .int .u64 ((rdL calls_2 x_38).Reply.Num), .int .u64 ((rdL calls_2 x_38).Reply.Extra)]⟩]) (ps := []) (by kernel_rfl) trivial ?_
          refine GoO.regionEnd ?_
          refine GoO.condT c12_61e (by kernel_rfl) ?_
          refine GoO.seq' c12_62e ?_
          refine GoO.region' (is := [0]) c12_63e (by kernel_rfl) ?_
          refine GoO.exec (is := [0]) (hs := [.p]) (rest := []) (ks := [4]) (env' := [(4, .bool false)]) (H' := [⟨42, c_11, [.int .u64 r_43.2.1.now, .int .u64 r_43.2.1.next, .slice A_44 r_43.2.1.rows.length c_45]⟩, ⟨44, c_22, [.int .u64 r_43.2.2.Now, .int .u64 r_43.2.2.Next, .slice A_46 r_43.2.2.Rows.length c_47]⟩, ⟨46, b_41, [.int .i64 ((rdL calls_2 x_38).Kind), .int .u64 ((rdL calls_2 x_38).Id), .int .u64 ((rdL calls_2 x_38).Seq), .int .i64 ((rdL calls_2 x_38).Reply.Err), .int .u64 ((rdL calls_2 x_38).Reply.Num), .int .u64 ((rdL calls_2 x_38).Reply.Extra)]⟩]) (ps := []) (by kernel_rfl) trivial ?_
          refine GoO.regionEnd ?_
          exact GoO.ret' (h := c12_64e) (hs := []) (ps := []) (hk := []) (bk := []) Try.func12 () (by kernel_rfl) trivial (by kernel_rfl) (by kernel_rfl)
        · refine GoO.exec (is := [6, 7]) (hs := [.p, .p]) (rest := [8, 9, 10]) (ks := [7, 8, 33, 34, 35, 47, 48, 49]) (env' := [(7, .pointer (some ⟨c_11, 0, none⟩)), (8, .pointer (some ⟨c_22, 0, none⟩)), (33, .slice A_3 calls_2.length c_4), (34, .int .i64 (calls_2.length : Int)), (35, .int .i64 x_38), (47, .bool false), (48, .pointer (some ⟨c_11, 0, none⟩)), (49, .pointer (some ⟨c_22, 0, none⟩))]) (H' := [⟨42, c_11, [.int .u64 r_43.2.1.now, .int .u64 r_43.2.1.next, .slice A_44 r_43.2.1.rows.length c_45]⟩, ⟨44, c_22, [.int .u64 r_43.2.2.Now, .int .u64 r_43.2.2.Next, .slice A_46 r_43.2.2.Rows.length c_47]⟩, ⟨46, b_41, [.int .i64 ((rdL calls_2 x_38).Kind), .int .u64 ((rdL calls_2 x_38).Id), .int .u64 ((rdL calls_2 x_38).Seq), .int .i64 ((rdL calls_2 x_38).Reply.Err), .int .u64 ((rdL calls_2 x_38).Reply.Num), .int .u64 ((rdL calls_2 x_38).Reply.Extra)]⟩]) (ps := []) (by kernel_rfl) trivial ?_
          refine OpTo.go (GoO.call rfl (by kernel_rfl) (by kernel_rfl) (tontinelaw15_alike_ok n r_43.2.1 r_43.2.2 c_11 A_44 c_45 c_22 A_46 c_47) [[0], [42], [43], [44], [45]] [] [(1, 0), (3, 1)] [(2, 0), (4, 1)] (hks := [0, 1, 2]) (bks := [0, 1, 2]) (by kernel_rfl) (by kernel_rfl) (by kernel_rfl) (.inl rfl) rfl rfl (by kernel_rfl) (by kernel_rfl) _ (fun _ _ => rfl) _ _ (fun _ _ => rfl) (fun _ _ => rfl) (fun _ _ => by kernel_rfl) (fun _ _ => by kernel_rfl) (fun r_49 x_51 => ?_))
          refine GoO.shape (env' := [(7, .pointer (some ⟨c_11, 0, none⟩)), (8, .pointer (some ⟨c_22, 0, none⟩)), (33, .slice A_3 calls_2.length c_4), (34, .int .i64 (calls_2.length : Int)), (35, .int .i64 x_38), (47, .bool false), (48, .pointer (some ⟨c_11, 0, none⟩)), (49, .pointer (some ⟨c_22, 0, none⟩)), (50, .bool r_49)]) (H' := [⟨42, c_11, [.int .u64 r_43.2.1.now, .int .u64 r_43.2.1.next, .slice A_44 r_43.2.1.rows.length c_45]⟩, ⟨44, c_22, [.int .u64 r_43.2.2.Now, .int .u64 r_43.2.2.Next, .slice A_46 r_43.2.2.Rows.length c_47]⟩, ⟨46, b_41, [.int .i64 ((rdL calls_2 x_38).Kind), .int .u64 ((rdL calls_2 x_38).Id), .int .u64 ((rdL calls_2 x_38).Seq), .int .i64 ((rdL calls_2 x_38).Reply.Err), .int .u64 ((rdL calls_2 x_38).Reply.Num), .int .u64 ((rdL calls_2 x_38).Reply.Extra)]⟩]) (B' := [Ow 43 kT_session_Row A_44 c_45 r_43.2.1.rows, Ow 45 kT_tontineref15_Row A_46 c_47 r_43.2.2.Rows, Rd 0 kT_tontinelaw15_Call A_3 c_4 calls_2]) (ks := [7, 8, 33, 34, 35, 47, 48, 49, 50]) (by kernel_rfl) (by kernel_rfl) (by kernel_rfl) ?_
          refine GoO.exec (is := [9, 10]) (hs := [.p, .p]) (rest := []) (ks := [7, 8, 33, 34, 35, 52]) (env' := [(7, .pointer (some ⟨c_11, 0, none⟩)), (8, .pointer (some ⟨c_22, 0, none⟩)), (33, .slice A_3 calls_2.length c_4), (34, .int .i64 (calls_2.length : Int)), (35, .int .i64 x_38), (52, .bool (!r_49))]) (H' := [⟨42, c_11, [.int .u64 r_43.2.1.now, .int .u64 r_43.2.1.next, .slice A_44 r_43.2.1.rows.length c_45]⟩, ⟨44, c_22, [.int .u64 r_43.2.2.Now, .int .u64 r_43.2.2.Next, .slice A_46 r_43.2.2.Rows.length c_47]⟩, ⟨46, b_41, [.int .i64 ((rdL calls_2 x_38).Kind), .int .u64 ((rdL calls_2 x_38).Id), .int .u64 ((rdL calls_2 x_38).Seq), .int .i64 ((rdL calls_2 x_38).Reply.Err), .int .u64 ((rdL calls_2 x_38).Reply.Num), .int .u64 ((rdL calls_2 x_38).Reply.Extra)]⟩]) (ps := []) (by kernel_rfl) trivial ?_
          refine GoO.regionEnd ?_
          refine GoO.ite' c12_61e (by kernel_rfl) (fun h50 => ?_) (fun h50 => ?_)
          · refine GoO.seq' c12_62e ?_
            refine GoO.region' (is := [0]) c12_63e (by kernel_rfl) ?_
            refine GoO.exec (is := [0]) (hs := [.p]) (rest := []) (ks := [4]) (env' := [(4, .bool false)]) (H' := [⟨42, c_11, [.int .u64 r_43.2.1.now, .int .u64 r_43.2.1.next, .slice A_44 r_43.2.1.rows.length c_45]⟩, ⟨44, c_22, [.int .u64 r_43.2.2.Now, .int .u64 r_43.2.2.Next, .slice A_46 r_43.2.2.Rows.length c_47]⟩, ⟨46, b_41, [.int .i64 ((rdL calls_2 x_38).Kind), .int .u64 ((rdL calls_2 x_38).Id), .int .u64 ((rdL calls_2 x_38).Seq), .int .i64 ((rdL calls_2 x_38).Reply.Err), .int .u64 ((rdL calls_2 x_38).Reply.Num), .int .u64 ((rdL calls_2 x_38).Reply.Extra)]⟩]) (ps := []) (by kernel_rfl) trivial ?_
            refine GoO.regionEnd ?_
            exact GoO.ret' (h := c12_64e) (hs := []) (ps := []) (hk := []) (bk := []) Try.func12 () (by kernel_rfl) trivial (by kernel_rfl) (by kernel_rfl)
          · refine GoO.skip' c12_65e ?_
            refine GoO.inBlock ?_
            refine GoO.region' (is := [0, 1]) c12_66e (by kernel_rfl) ?_
            refine GoO.exec (is := [0, 1]) (hs := [.p, .p]) (rest := []) (ks := [7, 8, 33, 34, 35]) (env' := [(7, .pointer (some ⟨c_11, 0, none⟩)), (8, .pointer (some ⟨c_22, 0, none⟩)), (33, .slice A_3 calls_2.length c_4), (34, .int .i64 (calls_2.length : Int)), (35, .int .i64 (wi64 (x_38 + 1)))]) (H' := [⟨42, c_11, [.int .u64 r_43.2.1.now, .int .u64 r_43.2.1.next, .slice A_44 r_43.2.1.rows.length c_45]⟩, ⟨44, c_22, [.int .u64 r_43.2.2.Now, .int .u64 r_43.2.2.Next, .slice A_46 r_43.2.2.Rows.length c_47]⟩, ⟨46, b_41, [.int .i64 ((rdL calls_2 x_38).Kind), .int .u64 ((rdL calls_2 x_38).Id), .int .u64 ((rdL calls_2 x_38).Seq), .int .i64 ((rdL calls_2 x_38).Reply.Err), .int .u64 ((rdL calls_2 x_38).Reply.Num), .int .u64 ((rdL calls_2 x_38).Reply.Extra)]⟩]) (ps := []) (by kernel_rfl) trivial ?_
            refine GoO.regionEnd ?_
            refine GoO.inLoop ?_
            exact GoO.sub (ks := [7, 8, 33, 34, 35]) (hk := [0, 1]) (bk := [0, 1, 2]) (by kernel_rfl) (by kernel_rfl) (by kernel_rfl) (ih0 r_43.2.1.now r_43.2.1.next r_43.2.1.rows r_43.2.2.Now r_43.2.2.Next r_43.2.2.Rows (wi64 (x_38 + 1)) A_44 c_45 A_46 c_47)
    · refine GoO.exit' c12_48e rfl ?_
      refine GoO.seq' c12_67e ?_
      refine GoO.region' (is := [0]) c12_68e (by kernel_rfl) ?_
      refine GoO.exec (is := [0]) (hs := [.p]) (rest := []) (ks := [4]) (env' := [(4, .bool true)]) (H' := [⟨42, c_11, [.int .u64 f_28, .int .u64 f_29, .slice A_31 f_30.length c_32]⟩, ⟨44, c_22, [.int .u64 f_33, .int .u64 f_34, .slice A_36 f_35.length c_37]⟩]) (ps := []) (by kernel_rfl) trivial ?_
      refine GoO.regionEnd ?_
      exact GoO.ret' (h := c12_69e) (hs := []) (ps := []) (hk := []) (bk := []) Try.func12 () (by kernel_rfl) trivial (by kernel_rfl) (by kernel_rfl)
end Go.GL
