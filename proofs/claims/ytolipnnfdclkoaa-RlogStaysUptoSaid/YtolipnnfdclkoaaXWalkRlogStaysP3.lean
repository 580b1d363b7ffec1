import Derived.Test.YtolipnnfdclkoaaXWalkRlogStaysP2
import Derived.Test.YtolipnnfdclkoaaXKindsT1
import Derived.Test.YtolipnnfdclkoaaProg
set_option linter.unusedVariables false
set_option linter.unusedSimpArgs false
set_option maxRecDepth 100000
namespace Go.GL
open Go Go.Proofs
theorem tontineref07_Log_MembersAt_j0_ok (n : Nat) (L0 : Int → Int → Int → Option (Int × Int)) (g_1 : T_tontineref07_Log) (i_5 : Int) (c_6 : Int) (at_7 : Int) (k_8 : Int) (b_2 : Nat) (A_3 : Option Addr) (c_4 : Nat) (w0 : World) (S0 : Fam) (ih0 : ∀ (c_6 : Int) (at_7 : Int) (k_8 : Int), GoO (tontineref07_Log_MembersAt.cx b_2 A_3 c_4 w0 S0) [(0, vP b_2), (1, vU i_5), (6, vU c_6), (7, vU at_7), (8, vI k_8)] [⟨1, b_2, [vU g_1.Snap.Index, vU g_1.Snap.Term, vU g_1.Snap.Config, .string (bs g_1.Snap.Data), .slice A_3 g_1.L.length c_4]⟩] [Ow 2 kT_api_Entry A_3 c_4 g_1.L] [.code c65_9, .inLoop c65_9, .inBlock 0, .code c65_25] (L0 c_6 at_7 k_8)) (b_13 : Bool) :
    GoO (tontineref07_Log_MembersAt.cx b_2 A_3 c_4 w0 S0) [(0, vP b_2), (1, vU i_5), (6, vU c_6), (7, vU at_7), (8, vI k_8), (48, .bool b_13)] [⟨1, b_2, [vU g_1.Snap.Index, vU g_1.Snap.Term, vU g_1.Snap.Config, .string (bs g_1.Snap.Data), .slice A_3 g_1.L.length c_4]⟩] [Ow 2 kT_api_Entry A_3 c_4 g_1.L] [.code c65_19, .inBlock 1, .code c65_24, .inLoop c65_9, .inBlock 0, .code c65_25] (tontineref07_Log_MembersAt.j0 n L0 g_1 c_6 at_7 k_8 b_13) := by
  unfold tontineref07_Log_MembersAt.j0
  refine GoO.ite' c65_19e (by kernel_rfl) (fun h14 => ?_) (fun h14 => ?_)
  · refine GoO.seq' c65_20e ?_
    refine GoO.region' (is := [0, 1, 2, 3, 4, 5, 6, 7, 8, 9, 10, 11, 12]) c65_21e (by kernel_rfl) ?_
    refine GoO.exec (is := [0, 1, 2, 3, 4]) (hs := [.p, .p, .p, .b 0, .p]) (rest := [5, 6, 7, 8, 9, 10, 11, 12]) (ks := [0, 1, 8, 53, 54]) (env' := [(0, vP b_2), (1, vU i_5), (8, vI k_8), (53, .slice A_3 g_1.L.length c_4), (54, vI k_8)]) (H' := [⟨1, b_2, [vU g_1.Snap.Index, vU g_1.Snap.Term, vU g_1.Snap.Config, .string (bs g_1.Snap.Data), .slice A_3 g_1.L.length c_4]⟩]) (ps := [b_2 = b_2]) (by kernel_rfl) (And.intro rfl trivial) ?_
    refine GoO.guard (fun h15 => ?_)
    refine OpTo.go (GoO.idx (kk := .i64) (e := 40) (K := kT_api_Entry) (A := A_3) (c := c_4) (xs := g_1.L) (iv := k_8) (j := 0) rfl (by kernel_rfl) (by kernel_rfl) (by kernel_rfl) (by kernel_rfl) rfl Reads.own rfl h15.1 h15.2 (by decide) rfl ?_)
    refine OpTo.go (GoO.fldE (K := kT_api_Entry) (A := A_3) (c := c_4) (xs := g_1.L) (iN := k_8.toNat) (off := 0) (n := 3) (j := 0) rfl (by kernel_rfl) (by kernel_rfl) rfl Reads.own (by first | exact idx_lt h15.1 h15.2 | (simp only [List.length_set]; exact idx_lt h15.1 h15.2)) (by decide) rfl ?_)
    refine OpTo.go (GoO.ldE' (K := kT_api_Entry) (A := A_3) (c := c_4) (xs := g_1.L) (iN := k_8.toNat) (off := 3) (j := 0) rfl (by kernel_rfl) rfl Reads.own (by first | exact idx_lt h15.1 h15.2 | (simp only [List.length_set]; exact idx_lt h15.1 h15.2)) (by decide) (Opn.flat _ _ _ _ _) (v := fun _ => .string (bs ((rdL g_1.L k_8).Data))) (fun _ => by kernel_rfl) _ (fun _ => rfl) (fun _ => ?_))
    refine OpTo.go (GoO.call rfl (by kernel_rfl) (by kernel_rfl) (tontineref07_Said_ok n ((rdL g_1.L k_8).Data)) [[0]] [] [] [] (hks := [0]) (bks := [0]) (by kernel_rfl) (by kernel_rfl) (by kernel_rfl) (.inl rfl) rfl rfl (by kernel_rfl) (by kernel_rfl) _ (fun _ _ => rfl) _ _ (fun _ _ => rfl) (fun _ _ => rfl) (fun _ _ => by kernel_rfl) (fun _ _ => by kernel_rfl) (fun r_16 x_18 => ?_))
    refine GoO.shape (env' := [(0, vP b_2), (1, vU i_5), (8, vI k_8), (53, .slice A_3 g_1.L.length c_4), (54, vI k_8), (55, elemP A_3 k_8.toNat 4 0), (56, elemP A_3 k_8.toNat 4 3), (57, .string (bs ((rdL g_1.L k_8).Data))), (58, .tuple ⟨[vU r_16.1, .bool r_16.2]⟩)]) (H' := [⟨1, b_2, [vU g_1.Snap.Index, vU g_1.Snap.Term, vU g_1.Snap.Config, .string (bs g_1.Snap.Data), .slice A_3 g_1.L.length c_4]⟩]) (B' := [Ow 2 kT_api_Entry A_3 c_4 g_1.L]) (ks := [0, 1, 8, 53, 54, 55, 56, 57, 58]) (by kernel_rfl) (by kernel_rfl) (by kernel_rfl) ?_
    refine GoO.exec (is := [9, 10, 11, 12]) (hs := [.p, .p, .p, .p]) (rest := []) (ks := [0, 1, 6, 8]) (env' := [(0, vP b_2), (1, vU i_5), (6, vU r_16.1), (8, vI k_8)]) (H' := [⟨1, b_2, [vU g_1.Snap.Index, vU g_1.Snap.Term, vU g_1.Snap.Config, .string (bs g_1.Snap.Data), .slice A_3 g_1.L.length c_4]⟩]) (ps := []) (by kernel_rfl) trivial ?_
    refine GoO.regionEnd ?_
    refine GoO.region' (is := [0, 1, 2, 3, 4, 5, 6, 7, 8]) c65_22e (by kernel_rfl) ?_
    refine GoO.exec (is := [0, 1, 2, 3, 4]) (hs := [.p, .p, .p, .b 0, .p]) (rest := [5, 6, 7, 8]) (ks := [0, 1, 6, 8, 64, 65]) (env' := [(0, vP b_2), (1, vU i_5), (6, vU r_16.1), (8, vI k_8), (64, .slice A_3 g_1.L.length c_4), (65, vI k_8)]) (H' := [⟨1, b_2, [vU g_1.Snap.Index, vU g_1.Snap.Term, vU g_1.Snap.Config, .string (bs g_1.Snap.Data), .slice A_3 g_1.L.length c_4]⟩]) (ps := [b_2 = b_2]) (by kernel_rfl) (And.intro rfl trivial) ?_
    refine GoO.guard (fun h17 => ?_)
    refine OpTo.go (GoO.idx (kk := .i64) (e := 40) (K := kT_api_Entry) (A := A_3) (c := c_4) (xs := g_1.L) (iv := k_8) (j := 0) rfl (by kernel_rfl) (by kernel_rfl) (by kernel_rfl) (by kernel_rfl) rfl Reads.own rfl h17.1 h17.2 (by decide) rfl ?_)
    refine OpTo.go (GoO.fldE (K := kT_api_Entry) (A := A_3) (c := c_4) (xs := g_1.L) (iN := k_8.toNat) (off := 0) (n := 1) (j := 0) rfl (by kernel_rfl) (by kernel_rfl) rfl Reads.own (by first | exact idx_lt h17.1 h17.2 | (simp only [List.length_set]; exact idx_lt h17.1 h17.2)) (by decide) rfl ?_)
    refine OpTo.go (GoO.ldE' (K := kT_api_Entry) (A := A_3) (c := c_4) (xs := g_1.L) (iN := k_8.toNat) (off := 1) (j := 0) rfl (by kernel_rfl) rfl Reads.own (by first | exact idx_lt h17.1 h17.2 | (simp only [List.length_set]; exact idx_lt h17.1 h17.2)) (by decide) (Opn.flat _ _ _ _ _) (v := fun _ => vU ((rdL g_1.L k_8).Index)) (fun _ => by kernel_rfl) _ (fun _ => rfl) (fun _ => ?_))
    refine GoO.exec (is := [8]) (hs := [.p]) (rest := []) (ks := [0, 1, 6, 7, 8]) (env' := [(0, vP b_2), (1, vU i_5), (6, vU r_16.1), (7, vU ((rdL g_1.L k_8).Index)), (8, vI k_8)]) (H' := [⟨1, b_2, [vU g_1.Snap.Index, vU g_1.Snap.Term, vU g_1.Snap.Config, .string (bs g_1.Snap.Data), .slice A_3 g_1.L.length c_4]⟩]) (ps := []) (by kernel_rfl) trivial ?_
    refine GoO.regionEnd ?_
    refine GoO.inBlock ?_
    refine GoO.region' (is := [0, 1, 2]) c65_24e (by kernel_rfl) ?_
    refine GoO.exec (is := [0, 1, 2]) (hs := [.p, .p, .p]) (rest := []) (ks := [0, 1, 6, 7, 8]) (env' := [(0, vP b_2), (1, vU i_5), (6, vU r_16.1), (7, vU ((rdL g_1.L k_8).Index)), (8, vI (wi64 (k_8 + 1)))]) (H' := [⟨1, b_2, [vU g_1.Snap.Index, vU g_1.Snap.Term, vU g_1.Snap.Config, .string (bs g_1.Snap.Data), .slice A_3 g_1.L.length c_4]⟩]) (ps := []) (by kernel_rfl) trivial ?_
    refine GoO.regionEnd ?_
    refine GoO.inLoop ?_
    exact GoO.sub (ks := [0, 1, 6, 7, 8]) (hk := [0]) (bk := [0]) (by kernel_rfl) (by kernel_rfl) (by kernel_rfl) (ih0 r_16.1 ((rdL g_1.L k_8).Index) (wi64 (k_8 + 1)))
  · refine GoO.skip' c65_23e ?_
    refine GoO.inBlock ?_
    refine GoO.region' (is := [0, 1, 2]) c65_24e (by kernel_rfl) ?_
    refine GoO.exec (is := [0, 1, 2]) (hs := [.p, .p, .p]) (rest := []) (ks := [0, 1, 6, 7, 8]) (env' := [(0, vP b_2), (1, vU i_5), (6, vU c_6), (7, vU at_7), (8, vI (wi64 (k_8 + 1)))]) (H' := [⟨1, b_2, [vU g_1.Snap.Index, vU g_1.Snap.Term, vU g_1.Snap.Config, .string (bs g_1.Snap.Data), .slice A_3 g_1.L.length c_4]⟩]) (ps := []) (by kernel_rfl) trivial ?_
    refine GoO.regionEnd ?_
    refine GoO.inLoop ?_
    exact GoO.sub (ks := [0, 1, 6, 7, 8]) (hk := [0]) (bk := [0]) (by kernel_rfl) (by kernel_rfl) (by kernel_rfl) (ih0 c_6 at_7 (wi64 (k_8 + 1)))
theorem tontineref07_Log_MembersAt_l0_ok (n : Nat) (g_1 : T_tontineref07_Log) (i_5 : Int) (b_2 : Nat) (A_3 : Option Addr) (c_4 : Nat) (w0 : World) (S0 : Fam) :
    ∀ (k : Nat) (c_6 : Int) (at_7 : Int) (k_8 : Int), GoO (tontineref07_Log_MembersAt.cx b_2 A_3 c_4 w0 S0) [(0, vP b_2), (1, vU i_5), (6, vU c_6), (7, vU at_7), (8, vI k_8)] [⟨1, b_2, [vU g_1.Snap.Index, vU g_1.Snap.Term, vU g_1.Snap.Config, .string (bs g_1.Snap.Data), .slice A_3 g_1.L.length c_4]⟩] [Ow 2 kT_api_Entry A_3 c_4 g_1.L] [.code c65_9, .inLoop c65_9, .inBlock 0, .code c65_25] (tontineref07_Log_MembersAt.l0 n g_1 i_5 k c_6 at_7 k_8) := by
  intro k
  induction k with
  | zero => intros; rw [tontineref07_Log_MembersAt.l0.eq_1]; exact GoO.stop
  | succ k ih0 =>
    intro c_6 at_7 k_8
    rw [tontineref07_Log_MembersAt.l0.eq_2]
    refine GoO.seq' c65_9e ?_
    refine GoO.seq' c65_10e ?_
    refine GoO.region' (is := [0, 1, 2, 3, 4, 5, 6]) c65_11e (by kernel_rfl) ?_
    refine GoO.exec (is := [0, 1, 2, 3, 4, 5, 6]) (hs := [.p, .p, .p, .p, .b 0, .p, .p]) (rest := []) (ks := [0, 1, 6, 7, 8, 25]) (env' := [(0, vP b_2), (1, vU i_5), (6, vU c_6), (7, vU at_7), (8, vI k_8), (25, .bool (decide (k_8 < (g_1.L.length : Int))))]) (H' := [⟨1, b_2, [vU g_1.Snap.Index, vU g_1.Snap.Term, vU g_1.Snap.Config, .string (bs g_1.Snap.Data), .slice A_3 g_1.L.length c_4]⟩]) (ps := [b_2 = b_2]) (by kernel_rfl) (And.intro rfl trivial) ?_
    refine GoO.regionEnd ?_
    refine GoO.ite' c65_12e (by kernel_rfl) (fun h9 => ?_) (fun h9 => ?_)
    · refine GoO.skip' c65_13e ?_
      refine GoO.seq' c65_15e ?_
      refine GoO.block' c65_16e ?_
      refine GoO.seq' c65_17e ?_
      refine GoO.region' (is := [0, 1, 2, 3, 4, 5, 6, 7, 8, 9, 10, 11, 12, 13, 14, 15, 16, 17, 18, 19, 20]) c65_18e (by kernel_rfl) ?_
      refine GoO.exec (is := [0, 1, 2, 3, 4]) (hs := [.p, .p, .p, .b 0, .p]) (rest := [5, 6, 7, 8, 9, 10, 11, 12, 13, 14, 15, 16, 17, 18, 19, 20]) (ks := [0, 1, 6, 7, 8, 31, 32]) (env' := [(0, vP b_2), (1, vU i_5), (6, vU c_6), (7, vU at_7), (8, vI k_8), (31, .slice A_3 g_1.L.length c_4), (32, vI k_8)]) (H' := [⟨1, b_2, [vU g_1.Snap.Index, vU g_1.Snap.Term, vU g_1.Snap.Config, .string (bs g_1.Snap.Data), .slice A_3 g_1.L.length c_4]⟩]) (ps := [b_2 = b_2]) (by kernel_rfl) (And.intro rfl trivial) ?_
      refine GoO.guard (fun h10 => ?_)
      refine OpTo.go (GoO.idx (kk := .i64) (e := 40) (K := kT_api_Entry) (A := A_3) (c := c_4) (xs := g_1.L) (iv := k_8) (j := 0) rfl (by kernel_rfl) (by kernel_rfl) (by kernel_rfl) (by kernel_rfl) rfl Reads.own rfl h10.1 h10.2 (by decide) rfl ?_)
      refine OpTo.go (GoO.fldE (K := kT_api_Entry) (A := A_3) (c := c_4) (xs := g_1.L) (iN := k_8.toNat) (off := 0) (n := 2) (j := 0) rfl (by kernel_rfl) (by kernel_rfl) rfl Reads.own (by first | exact idx_lt h10.1 h10.2 | (simp only [List.length_set]; exact idx_lt h10.1 h10.2)) (by decide) rfl ?_)
      refine OpTo.go (GoO.ldE' (K := kT_api_Entry) (A := A_3) (c := c_4) (xs := g_1.L) (iN := k_8.toNat) (off := 2) (j := 0) rfl (by kernel_rfl) rfl Reads.own (by first | exact idx_lt h10.1 h10.2 | (simp only [List.length_set]; exact idx_lt h10.1 h10.2)) (by decide) (Opn.flat _ _ _ _ _) (v := fun _ => vI ((rdL g_1.L k_8).Kind)) (fun _ => by kernel_rfl) _ (fun _ => rfl) (fun _ => ?_))
      refine GoO.exec (is := [8, 9]) (hs := [.p, .p]) (rest := [10, 11, 12, 13, 14, 15, 16, 17, 18, 19, 20]) (ks := [0, 1, 6, 7, 8, 37]) (env' := [(0, vP b_2), (1, vU i_5), (6, vU c_6), (7, vU at_7), (8, vI k_8), (37, .bool (((rdL g_1.L k_8).Kind) == 2))]) (H' := [⟨1, b_2, [vU g_1.Snap.Index, vU g_1.Snap.Term, vU g_1.Snap.Config, .string (bs g_1.Snap.Data), .slice A_3 g_1.L.length c_4]⟩]) (ps := []) (by kernel_rfl) trivial ?_
      refine GoO.bsplit (t := 37) (by kernel_rfl) (fun h11 => ?_) (fun h11 => ?_)
      · refine GoO.exec (is := [10, 11, 12, 13, 14]) (hs := [.p, .p, .p, .b 0, .p]) (rest := [15, 16, 17, 18, 19, 20]) (ks := [0, 1, 6, 7, 8, 37, 41, 42]) (env' := [(0, vP b_2), (1, vU i_5), (6, vU c_6), (7, vU at_7), (8, vI k_8), (37, .bool true), (41, .slice A_3 g_1.L.length c_4), (42, vI k_8)]) (H' := [⟨1, b_2, [vU g_1.Snap.Index, vU g_1.Snap.Term, vU g_1.Snap.Config, .string (bs g_1.Snap.Data), .slice A_3 g_1.L.length c_4]⟩]) (ps := [b_2 = b_2]) (by kernel_rfl) (And.intro rfl trivial) ?_
        refine GoO.guard (fun h12 => ?_)
        refine OpTo.go (GoO.idx (kk := .i64) (e := 40) (K := kT_api_Entry) (A := A_3) (c := c_4) (xs := g_1.L) (iv := k_8) (j := 0) rfl (by kernel_rfl) (by kernel_rfl) (by kernel_rfl) (by kernel_rfl) rfl Reads.own rfl h12.1 h12.2 (by decide) rfl ?_)
        refine OpTo.go (GoO.fldE (K := kT_api_Entry) (A := A_3) (c := c_4) (xs := g_1.L) (iN := k_8.toNat) (off := 0) (n := 1) (j := 0) rfl (by kernel_rfl) (by kernel_rfl) rfl Reads.own (by first | exact idx_lt h12.1 h12.2 | (simp only [List.length_set]; exact idx_lt h12.1 h12.2)) (by decide) rfl ?_)
        refine OpTo.go (GoO.ldE' (K := kT_api_Entry) (A := A_3) (c := c_4) (xs := g_1.L) (iN := k_8.toNat) (off := 1) (j := 0) rfl (by kernel_rfl) rfl Reads.own (by first | exact idx_lt h12.1 h12.2 | (simp only [List.length_set]; exact idx_lt h12.1 h12.2)) (by decide) (Opn.flat _ _ _ _ _) (v := fun _ => vU ((rdL g_1.L k_8).Index)) (fun _ => by kernel_rfl) _ (fun _ => rfl) (fun _ => ?_))
        refine GoO.exec (is := [18, 19, 20]) (hs := [.p, .p, .p]) (rest := []) (ks := [0, 1, 6, 7, 8, 48]) (env' := [(0, vP b_2), (1, vU i_5), (6, vU c_6), (7, vU at_7), (8, vI k_8), (48, .bool (decide (((rdL g_1.L k_8).Index) ≤ i_5)))]) (H' := [⟨1, b_2, [vU g_1.Snap.Index, vU g_1.Snap.Term, vU g_1.Snap.Config, .string (bs g_1.Snap.Data), .slice A_3 g_1.L.length c_4]⟩]) (ps := []) (by kernel_rfl) trivial ?_
        refine GoO.regionEnd ?_
        exact GoO.sub (ks := [0, 1, 6, 7, 8, 48]) (hk := [0]) (bk := [0]) (by kernel_rfl) (by kernel_rfl) (by kernel_rfl) (tontineref07_Log_MembersAt_j0_ok n (tontineref07_Log_MembersAt.l0 n g_1 i_5 k) g_1 i_5 c_6 at_7 k_8 b_2 A_3 c_4 w0 S0 ih0 (decide (((rdL g_1.L k_8).Index) ≤ i_5)))
      · refine GoO.exec (is := [10, 11, 12, 13, 14, 15, 16, 17, 18, 19, 20]) (hs := [.p, .p, .p, .p, .p, .p, .p, .p, .p, .p, .p]) (rest := []) (ks := [0, 1, 6, 7, 8, 48]) (env' := [(0, vP b_2), (1, vU i_5), (6, vU c_6), (7, vU at_7), (8, vI k_8), (48, .bool false)]) (H' := [⟨1, b_2, [vU g_1.Snap.Index, vU g_1.Snap.Term, vU g_1.Snap.Config, .string (bs g_1.Snap.Data), .slice A_3 g_1.L.length c_4]⟩]) (ps := []) (by kernel_rfl) trivial ?_
        refine GoO.regionEnd ?_
        exact GoO.sub (ks := [0, 1, 6, 7, 8, 48]) (hk := [0]) (bk := [0]) (by kernel_rfl) (by kernel_rfl) (by kernel_rfl) (tontineref07_Log_MembersAt_j0_ok n (tontineref07_Log_MembersAt.l0 n g_1 i_5 k) g_1 i_5 c_6 at_7 k_8 b_2 A_3 c_4 w0 S0 ih0 false)
    · refine GoO.exit' c65_14e rfl ?_
      refine GoO.seq' c65_25e ?_
      refine GoO.region' (is := [0, 1, 2, 3]) c65_26e (by kernel_rfl) ?_
      refine GoO.exec (is := [0, 1, 2, 3]) (hs := [.p, .p, .p, .p]) (rest := []) (ks := [4, 5]) (env' := [(4, vU c_6), (5, vU at_7)]) (H' := [⟨1, b_2, [vU g_1.Snap.Index, vU g_1.Snap.Term, vU g_1.Snap.Config, .string (bs g_1.Snap.Data), .slice A_3 g_1.L.length c_4]⟩]) (ps := []) (by kernel_rfl) trivial ?_
      refine GoO.regionEnd ?_
      exact GoO.ret' (h := c65_27e) (hs := []) (ps := []) (hk := []) (bk := []) Try.func65 () (by kernel_rfl) trivial (by kernel_rfl) (by kernel_rfl)
theorem tontineref07_Log_MembersAt_ok (n : Nat) (g_1 : T_tontineref07_Log) (i_5 : Int) (b_2 : Nat) (A_3 : Option Addr) (c_4 : Nat) :
    Meets Try.prog 65 [vP b_2, vU i_5] 2 [] [⟨1, b_2, [vU g_1.Snap.Index, vU g_1.Snap.Term, vU g_1.Snap.Config, .string (bs g_1.Snap.Data), .slice A_3 g_1.L.length c_4]⟩] [Ow 2 kT_api_Entry A_3 c_4 g_1.L] (tontineref07_Log_MembersAt.f n g_1 i_5) (tontineref07_Log_MembersAt.R b_2 A_3 c_4) := by
  refine Meets.of (c := c65_0) (n := 71) Try.func65 (by kernel_rfl) (by kernel_rfl) (by kernel_rfl) fun w0 S0 => ?_
  unfold tontineref07_Log_MembersAt.f
  show GoO (tontineref07_Log_MembersAt.cx b_2 A_3 c_4 w0 S0) [(0, vP b_2), (1, vU i_5)] [⟨1, b_2, [vU g_1.Snap.Index, vU g_1.Snap.Term, vU g_1.Snap.Config, .string (bs g_1.Snap.Data), .slice A_3 g_1.L.length c_4]⟩] [Ow 2 kT_api_Entry A_3 c_4 g_1.L] [.code c65_0] _
  refine GoO.seq' c65_0e ?_
  refine GoO.region' (is := [0, 1]) c65_1e (by kernel_rfl) ?_
  refine GoO.exec (is := [0, 1]) (hs := [.p, .p]) (rest := []) (ks := [0, 1]) (env' := [(0, vP b_2), (1, vU i_5)]) (H' := [⟨1, b_2, [vU g_1.Snap.Index, vU g_1.Snap.Term, vU g_1.Snap.Config, .string (bs g_1.Snap.Data), .slice A_3 g_1.L.length c_4]⟩]) (ps := []) (by kernel_rfl) trivial ?_
  refine GoO.regionEnd ?_
  refine GoO.seq' c65_2e ?_
  refine GoO.draw c65_3e (by kernel_rfl) [11] [⟨1, b_2, [vU g_1.Snap.Index, vU g_1.Snap.Term, vU g_1.Snap.Config, .string (bs g_1.Snap.Data), .slice A_3 g_1.L.length c_4]⟩] [] (n := 12) (by kernel_rfl) ?_
  simp only [List.replicate]
  refine GoF.take [0, 1, 2, 3, 4, 5, 6, 7, 8, 9, 10] [.p, .p, .p, .p, .b 0, .p, .p, .p, .p, .b 0, .p] (ks := [0, 1, 6, 18]) (fu := 1) (li := [true, true, true, true, true, true, true, true, true, true, true, false]) (env' := [(0, vP b_2), (1, vU i_5), (6, vU g_1.Snap.Config), (18, vU g_1.Snap.Index)]) (ps := [b_2 = b_2, b_2 = b_2]) (hk := [0]) (bk := []) (by kernel_rfl) (And.intro rfl (And.intro rfl trivial)) rfl rfl ?_
  refine GoF.fin1 (i := 11) (hint := .p) (ps := []) (hk := []) (bk := []) (by kernel_rfl) rfl trivial (.inl rfl) ?_
  refine GoF.done (by kernel_rfl) ?_
  refine GoO.seq' c65_4e ?_
  refine GoO.seq' c65_5e ?_
  refine GoO.region' (is := [0]) c65_6e (by kernel_rfl) ?_
  refine GoO.exec (is := [0]) (hs := [.p]) (rest := []) (ks := [0, 1, 6, 7, 8]) (env' := [(0, vP b_2), (1, vU i_5), (6, vU g_1.Snap.Config), (7, vU g_1.Snap.Index), (8, vI 0)]) (H' := [⟨1, b_2, [vU g_1.Snap.Index, vU g_1.Snap.Term, vU g_1.Snap.Config, .string (bs g_1.Snap.Data), .slice A_3 g_1.L.length c_4]⟩]) (ps := []) (by kernel_rfl) trivial ?_
  refine GoO.regionEnd ?_
  refine GoO.block' c65_7e ?_
  refine GoO.loop' c65_8e ?_
  exact GoO.sub (ks := [0, 1, 6, 7, 8]) (hk := [0]) (bk := [0]) (by kernel_rfl) (by kernel_rfl) (by kernel_rfl) (tontineref07_Log_MembersAt_l0_ok n g_1 i_5 b_2 A_3 c_4 w0 S0 n g_1.Snap.Config g_1.Snap.Index 0)
/-! (*tontine/tontineref07.Log).Compact -/
noncomputable def c61_0 : Code := bodyOf Try.f61
noncomputable def c61_1 : Code := cdL c61_0
noncomputable def c61_2 : Code := cdR c61_0
noncomputable def c61_3 : Code := cdL c61_2
noncomputable def c61_4 : Code := cdL c61_3
noncomputable def c61_5 : Code := cdR c61_3
noncomputable def c61_6 : Code := cdL c61_5
noncomputable def c61_7 : Code := cdL c61_6
noncomputable def c61_8 : Code := cdL c61_7
noncomputable def c61_9 : Code := cdL c61_8
noncomputable def c61_10 : Code := cdR c61_8
noncomputable def c61_11 : Code := cdL c61_10
noncomputable def c61_12 : Code := cdR c61_10
noncomputable def c61_13 : Code := cdR c61_7
noncomputable def c61_14 : Code := cdL c61_13
noncomputable def c61_15 : Code := cdL c61_14
noncomputable def c61_16 : Code := cdL c61_15
noncomputable def c61_17 : Code := cdR c61_15
noncomputable def c61_18 : Code := cdL c61_17
noncomputable def c61_19 : Code := cdL c61_18
noncomputable def c61_20 : Code := cdR c61_18
noncomputable def c61_21 : Code := cdL c61_20
noncomputable def c61_22 : Code := cdR c61_20
noncomputable def c61_23 : Code := cdL c61_22
noncomputable def c61_24 : Code := cdR c61_22
noncomputable def c61_25 : Code := cdL c61_24
noncomputable def c61_26 : Code := cdR c61_24
noncomputable def c61_27 : Code := cdR c61_17
noncomputable def c61_28 : Code := cdR c61_13
noncomputable def c61_29 : Code := cdR c61_2
noncomputable def c61_30 : Code := cdL c61_29
noncomputable def c61_31 : Code := cdR c61_29
noncomputable def r61_1 : Array Oper := cdO c61_1
noncomputable def r61_4 : Array Oper := cdO c61_4
noncomputable def r61_9 : Array Oper := cdO c61_9
noncomputable def r61_16 : Array Oper := cdO c61_16
noncomputable def r61_19 : Array Oper := cdO c61_19
noncomputable def r61_21 : Array Oper := cdO c61_21
noncomputable def r61_23 : Array Oper := cdO c61_23
noncomputable def r61_25 : Array Oper := cdO c61_25
noncomputable def r61_28 : Array Oper := cdO c61_28
noncomputable def r61_30 : Array Oper := cdO c61_30
theorem c61_0e : c61_0 = .seq c61_1 c61_2 := by kernel_rfl
theorem c61_1e : c61_1 = .region 0 r61_1 false := by kernel_rfl
theorem c61_2e : c61_2 = .seq c61_3 c61_29 := by kernel_rfl
theorem c61_3e : c61_3 = .seq c61_4 c61_5 := by kernel_rfl
theorem c61_4e : c61_4 = .region 1 r61_4 false := by kernel_rfl
theorem c61_5e : c61_5 = .block 0 c61_6 := by kernel_rfl
theorem c61_6e : c61_6 = .loop c61_7 := by kernel_rfl
theorem c61_7e : c61_7 = .seq c61_8 c61_13 := by kernel_rfl
theorem c61_8e : c61_8 = .seq c61_9 c61_10 := by kernel_rfl
theorem c61_9e : c61_9 = .region 2 r61_9 false := by kernel_rfl
theorem c61_10e : c61_10 = .cond (cdC c61_10) c61_11 c61_12 := by kernel_rfl
theorem c61_11e : c61_11 = .skip := by kernel_rfl
theorem c61_12e : c61_12 = .exit 0 := by kernel_rfl
theorem c61_13e : c61_13 = .seq c61_14 c61_28 := by kernel_rfl
theorem c61_14e : c61_14 = .block 1 c61_15 := by kernel_rfl
theorem c61_15e : c61_15 = .seq c61_16 c61_17 := by kernel_rfl
theorem c61_16e : c61_16 = .region 4 r61_16 false := by kernel_rfl
theorem c61_17e : c61_17 = .cond (cdC c61_17) c61_18 c61_27 := by kernel_rfl
theorem c61_18e : c61_18 = .seq c61_19 c61_20 := by kernel_rfl
theorem c61_19e : c61_19 = .region 5 r61_19 false := by kernel_rfl
theorem c61_20e : c61_20 = .seq c61_21 c61_22 := by kernel_rfl
theorem c61_21e : c61_21 = .region 6 r61_21 false := by kernel_rfl
theorem c61_22e : c61_22 = .seq c61_23 c61_24 := by kernel_rfl
theorem c61_23e : c61_23 = .region 7 r61_23 false := by kernel_rfl
theorem c61_24e : c61_24 = .seq c61_25 c61_26 := by kernel_rfl
theorem c61_25e : c61_25 = .region 8 r61_25 false := by kernel_rfl
theorem c61_26e : c61_26 = .ret := by kernel_rfl
theorem c61_27e : c61_27 = .skip := by kernel_rfl
theorem c61_28e : c61_28 = .region 3 r61_28 false := by kernel_rfl
theorem c61_29e : c61_29 = .seq c61_30 c61_31 := by kernel_rfl
theorem c61_30e : c61_30 = .region 9 r61_30 false := by kernel_rfl
theorem c61_31e : c61_31 = .ret := by kernel_rfl
noncomputable def tontineref07_Log_Compact.R (b_2 : Nat) (A_3 : Option Addr) (c_4 : Nat) : Pst (Int × T_tontineref07_Log) where
  ε := Option Addr × Nat
  v := fun r x => vI r.1
  H := fun r x => [⟨1, b_2, [vU r.2.Snap.Index, vU r.2.Snap.Term, vU r.2.Snap.Config, .string (bs r.2.Snap.Data), .slice x.1 r.2.L.length x.2]⟩]
  B := fun r x => [Ow 2 kT_api_Entry x.1 x.2 r.2.L]
noncomputable def tontineref07_Log_Compact.cx (b_2 : Nat) (A_3 : Option Addr) (c_4 : Nat) (w0 : World) (S0 : Fam) : Cx (Int × T_tontineref07_Log) := ⟨Try.prog, 61, Try.f61, 61, w0, S0, [1, 2], 2, tontineref07_Log_Compact.R b_2 A_3 c_4⟩
theorem tontineref07_Log_Compact_l0_ok (n : Nat) (g_1 : T_tontineref07_Log) (i_5 : Int) (data_6 : (List UInt8)) (b_2 : Nat) (A_3 : Option Addr) (c_4 : Nat) (w0 : World) (S0 : Fam) :
    ∀ (k : Nat) (k_7 : Int), GoO (tontineref07_Log_Compact.cx b_2 A_3 c_4 w0 S0) [(0, vP b_2), (1, vU i_5), (2, .string (bs data_6)), (7, vI k_7)] [⟨1, b_2, [vU g_1.Snap.Index, vU g_1.Snap.Term, vU g_1.Snap.Config, .string (bs g_1.Snap.Data), .slice A_3 g_1.L.length c_4]⟩] [Ow 2 kT_api_Entry A_3 c_4 g_1.L] [.code c61_7, .inLoop c61_7, .inBlock 0, .code c61_29] (tontineref07_Log_Compact.l0 n g_1 i_5 data_6 k k_7) := by
  intro k
  induction k with
  | zero => intros; rw [tontineref07_Log_Compact.l0.eq_1]; exact GoO.stop
  | succ k ih0 =>
    intro k_7
    rw [tontineref07_Log_Compact.l0.eq_2]
    refine GoO.seq' c61_7e ?_
    refine GoO.seq' c61_8e ?_
    refine GoO.region' (is := [0, 1, 2, 3, 4, 5, 6]) c61_9e (by kernel_rfl) ?_
    refine GoO.exec (is := [0, 1, 2, 3, 4, 5, 6]) (hs := [.p, .p, .p, .p, .b 0, .p, .p]) (rest := []) (ks := [0, 1, 2, 7, 16]) (env' := [(0, vP b_2), (1, vU i_5), (2, .string (bs data_6)), (7, vI k_7), (16, .bool (decide (k_7 < (g_1.L.length : Int))))]) (H' := [⟨1, b_2, [vU g_1.Snap.Index, vU g_1.Snap.Term, vU g_1.Snap.Config, .string (bs g_1.Snap.Data), .slice A_3 g_1.L.length c_4]⟩]) (ps := [b_2 = b_2]) (by kernel_rfl) (And.intro rfl trivial) ?_
    refine GoO.regionEnd ?_
    refine GoO.ite' c61_10e (by kernel_rfl) (fun h8 => ?_) (fun h8 => ?_)
    · refine GoO.skip' c61_11e ?_
      refine GoO.seq' c61_13e ?_
      refine GoO.block' c61_14e ?_
      refine GoO.seq' c61_15e ?_
      refine GoO.region' (is := [0, 1, 2, 3, 4, 5, 6, 7, 8, 9]) c61_16e (by kernel_rfl) ?_
      refine GoO.exec (is := [0, 1, 2, 3, 4]) (hs := [.p, .p, .p, .b 0, .p]) (rest := [5, 6, 7, 8, 9]) (ks := [0, 1, 2, 7, 22, 23]) (env' := [(0, vP b_2), (1, vU i_5), (2, .string (bs data_6)), (7, vI k_7), (22, .slice A_3 g_1.L.length c_4), (23, vI k_7)]) (H' := [⟨1, b_2, [vU g_1.Snap.Index, vU g_1.Snap.Term, vU g_1.Snap.Config, .string (bs g_1.Snap.Data), .slice A_3 g_1.L.length c_4]⟩]) (ps := [b_2 = b_2]) (by kernel_rfl) (And.intro rfl trivial) ?_
      refine GoO.guard (fun h9 => ?_)
      refine OpTo.go (GoO.idx (kk := .i64) (e := 40) (K := kT_api_Entry) (A := A_3) (c := c_4) (xs := g_1.L) (iv := k_7) (j := 0) rfl (by kernel_rfl) (by kernel_rfl) (by kernel_rfl) (by kernel_rfl) rfl Reads.own rfl h9.1 h9.2 (by decide) rfl ?_)
      refine OpTo.go (GoO.fldE (K := kT_api_Entry) (A := A_3) (c := c_4) (xs := g_1.L) (iN := k_7.toNat) (off := 0) (n := 1) (j := 0) rfl (by kernel_rfl) (by kernel_rfl) rfl Reads.own (by first | exact idx_lt h9.1 h9.2 | (simp only [List.length_set]; exact idx_lt h9.1 h9.2)) (by decide) rfl ?_)
      refine OpTo.go (GoO.ldE' (K := kT_api_Entry) (A := A_3) (c := c_4) (xs := g_1.L) (iN := k_7.toNat) (off := 1) (j := 0) rfl (by kernel_rfl) rfl Reads.own (by first | exact idx_lt h9.1 h9.2 | (simp only [List.length_set]; exact idx_lt h9.1 h9.2)) (by decide) (Opn.flat _ _ _ _ _) (v := fun _ => vU ((rdL g_1.L k_7).Index)) (fun _ => by kernel_rfl) _ (fun _ => rfl) (fun _ => ?_))
      refine GoO.exec (is := [8, 9]) (hs := [.p, .p]) (rest := []) (ks := [0, 1, 2, 7, 28]) (env' := [(0, vP b_2), (1, vU i_5), (2, .string (bs data_6)), (7, vI k_7), (28, .bool (((rdL g_1.L k_7).Index) == i_5))]) (H' := [⟨1, b_2, [vU g_1.Snap.Index, vU g_1.Snap.Term, vU g_1.Snap.Config, .string (bs g_1.Snap.Data), .slice A_3 g_1.L.length c_4]⟩]) (ps := []) (by kernel_rfl) trivial ?_
      refine GoO.regionEnd ?_
      refine GoO.ite' c61_17e (by kernel_rfl) (fun h10 => ?_) (fun h10 => ?_)
      · refine GoO.seq' c61_18e ?_
        refine GoO.region' (is := [0, 1, 2, 3, 4, 5, 6, 7]) c61_19e (by kernel_rfl) ?_
        refine GoO.exec (is := [0, 1]) (hs := [.p, .p]) (rest := [2, 3, 4, 5, 6, 7]) (ks := [0, 1, 2, 7, 30, 31]) (env' := [(0, vP b_2), (1, vU i_5), (2, .string (bs data_6)), (7, vI k_7), (30, vP b_2), (31, vU i_5)]) (H' := [⟨1, b_2, [vU g_1.Snap.Index, vU g_1.Snap.Term, vU g_1.Snap.Config, .string (bs g_1.Snap.Data), .slice A_3 g_1.L.length c_4]⟩]) (ps := []) (by kernel_rfl) trivial ?_
        refine OpTo.go (GoO.call rfl (by kernel_rfl) (by kernel_rfl) (tontineref07_Log_MembersAt_ok n (⟨(⟨g_1.Snap.Index, g_1.Snap.Term, g_1.Snap.Config, g_1.Snap.Data⟩ : T_api_Snapshot), g_1.L⟩ : T_tontineref07_Log) i_5 b_2 A_3 c_4) [[0], [1], [2]] [] [(1, 0)] [(2, 0)] (hks := [0]) (bks := [0]) (by kernel_rfl) (by kernel_rfl) (by kernel_rfl) (.inl rfl) rfl rfl (by kernel_rfl) (by kernel_rfl) _ (fun _ _ => rfl) _ _ (fun _ _ => rfl) (fun _ _ => rfl) (fun _ _ => by kernel_rfl) (fun _ _ => by kernel_rfl) (fun r_11 x_19 => ?_))
        refine GoO.shape (env' := [(0, vP b_2), (1, vU i_5), (2, .string (bs data_6)), (7, vI k_7), (30, vP b_2), (31, vU i_5), (32, .tuple ⟨[vU r_11.1, vU r_11.2]⟩)]) (H' := [⟨1, b_2, [vU g_1.Snap.Index, vU g_1.Snap.Term, vU g_1.Snap.Config, .string (bs g_1.Snap.Data), .slice A_3 g_1.L.length c_4]⟩]) (B' := [Ow 2 kT_api_Entry A_3 c_4 g_1.L]) (ks := [0, 1, 2, 7, 30, 31, 32]) (by kernel_rfl) (by kernel_rfl) (by kernel_rfl) ?_
        refine GoO.exec (is := [3, 4, 5, 6, 7]) (hs := [.p, .p, .p, .p, .p]) (rest := []) (ks := [0, 1, 2, 7, 8]) (env' := [(0, vP b_2), (1, vU i_5), (2, .string (bs data_6)), (7, vI k_7), (8, vU r_11.1)]) (H' := [⟨1, b_2, [vU g_1.Snap.Index, vU g_1.Snap.Term, vU g_1.Snap.Config, .string (bs g_1.Snap.Data), .slice A_3 g_1.L.length c_4]⟩]) (ps := []) (by kernel_rfl) trivial ?_
        refine GoO.regionEnd ?_
        refine GoO.seq' c61_20e ?_
        refine GoO.region' (is := [0, 1, 2, 3, 4, 5, 6, 7, 8, 9, 10, 11, 12, 13, 14, 15]) c61_21e (by kernel_rfl) ?_
        refine GoO.exec (is := [0, 1, 2, 3, 4, 5, 6]) (hs := [.p, .p, .p, .p, .p, .b 0, .p]) (rest := [7, 8, 9, 10, 11, 12, 13, 14, 15]) (ks := [0, 2, 7, 8, 35, 36, 40, 41]) (env' := [(0, vP b_2), (2, .string (bs data_6)), (7, vI k_7), (8, vU r_11.1), (35, vP b_2), (36, vU i_5), (40, .slice A_3 g_1.L.length c_4), (41, vI k_7)]) (H' := [⟨1, b_2, [vU g_1.Snap.Index, vU g_1.Snap.Term, vU g_1.Snap.Config, .string (bs g_1.Snap.Data), .slice A_3 g_1.L.length c_4]⟩]) (ps := [b_2 = b_2]) (by kernel_rfl) (And.intro rfl trivial) ?_
        refine GoO.guard (fun h12 => ?_)
        refine OpTo.go (GoO.idx (kk := .i64) (e := 40) (K := kT_api_Entry) (A := A_3) (c := c_4) (xs := g_1.L) (iv := k_7) (j := 0) rfl (by kernel_rfl) (by kernel_rfl) (by kernel_rfl) (by kernel_rfl) rfl Reads.own rfl h12.1 h12.2 (by decide) rfl ?_)
        refine OpTo.go (GoO.fldE (K := kT_api_Entry) (A := A_3) (c := c_4) (xs := g_1.L) (iN := k_7.toNat) (off := 0) (n := 0) (j := 0) rfl (by kernel_rfl) (by kernel_rfl) rfl Reads.own (by first | exact idx_lt h12.1 h12.2 | (simp only [List.length_set]; exact idx_lt h12.1 h12.2)) (by decide) rfl ?_)
        refine OpTo.go (GoO.ldE' (K := kT_api_Entry) (A := A_3) (c := c_4) (xs := g_1.L) (iN := k_7.toNat) (off := 0) (j := 0) rfl (by kernel_rfl) rfl Reads.own (by first | exact idx_lt h12.1 h12.2 | (simp only [List.length_set]; exact idx_lt h12.1 h12.2)) (by decide) (Opn.flat _ _ _ _ _) (v := fun _ => vU ((rdL g_1.L k_7).Term)) (fun _ => by kernel_rfl) _ (fun _ => rfl) (fun _ => ?_))
        refine GoO.exec (is := [10, 11, 12, 13, 14, 15]) (hs := [.p, .p, .p, .p, .p, .b 0]) (rest := []) (ks := [0, 7]) (env' := [(0, vP b_2), (7, vI k_7)]) (H' := [⟨1, b_2, [vU i_5, vU ((rdL g_1.L k_7).Term), vU r_11.1, .string (bs data_6), .slice A_3 g_1.L.length c_4]⟩]) (ps := [b_2 = b_2]) (by kernel_rfl) (And.intro rfl trivial) ?_
        refine GoO.regionEnd ?_
        refine GoO.seq' c61_22e ?_
        refine GoO.region' (is := [0, 1, 2, 3, 4, 5, 6, 7, 8, 9, 10, 11]) c61_23e (by kernel_rfl) ?_
        refine GoO.exec (is := [0, 1, 2, 3, 4, 5, 6]) (hs := [.p, .p, .p, .p, .b 0, .p, .p]) (rest := [7, 8, 9, 10, 11]) (ks := [50, 54, 56]) (env' := [(50, vP b_2), (54, .slice A_3 g_1.L.length c_4), (56, vI (wi64 (k_7 + 1)))]) (H' := [⟨1, b_2, [vU i_5, vU ((rdL g_1.L k_7).Term), vU r_11.1, .string (bs data_6), .slice A_3 g_1.L.length c_4]⟩]) (ps := [b_2 = b_2]) (by kernel_rfl) (And.intro rfl trivial) ?_
        refine GoO.guard (fun h15 => ?_)
        refine OpTo.go (GoO.slc (e := 40) (K := kT_api_Entry) (A := A_3) (c := c_4) (xs := g_1.L) (j := 0) (l := (wi64 (k_7 + 1))) (h := (g_1.L.length : Int)) rfl (by kernel_rfl) (by kernel_rfl) (by kernel_rfl) rfl Reads.own rfl (by kernel_rfl) (by kernel_rfl) h15.1 h15.2.1 h15.2.2 _ (fun _ _ => rfl) (fun A_13 c_14 => ?_))
        refine GoO.nilOwn kT_api_Entry 40 ?_
        refine GoO.guard (fun h16 => ?_)
        refine OpTo.go (GoO.appW (e := 40) (K := kT_api_Entry) (A := none) (c := 0) (tg := 40) (bytes := 40) (zs := [vU 0, vU 0, vI 0, .string (bs [])]) (xs := ([] : List T_api_Entry)) (ys := (g_1.L.take (g_1.L.length : Int).toNat).drop (wi64 (k_7 + 1)).toNat) (xv := .slice A_13 ((g_1.L.take (g_1.L.length : Int).toNat).drop (wi64 (k_7 + 1)).toNat).length c_14) (j := 0) (bk := [1, 2]) rfl (by kernel_rfl) (by kernel_rfl) (by kernel_rfl) (by kernel_rfl) rfl (by kernel_rfl) rfl (fun w S hB => SrcIs.row (Reads.rd w S (hB _ (List.mem_of_getElem? (i := 1) rfl)))) h16 rfl rfl rfl rfl _ (fun _ _ => rfl) (fun A_17 c_18 => ?_))
        refine GoO.exec (is := [9, 10, 11]) (hs := [.p, .p, .b 0]) (rest := []) (ks := []) (env' := []) (H' := [⟨1, b_2, [vU i_5, vU ((rdL g_1.L k_7).Term), vU r_11.1, .string (bs data_6), .slice A_17 (([] : List T_api_Entry) ++ ((g_1.L.take (g_1.L.length : Int).toNat).drop (wi64 (k_7 + 1)).toNat)).length c_18]⟩]) (ps := [b_2 = b_2]) (by kernel_rfl) (And.intro rfl trivial) ?_
        refine GoO.regionEnd ?_
        refine GoO.seq' c61_24e ?_
        refine GoO.region' (is := [0]) c61_25e (by kernel_rfl) ?_
        refine GoO.exec (is := [0]) (hs := [.p]) (rest := []) (ks := [6]) (env' := [(6, vI 0)]) (H' := [⟨1, b_2, [vU i_5, vU ((rdL g_1.L k_7).Term), vU r_11.1, .string (bs data_6), .slice A_17 (([] : List T_api_Entry) ++ ((g_1.L.take (g_1.L.length : Int).toNat).drop (wi64 (k_7 + 1)).toNat)).length c_18]⟩]) (ps := []) (by kernel_rfl) trivial ?_
        refine GoO.regionEnd ?_
        refine GoO.sub (ks := [6]) (env' := [(6, vI 0)]) (hk := [0]) (bk := [0]) (by kernel_rfl) rfl rfl ?_
        refine GoO.retag (t := 40) (u := 2) (j := 0) (hk := [0]) (bk := []) rfl rfl rfl rfl rfl rfl (by kernel_rfl) (by kernel_rfl) ?_
        exact GoO.ret' (h := c61_26e) (hs := []) (ps := []) (hk := [0]) (bk := [0]) Try.func61 (⟨A_17, c_18⟩ : Option Addr × Nat) (by kernel_rfl) trivial (by kernel_rfl) (by kernel_rfl)
      · refine GoO.skip' c61_27e ?_
        refine GoO.inBlock ?_
        refine GoO.region' (is := [0, 1, 2]) c61_28e (by kernel_rfl) ?_
        refine GoO.exec (is := [0, 1, 2]) (hs := [.p, .p, .p]) (rest := []) (ks := [0, 1, 2, 7]) (env' := [(0, vP b_2), (1, vU i_5), (2, .string (bs data_6)), (7, vI (wi64 (k_7 + 1)))]) (H' := [⟨1, b_2, [vU g_1.Snap.Index, vU g_1.Snap.Term, vU g_1.Snap.Config, .string (bs g_1.Snap.Data), .slice A_3 g_1.L.length c_4]⟩]) (ps := []) (by kernel_rfl) trivial ?_
        refine GoO.regionEnd ?_
        refine GoO.inLoop ?_
        exact GoO.sub (ks := [0, 1, 2, 7]) (hk := [0]) (bk := [0]) (by kernel_rfl) (by kernel_rfl) (by kernel_rfl) (ih0 (wi64 (k_7 + 1)))
    · refine GoO.exit' c61_12e rfl ?_
      refine GoO.seq' c61_29e ?_
      refine GoO.region' (is := [0]) c61_30e (by kernel_rfl) ?_
      refine GoO.exec (is := [0]) (hs := [.p]) (rest := []) (ks := [6]) (env' := [(6, vI 20)]) (H' := [⟨1, b_2, [vU g_1.Snap.Index, vU g_1.Snap.Term, vU g_1.Snap.Config, .string (bs g_1.Snap.Data), .slice A_3 g_1.L.length c_4]⟩]) (ps := []) (by kernel_rfl) trivial ?_
      refine GoO.regionEnd ?_
      exact GoO.ret' (h := c61_31e) (hs := []) (ps := []) (hk := [0]) (bk := [0]) Try.func61 (⟨A_3, c_4⟩ : Option Addr × Nat) (by kernel_rfl) trivial (by kernel_rfl) (by kernel_rfl)
theorem tontineref07_Log_Compact_ok (n : Nat) (g_1 : T_tontineref07_Log) (i_5 : Int) (data_6 : (List UInt8)) (b_2 : Nat) (A_3 : Option Addr) (c_4 : Nat) :
    Meets Try.prog 61 [vP b_2, vU i_5, .string (bs data_6)] 2 [1, 2] [⟨1, b_2, [vU g_1.Snap.Index, vU g_1.Snap.Term, vU g_1.Snap.Config, .string (bs g_1.Snap.Data), .slice A_3 g_1.L.length c_4]⟩] [Ow 2 kT_api_Entry A_3 c_4 g_1.L] (tontineref07_Log_Compact.f n g_1 i_5 data_6) (tontineref07_Log_Compact.R b_2 A_3 c_4) := by
  refine Meets.of (c := c61_0) (n := 61) Try.func61 (by kernel_rfl) (by kernel_rfl) (by kernel_rfl) fun w0 S0 => ?_
  unfold tontineref07_Log_Compact.f
  show GoO (tontineref07_Log_Compact.cx b_2 A_3 c_4 w0 S0) [(0, vP b_2), (1, vU i_5), (2, .string (bs data_6))] [⟨1, b_2, [vU g_1.Snap.Index, vU g_1.Snap.Term, vU g_1.Snap.Config, .string (bs g_1.Snap.Data), .slice A_3 g_1.L.length c_4]⟩] [Ow 2 kT_api_Entry A_3 c_4 g_1.L] [.code c61_0] _
  refine GoO.seq' c61_0e ?_
  refine GoO.region' (is := [0]) c61_1e (by kernel_rfl) ?_
  refine GoO.exec (is := [0]) (hs := [.p]) (rest := []) (ks := [0, 1, 2]) (env' := [(0, vP b_2), (1, vU i_5), (2, .string (bs data_6))]) (H' := [⟨1, b_2, [vU g_1.Snap.Index, vU g_1.Snap.Term, vU g_1.Snap.Config, .string (bs g_1.Snap.Data), .slice A_3 g_1.L.length c_4]⟩]) (ps := []) (by kernel_rfl) trivial ?_
  refine GoO.regionEnd ?_
  refine GoO.seq' c61_2e ?_
  refine GoO.seq' c61_3e ?_
  refine GoO.region' (is := [0]) c61_4e (by kernel_rfl) ?_
  refine GoO.exec (is := [0]) (hs := [.p]) (rest := []) (ks := [0, 1, 2, 7]) (env' := [(0, vP b_2), (1, vU i_5), (2, .string (bs data_6)), (7, vI 0)]) (H' := [⟨1, b_2, [vU g_1.Snap.Index, vU g_1.Snap.Term, vU g_1.Snap.Config, .string (bs g_1.Snap.Data), .slice A_3 g_1.L.length c_4]⟩]) (ps := []) (by kernel_rfl) trivial ?_
  refine GoO.regionEnd ?_
  refine GoO.block' c61_5e ?_
  refine GoO.loop' c61_6e ?_
  exact GoO.sub (ks := [0, 1, 2, 7]) (hk := [0]) (bk := [0]) (by kernel_rfl) (by kernel_rfl) (by kernel_rfl) (tontineref07_Log_Compact_l0_ok n g_1 i_5 data_6 b_2 A_3 c_4 w0 S0 n 0)
/-! (*tontine/rlog.Log).Install -/
noncomputable def c41_0 : Code := bodyOf Try.f41
noncomputable def c41_1 : Code := cdL c41_0
noncomputable def c41_2 : Code := cdR c41_0
noncomputable def c41_3 : Code := cdL c41_2
noncomputable def c41_4 : Code := cdL c41_3
noncomputable def c41_5 : Code := cdR c41_3
noncomputable def c41_6 : Code := cdL c41_5
noncomputable def c41_7 : Code := cdL c41_6
noncomputable def c41_8 : Code := cdR c41_6
noncomputable def c41_9 : Code := cdR c41_5
noncomputable def c41_10 : Code := cdR c41_2
noncomputable def c41_11 : Code := cdL c41_10
noncomputable def c41_12 : Code := cdL c41_11
noncomputable def c41_13 : Code := cdR c41_11
noncomputable def c41_14 : Code := cdL c41_13
noncomputable def c41_15 : Code := cdL c41_14
noncomputable def c41_16 : Code := cdR c41_14
noncomputable def c41_17 : Code := cdR c41_13
noncomputable def c41_18 : Code := cdR c41_10
noncomputable def c41_19 : Code := cdL c41_18
noncomputable def c41_20 : Code := cdR c41_18
noncomputable def c41_21 : Code := cdL c41_20
noncomputable def c41_22 : Code := cdL c41_21
noncomputable def c41_23 : Code := cdR c41_21
noncomputable def c41_24 : Code := cdL c41_23
noncomputable def c41_25 : Code := cdR c41_23
noncomputable def c41_26 : Code := cdL c41_25
noncomputable def c41_27 : Code := cdR c41_25
noncomputable def c41_28 : Code := cdR c41_20
noncomputable def c41_29 : Code := cdL c41_28
noncomputable def c41_30 : Code := cdR c41_28
noncomputable def c41_31 : Code := cdL c41_30
noncomputable def c41_32 : Code := cdR c41_30
noncomputable def r41_1 : Array Oper := cdO c41_1
noncomputable def r41_4 : Array Oper := cdO c41_4
noncomputable def r41_7 : Array Oper := cdO c41_7
noncomputable def r41_12 : Array Oper := cdO c41_12
noncomputable def r41_15 : Array Oper := cdO c41_15
noncomputable def r41_19 : Array Oper := cdO c41_19
noncomputable def r41_22 : Array Oper := cdO c41_22
noncomputable def r41_24 : Array Oper := cdO c41_24
noncomputable def r41_26 : Array Oper := cdO c41_26
noncomputable def r41_29 : Array Oper := cdO c41_29
noncomputable def r41_31 : Array Oper := cdO c41_31
theorem c41_0e : c41_0 = .seq c41_1 c41_2 := by kernel_rfl
theorem c41_1e : c41_1 = .region 0 r41_1 false := by kernel_rfl
theorem c41_2e : c41_2 = .seq c41_3 c41_10 := by kernel_rfl
theorem c41_3e : c41_3 = .seq c41_4 c41_5 := by kernel_rfl
theorem c41_4e : c41_4 = .region 1 r41_4 false := by kernel_rfl
theorem c41_5e : c41_5 = .cond (cdC c41_5) c41_6 c41_9 := by kernel_rfl
theorem c41_6e : c41_6 = .seq c41_7 c41_8 := by kernel_rfl
theorem c41_7e : c41_7 = .region 2 r41_7 false := by kernel_rfl
theorem c41_8e : c41_8 = .ret := by kernel_rfl
theorem c41_9e : c41_9 = .skip := by kernel_rfl
theorem c41_10e : c41_10 = .seq c41_11 c41_18 := by kernel_rfl
theorem c41_11e : c41_11 = .seq c41_12 c41_13 := by kernel_rfl
theorem c41_12e : c41_12 = .region 3 r41_12 true := by kernel_rfl
theorem c41_13e : c41_13 = .cond (cdC c41_13) c41_14 c41_17 := by kernel_rfl
theorem c41_14e : c41_14 = .seq c41_15 c41_16 := by kernel_rfl
theorem c41_15e : c41_15 = .region 4 r41_15 false := by kernel_rfl
theorem c41_16e : c41_16 = .ret := by kernel_rfl
theorem c41_17e : c41_17 = .skip := by kernel_rfl
theorem c41_18e : c41_18 = .seq c41_19 c41_20 := by kernel_rfl
theorem c41_19e : c41_19 = .region 5 r41_19 false := by kernel_rfl
theorem c41_20e : c41_20 = .seq c41_21 c41_28 := by kernel_rfl
theorem c41_21e : c41_21 = .seq c41_22 c41_23 := by kernel_rfl
theorem c41_22e : c41_22 = .region 6 r41_22 false := by kernel_rfl
theorem c41_23e : c41_23 = .seq c41_24 c41_25 := by kernel_rfl
theorem c41_24e : c41_24 = .region 7 r41_24 false := by kernel_rfl
theorem c41_25e : c41_25 = .cond (cdC c41_25) c41_26 c41_27 := by kernel_rfl
theorem c41_26e : c41_26 = .region 8 r41_26 true := by kernel_rfl
theorem c41_27e : c41_27 = .skip := by kernel_rfl
theorem c41_28e : c41_28 = .seq c41_29 c41_30 := by kernel_rfl
theorem c41_29e : c41_29 = .region 9 r41_29 false := by kernel_rfl
theorem c41_30e : c41_30 = .seq c41_31 c41_32 := by kernel_rfl
theorem c41_31e : c41_31 = .region 10 r41_31 false := by kernel_rfl
theorem c41_32e : c41_32 = .ret := by kernel_rfl
noncomputable def rlog_Log_Install.R (b_2 : Nat) (A_3 : Option Addr) (c_4 : Nat) : Pst (Int × T_rlog_Log) where
  ε := Option Addr × Nat
  v := fun r x => vI r.1
  H := fun r x => [⟨1, b_2, [vU r.2.snap.Index, vU r.2.snap.Term, vU r.2.snap.Config, .string (bs r.2.snap.Data), .slice x.1 r.2.entries.length x.2]⟩]
  B := fun r x => [Ow 2 kT_api_Entry x.1 x.2 r.2.entries]
noncomputable def rlog_Log_Install.cx (b_2 : Nat) (A_3 : Option Addr) (c_4 : Nat) (w0 : World) (S0 : Fam) : Cx (Int × T_rlog_Log) := ⟨Try.prog, 41, Try.f41, 59, w0, S0, [1, 2], 2, rlog_Log_Install.R b_2 A_3 c_4⟩
theorem rlog_Log_Install_j0_ok (n : Nat) (g_1 : T_rlog_Log) (s_5 : T_api_Snapshot) (b_2 : Nat) (A_3 : Option Addr) (c_4 : Nat) (b_6 : Nat) (w0 : World) (S0 : Fam) (b_12 : Bool) :
    GoO (rlog_Log_Install.cx b_2 A_3 c_4 w0 S0) [(0, vP b_2), (3, vP b_6), (5, .slice none ([] : List T_api_Entry).length 0), (38, .bool b_12)] [⟨1, b_2, [vU g_1.snap.Index, vU g_1.snap.Term, vU g_1.snap.Config, .string (bs g_1.snap.Data), .slice A_3 g_1.entries.length c_4]⟩, ⟨40, b_6, [vU s_5.Index, vU s_5.Term, vU s_5.Config, .string (bs s_5.Data)]⟩] [Ow 2 kT_api_Entry A_3 c_4 g_1.entries] [.code c41_25, .code c41_28] (rlog_Log_Install.j0 n g_1 s_5 b_12) := by
  unfold rlog_Log_Install.j0
  refine GoO.ite' c41_25e (by kernel_rfl) (fun h13 => ?_) (fun h13 => ?_)
  · refine GoO.draw c41_26e (by kernel_rfl) [12] [⟨1, b_2, [vU g_1.snap.Index, vU g_1.snap.Term, vU g_1.snap.Config, .string (bs g_1.snap.Data), .slice A_3 g_1.entries.length c_4]⟩, ⟨40, b_6, [vU s_5.Index, vU s_5.Term, vU s_5.Config, .string (bs s_5.Data)]⟩] [] (n := 13) (by kernel_rfl) ?_
    simp only [List.replicate]
    refine GoF.take [0, 1, 2, 3, 4, 5, 6, 7] [.p, .p, .p, .p, .b 0, .p, .p, .b 1] (ks := [0, 3, 39, 43, 44, 46]) (fu := 5) (li := [true, true, true, true, true, true, true, true, false, false, false, false, false]) (env' := [(0, vP b_2), (3, vP b_6), (39, .slice none ([] : List T_api_Entry).length 0), (43, .slice A_3 g_1.entries.length c_4), (44, vP b_2), (46, vU s_5.Index)]) (ps := [b_2 = b_2, b_6 = b_6]) (hk := [0, 1]) (bk := []) (by kernel_rfl) (And.intro rfl (And.intro rfl trivial)) rfl rfl ?_
    refine OpTo.goF (i := 8) (by kernel_rfl) (hk := [0, 1]) (bk := []) (GoO.call rfl (by kernel_rfl) (by kernel_rfl) (rlog_Log_at_ok n (⟨(⟨g_1.snap.Index, g_1.snap.Term, g_1.snap.Config, g_1.snap.Data⟩ : T_api_Snapshot), g_1.entries⟩ : T_rlog_Log) s_5.Index b_2 A_3 c_4) [[0], [1], [2]] [] [(1, 0)] [(2, 0)] (hks := [0, 1]) (bks := [0]) (by kernel_rfl) (by kernel_rfl) (by kernel_rfl) (.inl rfl) rfl rfl (by kernel_rfl) (by kernel_rfl) _ (fun _ _ => rfl) _ _ (fun _ _ => rfl) (fun _ _ => rfl) (fun _ _ => by kernel_rfl) (fun _ _ => by kernel_rfl) (fun r_14 x_21 => ⟨rfl, rfl, ?_⟩))
    refine GoF.shape (env' := [(0, vP b_2), (3, vP b_6), (39, .slice none ([] : List T_api_Entry).length 0), (43, .slice A_3 g_1.entries.length c_4), (44, vP b_2), (46, vU s_5.Index), (47, vI r_14)]) (H' := [⟨1, b_2, [vU g_1.snap.Index, vU g_1.snap.Term, vU g_1.snap.Config, .string (bs g_1.snap.Data), .slice A_3 g_1.entries.length c_4]⟩, ⟨40, b_6, [vU s_5.Index, vU s_5.Term, vU s_5.Config, .string (bs s_5.Data)]⟩]) (B' := [Ow 2 kT_api_Entry A_3 c_4 g_1.entries]) (ks := [0, 3, 39, 43, 44, 46, 47]) (by kernel_rfl) (by kernel_rfl) (by kernel_rfl) ?_
    refine GoF.take [9] [.p] (ks := [0, 3, 39, 43, 48]) (fu := 3) (li := [true, true, true, true, true, true, true, true, true, true, false, false, false]) (env' := [(0, vP b_2), (3, vP b_6), (39, .slice none ([] : List T_api_Entry).length 0), (43, .slice A_3 g_1.entries.length c_4), (48, vI (wi64 (r_14 + 1)))]) (ps := []) (hk := [0, 1]) (bk := []) (by kernel_rfl) trivial rfl rfl ?_
    refine GoF.guard (fun h17 => ?_)
    refine GoF.slc1 (i := 10) (hk := [0, 1]) (bk := []) (e := 40) (K := kT_api_Entry) (A := A_3) (c := c_4) (xs := g_1.entries) (j := 0) (l := (wi64 (r_14 + 1))) (h := (g_1.entries.length : Int)) (by kernel_rfl) rfl rfl rfl (by kernel_rfl) (by kernel_rfl) (by kernel_rfl) rfl Reads.own rfl (by kernel_rfl) (by kernel_rfl) h17.1 h17.2.1 h17.2.2 _ (fun _ _ => rfl) (fun A_15 c_16 => ?_)
    refine GoF.nilOwn kT_api_Entry 41 ?_
    refine GoF.guard (fun h18 => ?_)
    refine OpTo.goF (i := 11) (by kernel_rfl) (hk := [0, 1]) (bk := []) (GoO.appW (e := 40) (K := kT_api_Entry) (A := none) (c := 0) (tg := 41) (bytes := 40) (zs := [vU 0, vU 0, vI 0, .string (bs [])]) (xs := ([] : List T_api_Entry)) (ys := (g_1.entries.take (g_1.entries.length : Int).toNat).drop (wi64 (r_14 + 1)).toNat) (xv := .slice A_15 ((g_1.entries.take (g_1.entries.length : Int).toNat).drop (wi64 (r_14 + 1)).toNat).length c_16) (j := 0) (bk := [1, 2]) rfl (by kernel_rfl) (by kernel_rfl) (by kernel_rfl) (by kernel_rfl) rfl (by kernel_rfl) rfl (fun w S hB => SrcIs.row (Reads.rd w S (hB _ (List.mem_of_getElem? (i := 1) rfl)))) h18 rfl rfl rfl rfl _ (fun _ _ => rfl) (fun A_19 c_20 => ⟨rfl, rfl, ?_⟩))
    refine GoF.fin1 (i := 12) (hint := .p) (ps := []) (hk := []) (bk := []) (by kernel_rfl) rfl trivial (.inl rfl) ?_
    refine GoF.done (by kernel_rfl) ?_
    refine GoO.seq' c41_28e ?_
    refine GoO.region' (is := [0, 1, 2, 3, 4, 5, 6, 7, 8, 9]) c41_29e (by kernel_rfl) ?_
    refine GoO.exec (is := [0, 1, 2, 3, 4, 5, 6, 7, 8, 9]) (hs := [.p, .p, .b 1, .p, .p, .p, .b 0, .p, .p, .b 0]) (rest := []) (ks := []) (env' := []) (H' := [⟨1, b_2, [vU s_5.Index, vU s_5.Term, vU s_5.Config, .string (bs s_5.Data), .slice A_19 (([] : List T_api_Entry) ++ ((g_1.entries.take (g_1.entries.length : Int).toNat).drop (wi64 (r_14 + 1)).toNat)).length c_20]⟩, ⟨40, b_6, [vU s_5.Index, vU s_5.Term, vU s_5.Config, .string (bs s_5.Data)]⟩]) (ps := [b_6 = b_6, b_2 = b_2, b_2 = b_2]) (by kernel_rfl) (And.intro rfl (And.intro rfl (And.intro rfl trivial))) ?_
    refine GoO.regionEnd ?_
    refine GoO.seq' c41_30e ?_
    refine GoO.region' (is := [0]) c41_31e (by kernel_rfl) ?_
    refine GoO.exec (is := [0]) (hs := [.p]) (rest := []) (ks := [4]) (env' := [(4, vI 0)]) (H' := [⟨1, b_2, [vU s_5.Index, vU s_5.Term, vU s_5.Config, .string (bs s_5.Data), .slice A_19 (([] : List T_api_Entry) ++ ((g_1.entries.take (g_1.entries.length : Int).toNat).drop (wi64 (r_14 + 1)).toNat)).length c_20]⟩, ⟨40, b_6, [vU s_5.Index, vU s_5.Term, vU s_5.Config, .string (bs s_5.Data)]⟩]) (ps := []) (by kernel_rfl) trivial ?_
    refine GoO.regionEnd ?_
    refine GoO.sub (ks := [4]) (env' := [(4, vI 0)]) (hk := [0, 1]) (bk := [0]) (by kernel_rfl) rfl rfl ?_
    refine GoO.retag (t := 41) (u := 2) (j := 0) (hk := [0, 1]) (bk := []) rfl rfl rfl rfl rfl rfl (by kernel_rfl) (by kernel_rfl) ?_
    exact GoO.ret' (h := c41_32e) (hs := []) (ps := []) (hk := [0]) (bk := [0]) Try.func41 (⟨A_19, c_20⟩ : Option Addr × Nat) (by kernel_rfl) trivial (by kernel_rfl) (by kernel_rfl)
  · refine GoO.skip' c41_27e ?_
    refine GoO.seq' c41_28e ?_
    refine GoO.region' (is := [0, 1, 2, 3, 4, 5, 6, 7, 8, 9]) c41_29e (by kernel_rfl) ?_
    refine GoO.exec (is := [0, 1, 2, 3, 4, 5, 6, 7, 8, 9]) (hs := [.p, .p, .b 1, .p, .p, .p, .b 0, .p, .p, .b 0]) (rest := []) (ks := []) (env' := []) (H' := [⟨1, b_2, [vU s_5.Index, vU s_5.Term, vU s_5.Config, .string (bs s_5.Data), .slice none ([] : List T_api_Entry).length 0]⟩, ⟨40, b_6, [vU s_5.Index, vU s_5.Term, vU s_5.Config, .string (bs s_5.Data)]⟩]) (ps := [b_6 = b_6, b_2 = b_2, b_2 = b_2]) (by kernel_rfl) (And.intro rfl (And.intro rfl (And.intro rfl trivial))) ?_
    refine GoO.regionEnd ?_
    refine GoO.seq' c41_30e ?_
    refine GoO.region' (is := [0]) c41_31e (by kernel_rfl) ?_
    refine GoO.exec (is := [0]) (hs := [.p]) (rest := []) (ks := [4]) (env' := [(4, vI 0)]) (H' := [⟨1, b_2, [vU s_5.Index, vU s_5.Term, vU s_5.Config, .string (bs s_5.Data), .slice none ([] : List T_api_Entry).length 0]⟩, ⟨40, b_6, [vU s_5.Index, vU s_5.Term, vU s_5.Config, .string (bs s_5.Data)]⟩]) (ps := []) (by kernel_rfl) trivial ?_
    refine GoO.regionEnd ?_
    refine GoO.nilOwn kT_api_Entry 2 ?_
    exact GoO.ret' (h := c41_32e) (hs := []) (ps := []) (hk := [0]) (bk := [0]) Try.func41 (⟨none, 0⟩ : Option Addr × Nat) (by kernel_rfl) trivial (by kernel_rfl) (by kernel_rfl)
theorem rlog_Log_Install_ok (n : Nat) (g_1 : T_rlog_Log) (s_5 : T_api_Snapshot) (b_2 : Nat) (A_3 : Option Addr) (c_4 : Nat) :
    Meets Try.prog 41 [vP b_2, .agg ⟨[vU s_5.Index, vU s_5.Term, vU s_5.Config, .string (bs s_5.Data)]⟩] 2 [1, 2] [⟨1, b_2, [vU g_1.snap.Index, vU g_1.snap.Term, vU g_1.snap.Config, .string (bs g_1.snap.Data), .slice A_3 g_1.entries.length c_4]⟩] [Ow 2 kT_api_Entry A_3 c_4 g_1.entries] (rlog_Log_Install.f n g_1 s_5) (rlog_Log_Install.R b_2 A_3 c_4) := by
  refine Meets.of (c := c41_0) (n := 59) Try.func41 (by kernel_rfl) (by kernel_rfl) (by kernel_rfl) fun w0 S0 => ?_
  unfold rlog_Log_Install.f
  show GoO (rlog_Log_Install.cx b_2 A_3 c_4 w0 S0) [(0, vP b_2), (1, .agg ⟨[vU s_5.Index, vU s_5.Term, vU s_5.Config, .string (bs s_5.Data)]⟩)] [⟨1, b_2, [vU g_1.snap.Index, vU g_1.snap.Term, vU g_1.snap.Config, .string (bs g_1.snap.Data), .slice A_3 g_1.entries.length c_4]⟩] [Ow 2 kT_api_Entry A_3 c_4 g_1.entries] [.code c41_0] _
  refine GoO.seq' c41_0e ?_
  refine GoO.region' (is := [0, 1]) c41_1e (by kernel_rfl) ?_
  refine OpTo.go (GoO.new rfl 40 (cs := [vU s_5.Index, vU s_5.Term, vU s_5.Config, .string (bs s_5.Data)]) (by kernel_rfl) _ (fun _ => rfl) (fun b_6 => ?_))
  refine GoO.exec (is := [1]) (hs := [.p]) (rest := []) (ks := [0, 3]) (env' := [(0, vP b_2), (3, vP b_6)]) (H' := [⟨40, b_6, [vU s_5.Index, vU s_5.Term, vU s_5.Config, .string (bs s_5.Data)]⟩, ⟨1, b_2, [vU g_1.snap.Index, vU g_1.snap.Term, vU g_1.snap.Config, .string (bs g_1.snap.Data), .slice A_3 g_1.entries.length c_4]⟩]) (ps := []) (by kernel_rfl) trivial ?_
  refine GoO.regionEnd ?_
  refine GoO.seq' c41_2e ?_
  refine GoO.seq' c41_3e ?_
  refine GoO.region' (is := [0, 1, 2, 3, 4, 5, 6, 7]) c41_4e (by kernel_rfl) ?_
  refine GoO.exec (is := [0, 1, 2, 3, 4]) (hs := [.p, .p, .p, .p, .b 0]) (rest := [5, 6, 7]) (ks := [0, 3, 10, 12]) (env' := [(0, vP b_2), (3, vP b_6), (10, .bool false), (12, vU s_5.Config)]) (H' := [⟨40, b_6, [vU s_5.Index, vU s_5.Term, vU s_5.Config, .string (bs s_5.Data)]⟩, ⟨1, b_2, [vU g_1.snap.Index, vU g_1.snap.Term, vU g_1.snap.Config, .string (bs g_1.snap.Data), .slice A_3 g_1.entries.length c_4]⟩]) (ps := [b_6 = b_6]) (by kernel_rfl) (And.intro rfl trivial) ?_
  refine OpTo.go (GoO.call rfl (by kernel_rfl) (by kernel_rfl) (quorum_Sound_ok n s_5.Config) [[0]] [] [] [] (hks := [0, 1]) (bks := [0]) (by kernel_rfl) (by kernel_rfl) (by kernel_rfl) (.inl rfl) rfl rfl (by kernel_rfl) (by kernel_rfl) _ (fun _ _ => rfl) _ _ (fun _ _ => rfl) (fun _ _ => rfl) (fun _ _ => by kernel_rfl) (fun _ _ => by kernel_rfl) (fun r_7 x_23 => ?_))
  refine GoO.shape (env' := [(0, vP b_2), (3, vP b_6), (10, .bool false), (12, vU s_5.Config), (13, .bool r_7)]) (H' := [⟨40, b_6, [vU s_5.Index, vU s_5.Term, vU s_5.Config, .string (bs s_5.Data)]⟩, ⟨1, b_2, [vU g_1.snap.Index, vU g_1.snap.Term, vU g_1.snap.Config, .string (bs g_1.snap.Data), .slice A_3 g_1.entries.length c_4]⟩]) (B' := [Ow 2 kT_api_Entry A_3 c_4 g_1.entries]) (ks := [0, 3, 10, 12, 13]) (by kernel_rfl) (by kernel_rfl) (by kernel_rfl) ?_
  refine GoO.exec (is := [6, 7]) (hs := [.p, .p]) (rest := []) (ks := [0, 3, 15]) (env' := [(0, vP b_2), (3, vP b_6), (15, .bool (!r_7))]) (H' := [⟨40, b_6, [vU s_5.Index, vU s_5.Term, vU s_5.Config, .string (bs s_5.Data)]⟩, ⟨1, b_2, [vU g_1.snap.Index, vU g_1.snap.Term, vU g_1.snap.Config, .string (bs g_1.snap.Data), .slice A_3 g_1.entries.length c_4]⟩]) (ps := []) (by kernel_rfl) trivial ?_
  refine GoO.regionEnd ?_
  refine GoO.ite' c41_5e (by kernel_rfl) (fun h8 => ?_) (fun h8 => ?_)
  · refine GoO.seq' c41_6e ?_
    refine GoO.region' (is := [0]) c41_7e (by kernel_rfl) ?_
    refine GoO.exec (is := [0]) (hs := [.p]) (rest := []) (ks := [4]) (env' := [(4, vI 1)]) (H' := [⟨40, b_6, [vU s_5.Index, vU s_5.Term, vU s_5.Config, .string (bs s_5.Data)]⟩, ⟨1, b_2, [vU g_1.snap.Index, vU g_1.snap.Term, vU g_1.snap.Config, .string (bs g_1.snap.Data), .slice A_3 g_1.entries.length c_4]⟩]) (ps := []) (by kernel_rfl) trivial ?_
    refine GoO.regionEnd ?_
    exact GoO.ret' (h := c41_8e) (hs := []) (ps := []) (hk := [1]) (bk := [0]) Try.func41 (⟨A_3, c_4⟩ : Option Addr × Nat) (by kernel_rfl) trivial (by kernel_rfl) (by kernel_rfl)
  · refine GoO.skip' c41_9e ?_
    refine GoO.seq' c41_10e ?_
    refine GoO.seq' c41_11e ?_
    refine GoO.draw c41_12e (by kernel_rfl) [] [⟨40, b_6, [vU s_5.Index, vU s_5.Term, vU s_5.Config, .string (bs s_5.Data)]⟩, ⟨1, b_2, [vU g_1.snap.Index, vU g_1.snap.Term, vU g_1.snap.Config, .string (bs g_1.snap.Data), .slice A_3 g_1.entries.length c_4]⟩] [] (n := 8) (by kernel_rfl) ?_
    simp only [List.replicate]
    refine GoF.take [0, 1, 2, 3, 4, 5, 6, 7] [.p, .b 0, .p, .p, .p, .p, .b 1, .p] (ks := [0, 3, 23]) (fu := 0) (li := [true, true, true, true, true, true, true, true]) (env' := [(0, vP b_2), (3, vP b_6), (23, .bool (decide (s_5.Index ≤ g_1.snap.Index)))]) (ps := [b_6 = b_6, b_2 = b_2]) (hk := [0, 1]) (bk := []) (by kernel_rfl) (And.intro rfl (And.intro rfl trivial)) rfl rfl ?_
    refine GoF.done (by kernel_rfl) ?_
    refine GoO.ite' c41_13e (by kernel_rfl) (fun h9 => ?_) (fun h9 => ?_)
    · refine GoO.seq' c41_14e ?_
      refine GoO.region' (is := [0]) c41_15e (by kernel_rfl) ?_
      refine GoO.exec (is := [0]) (hs := [.p]) (rest := []) (ks := [4]) (env' := [(4, vI 20)]) (H' := [⟨40, b_6, [vU s_5.Index, vU s_5.Term, vU s_5.Config, .string (bs s_5.Data)]⟩, ⟨1, b_2, [vU g_1.snap.Index, vU g_1.snap.Term, vU g_1.snap.Config, .string (bs g_1.snap.Data), .slice A_3 g_1.entries.length c_4]⟩]) (ps := []) (by kernel_rfl) trivial ?_
      refine GoO.regionEnd ?_
      exact GoO.ret' (h := c41_16e) (hs := []) (ps := []) (hk := [1]) (bk := [0]) Try.func41 (⟨A_3, c_4⟩ : Option Addr × Nat) (by kernel_rfl) trivial (by kernel_rfl) (by kernel_rfl)
    · refine GoO.skip' c41_17e ?_
      refine GoO.seq' c41_18e ?_
      refine GoO.region' (is := [0]) c41_19e (by kernel_rfl) ?_
      refine GoO.exec (is := [0]) (hs := [.p]) (rest := []) (ks := [0, 3, 5]) (env' := [(0, vP b_2), (3, vP b_6), (5, .slice none ([] : List T_api_Entry).length 0)]) (H' := [⟨40, b_6, [vU s_5.Index, vU s_5.Term, vU s_5.Config, .string (bs s_5.Data)]⟩, ⟨1, b_2, [vU g_1.snap.Index, vU g_1.snap.Term, vU g_1.snap.Config, .string (bs g_1.snap.Data), .slice A_3 g_1.entries.length c_4]⟩]) (ps := []) (by kernel_rfl) trivial ?_
      refine GoO.regionEnd ?_
      refine GoO.seq' c41_20e ?_
      refine GoO.seq' c41_21e ?_
      refine GoO.region' (is := [0, 1, 2, 3, 4, 5, 6, 7, 8]) c41_22e (by kernel_rfl) ?_
      refine GoO.exec (is := [0, 1, 2]) (hs := [.p, .p, .b 0]) (rest := [3, 4, 5, 6, 7, 8]) (ks := [0, 3, 5, 25, 27]) (env' := [(0, vP b_2), (3, vP b_6), (5, .slice none ([] : List T_api_Entry).length 0), (25, vP b_2), (27, vU s_5.Index)]) (H' := [⟨40, b_6, [vU s_5.Index, vU s_5.Term, vU s_5.Config, .string (bs s_5.Data)]⟩, ⟨1, b_2, [vU g_1.snap.Index, vU g_1.snap.Term, vU g_1.snap.Config, .string (bs g_1.snap.Data), .slice A_3 g_1.entries.length c_4]⟩]) (ps := [b_6 = b_6]) (by kernel_rfl) (And.intro rfl trivial) ?_
      refine OpTo.go (GoO.call rfl (by kernel_rfl) (by kernel_rfl) (rlog_Log_Term_ok n (⟨(⟨g_1.snap.Index, g_1.snap.Term, g_1.snap.Config, g_1.snap.Data⟩ : T_api_Snapshot), g_1.entries⟩ : T_rlog_Log) s_5.Index b_2 A_3 c_4) [[0], [1], [2]] [] [(1, 1)] [(2, 0)] (hks := [0, 1]) (bks := [0]) (by kernel_rfl) (by kernel_rfl) (by kernel_rfl) (.inl rfl) rfl rfl (by kernel_rfl) (by kernel_rfl) _ (fun _ _ => rfl) _ _ (fun _ _ => rfl) (fun _ _ => rfl) (fun _ _ => by kernel_rfl) (fun _ _ => by kernel_rfl) (fun r_10 x_22 => ?_))
      refine GoO.shape (env' := [(0, vP b_2), (3, vP b_6), (5, .slice none ([] : List T_api_Entry).length 0), (25, vP b_2), (27, vU s_5.Index), (28, .tuple ⟨[vU r_10.1, vI r_10.2]⟩)]) (H' := [⟨40, b_6, [vU s_5.Index, vU s_5.Term, vU s_5.Config, .string (bs s_5.Data)]⟩, ⟨1, b_2, [vU g_1.snap.Index, vU g_1.snap.Term, vU g_1.snap.Config, .string (bs g_1.snap.Data), .slice A_3 g_1.entries.length c_4]⟩]) (B' := [Ow 2 kT_api_Entry A_3 c_4 g_1.entries]) (ks := [0, 3, 5, 25, 27, 28]) (by kernel_rfl) (by kernel_rfl) (by kernel_rfl) ?_
      refine GoO.exec (is := [4, 5, 6, 7, 8]) (hs := [.p, .p, .p, .p, .p]) (rest := []) (ks := [0, 3, 5, 6, 7]) (env' := [(0, vP b_2), (3, vP b_6), (5, .slice none ([] : List T_api_Entry).length 0), (6, vU r_10.1), (7, vI r_10.2)]) (H' := [⟨40, b_6, [vU s_5.Index, vU s_5.Term, vU s_5.Config, .string (bs s_5.Data)]⟩, ⟨1, b_2, [vU g_1.snap.Index, vU g_1.snap.Term, vU g_1.snap.Config, .string (bs g_1.snap.Data), .slice A_3 g_1.entries.length c_4]⟩]) (ps := []) (by kernel_rfl) trivial ?_
      refine GoO.regionEnd ?_
      refine GoO.seq' c41_23e ?_
      refine GoO.region' (is := [0, 1, 2, 3, 4, 5, 6, 7]) c41_24e (by kernel_rfl) ?_
      refine GoO.exec (is := [0, 1, 2]) (hs := [.p, .p, .p]) (rest := [3, 4, 5, 6, 7]) (ks := [0, 3, 5, 6, 33]) (env' := [(0, vP b_2), (3, vP b_6), (5, .slice none ([] : List T_api_Entry).length 0), (6, vU r_10.1), (33, .bool (r_10.2 == 0))]) (H' := [⟨40, b_6, [vU s_5.Index, vU s_5.Term, vU s_5.Config, .string (bs s_5.Data)]⟩, ⟨1, b_2, [vU g_1.snap.Index, vU g_1.snap.Term, vU g_1.snap.Config, .string (bs g_1.snap.Data), .slice A_3 g_1.entries.length c_4]⟩]) (ps := []) (by kernel_rfl) trivial ?_
      refine GoO.bsplit (t := 33) (by kernel_rfl) (fun h11 => ?_) (fun h11 => ?_)
      · refine GoO.exec (is := [3, 4, 5, 6, 7]) (hs := [.p, .p, .b 0, .p, .p]) (rest := []) (ks := [0, 3, 5, 38]) (env' := [(0, vP b_2), (3, vP b_6), (5, .slice none ([] : List T_api_Entry).length 0), (38, .bool (r_10.1 == s_5.Term))]) (H' := [⟨40, b_6, [vU s_5.Index, vU s_5.Term, vU s_5.Config, .string (bs s_5.Data)]⟩, ⟨1, b_2, [vU g_1.snap.Index, vU g_1.snap.Term, vU g_1.snap.Config, .string (bs g_1.snap.Data), .slice A_3 g_1.entries.length c_4]⟩]) (ps := [b_6 = b_6]) (by kernel_rfl) (And.intro rfl trivial) ?_
        refine GoO.regionEnd ?_
        exact GoO.sub (ks := [0, 3, 5, 38]) (hk := [1, 0]) (bk := [0]) (by kernel_rfl) (by kernel_rfl) (by kernel_rfl) (rlog_Log_Install_j0_ok n g_1 s_5 b_2 A_3 c_4 b_6 w0 S0 (r_10.1 == s_5.Term))
      · refine GoO.exec (is := [3, 4, 5, 6, 7]) (hs := [.p, .p, .p, .p, .p]) (rest := []) (ks := [0, 3, 5, 38]) (env' := [(0, vP b_2), (3, vP b_6), (5, .slice none ([] : List T_api_Entry).length 0), (38, .bool false)]) (H' := [⟨40, b_6, [vU s_5.Index, vU s_5.Term, vU s_5.Config, .string (bs s_5.Data)]⟩, ⟨1, b_2, [vU g_1.snap.Index, vU g_1.snap.Term, vU g_1.snap.Config, .string (bs g_1.snap.Data), .slice A_3 g_1.entries.length c_4]⟩]) (ps := []) (by kernel_rfl) trivial ?_
        refine GoO.regionEnd ?_
        exact GoO.sub (ks := [0, 3, 5, 38]) (hk := [1, 0]) (bk := [0]) (by kernel_rfl) (by kernel_rfl) (by kernel_rfl) (rlog_Log_Install_j0_ok n g_1 s_5 b_2 A_3 c_4 b_6 w0 S0 false)
/-! (*tontine/tontineref07.Log).Install -/
noncomputable def c62_0 : Code := bodyOf Try.f62
noncomputable def c62_1 : Code := cdL c62_0
noncomputable def c62_2 : Code := cdR c62_0
noncomputable def c62_3 : Code := cdL c62_2
noncomputable def c62_4 : Code := cdL c62_3
noncomputable def c62_5 : Code := cdR c62_3
noncomputable def c62_6 : Code := cdL c62_5
noncomputable def c62_7 : Code := cdL c62_6
noncomputable def c62_8 : Code := cdR c62_6
noncomputable def c62_9 : Code := cdR c62_5
noncomputable def c62_10 : Code := cdR c62_2
noncomputable def c62_11 : Code := cdL c62_10
noncomputable def c62_12 : Code := cdL c62_11
noncomputable def c62_13 : Code := cdR c62_11
noncomputable def c62_14 : Code := cdL c62_13
noncomputable def c62_15 : Code := cdL c62_14
noncomputable def c62_16 : Code := cdR c62_14
noncomputable def c62_17 : Code := cdR c62_13
noncomputable def c62_18 : Code := cdR c62_10
noncomputable def c62_19 : Code := cdL c62_18
noncomputable def c62_20 : Code := cdR c62_18
noncomputable def c62_21 : Code := cdL c62_20
noncomputable def c62_22 : Code := cdR c62_20
noncomputable def c62_23 : Code := cdL c62_22
noncomputable def c62_24 : Code := cdL c62_23
noncomputable def c62_25 : Code := cdR c62_23
noncomputable def c62_26 : Code := cdL c62_25
noncomputable def c62_27 : Code := cdL c62_26
noncomputable def c62_28 : Code := cdL c62_27
noncomputable def c62_29 : Code := cdL c62_28
noncomputable def c62_30 : Code := cdR c62_28
noncomputable def c62_31 : Code := cdL c62_30
noncomputable def c62_32 : Code := cdR c62_30
noncomputable def c62_33 : Code := cdR c62_27
noncomputable def c62_34 : Code := cdL c62_33
noncomputable def c62_35 : Code := cdL c62_34
noncomputable def c62_36 : Code := cdL c62_35
noncomputable def c62_37 : Code := cdR c62_35
noncomputable def c62_38 : Code := cdL c62_37
noncomputable def c62_39 : Code := cdR c62_37
noncomputable def c62_40 : Code := cdR c62_33
noncomputable def c62_41 : Code := cdR c62_22
noncomputable def c62_42 : Code := cdL c62_41
noncomputable def c62_43 : Code := cdR c62_41
noncomputable def c62_44 : Code := cdL c62_43
noncomputable def c62_45 : Code := cdR c62_43
noncomputable def c62_46 : Code := cdL c62_45
noncomputable def c62_47 : Code := cdR c62_45
noncomputable def r62_1 : Array Oper := cdO c62_1
noncomputable def r62_4 : Array Oper := cdO c62_4
noncomputable def r62_7 : Array Oper := cdO c62_7
noncomputable def r62_12 : Array Oper := cdO c62_12
noncomputable def r62_15 : Array Oper := cdO c62_15
noncomputable def r62_19 : Array Oper := cdO c62_19
noncomputable def r62_21 : Array Oper := cdO c62_21
noncomputable def r62_24 : Array Oper := cdO c62_24
noncomputable def r62_29 : Array Oper := cdO c62_29
noncomputable def r62_36 : Array Oper := cdO c62_36
noncomputable def r62_38 : Array Oper := cdO c62_38
noncomputable def r62_40 : Array Oper := cdO c62_40
noncomputable def r62_42 : Array Oper := cdO c62_42
noncomputable def r62_44 : Array Oper := cdO c62_44
noncomputable def r62_46 : Array Oper := cdO c62_46
theorem c62_0e : c62_0 = .seq c62_1 c62_2 := by kernel_rfl
theorem c62_1e : c62_1 = .region 0 r62_1 false := by kernel_rfl
theorem c62_2e : c62_2 = .seq c62_3 c62_10 := by kernel_rfl
theorem c62_3e : c62_3 = .seq c62_4 c62_5 := by kernel_rfl
theorem c62_4e : c62_4 = .region 1 r62_4 false := by kernel_rfl
theorem c62_5e : c62_5 = .cond (cdC c62_5) c62_6 c62_9 := by kernel_rfl
theorem c62_6e : c62_6 = .seq c62_7 c62_8 := by kernel_rfl
theorem c62_7e : c62_7 = .region 2 r62_7 false := by kernel_rfl
theorem c62_8e : c62_8 = .ret := by kernel_rfl
theorem c62_9e : c62_9 = .skip := by kernel_rfl
theorem c62_10e : c62_10 = .seq c62_11 c62_18 := by kernel_rfl
theorem c62_11e : c62_11 = .seq c62_12 c62_13 := by kernel_rfl
theorem c62_12e : c62_12 = .region 3 r62_12 true := by kernel_rfl
theorem c62_13e : c62_13 = .cond (cdC c62_13) c62_14 c62_17 := by kernel_rfl
theorem c62_14e : c62_14 = .seq c62_15 c62_16 := by kernel_rfl
theorem c62_15e : c62_15 = .region 4 r62_15 false := by kernel_rfl
theorem c62_16e : c62_16 = .ret := by kernel_rfl
theorem c62_17e : c62_17 = .skip := by kernel_rfl
theorem c62_18e : c62_18 = .seq c62_19 c62_20 := by kernel_rfl
theorem c62_19e : c62_19 = .region 5 r62_19 false := by kernel_rfl
theorem c62_20e : c62_20 = .seq c62_21 c62_22 := by kernel_rfl
theorem c62_21e : c62_21 = .region 6 r62_21 false := by kernel_rfl
theorem c62_22e : c62_22 = .seq c62_23 c62_41 := by kernel_rfl
theorem c62_23e : c62_23 = .seq c62_24 c62_25 := by kernel_rfl
theorem c62_24e : c62_24 = .region 7 r62_24 false := by kernel_rfl
theorem c62_25e : c62_25 = .block 0 c62_26 := by kernel_rfl
theorem c62_26e : c62_26 = .loop c62_27 := by kernel_rfl
theorem c62_27e : c62_27 = .seq c62_28 c62_33 := by kernel_rfl
theorem c62_28e : c62_28 = .seq c62_29 c62_30 := by kernel_rfl
theorem c62_29e : c62_29 = .region 8 r62_29 false := by kernel_rfl
theorem c62_30e : c62_30 = .cond (cdC c62_30) c62_31 c62_32 := by kernel_rfl
theorem c62_31e : c62_31 = .skip := by kernel_rfl
theorem c62_32e : c62_32 = .exit 0 := by kernel_rfl
theorem c62_33e : c62_33 = .seq c62_34 c62_40 := by kernel_rfl
theorem c62_34e : c62_34 = .block 1 c62_35 := by kernel_rfl
theorem c62_35e : c62_35 = .seq c62_36 c62_37 := by kernel_rfl
theorem c62_36e : c62_36 = .region 10 r62_36 true := by kernel_rfl
theorem c62_37e : c62_37 = .cond (cdC c62_37) c62_38 c62_39 := by kernel_rfl
theorem c62_38e : c62_38 = .region 11 r62_38 false := by kernel_rfl
theorem c62_39e : c62_39 = .skip := by kernel_rfl
theorem c62_40e : c62_40 = .region 9 r62_40 false := by kernel_rfl
theorem c62_41e : c62_41 = .seq c62_42 c62_43 := by kernel_rfl
theorem c62_42e : c62_42 = .region 12 r62_42 false := by kernel_rfl
theorem c62_43e : c62_43 = .seq c62_44 c62_45 := by kernel_rfl
theorem c62_44e : c62_44 = .region 13 r62_44 false := by kernel_rfl
theorem c62_45e : c62_45 = .seq c62_46 c62_47 := by kernel_rfl
theorem c62_46e : c62_46 = .region 14 r62_46 false := by kernel_rfl
theorem c62_47e : c62_47 = .ret := by kernel_rfl
noncomputable def tontineref07_Log_Install.R (b_2 : Nat) (A_3 : Option Addr) (c_4 : Nat) : Pst (Int × T_tontineref07_Log) where
  ε := Option Addr × Nat
  v := fun r x => vI r.1
  H := fun r x => [⟨1, b_2, [vU r.2.Snap.Index, vU r.2.Snap.Term, vU r.2.Snap.Config, .string (bs r.2.Snap.Data), .slice x.1 r.2.L.length x.2]⟩]
  B := fun r x => [Ow 2 kT_api_Entry x.1 x.2 r.2.L]
noncomputable def tontineref07_Log_Install.cx (b_2 : Nat) (A_3 : Option Addr) (c_4 : Nat) (w0 : World) (S0 : Fam) : Cx (Int × T_tontineref07_Log) := ⟨Try.prog, 62, Try.f62, 76, w0, S0, [1, 2], 2, tontineref07_Log_Install.R b_2 A_3 c_4⟩
theorem tontineref07_Log_Install_j0_ok (n : Nat) (L0 : (List T_api_Entry) → Int → Option (Int × T_tontineref07_Log)) (g_1 : T_tontineref07_Log) (s_5 : T_api_Snapshot) (r_10 : Int × Int) (rest_11 : (List T_api_Entry)) (k_14 : Int) (b_2 : Nat) (A_3 : Option Addr) (c_4 : Nat) (b_6 : Nat) (A_12 : Option Addr) (c_13 : Nat) (w0 : World) (S0 : Fam) (ih0 : ∀ (rest_11 : (List T_api_Entry)) (k_14 : Int) (A_12 : Option Addr) (c_13 : Nat), GoO (tontineref07_Log_Install.cx b_2 A_3 c_4 w0 S0) [(0, vP b_2), (3, vP b_6), (5, vU r_10.1), (6, vI r_10.2), (7, .slice A_12 rest_11.length c_13), (8, vI k_14)] [⟨1, b_2, [vU g_1.Snap.Index, vU g_1.Snap.Term, vU g_1.Snap.Config, .string (bs g_1.Snap.Data), .slice A_3 g_1.L.length c_4]⟩, ⟨40, b_6, [vU s_5.Index, vU s_5.Term, vU s_5.Config, .string (bs s_5.Data)]⟩] [Ow 2 kT_api_Entry A_3 c_4 g_1.L, Ow 42 kT_api_Entry A_12 c_13 rest_11] [.code c62_27, .inLoop c62_27, .inBlock 0, .code c62_41] (L0 rest_11 k_14)) (b_19 : Bool) :
    GoO (tontineref07_Log_Install.cx b_2 A_3 c_4 w0 S0) [(0, vP b_2), (3, vP b_6), (5, vU r_10.1), (6, vI r_10.2), (7, .slice A_12 rest_11.length c_13), (8, vI k_14), (57, .bool b_19)] [⟨1, b_2, [vU g_1.Snap.Index, vU g_1.Snap.Term, vU g_1.Snap.Config, .string (bs g_1.Snap.Data), .slice A_3 g_1.L.length c_4]⟩, ⟨40, b_6, [vU s_5.Index, vU s_5.Term, vU s_5.Config, .string (bs s_5.Data)]⟩] [Ow 2 kT_api_Entry A_3 c_4 g_1.L, Ow 42 kT_api_Entry A_12 c_13 rest_11] [.code c62_37, .inBlock 1, .code c62_40, .inLoop c62_27, .inBlock 0, .code c62_41] (tontineref07_Log_Install.j0 n L0 g_1 rest_11 k_14 b_19) := by
  unfold tontineref07_Log_Install.j0
  refine GoO.ite' c62_37e (by kernel_rfl) (fun h20 => ?_) (fun h20 => ?_)
  · refine GoO.region' (is := [0, 1, 2, 3, 4, 5, 6, 7, 8, 9, 10]) c62_38e (by kernel_rfl) ?_
    refine GoO.exec (is := [0, 1, 2, 3, 4, 5]) (hs := [.p, .p, .p, .p, .b 0, .p]) (rest := [6, 7, 8, 9, 10]) (ks := [0, 3, 5, 6, 8, 58, 62, 63]) (env' := [(0, vP b_2), (3, vP b_6), (5, vU r_10.1), (6, vI r_10.2), (8, vI k_14), (58, .slice A_12 rest_11.length c_13), (62, .slice A_3 g_1.L.length c_4), (63, vI k_14)]) (H' := [⟨1, b_2, [vU g_1.Snap.Index, vU g_1.Snap.Term, vU g_1.Snap.Config, .string (bs g_1.Snap.Data), .slice A_3 g_1.L.length c_4]⟩, ⟨40, b_6, [vU s_5.Index, vU s_5.Term, vU s_5.Config, .string (bs s_5.Data)]⟩]) (ps := [b_2 = b_2]) (by kernel_rfl) (And.intro rfl trivial) ?_
    refine GoO.guard (fun h21 => ?_)
    refine OpTo.go (GoO.idx (kk := .i64) (e := 40) (K := kT_api_Entry) (A := A_3) (c := c_4) (xs := g_1.L) (iv := k_14) (j := 0) rfl (by kernel_rfl) (by kernel_rfl) (by kernel_rfl) (by kernel_rfl) rfl Reads.own rfl h21.1 h21.2 (by decide) rfl ?_)
    refine OpTo.go (GoO.ldE' (K := kT_api_Entry) (A := A_3) (c := c_4) (xs := g_1.L) (iN := k_14.toNat) (off := 0) (j := 0) rfl (by kernel_rfl) rfl Reads.own (by first | exact idx_lt h21.1 h21.2 | (simp only [List.length_set]; exact idx_lt h21.1 h21.2)) (by decide) (Opn.flat _ _ _ _ _) (v := fun _ => .agg ⟨[vU ((rdL g_1.L k_14).Term), vU ((rdL g_1.L k_14).Index), vI ((rdL g_1.L k_14).Kind), .string (bs ((rdL g_1.L k_14).Data))]⟩) (fun _ => by kernel_rfl) _ (fun _ => rfl) (fun _ => ?_))
    refine OpTo.go (GoO.lit (e := 40) (K := kT_api_Entry) rfl (by kernel_rfl) (by kernel_rfl) (cs := [vU ((rdL g_1.L k_14).Term), vU ((rdL g_1.L k_14).Index), vI ((rdL g_1.L k_14).Kind), .string (bs ((rdL g_1.L k_14).Data))]) (by kernel_rfl) [(rdL g_1.L k_14)] (by kernel_rfl) (by kernel_rfl) (fun w S hB => ⟨[vU ((rdL g_1.L k_14).Term), vU ((rdL g_1.L k_14).Index), vI ((rdL g_1.L k_14).Kind), .string (bs ((rdL g_1.L k_14).Data))], _, rfl, rfl, rfl⟩) 41 _ (fun _ _ => rfl) (fun A_22 c_23 => ?_))
    refine GoO.guard (fun h24 => ?_)
    refine OpTo.go (GoO.appW (e := 40) (K := kT_api_Entry) (A := A_12) (c := c_13) (tg := 42) (bytes := 40) (zs := [vU 0, vU 0, vI 0, .string (bs [])]) (xs := rest_11) (ys := [(rdL g_1.L k_14)]) (xv := .slice A_22 [(rdL g_1.L k_14)].length c_23) (j := 2) (bk := [0, 1]) rfl (by kernel_rfl) (by kernel_rfl) (by kernel_rfl) (by kernel_rfl) rfl (by kernel_rfl) rfl (fun w S hB => SrcIs.row (Reads.own w S (hB _ (List.mem_of_getElem? (i := 0) rfl)))) h24 rfl rfl rfl rfl _ (fun _ _ => rfl) (fun A_25 c_26 => ?_))
    refine GoO.exec (is := [10]) (hs := [.p]) (rest := []) (ks := [0, 3, 5, 6, 7, 8]) (env' := [(0, vP b_2), (3, vP b_6), (5, vU r_10.1), (6, vI r_10.2), (7, .slice A_25 (rest_11 ++ [(rdL g_1.L k_14)]).length c_26), (8, vI k_14)]) (H' := [⟨1, b_2, [vU g_1.Snap.Index, vU g_1.Snap.Term, vU g_1.Snap.Config, .string (bs g_1.Snap.Data), .slice A_3 g_1.L.length c_4]⟩, ⟨40, b_6, [vU s_5.Index, vU s_5.Term, vU s_5.Config, .string (bs s_5.Data)]⟩]) (ps := []) (by kernel_rfl) trivial ?_
    refine GoO.regionEnd ?_
    refine GoO.inBlock ?_
    refine GoO.region' (is := [0, 1, 2]) c62_40e (by kernel_rfl) ?_
    refine GoO.exec (is := [0, 1, 2]) (hs := [.p, .p, .p]) (rest := []) (ks := [0, 3, 5, 6, 7, 8]) (env' := [(0, vP b_2), (3, vP b_6), (5, vU r_10.1), (6, vI r_10.2), (7, .slice A_25 (rest_11 ++ [(rdL g_1.L k_14)]).length c_26), (8, vI (wi64 (k_14 + 1)))]) (H' := [⟨1, b_2, [vU g_1.Snap.Index, vU g_1.Snap.Term, vU g_1.Snap.Config, .string (bs g_1.Snap.Data), .slice A_3 g_1.L.length c_4]⟩, ⟨40, b_6, [vU s_5.Index, vU s_5.Term, vU s_5.Config, .string (bs s_5.Data)]⟩]) (ps := []) (by kernel_rfl) trivial ?_
    refine GoO.regionEnd ?_
    refine GoO.inLoop ?_
    exact GoO.sub (ks := [0, 3, 5, 6, 7, 8]) (hk := [0, 1]) (bk := [2, 0]) (by kernel_rfl) (by kernel_rfl) (by kernel_rfl) (ih0 (rest_11 ++ [(rdL g_1.L k_14)]) (wi64 (k_14 + 1)) A_25 c_26)
  · refine GoO.skip' c62_39e ?_
    refine GoO.inBlock ?_
    refine GoO.region' (is := [0, 1, 2]) c62_40e (by kernel_rfl) ?_
    refine GoO.exec (is := [0, 1, 2]) (hs := [.p, .p, .p]) (rest := []) (ks := [0, 3, 5, 6, 7, 8]) (env' := [(0, vP b_2), (3, vP b_6), (5, vU r_10.1), (6, vI r_10.2), (7, .slice A_12 rest_11.length c_13), (8, vI (wi64 (k_14 + 1)))]) (H' := [⟨1, b_2, [vU g_1.Snap.Index, vU g_1.Snap.Term, vU g_1.Snap.Config, .string (bs g_1.Snap.Data), .slice A_3 g_1.L.length c_4]⟩, ⟨40, b_6, [vU s_5.Index, vU s_5.Term, vU s_5.Config, .string (bs s_5.Data)]⟩]) (ps := []) (by kernel_rfl) trivial ?_
    refine GoO.regionEnd ?_
    refine GoO.inLoop ?_
    exact GoO.sub (ks := [0, 3, 5, 6, 7, 8]) (hk := [0, 1]) (bk := [0, 1]) (by kernel_rfl) (by kernel_rfl) (by kernel_rfl) (ih0 rest_11 (wi64 (k_14 + 1)) A_12 c_13)
theorem tontineref07_Log_Install_l0_ok (n : Nat) (g_1 : T_tontineref07_Log) (s_5 : T_api_Snapshot) (r_10 : Int × Int) (b_2 : Nat) (A_3 : Option Addr) (c_4 : Nat) (b_6 : Nat) (w0 : World) (S0 : Fam) :
    ∀ (k : Nat) (rest_11 : (List T_api_Entry)) (k_14 : Int) (A_12 : Option Addr) (c_13 : Nat), GoO (tontineref07_Log_Install.cx b_2 A_3 c_4 w0 S0) [(0, vP b_2), (3, vP b_6), (5, vU r_10.1), (6, vI r_10.2), (7, .slice A_12 rest_11.length c_13), (8, vI k_14)] [⟨1, b_2, [vU g_1.Snap.Index, vU g_1.Snap.Term, vU g_1.Snap.Config, .string (bs g_1.Snap.Data), .slice A_3 g_1.L.length c_4]⟩, ⟨40, b_6, [vU s_5.Index, vU s_5.Term, vU s_5.Config, .string (bs s_5.Data)]⟩] [Ow 2 kT_api_Entry A_3 c_4 g_1.L, Ow 42 kT_api_Entry A_12 c_13 rest_11] [.code c62_27, .inLoop c62_27, .inBlock 0, .code c62_41] (tontineref07_Log_Install.l0 n g_1 s_5 r_10 k rest_11 k_14) := by
  intro k
  induction k with
  | zero => intros; rw [tontineref07_Log_Install.l0.eq_1]; exact GoO.stop
  | succ k ih0 =>
    intro rest_11 k_14 A_12 c_13
    rw [tontineref07_Log_Install.l0.eq_2]
    refine GoO.seq' c62_27e ?_
    refine GoO.seq' c62_28e ?_
    refine GoO.region' (is := [0, 1, 2, 3, 4, 5, 6]) c62_29e (by kernel_rfl) ?_
    refine GoO.exec (is := [0, 1, 2, 3, 4, 5, 6]) (hs := [.p, .p, .p, .p, .b 0, .p, .p]) (rest := []) (ks := [0, 3, 5, 6, 7, 8, 34]) (env' := [(0, vP b_2), (3, vP b_6), (5, vU r_10.1), (6, vI r_10.2), (7, .slice A_12 rest_11.length c_13), (8, vI k_14), (34, .bool (decide (k_14 < (g_1.L.length : Int))))]) (H' := [⟨1, b_2, [vU g_1.Snap.Index, vU g_1.Snap.Term, vU g_1.Snap.Config, .string (bs g_1.Snap.Data), .slice A_3 g_1.L.length c_4]⟩, ⟨40, b_6, [vU s_5.Index, vU s_5.Term, vU s_5.Config, .string (bs s_5.Data)]⟩]) (ps := [b_2 = b_2]) (by kernel_rfl) (And.intro rfl trivial) ?_
    refine GoO.regionEnd ?_
    refine GoO.ite' c62_30e (by kernel_rfl) (fun h15 => ?_) (fun h15 => ?_)
    · refine GoO.skip' c62_31e ?_
      refine GoO.seq' c62_33e ?_
      refine GoO.block' c62_34e ?_
      refine GoO.seq' c62_35e ?_
      refine GoO.draw c62_36e (by kernel_rfl) [] [⟨1, b_2, [vU g_1.Snap.Index, vU g_1.Snap.Term, vU g_1.Snap.Config, .string (bs g_1.Snap.Data), .slice A_3 g_1.L.length c_4]⟩, ⟨40, b_6, [vU s_5.Index, vU s_5.Term, vU s_5.Config, .string (bs s_5.Data)]⟩] [Ow 2 kT_api_Entry A_3 c_4 g_1.L] (n := 21) (by kernel_rfl) ?_
      simp only [List.replicate]
      refine GoF.take [0, 1, 2, 3, 4, 8, 9] [.p, .p, .p, .b 0, .p, .p, .b 1] (ks := [0, 3, 5, 6, 7, 8, 40, 41, 46]) (fu := 14) (li := [true, true, true, true, true, false, false, false, true, true, false, false, false, false, false, false, false, false, false, false, false]) (env' := [(0, vP b_2), (3, vP b_6), (5, vU r_10.1), (6, vI r_10.2), (7, .slice A_12 rest_11.length c_13), (8, vI k_14), (40, .slice A_3 g_1.L.length c_4), (41, vI k_14), (46, vU s_5.Index)]) (ps := [b_2 = b_2, b_6 = b_6]) (hk := [0, 1]) (bk := [0]) (by kernel_rfl) (And.intro rfl (And.intro rfl trivial)) rfl rfl ?_
      refine GoF.guard (fun h16 => ?_)
      refine GoF.idx (i := 5) (hk := [0, 1]) (bk := [0]) (kk := .i64) (e := 40) (K := kT_api_Entry) (A := A_3) (c := c_4) (xs := g_1.L) (iv := k_14) (j := 0) (by kernel_rfl) rfl rfl rfl (by kernel_rfl) (by kernel_rfl) (by kernel_rfl) (by kernel_rfl) rfl Reads.own rfl h16.1 h16.2 (by decide) rfl ?_
      refine GoF.fldE (i := 6) (hk := [0, 1]) (bk := [0]) (K := kT_api_Entry) (A := A_3) (c := c_4) (xs := g_1.L) (iN := k_14.toNat) (off := 0) (n := 1) (j := 0) (by kernel_rfl) rfl rfl rfl (by kernel_rfl) (by kernel_rfl) rfl Reads.own (by first | exact idx_lt h16.1 h16.2 | (simp only [List.length_set]; exact idx_lt h16.1 h16.2)) (by decide) rfl ?_
      refine GoF.ldE (i := 7) (hk := [0, 1]) (bk := [0]) (K := kT_api_Entry) (A := A_3) (c := c_4) (xs := g_1.L) (iN := k_14.toNat) (off := 1) (j := 0) (v := vU ((rdL g_1.L k_14).Index)) (by kernel_rfl) rfl rfl rfl (hK := rfl) (by kernel_rfl) rfl Reads.own (by first | exact idx_lt h16.1 h16.2 | (simp only [List.length_set]; exact idx_lt h16.1 h16.2)) (by decide) (by kernel_rfl) rfl ?_
      refine GoF.take [10, 11] [.p, .p] (ks := [0, 3, 5, 6, 7, 8, 48]) (fu := 9) (li := [true, true, true, true, true, true, true, true, true, true, true, true, false, false, false, false, false, false, false, false, false]) (env' := [(0, vP b_2), (3, vP b_6), (5, vU r_10.1), (6, vI r_10.2), (7, .slice A_12 rest_11.length c_13), (8, vI k_14), (48, .bool (decide (((rdL g_1.L k_14).Index) > s_5.Index)))]) (ps := []) (hk := [0, 1]) (bk := [0]) (by kernel_rfl) trivial rfl rfl ?_
      refine GoF.bsplit (t := 48) (by kernel_rfl) (fun h17 => ?_) (fun h17 => ?_)
      · refine GoF.take [12, 13, 14, 15] [.p, .p, .p, .p] (ks := [0, 3, 5, 6, 7, 8, 52]) (fu := 5) (li := [true, true, true, true, true, true, true, true, true, true, true, true, true, true, true, true, false, false, false, false, false]) (env' := [(0, vP b_2), (3, vP b_6), (5, vU r_10.1), (6, vI r_10.2), (7, .slice A_12 rest_11.length c_13), (8, vI k_14), (52, .bool (r_10.2 == 0))]) (ps := []) (hk := [0, 1]) (bk := [0]) (by kernel_rfl) trivial rfl rfl ?_
        refine GoF.bsplit (t := 52) (by kernel_rfl) (fun h18 => ?_) (fun h18 => ?_)
        · refine GoF.take [16, 17, 18, 19, 20] [.p, .p, .b 1, .p, .p] (ks := [0, 3, 5, 6, 7, 8, 57]) (fu := 0) (li := [true, true, true, true, true, true, true, true, true, true, true, true, true, true, true, true, true, true, true, true, true]) (env' := [(0, vP b_2), (3, vP b_6), (5, vU r_10.1), (6, vI r_10.2), (7, .slice A_12 rest_11.length c_13), (8, vI k_14), (57, .bool (r_10.1 == s_5.Term))]) (ps := [b_6 = b_6]) (hk := [0, 1]) (bk := [0]) (by kernel_rfl) (And.intro rfl trivial) rfl rfl ?_
          refine GoF.done (by kernel_rfl) ?_
          exact GoO.sub (ks := [0, 3, 5, 6, 7, 8, 57]) (hk := [0, 1]) (bk := [0, 1]) (by kernel_rfl) (by kernel_rfl) (by kernel_rfl) (tontineref07_Log_Install_j0_ok n (tontineref07_Log_Install.l0 n g_1 s_5 r_10 k) g_1 s_5 r_10 rest_11 k_14 b_2 A_3 c_4 b_6 A_12 c_13 w0 S0 ih0 (r_10.1 == s_5.Term))
        · refine GoF.take [16, 17, 18, 19, 20] [.p, .p, .p, .p, .p] (ks := [0, 3, 5, 6, 7, 8, 57]) (fu := 0) (li := [true, true, true, true, true, true, true, true, true, true, true, true, true, true, true, true, true, true, true, true, true]) (env' := [(0, vP b_2), (3, vP b_6), (5, vU r_10.1), (6, vI r_10.2), (7, .slice A_12 rest_11.length c_13), (8, vI k_14), (57, .bool false)]) (ps := []) (hk := [0, 1]) (bk := [0]) (by kernel_rfl) trivial rfl rfl ?_
          refine GoF.done (by kernel_rfl) ?_
          exact GoO.sub (ks := [0, 3, 5, 6, 7, 8, 57]) (hk := [0, 1]) (bk := [0, 1]) (by kernel_rfl) (by kernel_rfl) (by kernel_rfl) (tontineref07_Log_Install_j0_ok n (tontineref07_Log_Install.l0 n g_1 s_5 r_10 k) g_1 s_5 r_10 rest_11 k_14 b_2 A_3 c_4 b_6 A_12 c_13 w0 S0 ih0 false)
      · refine GoF.take [12, 13, 14, 15, 16, 17, 18, 19, 20] [.p, .p, .p, .p, .p, .p, .p, .p, .p] (ks := [0, 3, 5, 6, 7, 8, 57]) (fu := 0) (li := [true, true, true, true, true, true, true, true, true, true, true, true, true, true, true, true, true, true, true, true, true]) (env' := [(0, vP b_2), (3, vP b_6), (5, vU r_10.1), (6, vI r_10.2), (7, .slice A_12 rest_11.length c_13), (8, vI k_14), (57, .bool false)]) (ps := []) (hk := [0, 1]) (bk := [0]) (by kernel_rfl) trivial rfl rfl ?_
        refine GoF.done (by kernel_rfl) ?_
        exact GoO.sub (ks := [0, 3, 5, 6, 7, 8, 57]) (hk := [0, 1]) (bk := [0, 1]) (by kernel_rfl) (by kernel_rfl) (by kernel_rfl) (tontineref07_Log_Install_j0_ok n (tontineref07_Log_Install.l0 n g_1 s_5 r_10 k) g_1 s_5 r_10 rest_11 k_14 b_2 A_3 c_4 b_6 A_12 c_13 w0 S0 ih0 false)
    · refine GoO.exit' c62_32e rfl ?_
      refine GoO.seq' c62_41e ?_
      refine GoO.region' (is := [0, 1, 2, 3, 4]) c62_42e (by kernel_rfl) ?_
      refine GoO.exec (is := [0, 1, 2, 3, 4]) (hs := [.p, .b 1, .p, .p, .b 0]) (rest := []) (ks := [0, 7]) (env' := [(0, vP b_2), (7, .slice A_12 rest_11.length c_13)]) (H' := [⟨1, b_2, [vU s_5.Index, vU s_5.Term, vU s_5.Config, .string (bs s_5.Data), .slice A_3 g_1.L.length c_4]⟩, ⟨40, b_6, [vU s_5.Index, vU s_5.Term, vU s_5.Config, .string (bs s_5.Data)]⟩]) (ps := [b_6 = b_6, b_2 = b_2]) (by kernel_rfl) (And.intro rfl (And.intro rfl trivial)) ?_
      refine GoO.regionEnd ?_
      refine GoO.seq' c62_43e ?_
      refine GoO.region' (is := [0, 1, 2, 3, 4]) c62_44e (by kernel_rfl) ?_
      refine GoO.exec (is := [0, 1, 2, 3, 4]) (hs := [.p, .p, .p, .p, .b 0]) (rest := []) (ks := []) (env' := []) (H' := [⟨1, b_2, [vU s_5.Index, vU s_5.Term, vU s_5.Config, .string (bs s_5.Data), .slice A_12 rest_11.length c_13]⟩, ⟨40, b_6, [vU s_5.Index, vU s_5.Term, vU s_5.Config, .string (bs s_5.Data)]⟩]) (ps := [b_2 = b_2]) (by kernel_rfl) (And.intro rfl trivial) ?_
      refine GoO.regionEnd ?_
      refine GoO.seq' c62_45e ?_
      refine GoO.region' (is := [0]) c62_46e (by kernel_rfl) ?_
      refine GoO.exec (is := [0]) (hs := [.p]) (rest := []) (ks := [4]) (env' := [(4, vI 0)]) (H' := [⟨1, b_2, [vU s_5.Index, vU s_5.Term, vU s_5.Config, .string (bs s_5.Data), .slice A_12 rest_11.length c_13]⟩, ⟨40, b_6, [vU s_5.Index, vU s_5.Term, vU s_5.Config, .string (bs s_5.Data)]⟩]) (ps := []) (by kernel_rfl) trivial ?_
      refine GoO.regionEnd ?_
      refine GoO.sub (ks := [4]) (env' := [(4, vI 0)]) (hk := [0, 1]) (bk := [1]) (by kernel_rfl) rfl rfl ?_
      refine GoO.retag (t := 42) (u := 2) (j := 0) (hk := [0, 1]) (bk := []) rfl rfl rfl rfl rfl rfl (by kernel_rfl) (by kernel_rfl) ?_
      exact GoO.ret' (h := c62_47e) (hs := []) (ps := []) (hk := [0]) (bk := [0]) Try.func62 (⟨A_12, c_13⟩ : Option Addr × Nat) (by kernel_rfl) trivial (by kernel_rfl) (by kernel_rfl)
theorem tontineref07_Log_Install_ok (n : Nat) (g_1 : T_tontineref07_Log) (s_5 : T_api_Snapshot) (b_2 : Nat) (A_3 : Option Addr) (c_4 : Nat) :
    Meets Try.prog 62 [vP b_2, .agg ⟨[vU s_5.Index, vU s_5.Term, vU s_5.Config, .string (bs s_5.Data)]⟩] 2 [1, 2] [⟨1, b_2, [vU g_1.Snap.Index, vU g_1.Snap.Term, vU g_1.Snap.Config, .string (bs g_1.Snap.Data), .slice A_3 g_1.L.length c_4]⟩] [Ow 2 kT_api_Entry A_3 c_4 g_1.L] (tontineref07_Log_Install.f n g_1 s_5) (tontineref07_Log_Install.R b_2 A_3 c_4) := by
  refine Meets.of (c := c62_0) (n := 76) Try.func62 (by kernel_rfl) (by kernel_rfl) (by kernel_rfl) fun w0 S0 => ?_
  unfold tontineref07_Log_Install.f
  show GoO (tontineref07_Log_Install.cx b_2 A_3 c_4 w0 S0) [(0, vP b_2), (1, .agg ⟨[vU s_5.Index, vU s_5.Term, vU s_5.Config, .string (bs s_5.Data)]⟩)] [⟨1, b_2, [vU g_1.Snap.Index, vU g_1.Snap.Term, vU g_1.Snap.Config, .string (bs g_1.Snap.Data), .slice A_3 g_1.L.length c_4]⟩] [Ow 2 kT_api_Entry A_3 c_4 g_1.L] [.code c62_0] _
  refine GoO.seq' c62_0e ?_
  refine GoO.region' (is := [0, 1]) c62_1e (by kernel_rfl) ?_
  refine OpTo.go (GoO.new rfl 40 (cs := [vU s_5.Index, vU s_5.Term, vU s_5.Config, .string (bs s_5.Data)]) (by kernel_rfl) _ (fun _ => rfl) (fun b_6 => ?_))
  refine GoO.exec (is := [1]) (hs := [.p]) (rest := []) (ks := [0, 3]) (env' := [(0, vP b_2), (3, vP b_6)]) (H' := [⟨40, b_6, [vU s_5.Index, vU s_5.Term, vU s_5.Config, .string (bs s_5.Data)]⟩, ⟨1, b_2, [vU g_1.Snap.Index, vU g_1.Snap.Term, vU g_1.Snap.Config, .string (bs g_1.Snap.Data), .slice A_3 g_1.L.length c_4]⟩]) (ps := []) (by kernel_rfl) trivial ?_
  refine GoO.regionEnd ?_
  refine GoO.seq' c62_2e ?_
  refine GoO.seq' c62_3e ?_
  refine GoO.region' (is := [0, 1, 2, 3]) c62_4e (by kernel_rfl) ?_
  refine GoO.exec (is := [0, 1]) (hs := [.p, .b 0]) (rest := [2, 3]) (ks := [0, 3, 10]) (env' := [(0, vP b_2), (3, vP b_6), (10, vU s_5.Config)]) (H' := [⟨40, b_6, [vU s_5.Index, vU s_5.Term, vU s_5.Config, .string (bs s_5.Data)]⟩, ⟨1, b_2, [vU g_1.Snap.Index, vU g_1.Snap.Term, vU g_1.Snap.Config, .string (bs g_1.Snap.Data), .slice A_3 g_1.L.length c_4]⟩]) (ps := [b_6 = b_6]) (by kernel_rfl) (And.intro rfl trivial) ?_
  refine OpTo.go (GoO.call rfl (by kernel_rfl) (by kernel_rfl) (tontineref06_Sound_ok n s_5.Config) [[0]] [] [] [] (hks := [0, 1]) (bks := [0]) (by kernel_rfl) (by kernel_rfl) (by kernel_rfl) (.inl rfl) rfl rfl (by kernel_rfl) (by kernel_rfl) _ (fun _ _ => rfl) _ _ (fun _ _ => rfl) (fun _ _ => rfl) (fun _ _ => by kernel_rfl) (fun _ _ => by kernel_rfl) (fun r_7 x_28 => ?_))
  refine GoO.shape (env' := [(0, vP b_2), (3, vP b_6), (10, vU s_5.Config), (11, .bool r_7)]) (H' := [⟨40, b_6, [vU s_5.Index, vU s_5.Term, vU s_5.Config, .string (bs s_5.Data)]⟩, ⟨1, b_2, [vU g_1.Snap.Index, vU g_1.Snap.Term, vU g_1.Snap.Config, .string (bs g_1.Snap.Data), .slice A_3 g_1.L.length c_4]⟩]) (B' := [Ow 2 kT_api_Entry A_3 c_4 g_1.L]) (ks := [0, 3, 10, 11]) (by kernel_rfl) (by kernel_rfl) (by kernel_rfl) ?_
  refine GoO.exec (is := [3]) (hs := [.p]) (rest := []) (ks := [0, 3, 12]) (env' := [(0, vP b_2), (3, vP b_6), (12, .bool (!r_7))]) (H' := [⟨40, b_6, [vU s_5.Index, vU s_5.Term, vU s_5.Config, .string (bs s_5.Data)]⟩, ⟨1, b_2, [vU g_1.Snap.Index, vU g_1.Snap.Term, vU g_1.Snap.Config, .string (bs g_1.Snap.Data), .slice A_3 g_1.L.length c_4]⟩]) (ps := []) (by kernel_rfl) trivial ?_
  refine GoO.regionEnd ?_
  refine GoO.ite' c62_5e (by kernel_rfl) (fun h8 => ?_) (fun h8 => ?_)
  · refine GoO.seq' c62_6e ?_
    refine GoO.region' (is := [0]) c62_7e (by kernel_rfl) ?_
    refine GoO.exec (is := [0]) (hs := [.p]) (rest := []) (ks := [4]) (env' := [(4, vI 1)]) (H' := [⟨40, b_6, [vU s_5.Index, vU s_5.Term, vU s_5.Config, .string (bs s_5.Data)]⟩, ⟨1, b_2, [vU g_1.Snap.Index, vU g_1.Snap.Term, vU g_1.Snap.Config, .string (bs g_1.Snap.Data), .slice A_3 g_1.L.length c_4]⟩]) (ps := []) (by kernel_rfl) trivial ?_
    refine GoO.regionEnd ?_
    exact GoO.ret' (h := c62_8e) (hs := []) (ps := []) (hk := [1]) (bk := [0]) Try.func62 (⟨A_3, c_4⟩ : Option Addr × Nat) (by kernel_rfl) trivial (by kernel_rfl) (by kernel_rfl)
  · refine GoO.skip' c62_9e ?_
    refine GoO.seq' c62_10e ?_
    refine GoO.seq' c62_11e ?_
    refine GoO.draw c62_12e (by kernel_rfl) [] [⟨40, b_6, [vU s_5.Index, vU s_5.Term, vU s_5.Config, .string (bs s_5.Data)]⟩, ⟨1, b_2, [vU g_1.Snap.Index, vU g_1.Snap.Term, vU g_1.Snap.Config, .string (bs g_1.Snap.Data), .slice A_3 g_1.L.length c_4]⟩] [] (n := 8) (by kernel_rfl) ?_
    simp only [List.replicate]
    refine GoF.take [0, 1, 2, 3, 4, 5, 6, 7] [.p, .b 0, .p, .p, .p, .p, .b 1, .p] (ks := [0, 3, 20]) (fu := 0) (li := [true, true, true, true, true, true, true, true]) (env' := [(0, vP b_2), (3, vP b_6), (20, .bool (decide (s_5.Index ≤ g_1.Snap.Index)))]) (ps := [b_6 = b_6, b_2 = b_2]) (hk := [0, 1]) (bk := []) (by kernel_rfl) (And.intro rfl (And.intro rfl trivial)) rfl rfl ?_
    refine GoF.done (by kernel_rfl) ?_
    refine GoO.ite' c62_13e (by kernel_rfl) (fun h9 => ?_) (fun h9 => ?_)
    · refine GoO.seq' c62_14e ?_
      refine GoO.region' (is := [0]) c62_15e (by kernel_rfl) ?_
      refine GoO.exec (is := [0]) (hs := [.p]) (rest := []) (ks := [4]) (env' := [(4, vI 20)]) (H' := [⟨40, b_6, [vU s_5.Index, vU s_5.Term, vU s_5.Config, .string (bs s_5.Data)]⟩, ⟨1, b_2, [vU g_1.Snap.Index, vU g_1.Snap.Term, vU g_1.Snap.Config, .string (bs g_1.Snap.Data), .slice A_3 g_1.L.length c_4]⟩]) (ps := []) (by kernel_rfl) trivial ?_
      refine GoO.regionEnd ?_
      exact GoO.ret' (h := c62_16e) (hs := []) (ps := []) (hk := [1]) (bk := [0]) Try.func62 (⟨A_3, c_4⟩ : Option Addr × Nat) (by kernel_rfl) trivial (by kernel_rfl) (by kernel_rfl)
    · refine GoO.skip' c62_17e ?_
      refine GoO.seq' c62_18e ?_
      refine GoO.region' (is := [0, 1, 2, 3, 4, 5, 6, 7, 8]) c62_19e (by kernel_rfl) ?_
      refine GoO.exec (is := [0, 1, 2]) (hs := [.p, .p, .b 0]) (rest := [3, 4, 5, 6, 7, 8]) (ks := [0, 3, 22, 24]) (env' := [(0, vP b_2), (3, vP b_6), (22, vP b_2), (24, vU s_5.Index)]) (H' := [⟨40, b_6, [vU s_5.Index, vU s_5.Term, vU s_5.Config, .string (bs s_5.Data)]⟩, ⟨1, b_2, [vU g_1.Snap.Index, vU g_1.Snap.Term, vU g_1.Snap.Config, .string (bs g_1.Snap.Data), .slice A_3 g_1.L.length c_4]⟩]) (ps := [b_6 = b_6]) (by kernel_rfl) (And.intro rfl trivial) ?_
      refine OpTo.go (GoO.call rfl (by kernel_rfl) (by kernel_rfl) (tontineref07_Log_Term_ok n (⟨(⟨g_1.Snap.Index, g_1.Snap.Term, g_1.Snap.Config, g_1.Snap.Data⟩ : T_api_Snapshot), g_1.L⟩ : T_tontineref07_Log) s_5.Index b_2 A_3 c_4) [[0], [1], [2]] [] [(1, 1)] [(2, 0)] (hks := [0, 1]) (bks := [0]) (by kernel_rfl) (by kernel_rfl) (by kernel_rfl) (.inl rfl) rfl rfl (by kernel_rfl) (by kernel_rfl) _ (fun _ _ => rfl) _ _ (fun _ _ => rfl) (fun _ _ => rfl) (fun _ _ => by kernel_rfl) (fun _ _ => by kernel_rfl) (fun r_10 x_27 => ?_))
      refine GoO.shape (env' := [(0, vP b_2), (3, vP b_6), (22, vP b_2), (24, vU s_5.Index), (25, .tuple ⟨[vU r_10.1, vI r_10.2]⟩)]) (H' := [⟨40, b_6, [vU s_5.Index, vU s_5.Term, vU s_5.Config, .string (bs s_5.Data)]⟩, ⟨1, b_2, [vU g_1.Snap.Index, vU g_1.Snap.Term, vU g_1.Snap.Config, .string (bs g_1.Snap.Data), .slice A_3 g_1.L.length c_4]⟩]) (B' := [Ow 2 kT_api_Entry A_3 c_4 g_1.L]) (ks := [0, 3, 22, 24, 25]) (by kernel_rfl) (by kernel_rfl) (by kernel_rfl) ?_
      refine GoO.exec (is := [4, 5, 6, 7, 8]) (hs := [.p, .p, .p, .p, .p]) (rest := []) (ks := [0, 3, 5, 6]) (env' := [(0, vP b_2), (3, vP b_6), (5, vU r_10.1), (6, vI r_10.2)]) (H' := [⟨40, b_6, [vU s_5.Index, vU s_5.Term, vU s_5.Config, .string (bs s_5.Data)]⟩, ⟨1, b_2, [vU g_1.Snap.Index, vU g_1.Snap.Term, vU g_1.Snap.Config, .string (bs g_1.Snap.Data), .slice A_3 g_1.L.length c_4]⟩]) (ps := []) (by kernel_rfl) trivial ?_
      refine GoO.regionEnd ?_
      refine GoO.seq' c62_20e ?_
      refine GoO.region' (is := [0]) c62_21e (by kernel_rfl) ?_
      refine GoO.exec (is := [0]) (hs := [.p]) (rest := []) (ks := [0, 3, 5, 6, 7]) (env' := [(0, vP b_2), (3, vP b_6), (5, vU r_10.1), (6, vI r_10.2), (7, .slice none ([] : List T_api_Entry).length 0)]) (H' := [⟨40, b_6, [vU s_5.Index, vU s_5.Term, vU s_5.Config, .string (bs s_5.Data)]⟩, ⟨1, b_2, [vU g_1.Snap.Index, vU g_1.Snap.Term, vU g_1.Snap.Config, .string (bs g_1.Snap.Data), .slice A_3 g_1.L.length c_4]⟩]) (ps := []) (by kernel_rfl) trivial ?_
      refine GoO.regionEnd ?_
      refine GoO.seq' c62_22e ?_
      refine GoO.seq' c62_23e ?_
      refine GoO.region' (is := [0]) c62_24e (by kernel_rfl) ?_
      refine GoO.exec (is := [0]) (hs := [.p]) (rest := []) (ks := [0, 3, 5, 6, 7, 8]) (env' := [(0, vP b_2), (3, vP b_6), (5, vU r_10.1), (6, vI r_10.2), (7, .slice none ([] : List T_api_Entry).length 0), (8, vI 0)]) (H' := [⟨40, b_6, [vU s_5.Index, vU s_5.Term, vU s_5.Config, .string (bs s_5.Data)]⟩, ⟨1, b_2, [vU g_1.Snap.Index, vU g_1.Snap.Term, vU g_1.Snap.Config, .string (bs g_1.Snap.Data), .slice A_3 g_1.L.length c_4]⟩]) (ps := []) (by kernel_rfl) trivial ?_
      refine GoO.regionEnd ?_
      refine GoO.block' c62_25e ?_
      refine GoO.loop' c62_26e ?_
      refine GoO.nilOwn kT_api_Entry 42 ?_
      exact GoO.sub (ks := [0, 3, 5, 6, 7, 8]) (hk := [1, 0]) (bk := [1, 0]) (by kernel_rfl) (by kernel_rfl) (by kernel_rfl) (tontineref07_Log_Install_l0_ok n g_1 s_5 r_10 b_2 A_3 c_4 b_6 w0 S0 n ([] : List T_api_Entry) 0 none 0)
/-! tontine/tontinelaw07.both -/
noncomputable def c28_0 : Code := bodyOf Try.f28
noncomputable def c28_1 : Code := cdL c28_0
noncomputable def c28_2 : Code := cdR c28_0
noncomputable def c28_3 : Code := cdL c28_2
noncomputable def c28_4 : Code := cdL c28_3
noncomputable def c28_5 : Code := cdR c28_3
noncomputable def c28_6 : Code := cdL c28_5
noncomputable def c28_7 : Code := cdL c28_6
noncomputable def c28_8 : Code := cdR c28_6
noncomputable def c28_9 : Code := cdL c28_8
noncomputable def c28_10 : Code := cdL c28_9
noncomputable def c28_11 : Code := cdR c28_9
noncomputable def c28_12 : Code := cdL c28_11
noncomputable def c28_13 : Code := cdR c28_11
noncomputable def c28_14 : Code := cdL c28_13
noncomputable def c28_15 : Code := cdR c28_13
noncomputable def c28_16 : Code := cdR c28_8
noncomputable def c28_17 : Code := cdL c28_16
noncomputable def c28_18 : Code := cdR c28_16
noncomputable def c28_19 : Code := cdL c28_18
noncomputable def c28_20 : Code := cdL c28_19
noncomputable def c28_21 : Code := cdR c28_19
noncomputable def c28_22 : Code := cdL c28_21
noncomputable def c28_23 : Code := cdR c28_21
noncomputable def c28_24 : Code := cdL c28_23
noncomputable def c28_25 : Code := cdR c28_23
noncomputable def c28_26 : Code := cdR c28_18
noncomputable def c28_27 : Code := cdL c28_26
noncomputable def c28_28 : Code := cdR c28_26
noncomputable def c28_29 : Code := cdL c28_28
noncomputable def c28_30 : Code := cdL c28_29
noncomputable def c28_31 : Code := cdR c28_29
noncomputable def c28_32 : Code := cdR c28_28
noncomputable def c28_33 : Code := cdL c28_32
noncomputable def c28_34 : Code := cdR c28_32
noncomputable def c28_35 : Code := cdL c28_34
noncomputable def c28_36 : Code := cdL c28_35
noncomputable def c28_37 : Code := cdR c28_35
noncomputable def c28_38 : Code := cdR c28_34
noncomputable def c28_39 : Code := cdL c28_38
noncomputable def c28_40 : Code := cdR c28_38
noncomputable def c28_41 : Code := cdL c28_40
noncomputable def c28_42 : Code := cdL c28_41
noncomputable def c28_43 : Code := cdR c28_41
noncomputable def c28_44 : Code := cdR c28_40
noncomputable def c28_45 : Code := cdR c28_2
noncomputable def c28_46 : Code := cdL c28_45
noncomputable def c28_47 : Code := cdR c28_45
noncomputable def r28_1 : Array Oper := cdO c28_1
noncomputable def r28_4 : Array Oper := cdO c28_4
noncomputable def r28_7 : Array Oper := cdO c28_7
noncomputable def r28_10 : Array Oper := cdO c28_10
noncomputable def r28_12 : Array Oper := cdO c28_12
noncomputable def r28_14 : Array Oper := cdO c28_14
noncomputable def r28_17 : Array Oper := cdO c28_17
noncomputable def r28_20 : Array Oper := cdO c28_20
noncomputable def r28_22 : Array Oper := cdO c28_22
noncomputable def r28_24 : Array Oper := cdO c28_24
noncomputable def r28_27 : Array Oper := cdO c28_27
noncomputable def r28_30 : Array Oper := cdO c28_30
noncomputable def r28_31 : Array Oper := cdO c28_31
noncomputable def r28_33 : Array Oper := cdO c28_33
noncomputable def r28_36 : Array Oper := cdO c28_36
noncomputable def r28_39 : Array Oper := cdO c28_39
noncomputable def r28_42 : Array Oper := cdO c28_42
noncomputable def r28_46 : Array Oper := cdO c28_46
theorem c28_0e : c28_0 = .seq c28_1 c28_2 := by kernel_rfl
theorem c28_1e : c28_1 = .region 0 r28_1 false := by kernel_rfl
theorem c28_2e : c28_2 = .seq c28_3 c28_45 := by kernel_rfl
theorem c28_3e : c28_3 = .seq c28_4 c28_5 := by kernel_rfl
theorem c28_4e : c28_4 = .region 1 r28_4 false := by kernel_rfl
theorem c28_5e : c28_5 = .block 0 c28_6 := by kernel_rfl
theorem c28_6e : c28_6 = .seq c28_7 c28_8 := by kernel_rfl
theorem c28_7e : c28_7 = .region 2 r28_7 false := by kernel_rfl
theorem c28_8e : c28_8 = .cond (cdC c28_8) c28_9 c28_16 := by kernel_rfl
theorem c28_9e : c28_9 = .seq c28_10 c28_11 := by kernel_rfl
theorem c28_10e : c28_10 = .region 3 r28_10 false := by kernel_rfl
theorem c28_11e : c28_11 = .seq c28_12 c28_13 := by kernel_rfl
theorem c28_12e : c28_12 = .region 4 r28_12 false := by kernel_rfl
theorem c28_13e : c28_13 = .seq c28_14 c28_15 := by kernel_rfl
theorem c28_14e : c28_14 = .region 5 r28_14 false := by kernel_rfl
theorem c28_15e : c28_15 = .ret := by kernel_rfl
theorem c28_16e : c28_16 = .seq c28_17 c28_18 := by kernel_rfl
theorem c28_17e : c28_17 = .region 6 r28_17 false := by kernel_rfl
theorem c28_18e : c28_18 = .cond (cdC c28_18) c28_19 c28_26 := by kernel_rfl
theorem c28_19e : c28_19 = .seq c28_20 c28_21 := by kernel_rfl
theorem c28_20e : c28_20 = .region 7 r28_20 false := by kernel_rfl
theorem c28_21e : c28_21 = .seq c28_22 c28_23 := by kernel_rfl
theorem c28_22e : c28_22 = .region 8 r28_22 false := by kernel_rfl
theorem c28_23e : c28_23 = .seq c28_24 c28_25 := by kernel_rfl
theorem c28_24e : c28_24 = .region 9 r28_24 false := by kernel_rfl
theorem c28_25e : c28_25 = .ret := by kernel_rfl
theorem c28_26e : c28_26 = .seq c28_27 c28_28 := by kernel_rfl
theorem c28_27e : c28_27 = .region 10 r28_27 false := by kernel_rfl
theorem c28_28e : c28_28 = .cond (cdC c28_28) c28_29 c28_32 := by kernel_rfl
theorem c28_29e : c28_29 = .seq c28_30 c28_31 := by kernel_rfl
theorem c28_30e : c28_30 = .region 11 r28_30 false := by kernel_rfl
theorem c28_31e : c28_31 = .region 12 r28_31 false := by kernel_rfl
theorem c28_32e : c28_32 = .seq c28_33 c28_34 := by kernel_rfl
theorem c28_33e : c28_33 = .region 13 r28_33 false := by kernel_rfl
theorem c28_34e : c28_34 = .cond (cdC c28_34) c28_35 c28_38 := by kernel_rfl
theorem c28_35e : c28_35 = .seq c28_36 c28_37 := by kernel_rfl
theorem c28_36e : c28_36 = .region 14 r28_36 true := by kernel_rfl
theorem c28_37e : c28_37 = .ret := by kernel_rfl
theorem c28_38e : c28_38 = .seq c28_39 c28_40 := by kernel_rfl
theorem c28_39e : c28_39 = .region 15 r28_39 false := by kernel_rfl
theorem c28_40e : c28_40 = .cond (cdC c28_40) c28_41 c28_44 := by kernel_rfl
theorem c28_41e : c28_41 = .seq c28_42 c28_43 := by kernel_rfl
theorem c28_42e : c28_42 = .region 16 r28_42 true := by kernel_rfl
theorem c28_43e : c28_43 = .ret := by kernel_rfl
theorem c28_44e : c28_44 = .skip := by kernel_rfl
theorem c28_45e : c28_45 = .seq c28_46 c28_47 := by kernel_rfl
theorem c28_46e : c28_46 = .region 17 r28_46 false := by kernel_rfl
theorem c28_47e : c28_47 = .ret := by kernel_rfl
noncomputable def tontinelaw07_both.R (b_2 : Nat) (A_3 : Option Addr) (c_4 : Nat) (b_6 : Nat) (A_7 : Option Addr) (c_8 : Nat) (A_10 : Option Addr) (c_11 : Nat) : Pst (Bool × T_rlog_Log × T_tontineref07_Log) where
  ε := Option Addr × Nat × Option Addr × Nat
  v := fun r x => .bool r.1
  H := fun r x => [⟨1, b_2, [vU r.2.1.snap.Index, vU r.2.1.snap.Term, vU r.2.1.snap.Config, .string (bs r.2.1.snap.Data), .slice x.1 r.2.1.entries.length x.2.1]⟩, ⟨3, b_6, [vU r.2.2.Snap.Index, vU r.2.2.Snap.Term, vU r.2.2.Snap.Config, .string (bs r.2.2.Snap.Data), .slice x.2.2.1 r.2.2.L.length x.2.2.2]⟩]
  B := fun r x => [Ow 2 kT_api_Entry x.1 x.2.1 r.2.1.entries, Ow 4 kT_api_Entry x.2.2.1 x.2.2.2 r.2.2.L]
noncomputable def tontinelaw07_both.cx (b_2 : Nat) (A_3 : Option Addr) (c_4 : Nat) (b_6 : Nat) (A_7 : Option Addr) (c_8 : Nat) (A_10 : Option Addr) (c_11 : Nat) (w0 : World) (S0 : Fam) : Cx (Bool × T_rlog_Log × T_tontineref07_Log) := ⟨Try.prog, 28, Try.f28, 117, w0, S0, [1, 2, 3, 4], 4, tontinelaw07_both.R b_2 A_3 c_4 b_6 A_7 c_8 A_10 c_11⟩
theorem tontinelaw07_both_ok (n : Nat) (g_1 : T_rlog_Log) (m_5 : T_tontineref07_Log) (c_9 : T_tontinelaw07_Call) (b_2 : Nat) (A_3 : Option Addr) (c_4 : Nat) (b_6 : Nat) (A_7 : Option Addr) (c_8 : Nat) (A_10 : Option Addr) (c_11 : Nat) :
    Meets Try.prog 28 [vP b_2, vP b_6, .agg ⟨[vI c_9.Kind, vU c_9.Index, vU c_9.Term, vI c_9.What, .string (bs c_9.Data), .slice A_10 c_9.L.length c_11, vU c_9.Snap.Index, vU c_9.Snap.Term, vU c_9.Snap.Config, .string (bs c_9.Snap.Data)]⟩] 4 [1, 2, 3, 4] [⟨1, b_2, [vU g_1.snap.Index, vU g_1.snap.Term, vU g_1.snap.Config, .string (bs g_1.snap.Data), .slice A_3 g_1.entries.length c_4]⟩, ⟨3, b_6, [vU m_5.Snap.Index, vU m_5.Snap.Term, vU m_5.Snap.Config, .string (bs m_5.Snap.Data), .slice A_7 m_5.L.length c_8]⟩] [Ow 2 kT_api_Entry A_3 c_4 g_1.entries, Ow 4 kT_api_Entry A_7 c_8 m_5.L, Rd 0 kT_api_Entry A_10 c_11 c_9.L] (tontinelaw07_both.f n g_1 m_5 c_9) (tontinelaw07_both.R b_2 A_3 c_4 b_6 A_7 c_8 A_10 c_11) := by
  refine Meets.of (c := c28_0) (n := 117) Try.func28 (by kernel_rfl) (by kernel_rfl) (by kernel_rfl) fun w0 S0 => ?_
  unfold tontinelaw07_both.f
  show GoO (tontinelaw07_both.cx b_2 A_3 c_4 b_6 A_7 c_8 A_10 c_11 w0 S0) [(0, vP b_2), (1, vP b_6), (2, .agg ⟨[vI c_9.Kind, vU c_9.Index, vU c_9.Term, vI c_9.What, .string (bs c_9.Data), .slice A_10 c_9.L.length c_11, vU c_9.Snap.Index, vU c_9.Snap.Term, vU c_9.Snap.Config, .string (bs c_9.Snap.Data)]⟩)] [⟨1, b_2, [vU g_1.snap.Index, vU g_1.snap.Term, vU g_1.snap.Config, .string (bs g_1.snap.Data), .slice A_3 g_1.entries.length c_4]⟩, ⟨3, b_6, [vU m_5.Snap.Index, vU m_5.Snap.Term, vU m_5.Snap.Config, .string (bs m_5.Snap.Data), .slice A_7 m_5.L.length c_8]⟩] [Ow 2 kT_api_Entry A_3 c_4 g_1.entries, Ow 4 kT_api_Entry A_7 c_8 m_5.L, Rd 0 kT_api_Entry A_10 c_11 c_9.L] [.code c28_0] _
  refine GoO.seq' c28_0e ?_
  refine GoO.region' (is := [0, 1]) c28_1e (by kernel_rfl) ?_
  refine OpTo.go (GoO.new rfl 40 (cs := [vI c_9.Kind, vU c_9.Index, vU c_9.Term, vI c_9.What, .string (bs c_9.Data), .slice A_10 c_9.L.length c_11, vU c_9.Snap.Index, vU c_9.Snap.Term, vU c_9.Snap.Config, .string (bs c_9.Snap.Data)]) (by kernel_rfl) _ (fun _ => rfl) (fun b_12 => ?_))
  refine GoO.exec (is := [1]) (hs := [.p]) (rest := []) (ks := [0, 1, 5]) (env' := [(0, vP b_2), (1, vP b_6), (5, vP b_12)]) (H' := [⟨40, b_12, [vI c_9.Kind, vU c_9.Index, vU c_9.Term, vI c_9.What, .string (bs c_9.Data), .slice A_10 c_9.L.length c_11, vU c_9.Snap.Index, vU c_9.Snap.Term, vU c_9.Snap.Config, .string (bs c_9.Snap.Data)]⟩, ⟨1, b_2, [vU g_1.snap.Index, vU g_1.snap.Term, vU g_1.snap.Config, .string (bs g_1.snap.Data), .slice A_3 g_1.entries.length c_4]⟩, ⟨3, b_6, [vU m_5.Snap.Index, vU m_5.Snap.Term, vU m_5.Snap.Config, .string (bs m_5.Snap.Data), .slice A_7 m_5.L.length c_8]⟩]) (ps := []) (by kernel_rfl) trivial ?_
  refine GoO.regionEnd ?_
  refine GoO.seq' c28_2e ?_
  refine GoO.seq' c28_3e ?_
  refine GoO.region' (is := [0, 1]) c28_4e (by kernel_rfl) ?_
  refine GoO.exec (is := [0, 1]) (hs := [.p, .b 0]) (rest := []) (ks := [0, 1, 5, 16]) (env' := [(0, vP b_2), (1, vP b_6), (5, vP b_12), (16, vI c_9.Kind)]) (H' := [⟨40, b_12, [vI c_9.Kind, vU c_9.Index, vU c_9.Term, vI c_9.What, .string (bs c_9.Data), .slice A_10 c_9.L.length c_11, vU c_9.Snap.Index, vU c_9.Snap.Term, vU c_9.Snap.Config, .string (bs c_9.Snap.Data)]⟩, ⟨1, b_2, [vU g_1.snap.Index, vU g_1.snap.Term, vU g_1.snap.Config, .string (bs g_1.snap.Data), .slice A_3 g_1.entries.length c_4]⟩, ⟨3, b_6, [vU m_5.Snap.Index, vU m_5.Snap.Term, vU m_5.Snap.Config, .string (bs m_5.Snap.Data), .slice A_7 m_5.L.length c_8]⟩]) (ps := [b_12 = b_12]) (by kernel_rfl) (And.intro rfl trivial) ?_
  refine GoO.regionEnd ?_
  refine GoO.block' c28_5e ?_
  refine GoO.seq' c28_6e ?_
  refine GoO.region' (is := [0, 1]) c28_7e (by kernel_rfl) ?_
  refine GoO.exec (is := [0, 1]) (hs := [.p, .p]) (rest := []) (ks := [0, 1, 5, 16, 17]) (env' := [(0, vP b_2), (1, vP b_6), (5, vP b_12), (16, vI c_9.Kind), (17, .bool (c_9.Kind == 0))]) (H' := [⟨40, b_12, [vI c_9.Kind, vU c_9.Index, vU c_9.Term, vI c_9.What, .string (bs c_9.Data), .slice A_10 c_9.L.length c_11, vU c_9.Snap.Index, vU c_9.Snap.Term, vU c_9.Snap.Config, .string (bs c_9.Snap.Data)]⟩, ⟨1, b_2, [vU g_1.snap.Index, vU g_1.snap.Term, vU g_1.snap.Config, .string (bs g_1.snap.Data), .slice A_3 g_1.entries.length c_4]⟩, ⟨3, b_6, [vU m_5.Snap.Index, vU m_5.Snap.Term, vU m_5.Snap.Config, .string (bs m_5.Snap.Data), .slice A_7 m_5.L.length c_8]⟩]) (ps := []) (by kernel_rfl) trivial ?_
  refine GoO.regionEnd ?_
  refine GoO.ite' c28_8e (by kernel_rfl) (fun h13 => ?_) (fun h13 => ?_)
  · refine GoO.seq' c28_9e ?_
    refine GoO.region' (is := [0, 1, 2, 3, 4, 5, 6, 7, 8, 9, 10, 11, 12, 13]) c28_10e (by kernel_rfl) ?_
    refine GoO.exec (is := [0, 1, 2, 3, 4, 5, 6]) (hs := [.p, .p, .b 0, .p, .b 0, .p, .b 0]) (rest := [7, 8, 9, 10, 11, 12, 13]) (ks := [1, 5, 20, 22, 24, 26]) (env' := [(1, vP b_6), (5, vP b_12), (20, vP b_2), (22, vU c_9.Term), (24, vI c_9.What), (26, .string (bs c_9.Data))]) (H' := [⟨40, b_12, [vI c_9.Kind, vU c_9.Index, vU c_9.Term, vI c_9.What, .string (bs c_9.Data), .slice A_10 c_9.L.length c_11, vU c_9.Snap.Index, vU c_9.Snap.Term, vU c_9.Snap.Config, .string (bs c_9.Snap.Data)]⟩, ⟨1, b_2, [vU g_1.snap.Index, vU g_1.snap.Term, vU g_1.snap.Config, .string (bs g_1.snap.Data), .slice A_3 g_1.entries.length c_4]⟩, ⟨3, b_6, [vU m_5.Snap.Index, vU m_5.Snap.Term, vU m_5.Snap.Config, .string (bs m_5.Snap.Data), .slice A_7 m_5.L.length c_8]⟩]) (ps := [b_12 = b_12, b_12 = b_12, b_12 = b_12]) (by kernel_rfl) (And.intro rfl (And.intro rfl (And.intro rfl trivial))) ?_
    refine OpTo.go (GoO.call rfl (by kernel_rfl) (by kernel_rfl) (rlog_Log_Add_ok n (⟨(⟨g_1.snap.Index, g_1.snap.Term, g_1.snap.Config, g_1.snap.Data⟩ : T_api_Snapshot), g_1.entries⟩ : T_rlog_Log) c_9.Term c_9.What c_9.Data b_2 A_3 c_4) [[0], [1], [2]] [(1, 1), (2, 2)] [(1, 1)] [(2, 0)] (hks := [0, 2]) (bks := [1, 2]) (by kernel_rfl) (by kernel_rfl) (by kernel_rfl) (.inl rfl) rfl rfl (by kernel_rfl) (by kernel_rfl) _ (fun _ _ => rfl) _ _ (fun _ _ => rfl) (fun _ _ => rfl) (fun _ _ => by kernel_rfl) (fun _ _ => by kernel_rfl) (fun r_14 x_24 => ?_))
    obtain ⟨A_15, c_16⟩ := x_24
    refine GoO.shape (env' := [(1, vP b_6), (5, vP b_12), (20, vP b_2), (22, vU c_9.Term), (24, vI c_9.What), (26, .string (bs c_9.Data)), (27, .tuple ⟨[.agg ⟨[vU r_14.1.Term, vU r_14.1.Index, vI r_14.1.Kind, .string (bs r_14.1.Data)]⟩, vI r_14.2.1]⟩)]) (H' := [⟨1, b_2, [vU r_14.2.2.snap.Index, vU r_14.2.2.snap.Term, vU r_14.2.2.snap.Config, .string (bs r_14.2.2.snap.Data), .slice A_15 r_14.2.2.entries.length c_16]⟩, ⟨40, b_12, [vI c_9.Kind, vU c_9.Index, vU c_9.Term, vI c_9.What, .string (bs c_9.Data), .slice A_10 c_9.L.length c_11, vU c_9.Snap.Index, vU c_9.Snap.Term, vU c_9.Snap.Config, .string (bs c_9.Snap.Data)]⟩, ⟨3, b_6, [vU m_5.Snap.Index, vU m_5.Snap.Term, vU m_5.Snap.Config, .string (bs m_5.Snap.Data), .slice A_7 m_5.L.length c_8]⟩]) (B' := [Ow 2 kT_api_Entry A_15 c_16 r_14.2.2.entries, Ow 4 kT_api_Entry A_7 c_8 m_5.L, Rd 0 kT_api_Entry A_10 c_11 c_9.L]) (ks := [1, 5, 20, 22, 24, 26, 27]) (by kernel_rfl) (by kernel_rfl) (by kernel_rfl) ?_
    refine GoO.exec (is := [8, 9, 10]) (hs := [.p, .p, .p]) (rest := [11, 12, 13]) (ks := [1, 5, 28, 29]) (env' := [(1, vP b_6), (5, vP b_12), (28, .agg ⟨[vU r_14.1.Term, vU r_14.1.Index, vI r_14.1.Kind, .string (bs r_14.1.Data)]⟩), (29, vI r_14.2.1)]) (H' := [⟨1, b_2, [vU r_14.2.2.snap.Index, vU r_14.2.2.snap.Term, vU r_14.2.2.snap.Config, .string (bs r_14.2.2.snap.Data), .slice A_15 r_14.2.2.entries.length c_16]⟩, ⟨40, b_12, [vI c_9.Kind, vU c_9.Index, vU c_9.Term, vI c_9.What, .string (bs c_9.Data), .slice A_10 c_9.L.length c_11, vU c_9.Snap.Index, vU c_9.Snap.Term, vU c_9.Snap.Config, .string (bs c_9.Snap.Data)]⟩, ⟨3, b_6, [vU m_5.Snap.Index, vU m_5.Snap.Term, vU m_5.Snap.Config, .string (bs m_5.Snap.Data), .slice A_7 m_5.L.length c_8]⟩]) (ps := []) (by kernel_rfl) trivial ?_
    refine OpTo.go (GoO.new rfl 41 (cs := [vU 0, vU 0, vI 0, .string (bs [])]) (by kernel_rfl) _ (fun _ => rfl) (fun b_17 => ?_))
    refine GoO.exec (is := [12, 13]) (hs := [.b 0, .p]) (rest := []) (ks := [1, 5, 7, 8]) (env' := [(1, vP b_6), (5, vP b_12), (7, vP b_17), (8, vI r_14.2.1)]) (H' := [⟨41, b_17, [vU r_14.1.Term, vU r_14.1.Index, vI r_14.1.Kind, .string (bs r_14.1.Data)]⟩, ⟨1, b_2, [vU r_14.2.2.snap.Index, vU r_14.2.2.snap.Term, vU r_14.2.2.snap.Config, .string (bs r_14.2.2.snap.Data), .slice A_15 r_14.2.2.entries.length c_16]⟩, ⟨40, b_12, [vI c_9.Kind, vU c_9.Index, vU c_9.Term, vI c_9.What, .string (bs c_9.Data), .slice A_10 c_9.L.length c_11, vU c_9.Snap.Index, vU c_9.Snap.Term, vU c_9.Snap.Config, .string (bs c_9.Snap.Data)]⟩, ⟨3, b_6, [vU m_5.Snap.Index, vU m_5.Snap.Term, vU m_5.Snap.Config, .string (bs m_5.Snap.Data), .slice A_7 m_5.L.length c_8]⟩]) (ps := [b_17 = b_17]) (by kernel_rfl) (And.intro rfl trivial) ?_
    refine GoO.regionEnd ?_
    refine GoO.seq' c28_11e ?_
    refine GoO.region' (is := [0, 1, 2, 3, 4, 5, 6, 7, 8, 9, 10, 11, 12, 13]) c28_12e (by kernel_rfl) ?_
    refine GoO.exec (is := [0, 1, 2, 3, 4, 5, 6]) (hs := [.p, .p, .b 2, .p, .b 2, .p, .b 2]) (rest := [7, 8, 9, 10, 11, 12, 13]) (ks := [7, 8, 31, 33, 35, 37]) (env' := [(7, vP b_17), (8, vI r_14.2.1), (31, vP b_6), (33, vU c_9.Term), (35, vI c_9.What), (37, .string (bs c_9.Data))]) (H' := [⟨41, b_17, [vU r_14.1.Term, vU r_14.1.Index, vI r_14.1.Kind, .string (bs r_14.1.Data)]⟩, ⟨1, b_2, [vU r_14.2.2.snap.Index, vU r_14.2.2.snap.Term, vU r_14.2.2.snap.Config, .string (bs r_14.2.2.snap.Data), .slice A_15 r_14.2.2.entries.length c_16]⟩, ⟨40, b_12, [vI c_9.Kind, vU c_9.Index, vU c_9.Term, vI c_9.What, .string (bs c_9.Data), .slice A_10 c_9.L.length c_11, vU c_9.Snap.Index, vU c_9.Snap.Term, vU c_9.Snap.Config, .string (bs c_9.Snap.Data)]⟩, ⟨3, b_6, [vU m_5.Snap.Index, vU m_5.Snap.Term, vU m_5.Snap.Config, .string (bs m_5.Snap.Data), .slice A_7 m_5.L.length c_8]⟩]) (ps := [b_12 = b_12, b_12 = b_12, b_12 = b_12]) (by kernel_rfl) (And.intro rfl (And.intro rfl (And.intro rfl trivial))) ?_
    refine OpTo.go (GoO.call rfl (by kernel_rfl) (by kernel_rfl) (tontineref07_Log_Add_ok n (⟨(⟨m_5.Snap.Index, m_5.Snap.Term, m_5.Snap.Config, m_5.Snap.Data⟩ : T_api_Snapshot), m_5.L⟩ : T_tontineref07_Log) c_9.Term c_9.What c_9.Data b_6 A_7 c_8) [[0], [3], [4]] [(3, 1), (4, 2)] [(1, 3)] [(2, 1)] (hks := [0, 1, 2]) (bks := [0, 2]) (by kernel_rfl) (by kernel_rfl) (by kernel_rfl) (.inl rfl) rfl rfl (by kernel_rfl) (by kernel_rfl) _ (fun _ _ => rfl) _ _ (fun _ _ => rfl) (fun _ _ => rfl) (fun _ _ => by kernel_rfl) (fun _ _ => by kernel_rfl) (fun r_18 x_23 => ?_))
    obtain ⟨A_19, c_20⟩ := x_23
    refine GoO.shape (env' := [(7, vP b_17), (8, vI r_14.2.1), (31, vP b_6), (33, vU c_9.Term), (35, vI c_9.What), (37, .string (bs c_9.Data)), (38, .tuple ⟨[.agg ⟨[vU r_18.1.Term, vU r_18.1.Index, vI r_18.1.Kind, .string (bs r_18.1.Data)]⟩, vI r_18.2.1]⟩)]) (H' := [⟨3, b_6, [vU r_18.2.2.Snap.Index, vU r_18.2.2.Snap.Term, vU r_18.2.2.Snap.Config, .string (bs r_18.2.2.Snap.Data), .slice A_19 r_18.2.2.L.length c_20]⟩, ⟨41, b_17, [vU r_14.1.Term, vU r_14.1.Index, vI r_14.1.Kind, .string (bs r_14.1.Data)]⟩, ⟨1, b_2, [vU r_14.2.2.snap.Index, vU r_14.2.2.snap.Term, vU r_14.2.2.snap.Config, .string (bs r_14.2.2.snap.Data), .slice A_15 r_14.2.2.entries.length c_16]⟩, ⟨40, b_12, [vI c_9.Kind, vU c_9.Index, vU c_9.Term, vI c_9.What, .string (bs c_9.Data), .slice A_10 c_9.L.length c_11, vU c_9.Snap.Index, vU c_9.Snap.Term, vU c_9.Snap.Config, .string (bs c_9.Snap.Data)]⟩]) (B' := [Ow 4 kT_api_Entry A_19 c_20 r_18.2.2.L, Ow 2 kT_api_Entry A_15 c_16 r_14.2.2.entries, Rd 0 kT_api_Entry A_10 c_11 c_9.L]) (ks := [7, 8, 31, 33, 35, 37, 38]) (by kernel_rfl) (by kernel_rfl) (by kernel_rfl) ?_
    refine GoO.exec (is := [8, 9, 10]) (hs := [.p, .p, .p]) (rest := [11, 12, 13]) (ks := [7, 8, 39, 40]) (env' := [(7, vP b_17), (8, vI r_14.2.1), (39, .agg ⟨[vU r_18.1.Term, vU r_18.1.Index, vI r_18.1.Kind, .string (bs r_18.1.Data)]⟩), (40, vI r_18.2.1)]) (H' := [⟨3, b_6, [vU r_18.2.2.Snap.Index, vU r_18.2.2.Snap.Term, vU r_18.2.2.Snap.Config, .string (bs r_18.2.2.Snap.Data), .slice A_19 r_18.2.2.L.length c_20]⟩, ⟨41, b_17, [vU r_14.1.Term, vU r_14.1.Index, vI r_14.1.Kind, .string (bs r_14.1.Data)]⟩, ⟨1, b_2, [vU r_14.2.2.snap.Index, vU r_14.2.2.snap.Term, vU r_14.2.2.snap.Config, .string (bs r_14.2.2.snap.Data), .slice A_15 r_14.2.2.entries.length c_16]⟩, ⟨40, b_12, [vI c_9.Kind, vU c_9.Index, vU c_9.Term, vI c_9.What, .string (bs c_9.Data), .slice A_10 c_9.L.length c_11, vU c_9.Snap.Index, vU c_9.Snap.Term, vU c_9.Snap.Config, .string (bs c_9.Snap.Data)]⟩]) (ps := []) (by kernel_rfl) trivial ?_
    refine OpTo.go (GoO.new rfl 42 (cs := [vU 0, vU 0, vI 0, .string (bs [])]) (by kernel_rfl) _ (fun _ => rfl) (fun b_21 => ?_))
    refine GoO.exec (is := [12, 13]) (hs := [.b 0, .p]) (rest := []) (ks := [7, 8, 9, 10]) (env' := [(7, vP b_17), (8, vI r_14.2.1), (9, vP b_21), (10, vI r_18.2.1)]) (H' := [⟨42, b_21, [vU r_18.1.Term, vU r_18.1.Index, vI r_18.1.Kind, .string (bs r_18.1.Data)]⟩, ⟨3, b_6, [vU r_18.2.2.Snap.Index, vU r_18.2.2.Snap.Term, vU r_18.2.2.Snap.Config, .string (bs r_18.2.2.Snap.Data), .slice A_19 r_18.2.2.L.length c_20]⟩, ⟨41, b_17, [vU r_14.1.Term, vU r_14.1.Index, vI r_14.1.Kind, .string (bs r_14.1.Data)]⟩, ⟨1, b_2, [vU r_14.2.2.snap.Index, vU r_14.2.2.snap.Term, vU r_14.2.2.snap.Config, .string (bs r_14.2.2.snap.Data), .slice A_15 r_14.2.2.entries.length c_16]⟩, ⟨40, b_12, [vI c_9.Kind, vU c_9.Index, vU c_9.Term, vI c_9.What, .string (bs c_9.Data), .slice A_10 c_9.L.length c_11, vU c_9.Snap.Index, vU c_9.Snap.Term, vU c_9.Snap.Config, .string (bs c_9.Snap.Data)]⟩]) (ps := [b_21 = b_21]) (by kernel_rfl) (And.intro rfl trivial) ?_
    refine GoO.regionEnd ?_
    refine GoO.seq' c28_13e ?_
    refine GoO.region' (is := [0, 1, 2, 3, 4, 5, 6, 7, 8]) c28_14e (by kernel_rfl) ?_
    refine GoO.exec (is := [0, 1, 2, 3]) (hs := [.b 2, .b 0, .p, .p]) (rest := [4, 5, 6, 7, 8]) (ks := [8, 10, 44]) (env' := [(8, vI r_14.2.1), (10, vI r_18.2.1), (44, .bool ((r_14.1.Term == r_18.1.Term) && ((r_14.1.Index == r_18.1.Index) && ((r_14.1.Kind == r_18.1.Kind) && ((r_14.1.Data == r_18.1.Data) && true)))))]) (H' := [⟨42, b_21, [vU r_18.1.Term, vU r_18.1.Index, vI r_18.1.Kind, .string (bs r_18.1.Data)]⟩, ⟨3, b_6, [vU r_18.2.2.Snap.Index, vU r_18.2.2.Snap.Term, vU r_18.2.2.Snap.Config, .string (bs r_18.2.2.Snap.Data), .slice A_19 r_18.2.2.L.length c_20]⟩, ⟨41, b_17, [vU r_14.1.Term, vU r_14.1.Index, vI r_14.1.Kind, .string (bs r_14.1.Data)]⟩, ⟨1, b_2, [vU r_14.2.2.snap.Index, vU r_14.2.2.snap.Term, vU r_14.2.2.snap.Config, .string (bs r_14.2.2.snap.Data), .slice A_15 r_14.2.2.entries.length c_16]⟩, ⟨40, b_12, [vI c_9.Kind, vU c_9.Index, vU c_9.Term, vI c_9.What, .string (bs c_9.Data), .slice A_10 c_9.L.length c_11, vU c_9.Snap.Index, vU c_9.Snap.Term, vU c_9.Snap.Config, .string (bs c_9.Snap.Data)]⟩]) (ps := [b_17 = b_17, b_21 = b_21]) (by kernel_rfl) (And.intro rfl (And.intro rfl trivial)) ?_
    refine GoO.bsplit (t := 44) (by kernel_rfl) (fun h22 => ?_) (fun h22 => ?_)
    · refine GoO.exec (is := [4, 5, 6, 7, 8]) (hs := [.p, .p, .p, .p, .p]) (rest := []) (ks := [6]) (env' := [(6, .bool (r_14.2.1 == r_18.2.1))]) (H' := [⟨42, b_21, [vU r_18.1.Term, vU r_18.1.Index, vI r_18.1.Kind, .string (bs r_18.1.Data)]⟩, ⟨3, b_6, [vU r_18.2.2.Snap.Index, vU r_18.2.2.Snap.Term, vU r_18.2.2.Snap.Config, .string (bs r_18.2.2.Snap.Data), .slice A_19 r_18.2.2.L.length c_20]⟩, ⟨41, b_17, [vU r_14.1.Term, vU r_14.1.Index, vI r_14.1.Kind, .string (bs r_14.1.Data)]⟩, ⟨1, b_2, [vU r_14.2.2.snap.Index, vU r_14.2.2.snap.Term, vU r_14.2.2.snap.Config, .string (bs r_14.2.2.snap.Data), .slice A_15 r_14.2.2.entries.length c_16]⟩, ⟨40, b_12, [vI c_9.Kind, vU c_9.Index, vU c_9.Term, vI c_9.What, .string (bs c_9.Data), .slice A_10 c_9.L.length c_11, vU c_9.Snap.Index, vU c_9.Snap.Term, vU c_9.Snap.Config, .string (bs c_9.Snap.Data)]⟩]) (ps := []) (by kernel_rfl) trivial ?_
      refine GoO.regionEnd ?_
      exact GoO.ret' (h := c28_15e) (hs := []) (ps := []) (hk := [3, 1]) (bk := [1, 0]) Try.func28 (⟨A_15, c_16, A_19, c_20⟩ : Option Addr × Nat × Option Addr × Nat) (by kernel_rfl) trivial (by kernel_rfl) (by kernel_rfl)
    · refine GoO.exec (is := [4, 5, 6, 7, 8]) (hs := [.p, .p, .p, .p, .p]) (rest := []) (ks := [6]) (env' := [(6, .bool false)]) (H' := [⟨42, b_21, [vU r_18.1.Term, vU r_18.1.Index, vI r_18.1.Kind, .string (bs r_18.1.Data)]⟩, ⟨3, b_6, [vU r_18.2.2.Snap.Index, vU r_18.2.2.Snap.Term, vU r_18.2.2.Snap.Config, .string (bs r_18.2.2.Snap.Data), .slice A_19 r_18.2.2.L.length c_20]⟩, ⟨41, b_17, [vU r_14.1.Term, vU r_14.1.Index, vI r_14.1.Kind, .string (bs r_14.1.Data)]⟩, ⟨1, b_2, [vU r_14.2.2.snap.Index, vU r_14.2.2.snap.Term, vU r_14.2.2.snap.Config, .string (bs r_14.2.2.snap.Data), .slice A_15 r_14.2.2.entries.length c_16]⟩, ⟨40, b_12, [vI c_9.Kind, vU c_9.Index, vU c_9.Term, vI c_9.What, .string (bs c_9.Data), .slice A_10 c_9.L.length c_11, vU c_9.Snap.Index, vU c_9.Snap.Term, vU c_9.Snap.Config, .string (bs c_9.Snap.Data)]⟩]) (ps := []) (by kernel_rfl) trivial ?_
      refine GoO.regionEnd ?_
      exact GoO.ret' (h := c28_15e) (hs := []) (ps := []) (hk := [3, 1]) (bk := [1, 0]) Try.func28 (⟨A_15, c_16, A_19, c_20⟩ : Option Addr × Nat × Option Addr × Nat) (by kernel_rfl) trivial (by kernel_rfl) (by kernel_rfl)
  · refine GoO.seq' c28_16e ?_
    refine GoO.region' (is := [0, 1]) c28_17e (by kernel_rfl) ?_
    refine GoO.exec (is := [0, 1]) (hs := [.p, .p]) (rest := []) (ks := [0, 1, 5, 16, 49]) (env' := [(0, vP b_2), (1, vP b_6), (5, vP b_12), (16, vI c_9.Kind), (49, .bool (c_9.Kind == 1))]) (H' := [⟨40, b_12, [vI c_9.Kind, vU c_9.Index, vU c_9.Term, vI c_9.What, .string (bs c_9.Data), .slice A_10 c_9.L.length c_11, vU c_9.Snap.Index, vU c_9.Snap.Term, vU c_9.Snap.Config, .string (bs c_9.Snap.Data)]⟩, ⟨1, b_2, [vU g_1.snap.Index, vU g_1.snap.Term, vU g_1.snap.Config, .string (bs g_1.snap.Data), .slice A_3 g_1.entries.length c_4]⟩, ⟨3, b_6, [vU m_5.Snap.Index, vU m_5.Snap.Term, vU m_5.Snap.Config, .string (bs m_5.Snap.Data), .slice A_7 m_5.L.length c_8]⟩]) (ps := []) (by kernel_rfl) trivial ?_
    refine GoO.regionEnd ?_
    refine GoO.ite' c28_18e (by kernel_rfl) (fun h25 => ?_) (fun h25 => ?_)
    · refine GoO.seq' c28_19e ?_
      refine GoO.region' (is := [0, 1, 2, 3, 4, 5, 6, 7, 8, 9, 10, 11, 12]) c28_20e (by kernel_rfl) ?_
      refine GoO.exec (is := [0, 1, 2, 3, 4, 5, 6]) (hs := [.p, .p, .b 0, .p, .b 0, .p, .b 0]) (rest := [7, 8, 9, 10, 11, 12]) (ks := [1, 5, 52, 54, 56, 58]) (env' := [(1, vP b_6), (5, vP b_12), (52, vP b_2), (54, vU c_9.Index), (56, vU c_9.Term), (58, .slice A_10 c_9.L.length c_11)]) (H' := [⟨40, b_12, [vI c_9.Kind, vU c_9.Index, vU c_9.Term, vI c_9.What, .string (bs c_9.Data), .slice A_10 c_9.L.length c_11, vU c_9.Snap.Index, vU c_9.Snap.Term, vU c_9.Snap.Config, .string (bs c_9.Snap.Data)]⟩, ⟨1, b_2, [vU g_1.snap.Index, vU g_1.snap.Term, vU g_1.snap.Config, .string (bs g_1.snap.Data), .slice A_3 g_1.entries.length c_4]⟩, ⟨3, b_6, [vU m_5.Snap.Index, vU m_5.Snap.Term, vU m_5.Snap.Config, .string (bs m_5.Snap.Data), .slice A_7 m_5.L.length c_8]⟩]) (ps := [b_12 = b_12, b_12 = b_12, b_12 = b_12]) (by kernel_rfl) (And.intro rfl (And.intro rfl (And.intro rfl trivial))) ?_
      refine OpTo.go (GoO.call rfl (by kernel_rfl) (by kernel_rfl) (rlog_Log_Merge_ok n (⟨(⟨g_1.snap.Index, g_1.snap.Term, g_1.snap.Config, g_1.snap.Data⟩ : T_api_Snapshot), g_1.entries⟩ : T_rlog_Log) c_9.Index c_9.Term c_9.L b_2 A_3 c_4 A_10 c_11) [[0], [1], [2]] [(1, 1), (2, 2), (43, 3)] [(1, 1)] [(2, 0), (0, 2)] (hks := [0, 2]) (bks := [1, 2]) (by kernel_rfl) (by kernel_rfl) (by kernel_rfl) (.inl rfl) rfl rfl (by kernel_rfl) (by kernel_rfl) _ (fun _ _ => rfl) _ _ (fun _ _ => rfl) (fun _ _ => rfl) (fun _ _ => by kernel_rfl) (fun _ _ => by kernel_rfl) (fun r_26 x_40 => ?_))
      obtain ⟨A_27, c_28, A_29, c_30⟩ := x_40
      refine GoO.shape (env' := [(1, vP b_6), (5, vP b_12), (52, vP b_2), (54, vU c_9.Index), (56, vU c_9.Term), (58, .slice A_10 c_9.L.length c_11), (59, .tuple ⟨[.slice A_27 r_26.1.length c_28, .bool r_26.2.1]⟩)]) (H' := [⟨1, b_2, [vU r_26.2.2.snap.Index, vU r_26.2.2.snap.Term, vU r_26.2.2.snap.Config, .string (bs r_26.2.2.snap.Data), .slice A_29 r_26.2.2.entries.length c_30]⟩, ⟨40, b_12, [vI c_9.Kind, vU c_9.Index, vU c_9.Term, vI c_9.What, .string (bs c_9.Data), .slice A_10 c_9.L.length c_11, vU c_9.Snap.Index, vU c_9.Snap.Term, vU c_9.Snap.Config, .string (bs c_9.Snap.Data)]⟩, ⟨3, b_6, [vU m_5.Snap.Index, vU m_5.Snap.Term, vU m_5.Snap.Config, .string (bs m_5.Snap.Data), .slice A_7 m_5.L.length c_8]⟩]) (B' := [Ow 43 kT_api_Entry A_27 c_28 r_26.1, Ow 2 kT_api_Entry A_29 c_30 r_26.2.2.entries, Ow 4 kT_api_Entry A_7 c_8 m_5.L, Rd 0 kT_api_Entry A_10 c_11 c_9.L]) (ks := [1, 5, 52, 54, 56, 58, 59]) (by kernel_rfl) (by kernel_rfl) (by kernel_rfl) ?_
      refine GoO.exec (is := [8, 9, 10, 11, 12]) (hs := [.p, .p, .p, .p, .p]) (rest := []) (ks := [1, 5, 11, 12]) (env' := [(1, vP b_6), (5, vP b_12), (11, .slice A_27 r_26.1.length c_28), (12, .bool r_26.2.1)]) (H' := [⟨1, b_2, [vU r_26.2.2.snap.Index, vU r_26.2.2.snap.Term, vU r_26.2.2.snap.Config, .string (bs r_26.2.2.snap.Data), .slice A_29 r_26.2.2.entries.length c_30]⟩, ⟨40, b_12, [vI c_9.Kind, vU c_9.Index, vU c_9.Term, vI c_9.What, .string (bs c_9.Data), .slice A_10 c_9.L.length c_11, vU c_9.Snap.Index, vU c_9.Snap.Term, vU c_9.Snap.Config, .string (bs c_9.Snap.Data)]⟩, ⟨3, b_6, [vU m_5.Snap.Index, vU m_5.Snap.Term, vU m_5.Snap.Config, .string (bs m_5.Snap.Data), .slice A_7 m_5.L.length c_8]⟩]) (ps := []) (by kernel_rfl) trivial ?_
      refine GoO.regionEnd ?_
      refine GoO.seq' c28_21e ?_
      refine GoO.region' (is := [0, 1, 2, 3, 4, 5, 6, 7, 8, 9, 10, 11, 12]) c28_22e (by kernel_rfl) ?_
      refine GoO.exec (is := [0, 1, 2, 3, 4, 5, 6]) (hs := [.p, .p, .b 1, .p, .b 1, .p, .b 1]) (rest := [7, 8, 9, 10, 11, 12]) (ks := [11, 12, 63, 65, 67, 69]) (env' := [(11, .slice A_27 r_26.1.length c_28), (12, .bool r_26.2.1), (63, vP b_6), (65, vU c_9.Index), (67, vU c_9.Term), (69, .slice A_10 c_9.L.length c_11)]) (H' := [⟨1, b_2, [vU r_26.2.2.snap.Index, vU r_26.2.2.snap.Term, vU r_26.2.2.snap.Config, .string (bs r_26.2.2.snap.Data), .slice A_29 r_26.2.2.entries.length c_30]⟩, ⟨40, b_12, [vI c_9.Kind, vU c_9.Index, vU c_9.Term, vI c_9.What, .string (bs c_9.Data), .slice A_10 c_9.L.length c_11, vU c_9.Snap.Index, vU c_9.Snap.Term, vU c_9.Snap.Config, .string (bs c_9.Snap.Data)]⟩, ⟨3, b_6, [vU m_5.Snap.Index, vU m_5.Snap.Term, vU m_5.Snap.Config, .string (bs m_5.Snap.Data), .slice A_7 m_5.L.length c_8]⟩]) (ps := [b_12 = b_12, b_12 = b_12, b_12 = b_12]) (by kernel_rfl) (And.intro rfl (And.intro rfl (And.intro rfl trivial))) ?_
      refine OpTo.go (GoO.call rfl (by kernel_rfl) (by kernel_rfl) (tontineref07_Log_Merge_ok n (⟨(⟨m_5.Snap.Index, m_5.Snap.Term, m_5.Snap.Config, m_5.Snap.Data⟩ : T_api_Snapshot), m_5.L⟩ : T_tontineref07_Log) c_9.Index c_9.Term c_9.L b_6 A_7 c_8 A_10 c_11) [[0], [3], [4]] [(3, 1), (4, 2), (44, 3)] [(1, 2)] [(2, 2), (0, 3)] (hks := [0, 1]) (bks := [0, 1, 3]) (by kernel_rfl) (by kernel_rfl) (by kernel_rfl) (.inl rfl) rfl rfl (by kernel_rfl) (by kernel_rfl) _ (fun _ _ => rfl) _ _ (fun _ _ => rfl) (fun _ _ => rfl) (fun _ _ => by kernel_rfl) (fun _ _ => by kernel_rfl) (fun r_31 x_39 => ?_))
      obtain ⟨A_32, c_33, A_34, c_35⟩ := x_39
      refine GoO.shape (env' := [(11, .slice A_27 r_26.1.length c_28), (12, .bool r_26.2.1), (63, vP b_6), (65, vU c_9.Index), (67, vU c_9.Term), (69, .slice A_10 c_9.L.length c_11), (70, .tuple ⟨[.slice A_32 r_31.1.length c_33, .bool r_31.2.1]⟩)]) (H' := [⟨3, b_6, [vU r_31.2.2.Snap.Index, vU r_31.2.2.Snap.Term, vU r_31.2.2.Snap.Config, .string (bs r_31.2.2.Snap.Data), .slice A_34 r_31.2.2.L.length c_35]⟩, ⟨1, b_2, [vU r_26.2.2.snap.Index, vU r_26.2.2.snap.Term, vU r_26.2.2.snap.Config, .string (bs r_26.2.2.snap.Data), .slice A_29 r_26.2.2.entries.length c_30]⟩, ⟨40, b_12, [vI c_9.Kind, vU c_9.Index, vU c_9.Term, vI c_9.What, .string (bs c_9.Data), .slice A_10 c_9.L.length c_11, vU c_9.Snap.Index, vU c_9.Snap.Term, vU c_9.Snap.Config, .string (bs c_9.Snap.Data)]⟩]) (B' := [Ow 44 kT_api_Entry A_32 c_33 r_31.1, Ow 4 kT_api_Entry A_34 c_35 r_31.2.2.L, Ow 43 kT_api_Entry A_27 c_28 r_26.1, Ow 2 kT_api_Entry A_29 c_30 r_26.2.2.entries, Rd 0 kT_api_Entry A_10 c_11 c_9.L]) (ks := [11, 12, 63, 65, 67, 69, 70]) (by kernel_rfl) (by kernel_rfl) (by kernel_rfl) ?_
      refine GoO.exec (is := [8, 9, 10, 11, 12]) (hs := [.p, .p, .p, .p, .p]) (rest := []) (ks := [11, 12, 13, 14]) (env' := [(11, .slice A_27 r_26.1.length c_28), (12, .bool r_26.2.1), (13, .slice A_32 r_31.1.length c_33), (14, .bool r_31.2.1)]) (H' := [⟨3, b_6, [vU r_31.2.2.Snap.Index, vU r_31.2.2.Snap.Term, vU r_31.2.2.Snap.Config, .string (bs r_31.2.2.Snap.Data), .slice A_34 r_31.2.2.L.length c_35]⟩, ⟨1, b_2, [vU r_26.2.2.snap.Index, vU r_26.2.2.snap.Term, vU r_26.2.2.snap.Config, .string (bs r_26.2.2.snap.Data), .slice A_29 r_26.2.2.entries.length c_30]⟩, ⟨40, b_12, [vI c_9.Kind, vU c_9.Index, vU c_9.Term, vI c_9.What, .string (bs c_9.Data), .slice A_10 c_9.L.length c_11, vU c_9.Snap.Index, vU c_9.Snap.Term, vU c_9.Snap.Config, .string (bs c_9.Snap.Data)]⟩]) (ps := []) (by kernel_rfl) trivial ?_
      refine GoO.regionEnd ?_
      refine GoO.seq' c28_23e ?_
      refine GoO.region' (is := [0, 1, 2, 3, 4, 5, 6, 7, 8]) c28_24e (by kernel_rfl) ?_
      refine GoO.exec (is := [0, 1]) (hs := [.p, .p]) (rest := [2, 3, 4, 5, 6, 7, 8]) (ks := [12, 14, 73, 74]) (env' := [(12, .bool r_26.2.1), (14, .bool r_31.2.1), (73, .slice A_27 r_26.1.length c_28), (74, .slice A_32 r_31.1.length c_33)]) (H' := [⟨3, b_6, [vU r_31.2.2.Snap.Index, vU r_31.2.2.Snap.Term, vU r_31.2.2.Snap.Config, .string (bs r_31.2.2.Snap.Data), .slice A_34 r_31.2.2.L.length c_35]⟩, ⟨1, b_2, [vU r_26.2.2.snap.Index, vU r_26.2.2.snap.Term, vU r_26.2.2.snap.Config, .string (bs r_26.2.2.snap.Data), .slice A_29 r_26.2.2.entries.length c_30]⟩, ⟨40, b_12, [vI c_9.Kind, vU c_9.Index, vU c_9.Term, vI c_9.What, .string (bs c_9.Data), .slice A_10 c_9.L.length c_11, vU c_9.Snap.Index, vU c_9.Snap.Term, vU c_9.Snap.Config, .string (bs c_9.Snap.Data)]⟩]) (ps := []) (by kernel_rfl) trivial ?_
      refine GoO.view (j := 2) rfl ?_
      refine GoO.view (j := 0) rfl ?_
      refine OpTo.go (GoO.call rfl (by kernel_rfl) (by kernel_rfl) (tontineref07_Same_ok n r_26.1 r_31.1 A_27 c_28 A_32 c_33) [[0, 43, 44]] [] [] [(0, 5), (0, 6)] (hks := [0, 1, 2]) (bks := [0, 1, 2, 3, 4]) (by kernel_rfl) (by kernel_rfl) (by kernel_rfl) (.inr (fun _ _ => by simp [tontineref07_Same.R])) rfl rfl (by kernel_rfl) (by kernel_rfl) _ (fun _ _ => rfl) _ _ (fun _ _ => rfl) (fun _ _ => rfl) (fun _ _ => by kernel_rfl) (fun _ _ => by kernel_rfl) (fun r_36 x_38 => ?_))
      refine GoO.shape (env' := [(12, .bool r_26.2.1), (14, .bool r_31.2.1), (73, .slice A_27 r_26.1.length c_28), (74, .slice A_32 r_31.1.length c_33), (75, .bool r_36)]) (H' := [⟨3, b_6, [vU r_31.2.2.Snap.Index, vU r_31.2.2.Snap.Term, vU r_31.2.2.Snap.Config, .string (bs r_31.2.2.Snap.Data), .slice A_34 r_31.2.2.L.length c_35]⟩, ⟨1, b_2, [vU r_26.2.2.snap.Index, vU r_26.2.2.snap.Term, vU r_26.2.2.snap.Config, .string (bs r_26.2.2.snap.Data), .slice A_29 r_26.2.2.entries.length c_30]⟩, ⟨40, b_12, [vI c_9.Kind, vU c_9.Index, vU c_9.Term, vI c_9.What, .string (bs c_9.Data), .slice A_10 c_9.L.length c_11, vU c_9.Snap.Index, vU c_9.Snap.Term, vU c_9.Snap.Config, .string (bs c_9.Snap.Data)]⟩]) (B' := [Ow 44 kT_api_Entry A_32 c_33 r_31.1, Ow 4 kT_api_Entry A_34 c_35 r_31.2.2.L, Ow 43 kT_api_Entry A_27 c_28 r_26.1, Ow 2 kT_api_Entry A_29 c_30 r_26.2.2.entries, Rd 0 kT_api_Entry A_10 c_11 c_9.L]) (ks := [12, 14, 73, 74, 75]) (by kernel_rfl) (by kernel_rfl) (by kernel_rfl) ?_
      refine GoO.exec (is := [3]) (hs := [.p]) (rest := [4, 5, 6, 7, 8]) (ks := [12, 14, 76]) (env' := [(12, .bool r_26.2.1), (14, .bool r_31.2.1), (76, .bool r_36)]) (H' := [⟨3, b_6, [vU r_31.2.2.Snap.Index, vU r_31.2.2.Snap.Term, vU r_31.2.2.Snap.Config, .string (bs r_31.2.2.Snap.Data), .slice A_34 r_31.2.2.L.length c_35]⟩, ⟨1, b_2, [vU r_26.2.2.snap.Index, vU r_26.2.2.snap.Term, vU r_26.2.2.snap.Config, .string (bs r_26.2.2.snap.Data), .slice A_29 r_26.2.2.entries.length c_30]⟩, ⟨40, b_12, [vI c_9.Kind, vU c_9.Index, vU c_9.Term, vI c_9.What, .string (bs c_9.Data), .slice A_10 c_9.L.length c_11, vU c_9.Snap.Index, vU c_9.Snap.Term, vU c_9.Snap.Config, .string (bs c_9.Snap.Data)]⟩]) (ps := []) (by kernel_rfl) trivial ?_
      refine GoO.bsplit (t := 76) (by kernel_rfl) (fun h37 => ?_) (fun h37 => ?_)
      · refine GoO.exec (is := [4, 5, 6, 7, 8]) (hs := [.p, .p, .p, .p, .p]) (rest := []) (ks := [6]) (env' := [(6, .bool (r_26.2.1 == r_31.2.1))]) (H' := [⟨3, b_6, [vU r_31.2.2.Snap.Index, vU r_31.2.2.Snap.Term, vU r_31.2.2.Snap.Config, .string (bs r_31.2.2.Snap.Data), .slice A_34 r_31.2.2.L.length c_35]⟩, ⟨1, b_2, [vU r_26.2.2.snap.Index, vU r_26.2.2.snap.Term, vU r_26.2.2.snap.Config, .string (bs r_26.2.2.snap.Data), .slice A_29 r_26.2.2.entries.length c_30]⟩, ⟨40, b_12, [vI c_9.Kind, vU c_9.Index, vU c_9.Term, vI c_9.What, .string (bs c_9.Data), .slice A_10 c_9.L.length c_11, vU c_9.Snap.Index, vU c_9.Snap.Term, vU c_9.Snap.Config, .string (bs c_9.Snap.Data)]⟩]) (ps := []) (by kernel_rfl) trivial ?_
        refine GoO.regionEnd ?_
        exact GoO.ret' (h := c28_25e) (hs := []) (ps := []) (hk := [1, 0]) (bk := [3, 1]) Try.func28 (⟨A_29, c_30, A_34, c_35⟩ : Option Addr × Nat × Option Addr × Nat) (by kernel_rfl) trivial (by kernel_rfl) (by kernel_rfl)
      · refine GoO.exec (is := [4, 5, 6, 7, 8]) (hs := [.p, .p, .p, .p, .p]) (rest := []) (ks := [6]) (env' := [(6, .bool false)]) (H' := [⟨3, b_6, [vU r_31.2.2.Snap.Index, vU r_31.2.2.Snap.Term, vU r_31.2.2.Snap.Config, .string (bs r_31.2.2.Snap.Data), .slice A_34 r_31.2.2.L.length c_35]⟩, ⟨1, b_2, [vU r_26.2.2.snap.Index, vU r_26.2.2.snap.Term, vU r_26.2.2.snap.Config, .string (bs r_26.2.2.snap.Data), .slice A_29 r_26.2.2.entries.length c_30]⟩, ⟨40, b_12, [vI c_9.Kind, vU c_9.Index, vU c_9.Term, vI c_9.What, .string (bs c_9.Data), .slice A_10 c_9.L.length c_11, vU c_9.Snap.Index, vU c_9.Snap.Term, vU c_9.Snap.Config, .string (bs c_9.Snap.Data)]⟩]) (ps := []) (by kernel_rfl) trivial ?_
        refine GoO.regionEnd ?_
        exact GoO.ret' (h := c28_25e) (hs := []) (ps := []) (hk := [1, 0]) (bk := [3, 1]) Try.func28 (⟨A_29, c_30, A_34, c_35⟩ : Option Addr × Nat × Option Addr × Nat) (by kernel_rfl) trivial (by kernel_rfl) (by kernel_rfl)
    · refine GoO.seq' c28_26e ?_
      refine GoO.region' (is := [0, 1]) c28_27e (by kernel_rfl) ?_
      refine GoO.exec (is := [0, 1]) (hs := [.p, .p]) (rest := []) (ks := [0, 1, 5, 16, 81]) (env' := [(0, vP b_2), (1, vP b_6), (5, vP b_12), (16, vI c_9.Kind), (81, .bool (c_9.Kind == 2))]) (H' := [⟨40, b_12, [vI c_9.Kind, vU c_9.Index, vU c_9.Term, vI c_9.What, .string (bs c_9.Data), .slice A_10 c_9.L.length c_11, vU c_9.Snap.Index, vU c_9.Snap.Term, vU c_9.Snap.Config, .string (bs c_9.Snap.Data)]⟩, ⟨1, b_2, [vU g_1.snap.Index, vU g_1.snap.Term, vU g_1.snap.Config, .string (bs g_1.snap.Data), .slice A_3 g_1.entries.length c_4]⟩, ⟨3, b_6, [vU m_5.Snap.Index, vU m_5.Snap.Term, vU m_5.Snap.Config, .string (bs m_5.Snap.Data), .slice A_7 m_5.L.length c_8]⟩]) (ps := []) (by kernel_rfl) trivial ?_
      refine GoO.regionEnd ?_
      refine GoO.ite' c28_28e (by kernel_rfl) (fun h41 => ?_) (fun h41 => ?_)
      · refine GoO.seq' c28_29e ?_
        refine GoO.region' (is := [0, 1, 2, 3]) c28_30e (by kernel_rfl) ?_
        refine GoO.exec (is := [0, 1, 2]) (hs := [.p, .p, .b 0]) (rest := [3]) (ks := [1, 5, 83, 85]) (env' := [(1, vP b_6), (5, vP b_12), (83, vP b_2), (85, vU c_9.Index)]) (H' := [⟨40, b_12, [vI c_9.Kind, vU c_9.Index, vU c_9.Term, vI c_9.What, .string (bs c_9.Data), .slice A_10 c_9.L.length c_11, vU c_9.Snap.Index, vU c_9.Snap.Term, vU c_9.Snap.Config, .string (bs c_9.Snap.Data)]⟩, ⟨1, b_2, [vU g_1.snap.Index, vU g_1.snap.Term, vU g_1.snap.Config, .string (bs g_1.snap.Data), .slice A_3 g_1.entries.length c_4]⟩, ⟨3, b_6, [vU m_5.Snap.Index, vU m_5.Snap.Term, vU m_5.Snap.Config, .string (bs m_5.Snap.Data), .slice A_7 m_5.L.length c_8]⟩]) (ps := [b_12 = b_12]) (by kernel_rfl) (And.intro rfl trivial) ?_
        refine OpTo.go (GoO.call rfl (by kernel_rfl) (by kernel_rfl) (rlog_Log_Cut_ok n (⟨(⟨g_1.snap.Index, g_1.snap.Term, g_1.snap.Config, g_1.snap.Data⟩ : T_api_Snapshot), g_1.entries⟩ : T_rlog_Log) c_9.Index b_2 A_3 c_4) [[0], [1], [2]] [(1, 1), (2, 2)] [(1, 1)] [(2, 0)] (hks := [0, 2]) (bks := [1, 2]) (by kernel_rfl) (by kernel_rfl) (by kernel_rfl) (.inl rfl) rfl rfl (by kernel_rfl) (by kernel_rfl) _ (fun _ _ => rfl) _ _ (fun _ _ => rfl) (fun _ _ => rfl) (fun _ _ => by kernel_rfl) (fun _ _ => by kernel_rfl) (fun r_42 x_49 => ?_))
        obtain ⟨A_43, c_44⟩ := x_49
        refine GoO.shape (env' := [(1, vP b_6), (5, vP b_12), (83, vP b_2), (85, vU c_9.Index), (86, .tuple ⟨[]⟩)]) (H' := [⟨1, b_2, [vU r_42.snap.Index, vU r_42.snap.Term, vU r_42.snap.Config, .string (bs r_42.snap.Data), .slice A_43 r_42.entries.length c_44]⟩, ⟨40, b_12, [vI c_9.Kind, vU c_9.Index, vU c_9.Term, vI c_9.What, .string (bs c_9.Data), .slice A_10 c_9.L.length c_11, vU c_9.Snap.Index, vU c_9.Snap.Term, vU c_9.Snap.Config, .string (bs c_9.Snap.Data)]⟩, ⟨3, b_6, [vU m_5.Snap.Index, vU m_5.Snap.Term, vU m_5.Snap.Config, .string (bs m_5.Snap.Data), .slice A_7 m_5.L.length c_8]⟩]) (B' := [Ow 2 kT_api_Entry A_43 c_44 r_42.entries, Ow 4 kT_api_Entry A_7 c_8 m_5.L, Rd 0 kT_api_Entry A_10 c_11 c_9.L]) (ks := [1, 5, 83, 85, 86]) (by kernel_rfl) (by kernel_rfl) (by kernel_rfl) ?_
        refine GoO.regionEnd ?_
        refine GoO.region' (is := [0, 1, 2, 3]) c28_31e (by kernel_rfl) ?_
        refine GoO.exec (is := [0, 1, 2]) (hs := [.p, .p, .b 1]) (rest := [3]) (ks := [87, 89]) (env' := [(87, vP b_6), (89, vU c_9.Index)]) (H' := [⟨1, b_2, [vU r_42.snap.Index, vU r_42.snap.Term, vU r_42.snap.Config, .string (bs r_42.snap.Data), .slice A_43 r_42.entries.length c_44]⟩, ⟨40, b_12, [vI c_9.Kind, vU c_9.Index, vU c_9.Term, vI c_9.What, .string (bs c_9.Data), .slice A_10 c_9.L.length c_11, vU c_9.Snap.Index, vU c_9.Snap.Term, vU c_9.Snap.Config, .string (bs c_9.Snap.Data)]⟩, ⟨3, b_6, [vU m_5.Snap.Index, vU m_5.Snap.Term, vU m_5.Snap.Config, .string (bs m_5.Snap.Data), .slice A_7 m_5.L.length c_8]⟩]) (ps := [b_12 = b_12]) (by kernel_rfl) (And.intro rfl trivial) ?_
        refine OpTo.go (GoO.call rfl (by kernel_rfl) (by kernel_rfl) (tontineref07_Log_Cut_ok n (⟨(⟨m_5.Snap.Index, m_5.Snap.Term, m_5.Snap.Config, m_5.Snap.Data⟩ : T_api_Snapshot), m_5.L⟩ : T_tontineref07_Log) c_9.Index b_6 A_7 c_8) [[0], [3], [4]] [(3, 1), (4, 2)] [(1, 2)] [(2, 1)] (hks := [0, 1]) (bks := [0, 2]) (by kernel_rfl) (by kernel_rfl) (by kernel_rfl) (.inl rfl) rfl rfl (by kernel_rfl) (by kernel_rfl) _ (fun _ _ => rfl) _ _ (fun _ _ => rfl) (fun _ _ => rfl) (fun _ _ => by kernel_rfl) (fun _ _ => by kernel_rfl) (fun r_45 x_48 => ?_))
        obtain ⟨A_46, c_47⟩ := x_48
        refine GoO.shape (env' := [(87, vP b_6), (89, vU c_9.Index), (90, .tuple ⟨[]⟩)]) (H' := [⟨3, b_6, [vU r_45.Snap.Index, vU r_45.Snap.Term, vU r_45.Snap.Config, .string (bs r_45.Snap.Data), .slice A_46 r_45.L.length c_47]⟩, ⟨1, b_2, [vU r_42.snap.Index, vU r_42.snap.Term, vU r_42.snap.Config, .string (bs r_42.snap.Data), .slice A_43 r_42.entries.length c_44]⟩, ⟨40, b_12, [vI c_9.Kind, vU c_9.Index, vU c_9.Term, vI c_9.What, .string (bs c_9.Data), .slice A_10 c_9.L.length c_11, vU c_9.Snap.Index, vU c_9.Snap.Term, vU c_9.Snap.Config, .string (bs c_9.Snap.Data)]⟩]) (B' := [Ow 4 kT_api_Entry A_46 c_47 r_45.L, Ow 2 kT_api_Entry A_43 c_44 r_42.entries, Rd 0 kT_api_Entry A_10 c_11 c_9.L]) (ks := [87, 89, 90]) (by kernel_rfl) (by kernel_rfl) (by kernel_rfl) ?_
        refine GoO.regionEnd ?_
        refine GoO.inBlock ?_
        refine GoO.seq' c28_45e ?_
        refine GoO.region' (is := [0]) c28_46e (by kernel_rfl) ?_
        refine GoO.exec (is := [0]) (hs := [.p]) (rest := []) (ks := [6]) (env' := [(6, .bool true)]) (H' := [⟨3, b_6, [vU r_45.Snap.Index, vU r_45.Snap.Term, vU r_45.Snap.Config, .string (bs r_45.Snap.Data), .slice A_46 r_45.L.length c_47]⟩, ⟨1, b_2, [vU r_42.snap.Index, vU r_42.snap.Term, vU r_42.snap.Config, .string (bs r_42.snap.Data), .slice A_43 r_42.entries.length c_44]⟩, ⟨40, b_12, [vI c_9.Kind, vU c_9.Index, vU c_9.Term, vI c_9.What, .string (bs c_9.Data), .slice A_10 c_9.L.length c_11, vU c_9.Snap.Index, vU c_9.Snap.Term, vU c_9.Snap.Config, .string (bs c_9.Snap.Data)]⟩]) (ps := []) (by kernel_rfl) trivial ?_
        refine GoO.regionEnd ?_
        exact GoO.ret' (h := c28_47e) (hs := []) (ps := []) (hk := [1, 0]) (bk := [1, 0]) Try.func28 (⟨A_43, c_44, A_46, c_47⟩ : Option Addr × Nat × Option Addr × Nat) (by kernel_rfl) trivial (by kernel_rfl) (by kernel_rfl)
      · refine GoO.seq' c28_32e ?_
        refine GoO.region' (is := [0, 1]) c28_33e (by kernel_rfl) ?_
        refine GoO.exec (is := [0, 1]) (hs := [.p, .p]) (rest := []) (ks := [0, 1, 5, 16, 91]) (env' := [(0, vP b_2), (1, vP b_6), (5, vP b_12), (16, vI c_9.Kind), (91, .bool (c_9.Kind == 3))]) (H' := [⟨40, b_12, [vI c_9.Kind, vU c_9.Index, vU c_9.Term, vI c_9.What, .string (bs c_9.Data), .slice A_10 c_9.L.length c_11, vU c_9.Snap.Index, vU c_9.Snap.Term, vU c_9.Snap.Config, .string (bs c_9.Snap.Data)]⟩, ⟨1, b_2, [vU g_1.snap.Index, vU g_1.snap.Term, vU g_1.snap.Config, .string (bs g_1.snap.Data), .slice A_3 g_1.entries.length c_4]⟩, ⟨3, b_6, [vU m_5.Snap.Index, vU m_5.Snap.Term, vU m_5.Snap.Config, .string (bs m_5.Snap.Data), .slice A_7 m_5.L.length c_8]⟩]) (ps := []) (by kernel_rfl) trivial ?_
        refine GoO.regionEnd ?_
        refine GoO.ite' c28_34e (by kernel_rfl) (fun h50 => ?_) (fun h50 => ?_)
        · refine GoO.seq' c28_35e ?_
          refine GoO.draw c28_36e (by kernel_rfl) [13] [⟨40, b_12, [vI c_9.Kind, vU c_9.Index, vU c_9.Term, vI c_9.What, .string (bs c_9.Data), .slice A_10 c_9.L.length c_11, vU c_9.Snap.Index, vU c_9.Snap.Term, vU c_9.Snap.Config, .string (bs c_9.Snap.Data)]⟩] [] (n := 14) (by kernel_rfl) ?_
          simp only [List.replicate]
          refine GoF.take [0, 1, 2, 3, 4, 6, 7, 8, 9, 10] [.p, .p, .b 0, .p, .b 0, .p, .p, .b 0, .p, .b 0] (ks := [93, 95, 97, 99, 101, 103]) (fu := 4) (li := [true, true, true, true, true, false, true, true, true, true, true, false, false, false]) (env' := [(93, vP b_2), (95, vU c_9.Index), (97, .string (bs c_9.Data)), (99, vP b_6), (101, vU c_9.Index), (103, .string (bs c_9.Data))]) (ps := [b_12 = b_12, b_12 = b_12, b_12 = b_12, b_12 = b_12]) (hk := [0]) (bk := []) (by kernel_rfl) (And.intro rfl (And.intro rfl (And.intro rfl (And.intro rfl trivial)))) rfl rfl ?_
          refine OpTo.goF (i := 5) (by kernel_rfl) (hk := [1]) (bk := []) (GoO.call rfl (by kernel_rfl) (by kernel_rfl) (rlog_Log_Compact_ok n (⟨(⟨g_1.snap.Index, g_1.snap.Term, g_1.snap.Config, g_1.snap.Data⟩ : T_api_Snapshot), g_1.entries⟩ : T_rlog_Log) c_9.Index c_9.Data b_2 A_3 c_4) [[0], [1], [2]] [(1, 1), (2, 2)] [(1, 1)] [(2, 0)] (hks := [0, 2]) (bks := [1, 2]) (by kernel_rfl) (by kernel_rfl) (by kernel_rfl) (.inl rfl) rfl rfl (by kernel_rfl) (by kernel_rfl) _ (fun _ _ => rfl) _ _ (fun _ _ => rfl) (fun _ _ => rfl) (fun _ _ => by kernel_rfl) (fun _ _ => by kernel_rfl) (fun r_51 x_58 => ⟨rfl, rfl, ?_⟩))
          obtain ⟨A_52, c_53⟩ := x_58
          refine GoF.shape (env' := [(93, vP b_2), (95, vU c_9.Index), (97, .string (bs c_9.Data)), (98, vI r_51.1), (99, vP b_6), (101, vU c_9.Index), (103, .string (bs c_9.Data))]) (H' := [⟨1, b_2, [vU r_51.2.snap.Index, vU r_51.2.snap.Term, vU r_51.2.snap.Config, .string (bs r_51.2.snap.Data), .slice A_52 r_51.2.entries.length c_53]⟩, ⟨40, b_12, [vI c_9.Kind, vU c_9.Index, vU c_9.Term, vI c_9.What, .string (bs c_9.Data), .slice A_10 c_9.L.length c_11, vU c_9.Snap.Index, vU c_9.Snap.Term, vU c_9.Snap.Config, .string (bs c_9.Snap.Data)]⟩, ⟨3, b_6, [vU m_5.Snap.Index, vU m_5.Snap.Term, vU m_5.Snap.Config, .string (bs m_5.Snap.Data), .slice A_7 m_5.L.length c_8]⟩]) (B' := [Ow 2 kT_api_Entry A_52 c_53 r_51.2.entries, Ow 4 kT_api_Entry A_7 c_8 m_5.L, Rd 0 kT_api_Entry A_10 c_11 c_9.L]) (ks := [93, 95, 97, 98, 99, 101, 103]) (by kernel_rfl) (by kernel_rfl) (by kernel_rfl) ?_
          refine OpTo.goF (i := 11) (by kernel_rfl) (hk := [2]) (bk := []) (GoO.call rfl (by kernel_rfl) (by kernel_rfl) (tontineref07_Log_Compact_ok n (⟨(⟨m_5.Snap.Index, m_5.Snap.Term, m_5.Snap.Config, m_5.Snap.Data⟩ : T_api_Snapshot), m_5.L⟩ : T_tontineref07_Log) c_9.Index c_9.Data b_6 A_7 c_8) [[0], [3], [4]] [(3, 1), (4, 2)] [(1, 2)] [(2, 1)] (hks := [0, 1]) (bks := [0, 2]) (by kernel_rfl) (by kernel_rfl) (by kernel_rfl) (.inl rfl) rfl rfl (by kernel_rfl) (by kernel_rfl) _ (fun _ _ => rfl) _ _ (fun _ _ => rfl) (fun _ _ => rfl) (fun _ _ => by kernel_rfl) (fun _ _ => by kernel_rfl) (fun r_54 x_57 => ⟨rfl, rfl, ?_⟩))
          obtain ⟨A_55, c_56⟩ := x_57
          refine GoF.shape (env' := [(93, vP b_2), (95, vU c_9.Index), (97, .string (bs c_9.Data)), (98, vI r_51.1), (99, vP b_6), (101, vU c_9.Index), (103, .string (bs c_9.Data)), (104, vI r_54.1)]) (H' := [⟨3, b_6, [vU r_54.2.Snap.Index, vU r_54.2.Snap.Term, vU r_54.2.Snap.Config, .string (bs r_54.2.Snap.Data), .slice A_55 r_54.2.L.length c_56]⟩, ⟨1, b_2, [vU r_51.2.snap.Index, vU r_51.2.snap.Term, vU r_51.2.snap.Config, .string (bs r_51.2.snap.Data), .slice A_52 r_51.2.entries.length c_53]⟩, ⟨40, b_12, [vI c_9.Kind, vU c_9.Index, vU c_9.Term, vI c_9.What, .string (bs c_9.Data), .slice A_10 c_9.L.length c_11, vU c_9.Snap.Index, vU c_9.Snap.Term, vU c_9.Snap.Config, .string (bs c_9.Snap.Data)]⟩]) (B' := [Ow 4 kT_api_Entry A_55 c_56 r_54.2.L, Ow 2 kT_api_Entry A_52 c_53 r_51.2.entries, Rd 0 kT_api_Entry A_10 c_11 c_9.L]) (ks := [93, 95, 97, 98, 99, 101, 103, 104]) (by kernel_rfl) (by kernel_rfl) (by kernel_rfl) ?_
          refine GoF.take [12] [.p] (ks := [105]) (fu := 1) (li := [true, true, true, true, true, true, true, true, true, true, true, true, true, false]) (env' := [(105, .bool (r_51.1 == r_54.1))]) (ps := []) (hk := [2]) (bk := []) (by kernel_rfl) trivial rfl rfl ?_
          refine GoF.fin1 (i := 13) (hint := .p) (ps := []) (hk := []) (bk := []) (by kernel_rfl) rfl trivial (.inl rfl) ?_
          refine GoF.done (by kernel_rfl) ?_
          exact GoO.ret' (h := c28_37e) (hs := []) (ps := []) (hk := [1, 0]) (bk := [1, 0]) Try.func28 (⟨A_52, c_53, A_55, c_56⟩ : Option Addr × Nat × Option Addr × Nat) (by kernel_rfl) trivial (by kernel_rfl) (by kernel_rfl)
        · refine GoO.seq' c28_38e ?_
          refine GoO.region' (is := [0, 1]) c28_39e (by kernel_rfl) ?_
          refine GoO.exec (is := [0, 1]) (hs := [.p, .p]) (rest := []) (ks := [0, 1, 5, 106]) (env' := [(0, vP b_2), (1, vP b_6), (5, vP b_12), (106, .bool (c_9.Kind == 4))]) (H' := [⟨40, b_12, [vI c_9.Kind, vU c_9.Index, vU c_9.Term, vI c_9.What, .string (bs c_9.Data), .slice A_10 c_9.L.length c_11, vU c_9.Snap.Index, vU c_9.Snap.Term, vU c_9.Snap.Config, .string (bs c_9.Snap.Data)]⟩, ⟨1, b_2, [vU g_1.snap.Index, vU g_1.snap.Term, vU g_1.snap.Config, .string (bs g_1.snap.Data), .slice A_3 g_1.entries.length c_4]⟩, ⟨3, b_6, [vU m_5.Snap.Index, vU m_5.Snap.Term, vU m_5.Snap.Config, .string (bs m_5.Snap.Data), .slice A_7 m_5.L.length c_8]⟩]) (ps := []) (by kernel_rfl) trivial ?_
          refine GoO.regionEnd ?_
          refine GoO.ite' c28_40e (by kernel_rfl) (fun h59 => ?_) (fun h59 => ?_)
          · refine GoO.seq' c28_41e ?_
            refine GoO.draw c28_42e (by kernel_rfl) [9] [⟨40, b_12, [vI c_9.Kind, vU c_9.Index, vU c_9.Term, vI c_9.What, .string (bs c_9.Data), .slice A_10 c_9.L.length c_11, vU c_9.Snap.Index, vU c_9.Snap.Term, vU c_9.Snap.Config, .string (bs c_9.Snap.Data)]⟩] [] (n := 10) (by kernel_rfl) ?_
            simp only [List.replicate]
            refine GoF.take [0, 1, 2, 4, 5, 6] [.p, .p, .b 0, .p, .p, .b 0] (ks := [108, 110, 112, 114]) (fu := 4) (li := [true, true, true, false, true, true, true, false, false, false]) (env' := [(108, vP b_2), (110, .agg ⟨[vU c_9.Snap.Index, vU c_9.Snap.Term, vU c_9.Snap.Config, .string (bs c_9.Snap.Data)]⟩), (112, vP b_6), (114, .agg ⟨[vU c_9.Snap.Index, vU c_9.Snap.Term, vU c_9.Snap.Config, .string (bs c_9.Snap.Data)]⟩)]) (ps := [b_12 = b_12, b_12 = b_12]) (hk := [0]) (bk := []) (by kernel_rfl) (And.intro rfl (And.intro rfl trivial)) rfl rfl ?_
            refine OpTo.goF (i := 3) (by kernel_rfl) (hk := [1]) (bk := []) (GoO.call rfl (by kernel_rfl) (by kernel_rfl) (rlog_Log_Install_ok n (⟨(⟨g_1.snap.Index, g_1.snap.Term, g_1.snap.Config, g_1.snap.Data⟩ : T_api_Snapshot), g_1.entries⟩ : T_rlog_Log) (⟨c_9.Snap.Index, c_9.Snap.Term, c_9.Snap.Config, c_9.Snap.Data⟩ : T_api_Snapshot) b_2 A_3 c_4) [[0], [1], [2]] [(1, 1), (2, 2)] [(1, 1)] [(2, 0)] (hks := [0, 2]) (bks := [1, 2]) (by kernel_rfl) (by kernel_rfl) (by kernel_rfl) (.inl rfl) rfl rfl (by kernel_rfl) (by kernel_rfl) _ (fun _ _ => rfl) _ _ (fun _ _ => rfl) (fun _ _ => rfl) (fun _ _ => by kernel_rfl) (fun _ _ => by kernel_rfl) (fun r_60 x_67 => ⟨rfl, rfl, ?_⟩))
            obtain ⟨A_61, c_62⟩ := x_67
            refine GoF.shape (env' := [(108, vP b_2), (110, .agg ⟨[vU c_9.Snap.Index, vU c_9.Snap.Term, vU c_9.Snap.Config, .string (bs c_9.Snap.Data)]⟩), (111, vI r_60.1), (112, vP b_6), (114, .agg ⟨[vU c_9.Snap.Index, vU c_9.Snap.Term, vU c_9.Snap.Config, .string (bs c_9.Snap.Data)]⟩)]) (H' := [⟨1, b_2, [vU r_60.2.snap.Index, vU r_60.2.snap.Term, vU r_60.2.snap.Config, .string (bs r_60.2.snap.Data), .slice A_61 r_60.2.entries.length c_62]⟩, ⟨40, b_12, [vI c_9.Kind, vU c_9.Index, vU c_9.Term, vI c_9.What, .string (bs c_9.Data), .slice A_10 c_9.L.length c_11, vU c_9.Snap.Index, vU c_9.Snap.Term, vU c_9.Snap.Config, .string (bs c_9.Snap.Data)]⟩, ⟨3, b_6, [vU m_5.Snap.Index, vU m_5.Snap.Term, vU m_5.Snap.Config, .string (bs m_5.Snap.Data), .slice A_7 m_5.L.length c_8]⟩]) (B' := [Ow 2 kT_api_Entry A_61 c_62 r_60.2.entries, Ow 4 kT_api_Entry A_7 c_8 m_5.L, Rd 0 kT_api_Entry A_10 c_11 c_9.L]) (ks := [108, 110, 111, 112, 114]) (by kernel_rfl) (by kernel_rfl) (by kernel_rfl) ?_
            refine OpTo.goF (i := 7) (by kernel_rfl) (hk := [2]) (bk := []) (GoO.call rfl (by kernel_rfl) (by kernel_rfl) (tontineref07_Log_Install_ok n (⟨(⟨m_5.Snap.Index, m_5.Snap.Term, m_5.Snap.Config, m_5.Snap.Data⟩ : T_api_Snapshot), m_5.L⟩ : T_tontineref07_Log) (⟨c_9.Snap.Index, c_9.Snap.Term, c_9.Snap.Config, c_9.Snap.Data⟩ : T_api_Snapshot) b_6 A_7 c_8) [[0], [3], [4]] [(3, 1), (4, 2)] [(1, 2)] [(2, 1)] (hks := [0, 1]) (bks := [0, 2]) (by kernel_rfl) (by kernel_rfl) (by kernel_rfl) (.inl rfl) rfl rfl (by kernel_rfl) (by kernel_rfl) _ (fun _ _ => rfl) _ _ (fun _ _ => rfl) (fun _ _ => rfl) (fun _ _ => by kernel_rfl) (fun _ _ => by kernel_rfl) (fun r_63 x_66 => ⟨rfl, rfl, ?_⟩))
            obtain ⟨A_64, c_65⟩ := x_66
            refine GoF.shape (env' := [(108, vP b_2), (110, .agg ⟨[vU c_9.Snap.Index, vU c_9.Snap.Term, vU c_9.Snap.Config, .string (bs c_9.Snap.Data)]⟩), (111, vI r_60.1), (112, vP b_6), (114, .agg ⟨[vU c_9.Snap.Index, vU c_9.Snap.Term, vU c_9.Snap.Config, .string (bs c_9.Snap.Data)]⟩), (115, vI r_63.1)]) (H' := [⟨3, b_6, [vU r_63.2.Snap.Index, vU r_63.2.Snap.Term, vU r_63.2.Snap.Config, .string (bs r_63.2.Snap.Data), .slice A_64 r_63.2.L.length c_65]⟩, ⟨1, b_2, [vU r_60.2.snap.Index, vU r_60.2.snap.Term, vU r_60.2.snap.Config, .string (bs r_60.2.snap.Data), .slice A_61 r_60.2.entries.length c_62]⟩, ⟨40, b_12, [vI c_9.Kind, vU c_9.Index, vU c_9.Term, vI c_9.What, .string (bs c_9.Data), .slice A_10 c_9.L.length c_11, vU c_9.Snap.Index, vU c_9.Snap.Term, vU c_9.Snap.Config, .string (bs c_9.Snap.Data)]⟩]) (B' := [Ow 4 kT_api_Entry A_64 c_65 r_63.2.L, Ow 2 kT_api_Entry A_61 c_62 r_60.2.entries, Rd 0 kT_api_Entry A_10 c_11 c_9.L]) (ks := [108, 110, 111, 112, 114, 115]) (by kernel_rfl) (by kernel_rfl) (by kernel_rfl) ?_
            refine GoF.take [8] [.p] (ks := [116]) (fu := 1) (li := [true, true, true, true, true, true, true, true, true, false]) (env' := [(116, .bool (r_60.1 == r_63.1))]) (ps := []) (hk := [2]) (bk := []) (by kernel_rfl) trivial rfl rfl ?_
            refine GoF.fin1 (i := 9) (hint := .p) (ps := []) (hk := []) (bk := []) (by kernel_rfl) rfl trivial (.inl rfl) ?_
            refine GoF.done (by kernel_rfl) ?_
            exact GoO.ret' (h := c28_43e) (hs := []) (ps := []) (hk := [1, 0]) (bk := [1, 0]) Try.func28 (⟨A_61, c_62, A_64, c_65⟩ : Option Addr × Nat × Option Addr × Nat) (by kernel_rfl) trivial (by kernel_rfl) (by kernel_rfl)
          · refine GoO.skip' c28_44e ?_
            refine GoO.inBlock ?_
            refine GoO.seq' c28_45e ?_
            refine GoO.region' (is := [0]) c28_46e (by kernel_rfl) ?_
            refine GoO.exec (is := [0]) (hs := [.p]) (rest := []) (ks := [6]) (env' := [(6, .bool true)]) (H' := [⟨40, b_12, [vI c_9.Kind, vU c_9.Index, vU c_9.Term, vI c_9.What, .string (bs c_9.Data), .slice A_10 c_9.L.length c_11, vU c_9.Snap.Index, vU c_9.Snap.Term, vU c_9.Snap.Config, .string (bs c_9.Snap.Data)]⟩, ⟨1, b_2, [vU g_1.snap.Index, vU g_1.snap.Term, vU g_1.snap.Config, .string (bs g_1.snap.Data), .slice A_3 g_1.entries.length c_4]⟩, ⟨3, b_6, [vU m_5.Snap.Index, vU m_5.Snap.Term, vU m_5.Snap.Config, .string (bs m_5.Snap.Data), .slice A_7 m_5.L.length c_8]⟩]) (ps := []) (by kernel_rfl) trivial ?_
            refine GoO.regionEnd ?_
            exact GoO.ret' (h := c28_47e) (hs := []) (ps := []) (hk := [1, 2]) (bk := [0, 1]) Try.func28 (⟨A_3, c_4, A_7, c_8⟩ : Option Addr × Nat × Option Addr × Nat) (by kernel_rfl) trivial (by kernel_rfl) (by kernel_rfl)
/-! (*tontine/rlog.Log).First -/
noncomputable def c26_0 : Code := bodyOf Try.f26
noncomputable def c26_1 : Code := cdL c26_0
noncomputable def c26_2 : Code := cdR c26_0
noncomputable def c26_3 : Code := cdL c26_2
noncomputable def c26_4 : Code := cdL c26_3
noncomputable def c26_5 : Code := cdR c26_3
noncomputable def c26_9 : Code := cdR c26_5
noncomputable def c26_10 : Code := cdR c26_2
noncomputable def c26_11 : Code := cdL c26_10
noncomputable def c26_12 : Code := cdR c26_10
noncomputable def c26_6 : Code := cdL c26_5
noncomputable def r26_1 : Array Oper := cdO c26_1
noncomputable def r26_4 : Array Oper := cdO c26_4
noncomputable def r26_11 : Array Oper := cdO c26_11
theorem c26_0e : c26_0 = .seq c26_1 c26_2 := by kernel_rfl
theorem c26_1e : c26_1 = .region 0 r26_1 false := by kernel_rfl
theorem c26_2e : c26_2 = .seq c26_3 c26_10 := by kernel_rfl
theorem c26_3e : c26_3 = .seq c26_4 c26_5 := by kernel_rfl
theorem c26_4e : c26_4 = .region 1 r26_4 false := by kernel_rfl
theorem c26_5e : c26_5 = .cond (cdC c26_5) c26_6 c26_9 := by kernel_rfl
theorem c26_9e : c26_9 = .skip := by kernel_rfl
theorem c26_10e : c26_10 = .seq c26_11 c26_12 := by kernel_rfl
theorem c26_11e : c26_11 = .region 3 r26_11 false := by kernel_rfl
theorem c26_12e : c26_12 = .ret := by kernel_rfl
noncomputable def rlog_Log_First.R (b_2 : Nat) (A_3 : Option Addr) (c_4 : Nat) : Pst T_api_Snapshot where
  ε := Unit
  v := fun r x => .agg ⟨[vU r.Index, vU r.Term, vU r.Config, .string (bs r.Data)]⟩
  H := fun r x => []
  B := fun r x => []
noncomputable def rlog_Log_First.cx (b_2 : Nat) (A_3 : Option Addr) (c_4 : Nat) (w0 : World) (S0 : Fam) : Cx T_api_Snapshot := ⟨Try.prog, 26, Try.f26, 10, w0, S0, [], 2, rlog_Log_First.R b_2 A_3 c_4⟩
theorem rlog_Log_First_ok (n : Nat) (g_1 : T_rlog_Log) (b_2 : Nat) (A_3 : Option Addr) (c_4 : Nat) :
    Meets Try.prog 26 [vP b_2] 2 [] [⟨1, b_2, [vU g_1.snap.Index, vU g_1.snap.Term, vU g_1.snap.Config, .string (bs g_1.snap.Data), .slice A_3 g_1.entries.length c_4]⟩] [Ow 2 kT_api_Entry A_3 c_4 g_1.entries] (rlog_Log_First.f n g_1) (rlog_Log_First.R b_2 A_3 c_4) := by
  refine Meets.of (c := c26_0) (n := 10) Try.func26 (by kernel_rfl) (by kernel_rfl) (by kernel_rfl) fun w0 S0 => ?_
  unfold rlog_Log_First.f
  show GoO (rlog_Log_First.cx b_2 A_3 c_4 w0 S0) [(0, vP b_2)] [⟨1, b_2, [vU g_1.snap.Index, vU g_1.snap.Term, vU g_1.snap.Config, .string (bs g_1.snap.Data), .slice A_3 g_1.entries.length c_4]⟩] [Ow 2 kT_api_Entry A_3 c_4 g_1.entries] [.code c26_0] _
  refine GoO.seq' c26_0e ?_
  refine GoO.region' (is := [0]) c26_1e (by kernel_rfl) ?_
  refine OpTo.go (GoO.new rfl 40 (cs := [vU 0, vU 0, vU 0, .string (bs [])]) (by kernel_rfl) _ (fun _ => rfl) (fun b_5 => ?_))
  refine GoO.regionEnd ?_
  refine GoO.seq' c26_2e ?_
  refine GoO.seq' c26_3e ?_
  refine GoO.region' (is := [0, 1]) c26_4e (by kernel_rfl) ?_
  refine GoO.exec (is := [0, 1]) (hs := [.p, .p]) (rest := []) (ks := [0, 2, 4]) (env' := [(0, vP b_2), (2, vP b_5), (4, .bool false)]) (H' := [⟨40, b_5, [vU 0, vU 0, vU 0, .string (bs [])]⟩, ⟨1, b_2, [vU g_1.snap.Index, vU g_1.snap.Term, vU g_1.snap.Config, .string (bs g_1.snap.Data), .slice A_3 g_1.entries.length c_4]⟩]) (ps := []) (by kernel_rfl) trivial ?_
  refine GoO.regionEnd ?_
  refine GoO.condF c26_5e (by kernel_rfl) ?_
  refine GoO.skip' c26_9e ?_
  refine GoO.seq' c26_10e ?_
  refine GoO.region' (is := [0, 1, 2, 3, 4]) c26_11e (by kernel_rfl) ?_
  refine GoO.exec (is := [0, 1, 2, 3, 4]) (hs := [.p, .p, .p, .b 1, .b 0]) (rest := []) (ks := [2]) (env' := [(2, vP b_5)]) (H' := [⟨40, b_5, [vU g_1.snap.Index, vU g_1.snap.Term, vU g_1.snap.Config, .string (bs g_1.snap.Data)]⟩, ⟨1, b_2, [vU g_1.snap.Index, vU g_1.snap.Term, vU g_1.snap.Config, .string (bs g_1.snap.Data), .slice A_3 g_1.entries.length c_4]⟩]) (ps := [b_2 = b_2, b_5 = b_5]) (by kernel_rfl) (And.intro rfl (And.intro rfl trivial)) ?_
  refine GoO.regionEnd ?_
  exact GoO.ret' (h := c26_12e) (hs := [0]) (ps := [b_5 = b_5]) (hk := []) (bk := []) Try.func26 () (by kernel_rfl) (And.intro rfl trivial) (by kernel_rfl) (by kernel_rfl)
/-! (*tontine/rlog.Log).Get -/
noncomputable def c17_0 : Code := bodyOf Try.f17
noncomputable def c17_1 : Code := cdL c17_0
noncomputable def c17_2 : Code := cdR c17_0
noncomputable def c17_3 : Code := cdL c17_2
noncomputable def c17_4 : Code := cdR c17_2
noncomputable def c17_5 : Code := cdL c17_4
noncomputable def c17_6 : Code := cdL c17_5
noncomputable def c17_7 : Code := cdR c17_5
noncomputable def c17_8 : Code := cdL c17_7
noncomputable def c17_9 : Code := cdL c17_8
noncomputable def c17_10 : Code := cdR c17_8
noncomputable def c17_11 : Code := cdR c17_7
noncomputable def c17_12 : Code := cdR c17_4
noncomputable def c17_13 : Code := cdL c17_12
noncomputable def c17_14 : Code := cdR c17_12
noncomputable def r17_1 : Array Oper := cdO c17_1
noncomputable def r17_3 : Array Oper := cdO c17_3
noncomputable def r17_6 : Array Oper := cdO c17_6
noncomputable def r17_9 : Array Oper := cdO c17_9
noncomputable def r17_13 : Array Oper := cdO c17_13
theorem c17_0e : c17_0 = .seq c17_1 c17_2 := by kernel_rfl
theorem c17_1e : c17_1 = .region 0 r17_1 false := by kernel_rfl
theorem c17_2e : c17_2 = .seq c17_3 c17_4 := by kernel_rfl
theorem c17_3e : c17_3 = .region 1 r17_3 false := by kernel_rfl
theorem c17_4e : c17_4 = .seq c17_5 c17_12 := by kernel_rfl
theorem c17_5e : c17_5 = .seq c17_6 c17_7 := by kernel_rfl
theorem c17_6e : c17_6 = .region 2 r17_6 false := by kernel_rfl
theorem c17_7e : c17_7 = .cond (cdC c17_7) c17_8 c17_11 := by kernel_rfl
theorem c17_8e : c17_8 = .seq c17_9 c17_10 := by kernel_rfl
theorem c17_9e : c17_9 = .region 3 r17_9 false := by kernel_rfl
theorem c17_10e : c17_10 = .ret := by kernel_rfl
theorem c17_11e : c17_11 = .skip := by kernel_rfl
theorem c17_12e : c17_12 = .seq c17_13 c17_14 := by kernel_rfl
theorem c17_13e : c17_13 = .region 4 r17_13 true := by kernel_rfl
theorem c17_14e : c17_14 = .ret := by kernel_rfl
noncomputable def rlog_Log_Get.R (b_2 : Nat) (A_3 : Option Addr) (c_4 : Nat) : Pst (List T_api_Entry) where
  ε := Option Addr × Nat
  v := fun r x => .slice x.1 r.length x.2
  H := fun r x => []
  B := fun r x => [Ow 3 kT_api_Entry x.1 x.2 r]
noncomputable def rlog_Log_Get.cx (b_2 : Nat) (A_3 : Option Addr) (c_4 : Nat) (w0 : World) (S0 : Fam) : Cx (List T_api_Entry) := ⟨Try.prog, 17, Try.f17, 39, w0, S0, [], 2, rlog_Log_Get.R b_2 A_3 c_4⟩
theorem rlog_Log_Get_j0_ok (n : Nat) (g_1 : T_rlog_Log) (n_6 : Int) (r_7 : Int) (b_2 : Nat) (A_3 : Option Addr) (c_4 : Nat) (w0 : World) (S0 : Fam) (b_9 : Bool) :
    GoO (rlog_Log_Get.cx b_2 A_3 c_4 w0 S0) [(0, vP b_2), (2, vI n_6), (7, vI r_7), (16, .bool b_9)] [⟨1, b_2, [vU g_1.snap.Index, vU g_1.snap.Term, vU g_1.snap.Config, .string (bs g_1.snap.Data), .slice A_3 g_1.entries.length c_4]⟩] [Ow 2 kT_api_Entry A_3 c_4 g_1.entries] [.code c17_7, .code c17_12] (rlog_Log_Get.j0 n g_1 n_6 r_7 b_9) := by
  unfold rlog_Log_Get.j0
  refine GoO.ite' c17_7e (by kernel_rfl) (fun h10 => ?_) (fun h10 => ?_)
  · refine GoO.seq' c17_8e ?_
    refine GoO.region' (is := [0]) c17_9e (by kernel_rfl) ?_
    refine GoO.exec (is := [0]) (hs := [.p]) (rest := []) (ks := [6]) (env' := [(6, .slice none ([] : List T_api_Entry).length 0)]) (H' := [⟨1, b_2, [vU g_1.snap.Index, vU g_1.snap.Term, vU g_1.snap.Config, .string (bs g_1.snap.Data), .slice A_3 g_1.entries.length c_4]⟩]) (ps := []) (by kernel_rfl) trivial ?_
    refine GoO.regionEnd ?_
    refine GoO.nilOwn kT_api_Entry 3 ?_
    exact GoO.ret' (h := c17_10e) (hs := []) (ps := []) (hk := []) (bk := [0]) Try.func17 (⟨none, 0⟩ : Option Addr × Nat) (by kernel_rfl) trivial (by kernel_rfl) (by kernel_rfl)
  · refine GoO.skip' c17_11e ?_
    refine GoO.seq' c17_12e ?_
    refine GoO.draw c17_13e (by kernel_rfl) [22] [⟨1, b_2, [vU g_1.snap.Index, vU g_1.snap.Term, vU g_1.snap.Config, .string (bs g_1.snap.Data), .slice A_3 g_1.entries.length c_4]⟩] [] (n := 23) (by kernel_rfl) ?_
    simp only [List.replicate]
    refine GoF.take [0, 1, 2, 3, 4, 5, 6, 7, 8, 9, 10, 11, 12, 13, 14, 15, 16, 17, 18, 19] [.p, .p, .p, .b 0, .p, .p, .p, .p, .b 0, .p, .p, .p, .p, .p, .p, .b 0, .p, .p, .p, .p] (ks := [20, 21, 36]) (fu := 3) (li := [true, true, true, true, true, true, true, true, true, true, true, true, true, true, true, true, true, true, true, true, false, false, false]) (env' := [(20, .slice A_3 g_1.entries.length c_4), (21, vI r_7), (36, vI (if (wi64 (r_7 + (if (g_1.entries.length : Int) < n_6 then (g_1.entries.length : Int) else n_6))) < (g_1.entries.length : Int) then (wi64 (r_7 + (if (g_1.entries.length : Int) < n_6 then (g_1.entries.length : Int) else n_6))) else (g_1.entries.length : Int)))]) (ps := [b_2 = b_2, b_2 = b_2, b_2 = b_2]) (hk := [0]) (bk := []) (by kernel_rfl) (And.intro rfl (And.intro rfl (And.intro rfl trivial))) rfl rfl ?_
    refine GoF.guard (fun h13 => ?_)
    refine GoF.slc1 (i := 20) (hk := [0]) (bk := []) (e := 40) (K := kT_api_Entry) (A := A_3) (c := c_4) (xs := g_1.entries) (j := 0) (l := r_7) (h := (if (wi64 (r_7 + (if (g_1.entries.length : Int) < n_6 then (g_1.entries.length : Int) else n_6))) < (g_1.entries.length : Int) then (wi64 (r_7 + (if (g_1.entries.length : Int) < n_6 then (g_1.entries.length : Int) else n_6))) else (g_1.entries.length : Int))) (by kernel_rfl) rfl rfl rfl (by kernel_rfl) (by kernel_rfl) (by kernel_rfl) rfl Reads.own rfl (by kernel_rfl) (by kernel_rfl) h13.1 h13.2.1 h13.2.2 _ (fun _ _ => rfl) (fun A_11 c_12 => ?_)
    refine GoF.nilOwn kT_api_Entry 40 ?_
    refine GoF.guard (fun h14 => ?_)
    refine OpTo.goF (i := 21) (by kernel_rfl) (hk := [0]) (bk := []) (GoO.appW (e := 40) (K := kT_api_Entry) (A := none) (c := 0) (tg := 40) (bytes := 40) (zs := [vU 0, vU 0, vI 0, .string (bs [])]) (xs := ([] : List T_api_Entry)) (ys := (g_1.entries.take (if (wi64 (r_7 + (if (g_1.entries.length : Int) < n_6 then (g_1.entries.length : Int) else n_6))) < (g_1.entries.length : Int) then (wi64 (r_7 + (if (g_1.entries.length : Int) < n_6 then (g_1.entries.length : Int) else n_6))) else (g_1.entries.length : Int)).toNat).drop r_7.toNat) (xv := .slice A_11 ((g_1.entries.take (if (wi64 (r_7 + (if (g_1.entries.length : Int) < n_6 then (g_1.entries.length : Int) else n_6))) < (g_1.entries.length : Int) then (wi64 (r_7 + (if (g_1.entries.length : Int) < n_6 then (g_1.entries.length : Int) else n_6))) else (g_1.entries.length : Int)).toNat).drop r_7.toNat).length c_12) (j := 0) (bk := [1, 2]) rfl (by kernel_rfl) (by kernel_rfl) (by kernel_rfl) (by kernel_rfl) rfl (by kernel_rfl) rfl (fun w S hB => SrcIs.row (Reads.rd w S (hB _ (List.mem_of_getElem? (i := 1) rfl)))) h14 rfl rfl rfl rfl _ (fun _ _ => rfl) (fun A_15 c_16 => ⟨rfl, rfl, ?_⟩))
    refine GoF.fin1 (i := 22) (hint := .p) (ps := []) (hk := []) (bk := []) (by kernel_rfl) rfl trivial (.inl rfl) ?_
    refine GoF.done (by kernel_rfl) ?_
    refine GoO.retag (t := 40) (u := 3) (j := 0) (hk := [0]) (bk := [1, 2]) rfl rfl rfl rfl rfl rfl (by kernel_rfl) (by kernel_rfl) ?_
    exact GoO.ret' (h := c17_14e) (hs := []) (ps := []) (hk := []) (bk := [0]) Try.func17 (⟨A_15, c_16⟩ : Option Addr × Nat) (by kernel_rfl) trivial (by kernel_rfl) (by kernel_rfl)
theorem rlog_Log_Get_ok (n : Nat) (g_1 : T_rlog_Log) (i_5 : Int) (n_6 : Int) (b_2 : Nat) (A_3 : Option Addr) (c_4 : Nat) :
    Meets Try.prog 17 [vP b_2, vU i_5, vI n_6] 2 [] [⟨1, b_2, [vU g_1.snap.Index, vU g_1.snap.Term, vU g_1.snap.Config, .string (bs g_1.snap.Data), .slice A_3 g_1.entries.length c_4]⟩] [Ow 2 kT_api_Entry A_3 c_4 g_1.entries] (rlog_Log_Get.f n g_1 i_5 n_6) (rlog_Log_Get.R b_2 A_3 c_4) := by
  refine Meets.of (c := c17_0) (n := 39) Try.func17 (by kernel_rfl) (by kernel_rfl) (by kernel_rfl) fun w0 S0 => ?_
  unfold rlog_Log_Get.f
  show GoO (rlog_Log_Get.cx b_2 A_3 c_4 w0 S0) [(0, vP b_2), (1, vU i_5), (2, vI n_6)] [⟨1, b_2, [vU g_1.snap.Index, vU g_1.snap.Term, vU g_1.snap.Config, .string (bs g_1.snap.Data), .slice A_3 g_1.entries.length c_4]⟩] [Ow 2 kT_api_Entry A_3 c_4 g_1.entries] [.code c17_0] _
  refine GoO.seq' c17_0e ?_
  refine GoO.region' (is := [0]) c17_1e (by kernel_rfl) ?_
  refine GoO.exec (is := [0]) (hs := [.p]) (rest := []) (ks := [0, 1, 2]) (env' := [(0, vP b_2), (1, vU i_5), (2, vI n_6)]) (H' := [⟨1, b_2, [vU g_1.snap.Index, vU g_1.snap.Term, vU g_1.snap.Config, .string (bs g_1.snap.Data), .slice A_3 g_1.entries.length c_4]⟩]) (ps := []) (by kernel_rfl) trivial ?_
  refine GoO.regionEnd ?_
  refine GoO.seq' c17_2e ?_
  refine GoO.region' (is := [0, 1, 2, 3]) c17_3e (by kernel_rfl) ?_
  refine GoO.exec (is := [0, 1]) (hs := [.p, .p]) (rest := [2, 3]) (ks := [0, 2, 8, 9]) (env' := [(0, vP b_2), (2, vI n_6), (8, vP b_2), (9, vU i_5)]) (H' := [⟨1, b_2, [vU g_1.snap.Index, vU g_1.snap.Term, vU g_1.snap.Config, .string (bs g_1.snap.Data), .slice A_3 g_1.entries.length c_4]⟩]) (ps := []) (by kernel_rfl) trivial ?_
  refine OpTo.go (GoO.call rfl (by kernel_rfl) (by kernel_rfl) (rlog_Log_at_ok n (⟨(⟨g_1.snap.Index, g_1.snap.Term, g_1.snap.Config, g_1.snap.Data⟩ : T_api_Snapshot), g_1.entries⟩ : T_rlog_Log) i_5 b_2 A_3 c_4) [[0], [1], [2]] [] [(1, 0)] [(2, 0)] (hks := [0]) (bks := [0]) (by kernel_rfl) (by kernel_rfl) (by kernel_rfl) (.inl rfl) rfl rfl (by kernel_rfl) (by kernel_rfl) _ (fun _ _ => rfl) _ _ (fun _ _ => rfl) (fun _ _ => rfl) (fun _ _ => by kernel_rfl) (fun _ _ => by kernel_rfl) (fun r_7 x_17 => ?_))
  refine GoO.shape (env' := [(0, vP b_2), (2, vI n_6), (8, vP b_2), (9, vU i_5), (10, vI r_7)]) (H' := [⟨1, b_2, [vU g_1.snap.Index, vU g_1.snap.Term, vU g_1.snap.Config, .string (bs g_1.snap.Data), .slice A_3 g_1.entries.length c_4]⟩]) (B' := [Ow 2 kT_api_Entry A_3 c_4 g_1.entries]) (ks := [0, 2, 8, 9, 10]) (by kernel_rfl) (by kernel_rfl) (by kernel_rfl) ?_
  refine GoO.exec (is := [3]) (hs := [.p]) (rest := []) (ks := [0, 2, 7]) (env' := [(0, vP b_2), (2, vI n_6), (7, vI r_7)]) (H' := [⟨1, b_2, [vU g_1.snap.Index, vU g_1.snap.Term, vU g_1.snap.Config, .string (bs g_1.snap.Data), .slice A_3 g_1.entries.length c_4]⟩]) (ps := []) (by kernel_rfl) trivial ?_
  refine GoO.regionEnd ?_
  refine GoO.seq' c17_4e ?_
  refine GoO.seq' c17_5e ?_
  refine GoO.region' (is := [0, 1, 2, 3, 4, 5]) c17_6e (by kernel_rfl) ?_
  refine GoO.exec (is := [0, 1, 2]) (hs := [.p, .p, .p]) (rest := [3, 4, 5]) (ks := [0, 2, 7, 13]) (env' := [(0, vP b_2), (2, vI n_6), (7, vI r_7), (13, .bool (decide (r_7 < 0)))]) (H' := [⟨1, b_2, [vU g_1.snap.Index, vU g_1.snap.Term, vU g_1.snap.Config, .string (bs g_1.snap.Data), .slice A_3 g_1.entries.length c_4]⟩]) (ps := []) (by kernel_rfl) trivial ?_
  refine GoO.bsplit (t := 13) (by kernel_rfl) (fun h8 => ?_) (fun h8 => ?_)
  · refine GoO.exec (is := [3, 4, 5]) (hs := [.p, .p, .p]) (rest := []) (ks := [0, 2, 7, 16]) (env' := [(0, vP b_2), (2, vI n_6), (7, vI r_7), (16, .bool true)]) (H' := [⟨1, b_2, [vU g_1.snap.Index, vU g_1.snap.Term, vU g_1.snap.Config, .string (bs g_1.snap.Data), .slice A_3 g_1.entries.length c_4]⟩]) (ps := []) (by kernel_rfl) trivial ?_
    refine GoO.regionEnd ?_
    exact GoO.sub (ks := [0, 2, 7, 16]) (hk := [0]) (bk := [0]) (by kernel_rfl) (by kernel_rfl) (by kernel_rfl) (rlog_Log_Get_j0_ok n g_1 n_6 r_7 b_2 A_3 c_4 w0 S0 true)
  · refine GoO.exec (is := [3, 4, 5]) (hs := [.p, .p, .p]) (rest := []) (ks := [0, 2, 7, 16]) (env' := [(0, vP b_2), (2, vI n_6), (7, vI r_7), (16, .bool (decide (n_6 ≤ 0)))]) (H' := [⟨1, b_2, [vU g_1.snap.Index, vU g_1.snap.Term, vU g_1.snap.Config, .string (bs g_1.snap.Data), .slice A_3 g_1.entries.length c_4]⟩]) (ps := []) (by kernel_rfl) trivial ?_
    refine GoO.regionEnd ?_
    exact GoO.sub (ks := [0, 2, 7, 16]) (hk := [0]) (bk := [0]) (by kernel_rfl) (by kernel_rfl) (by kernel_rfl) (rlog_Log_Get_j0_ok n g_1 n_6 r_7 b_2 A_3 c_4 w0 S0 (decide (n_6 ≤ 0)))
/-! (*tontine/rlog.Log).Members -/
noncomputable def c23_0 : Code := bodyOf Try.f23
noncomputable def c23_1 : Code := cdL c23_0
noncomputable def c23_2 : Code := cdR c23_0
noncomputable def c23_3 : Code := cdL c23_2
noncomputable def c23_4 : Code := cdL c23_3
noncomputable def c23_5 : Code := cdR c23_3
noncomputable def c23_9 : Code := cdR c23_5
noncomputable def c23_10 : Code := cdR c23_2
noncomputable def c23_11 : Code := cdL c23_10
noncomputable def c23_12 : Code := cdR c23_10
noncomputable def c23_6 : Code := cdL c23_5
noncomputable def r23_1 : Array Oper := cdO c23_1
noncomputable def r23_4 : Array Oper := cdO c23_4
noncomputable def r23_11 : Array Oper := cdO c23_11
theorem c23_0e : c23_0 = .seq c23_1 c23_2 := by kernel_rfl
theorem c23_1e : c23_1 = .region 0 r23_1 false := by kernel_rfl
theorem c23_2e : c23_2 = .seq c23_3 c23_10 := by kernel_rfl
theorem c23_3e : c23_3 = .seq c23_4 c23_5 := by kernel_rfl
theorem c23_4e : c23_4 = .region 1 r23_4 false := by kernel_rfl
theorem c23_5e : c23_5 = .cond (cdC c23_5) c23_6 c23_9 := by kernel_rfl
theorem c23_9e : c23_9 = .skip := by kernel_rfl
theorem c23_10e : c23_10 = .seq c23_11 c23_12 := by kernel_rfl
theorem c23_11e : c23_11 = .region 3 r23_11 false := by kernel_rfl
theorem c23_12e : c23_12 = .ret := by kernel_rfl
noncomputable def rlog_Log_Members.R (b_2 : Nat) (A_3 : Option Addr) (c_4 : Nat) : Pst (Int × Int) where
  ε := Unit
  v := fun r x => .tuple ⟨[vU r.1, vU r.2]⟩
  H := fun r x => []
  B := fun r x => []
noncomputable def rlog_Log_Members.cx (b_2 : Nat) (A_3 : Option Addr) (c_4 : Nat) (w0 : World) (S0 : Fam) : Cx (Int × Int) := ⟨Try.prog, 23, Try.f23, 10, w0, S0, [], 2, rlog_Log_Members.R b_2 A_3 c_4⟩
theorem rlog_Log_Members_ok (n : Nat) (g_1 : T_rlog_Log) (b_2 : Nat) (A_3 : Option Addr) (c_4 : Nat) :
    Meets Try.prog 23 [vP b_2] 2 [] [⟨1, b_2, [vU g_1.snap.Index, vU g_1.snap.Term, vU g_1.snap.Config, .string (bs g_1.snap.Data), .slice A_3 g_1.entries.length c_4]⟩] [Ow 2 kT_api_Entry A_3 c_4 g_1.entries] (rlog_Log_Members.f n g_1) (rlog_Log_Members.R b_2 A_3 c_4) := by
  refine Meets.of (c := c23_0) (n := 10) Try.func23 (by kernel_rfl) (by kernel_rfl) (by kernel_rfl) fun w0 S0 => ?_
  unfold rlog_Log_Members.f
  show GoO (rlog_Log_Members.cx b_2 A_3 c_4 w0 S0) [(0, vP b_2)] [⟨1, b_2, [vU g_1.snap.Index, vU g_1.snap.Term, vU g_1.snap.Config, .string (bs g_1.snap.Data), .slice A_3 g_1.entries.length c_4]⟩] [Ow 2 kT_api_Entry A_3 c_4 g_1.entries] [.code c23_0] _
  refine GoO.seq' c23_0e ?_
  refine GoO.region' (is := [0, 1]) c23_1e (by kernel_rfl) ?_
  refine GoO.exec (is := [0, 1]) (hs := [.p, .p]) (rest := []) (ks := [0]) (env' := [(0, vP b_2)]) (H' := [⟨1, b_2, [vU g_1.snap.Index, vU g_1.snap.Term, vU g_1.snap.Config, .string (bs g_1.snap.Data), .slice A_3 g_1.entries.length c_4]⟩]) (ps := []) (by kernel_rfl) trivial ?_
  refine GoO.regionEnd ?_
  refine GoO.seq' c23_2e ?_
  refine GoO.seq' c23_3e ?_
  refine GoO.region' (is := [0, 1]) c23_4e (by kernel_rfl) ?_
  refine GoO.exec (is := [0, 1]) (hs := [.p, .p]) (rest := []) (ks := [0, 5]) (env' := [(0, vP b_2), (5, .bool false)]) (H' := [⟨1, b_2, [vU g_1.snap.Index, vU g_1.snap.Term, vU g_1.snap.Config, .string (bs g_1.snap.Data), .slice A_3 g_1.entries.length c_4]⟩]) (ps := []) (by kernel_rfl) trivial ?_
  refine GoO.regionEnd ?_
  refine GoO.condF c23_5e (by kernel_rfl) ?_
  refine GoO.skip' c23_9e ?_
  refine GoO.seq' c23_10e ?_
  refine GoO.region' (is := [0, 1, 2, 3, 4, 5]) c23_11e (by kernel_rfl) ?_
  refine GoO.exec (is := [0]) (hs := [.p]) (rest := [1, 2, 3, 4, 5]) (ks := [6]) (env' := [(6, vP b_2)]) (H' := [⟨1, b_2, [vU g_1.snap.Index, vU g_1.snap.Term, vU g_1.snap.Config, .string (bs g_1.snap.Data), .slice A_3 g_1.entries.length c_4]⟩]) (ps := []) (by kernel_rfl) trivial ?_
  refine OpTo.go (GoO.call rfl (by kernel_rfl) (by kernel_rfl) (rlog_Log_MembersAt_ok n (⟨(⟨g_1.snap.Index, g_1.snap.Term, g_1.snap.Config, g_1.snap.Data⟩ : T_api_Snapshot), g_1.entries⟩ : T_rlog_Log) 18446744073709551615 b_2 A_3 c_4) [[0], [1], [2]] [] [(1, 0)] [(2, 0)] (hks := [0]) (bks := [0]) (by kernel_rfl) (by kernel_rfl) (by kernel_rfl) (.inl rfl) rfl rfl (by kernel_rfl) (by kernel_rfl) _ (fun _ _ => rfl) _ _ (fun _ _ => rfl) (fun _ _ => rfl) (fun _ _ => by kernel_rfl) (fun _ _ => by kernel_rfl) (fun r_5 x_6 => ?_))
  refine GoO.shape (env' := [(6, vP b_2), (7, .tuple ⟨[vU r_5.1, vU r_5.2]⟩)]) (H' := [⟨1, b_2, [vU g_1.snap.Index, vU g_1.snap.Term, vU g_1.snap.Config, .string (bs g_1.snap.Data), .slice A_3 g_1.entries.length c_4]⟩]) (B' := [Ow 2 kT_api_Entry A_3 c_4 g_1.entries]) (ks := [6, 7]) (by kernel_rfl) (by kernel_rfl) (by kernel_rfl) ?_
  refine GoO.exec (is := [2, 3, 4, 5]) (hs := [.p, .p, .p, .p]) (rest := []) (ks := [2, 3]) (env' := [(2, vU r_5.1), (3, vU r_5.2)]) (H' := [⟨1, b_2, [vU g_1.snap.Index, vU g_1.snap.Term, vU g_1.snap.Config, .string (bs g_1.snap.Data), .slice A_3 g_1.entries.length c_4]⟩]) (ps := []) (by kernel_rfl) trivial ?_
  refine GoO.regionEnd ?_
  exact GoO.ret' (h := c23_12e) (hs := []) (ps := []) (hk := []) (bk := []) Try.func23 () (by kernel_rfl) trivial (by kernel_rfl) (by kernel_rfl)
/-! (*tontine/tontineref07.Log).Get -/
noncomputable def c66_0 : Code := bodyOf Try.f66
noncomputable def c66_1 : Code := cdL c66_0
noncomputable def c66_2 : Code := cdR c66_0
noncomputable def c66_3 : Code := cdL c66_2
noncomputable def c66_4 : Code := cdR c66_2
noncomputable def c66_5 : Code := cdL c66_4
noncomputable def c66_6 : Code := cdL c66_5
noncomputable def c66_7 : Code := cdR c66_5
noncomputable def c66_8 : Code := cdL c66_7
noncomputable def c66_9 : Code := cdL c66_8
noncomputable def c66_10 : Code := cdL c66_9
noncomputable def c66_11 : Code := cdL c66_10
noncomputable def c66_12 : Code := cdR c66_10
noncomputable def c66_13 : Code := cdL c66_12
noncomputable def c66_14 : Code := cdR c66_12
noncomputable def c66_15 : Code := cdR c66_9
noncomputable def c66_16 : Code := cdL c66_15
noncomputable def c66_17 : Code := cdL c66_16
noncomputable def c66_18 : Code := cdL c66_17
noncomputable def c66_19 : Code := cdR c66_17
noncomputable def c66_20 : Code := cdL c66_19
noncomputable def c66_21 : Code := cdR c66_19
noncomputable def c66_22 : Code := cdR c66_15
noncomputable def c66_23 : Code := cdR c66_4
noncomputable def c66_24 : Code := cdL c66_23
noncomputable def c66_25 : Code := cdR c66_23
noncomputable def r66_1 : Array Oper := cdO c66_1
noncomputable def r66_3 : Array Oper := cdO c66_3
noncomputable def r66_6 : Array Oper := cdO c66_6
noncomputable def r66_11 : Array Oper := cdO c66_11
noncomputable def r66_18 : Array Oper := cdO c66_18
noncomputable def r66_20 : Array Oper := cdO c66_20
noncomputable def r66_22 : Array Oper := cdO c66_22
noncomputable def r66_24 : Array Oper := cdO c66_24
theorem c66_0e : c66_0 = .seq c66_1 c66_2 := by kernel_rfl
theorem c66_1e : c66_1 = .region 0 r66_1 false := by kernel_rfl
theorem c66_2e : c66_2 = .seq c66_3 c66_4 := by kernel_rfl
theorem c66_3e : c66_3 = .region 1 r66_3 false := by kernel_rfl
theorem c66_4e : c66_4 = .seq c66_5 c66_23 := by kernel_rfl
theorem c66_5e : c66_5 = .seq c66_6 c66_7 := by kernel_rfl
theorem c66_6e : c66_6 = .region 2 r66_6 false := by kernel_rfl
theorem c66_7e : c66_7 = .block 0 c66_8 := by kernel_rfl
theorem c66_8e : c66_8 = .loop c66_9 := by kernel_rfl
theorem c66_9e : c66_9 = .seq c66_10 c66_15 := by kernel_rfl
theorem c66_10e : c66_10 = .seq c66_11 c66_12 := by kernel_rfl
theorem c66_11e : c66_11 = .region 3 r66_11 false := by kernel_rfl
theorem c66_12e : c66_12 = .cond (cdC c66_12) c66_13 c66_14 := by kernel_rfl
theorem c66_13e : c66_13 = .skip := by kernel_rfl
theorem c66_14e : c66_14 = .exit 0 := by kernel_rfl
theorem c66_15e : c66_15 = .seq c66_16 c66_22 := by kernel_rfl
theorem c66_16e : c66_16 = .block 1 c66_17 := by kernel_rfl
theorem c66_17e : c66_17 = .seq c66_18 c66_19 := by kernel_rfl
theorem c66_18e : c66_18 = .region 5 r66_18 false := by kernel_rfl
theorem c66_19e : c66_19 = .cond (cdC c66_19) c66_20 c66_21 := by kernel_rfl
theorem c66_20e : c66_20 = .region 6 r66_20 false := by kernel_rfl
theorem c66_21e : c66_21 = .skip := by kernel_rfl
theorem c66_22e : c66_22 = .region 4 r66_22 false := by kernel_rfl
theorem c66_23e : c66_23 = .seq c66_24 c66_25 := by kernel_rfl
theorem c66_24e : c66_24 = .region 7 r66_24 false := by kernel_rfl
theorem c66_25e : c66_25 = .ret := by kernel_rfl
noncomputable def tontineref07_Log_Get.R (b_2 : Nat) (A_3 : Option Addr) (c_4 : Nat) : Pst (List T_api_Entry) where
  ε := Option Addr × Nat
  v := fun r x => .slice x.1 r.length x.2
  H := fun r x => []
  B := fun r x => [Ow 3 kT_api_Entry x.1 x.2 r]
noncomputable def tontineref07_Log_Get.cx (b_2 : Nat) (A_3 : Option Addr) (c_4 : Nat) (w0 : World) (S0 : Fam) : Cx (List T_api_Entry) := ⟨Try.prog, 66, Try.f66, 62, w0, S0, [], 2, tontineref07_Log_Get.R b_2 A_3 c_4⟩
theorem tontineref07_Log_Get_j1_ok (n : Nat) (L0 : (List T_api_Entry) → Int → Option (List T_api_Entry)) (g_1 : T_tontineref07_Log) (i_5 : Int) (n_6 : Int) (l_7 : (List T_api_Entry)) (k_10 : Int) (b_2 : Nat) (A_3 : Option Addr) (c_4 : Nat) (A_8 : Option Addr) (c_9 : Nat) (w0 : World) (S0 : Fam) (ih0 : ∀ (l_7 : (List T_api_Entry)) (k_10 : Int) (A_8 : Option Addr) (c_9 : Nat), GoO (tontineref07_Log_Get.cx b_2 A_3 c_4 w0 S0) [(0, vP b_2), (1, vU i_5), (2, vI n_6), (7, .slice A_8 l_7.length c_9), (8, vI k_10)] [⟨1, b_2, [vU g_1.Snap.Index, vU g_1.Snap.Term, vU g_1.Snap.Config, .string (bs g_1.Snap.Data), .slice A_3 g_1.L.length c_4]⟩] [Ow 2 kT_api_Entry A_3 c_4 g_1.L, Ow 41 kT_api_Entry A_8 c_9 l_7] [.code c66_9, .inLoop c66_9, .inBlock 0, .code c66_23] (L0 l_7 k_10)) (b_18 : Bool) :
    GoO (tontineref07_Log_Get.cx b_2 A_3 c_4 w0 S0) [(0, vP b_2), (1, vU i_5), (2, vI n_6), (7, .slice A_8 l_7.length c_9), (8, vI k_10), (50, .bool b_18)] [⟨1, b_2, [vU g_1.Snap.Index, vU g_1.Snap.Term, vU g_1.Snap.Config, .string (bs g_1.Snap.Data), .slice A_3 g_1.L.length c_4]⟩] [Ow 2 kT_api_Entry A_3 c_4 g_1.L, Ow 41 kT_api_Entry A_8 c_9 l_7] [.code c66_19, .inBlock 1, .code c66_22, .inLoop c66_9, .inBlock 0, .code c66_23] (tontineref07_Log_Get.j1 n L0 g_1 l_7 k_10 b_18) := by
  unfold tontineref07_Log_Get.j1
  refine GoO.ite' c66_19e (by kernel_rfl) (fun h19 => ?_) (fun h19 => ?_)
  · refine GoO.region' (is := [0, 1, 2, 3, 4, 5, 6, 7, 8, 9, 10]) c66_20e (by kernel_rfl) ?_
    refine GoO.exec (is := [0, 1, 2, 3, 4, 5]) (hs := [.p, .p, .p, .p, .b 0, .p]) (rest := [6, 7, 8, 9, 10]) (ks := [0, 1, 2, 8, 51, 55, 56]) (env' := [(0, vP b_2), (1, vU i_5), (2, vI n_6), (8, vI k_10), (51, .slice A_8 l_7.length c_9), (55, .slice A_3 g_1.L.length c_4), (56, vI k_10)]) (H' := [⟨1, b_2, [vU g_1.Snap.Index, vU g_1.Snap.Term, vU g_1.Snap.Config, .string (bs g_1.Snap.Data), .slice A_3 g_1.L.length c_4]⟩]) (ps := [b_2 = b_2]) (by kernel_rfl) (And.intro rfl trivial) ?_
    refine GoO.guard (fun h20 => ?_)
    refine OpTo.go (GoO.idx (kk := .i64) (e := 40) (K := kT_api_Entry) (A := A_3) (c := c_4) (xs := g_1.L) (iv := k_10) (j := 0) rfl (by kernel_rfl) (by kernel_rfl) (by kernel_rfl) (by kernel_rfl) rfl Reads.own rfl h20.1 h20.2 (by decide) rfl ?_)
    refine OpTo.go (GoO.ldE' (K := kT_api_Entry) (A := A_3) (c := c_4) (xs := g_1.L) (iN := k_10.toNat) (off := 0) (j := 0) rfl (by kernel_rfl) rfl Reads.own (by first | exact idx_lt h20.1 h20.2 | (simp only [List.length_set]; exact idx_lt h20.1 h20.2)) (by decide) (Opn.flat _ _ _ _ _) (v := fun _ => .agg ⟨[vU ((rdL g_1.L k_10).Term), vU ((rdL g_1.L k_10).Index), vI ((rdL g_1.L k_10).Kind), .string (bs ((rdL g_1.L k_10).Data))]⟩) (fun _ => by kernel_rfl) _ (fun _ => rfl) (fun _ => ?_))
    refine OpTo.go (GoO.lit (e := 40) (K := kT_api_Entry) rfl (by kernel_rfl) (by kernel_rfl) (cs := [vU ((rdL g_1.L k_10).Term), vU ((rdL g_1.L k_10).Index), vI ((rdL g_1.L k_10).Kind), .string (bs ((rdL g_1.L k_10).Data))]) (by kernel_rfl) [(rdL g_1.L k_10)] (by kernel_rfl) (by kernel_rfl) (fun w S hB => ⟨[vU ((rdL g_1.L k_10).Term), vU ((rdL g_1.L k_10).Index), vI ((rdL g_1.L k_10).Kind), .string (bs ((rdL g_1.L k_10).Data))], _, rfl, rfl, rfl⟩) 40 _ (fun _ _ => rfl) (fun A_21 c_22 => ?_))
    refine GoO.guard (fun h23 => ?_)
    refine OpTo.go (GoO.appW (e := 40) (K := kT_api_Entry) (A := A_8) (c := c_9) (tg := 41) (bytes := 40) (zs := [vU 0, vU 0, vI 0, .string (bs [])]) (xs := l_7) (ys := [(rdL g_1.L k_10)]) (xv := .slice A_21 [(rdL g_1.L k_10)].length c_22) (j := 2) (bk := [0, 1]) rfl (by kernel_rfl) (by kernel_rfl) (by kernel_rfl) (by kernel_rfl) rfl (by kernel_rfl) rfl (fun w S hB => SrcIs.row (Reads.own w S (hB _ (List.mem_of_getElem? (i := 0) rfl)))) h23 rfl rfl rfl rfl _ (fun _ _ => rfl) (fun A_24 c_25 => ?_))
    refine GoO.exec (is := [10]) (hs := [.p]) (rest := []) (ks := [0, 1, 2, 7, 8]) (env' := [(0, vP b_2), (1, vU i_5), (2, vI n_6), (7, .slice A_24 (l_7 ++ [(rdL g_1.L k_10)]).length c_25), (8, vI k_10)]) (H' := [⟨1, b_2, [vU g_1.Snap.Index, vU g_1.Snap.Term, vU g_1.Snap.Config, .string (bs g_1.Snap.Data), .slice A_3 g_1.L.length c_4]⟩]) (ps := []) (by kernel_rfl) trivial ?_
    refine GoO.regionEnd ?_
    refine GoO.inBlock ?_
    refine GoO.region' (is := [0, 1, 2]) c66_22e (by kernel_rfl) ?_
    refine GoO.exec (is := [0, 1, 2]) (hs := [.p, .p, .p]) (rest := []) (ks := [0, 1, 2, 7, 8]) (env' := [(0, vP b_2), (1, vU i_5), (2, vI n_6), (7, .slice A_24 (l_7 ++ [(rdL g_1.L k_10)]).length c_25), (8, vI (wi64 (k_10 + 1)))]) (H' := [⟨1, b_2, [vU g_1.Snap.Index, vU g_1.Snap.Term, vU g_1.Snap.Config, .string (bs g_1.Snap.Data), .slice A_3 g_1.L.length c_4]⟩]) (ps := []) (by kernel_rfl) trivial ?_
    refine GoO.regionEnd ?_
    refine GoO.inLoop ?_
    exact GoO.sub (ks := [0, 1, 2, 7, 8]) (hk := [0]) (bk := [2, 0]) (by kernel_rfl) (by kernel_rfl) (by kernel_rfl) (ih0 (l_7 ++ [(rdL g_1.L k_10)]) (wi64 (k_10 + 1)) A_24 c_25)
  · refine GoO.skip' c66_21e ?_
    refine GoO.inBlock ?_
    refine GoO.region' (is := [0, 1, 2]) c66_22e (by kernel_rfl) ?_
    refine GoO.exec (is := [0, 1, 2]) (hs := [.p, .p, .p]) (rest := []) (ks := [0, 1, 2, 7, 8]) (env' := [(0, vP b_2), (1, vU i_5), (2, vI n_6), (7, .slice A_8 l_7.length c_9), (8, vI (wi64 (k_10 + 1)))]) (H' := [⟨1, b_2, [vU g_1.Snap.Index, vU g_1.Snap.Term, vU g_1.Snap.Config, .string (bs g_1.Snap.Data), .slice A_3 g_1.L.length c_4]⟩]) (ps := []) (by kernel_rfl) trivial ?_
    refine GoO.regionEnd ?_
    refine GoO.inLoop ?_
    exact GoO.sub (ks := [0, 1, 2, 7, 8]) (hk := [0]) (bk := [0, 1]) (by kernel_rfl) (by kernel_rfl) (by kernel_rfl) (ih0 l_7 (wi64 (k_10 + 1)) A_8 c_9)
theorem tontineref07_Log_Get_j0_ok (n : Nat) (L0 : (List T_api_Entry) → Int → Option (List T_api_Entry)) (g_1 : T_tontineref07_Log) (i_5 : Int) (n_6 : Int) (l_7 : (List T_api_Entry)) (k_10 : Int) (b_2 : Nat) (A_3 : Option Addr) (c_4 : Nat) (A_8 : Option Addr) (c_9 : Nat) (w0 : World) (S0 : Fam) (ih0 : ∀ (l_7 : (List T_api_Entry)) (k_10 : Int) (A_8 : Option Addr) (c_9 : Nat), GoO (tontineref07_Log_Get.cx b_2 A_3 c_4 w0 S0) [(0, vP b_2), (1, vU i_5), (2, vI n_6), (7, .slice A_8 l_7.length c_9), (8, vI k_10)] [⟨1, b_2, [vU g_1.Snap.Index, vU g_1.Snap.Term, vU g_1.Snap.Config, .string (bs g_1.Snap.Data), .slice A_3 g_1.L.length c_4]⟩] [Ow 2 kT_api_Entry A_3 c_4 g_1.L, Ow 41 kT_api_Entry A_8 c_9 l_7] [.code c66_9, .inLoop c66_9, .inBlock 0, .code c66_23] (L0 l_7 k_10)) (b_12 : Bool) :
    GoO (tontineref07_Log_Get.cx b_2 A_3 c_4 w0 S0) [(0, vP b_2), (1, vU i_5), (2, vI n_6), (7, .slice A_8 l_7.length c_9), (8, vI k_10), (21, .bool b_12)] [⟨1, b_2, [vU g_1.Snap.Index, vU g_1.Snap.Term, vU g_1.Snap.Config, .string (bs g_1.Snap.Data), .slice A_3 g_1.L.length c_4]⟩] [Ow 2 kT_api_Entry A_3 c_4 g_1.L, Ow 41 kT_api_Entry A_8 c_9 l_7] [.code c66_12, .code c66_15, .inLoop c66_9, .inBlock 0, .code c66_23] (tontineref07_Log_Get.j0 n L0 g_1 i_5 l_7 k_10 b_12) := by
  unfold tontineref07_Log_Get.j0
  refine GoO.ite' c66_12e (by kernel_rfl) (fun h13 => ?_) (fun h13 => ?_)
  · refine GoO.skip' c66_13e ?_
    refine GoO.seq' c66_15e ?_
    refine GoO.block' c66_16e ?_
    refine GoO.seq' c66_17e ?_
    refine GoO.region' (is := [0, 1, 2, 3, 4, 5, 6, 7, 8, 9, 10, 11, 12, 13, 14, 15, 16, 17, 18, 19, 20, 21, 22, 23, 24, 25, 26]) c66_18e (by kernel_rfl) ?_
    refine GoO.exec (is := [0, 1, 2, 3, 4]) (hs := [.p, .p, .p, .b 0, .p]) (rest := [5, 6, 7, 8, 9, 10, 11, 12, 13, 14, 15, 16, 17, 18, 19, 20, 21, 22, 23, 24, 25, 26]) (ks := [0, 1, 2, 7, 8, 27, 28]) (env' := [(0, vP b_2), (1, vU i_5), (2, vI n_6), (7, .slice A_8 l_7.length c_9), (8, vI k_10), (27, .slice A_3 g_1.L.length c_4), (28, vI k_10)]) (H' := [⟨1, b_2, [vU g_1.Snap.Index, vU g_1.Snap.Term, vU g_1.Snap.Config, .string (bs g_1.Snap.Data), .slice A_3 g_1.L.length c_4]⟩]) (ps := [b_2 = b_2]) (by kernel_rfl) (And.intro rfl trivial) ?_
    refine GoO.guard (fun h14 => ?_)
    refine OpTo.go (GoO.idx (kk := .i64) (e := 40) (K := kT_api_Entry) (A := A_3) (c := c_4) (xs := g_1.L) (iv := k_10) (j := 0) rfl (by kernel_rfl) (by kernel_rfl) (by kernel_rfl) (by kernel_rfl) rfl Reads.own rfl h14.1 h14.2 (by decide) rfl ?_)
    refine OpTo.go (GoO.fldE (K := kT_api_Entry) (A := A_3) (c := c_4) (xs := g_1.L) (iN := k_10.toNat) (off := 0) (n := 1) (j := 0) rfl (by kernel_rfl) (by kernel_rfl) rfl Reads.own (by first | exact idx_lt h14.1 h14.2 | (simp only [List.length_set]; exact idx_lt h14.1 h14.2)) (by decide) rfl ?_)
    refine OpTo.go (GoO.ldE' (K := kT_api_Entry) (A := A_3) (c := c_4) (xs := g_1.L) (iN := k_10.toNat) (off := 1) (j := 0) rfl (by kernel_rfl) rfl Reads.own (by first | exact idx_lt h14.1 h14.2 | (simp only [List.length_set]; exact idx_lt h14.1 h14.2)) (by decide) (Opn.flat _ _ _ _ _) (v := fun _ => vU ((rdL g_1.L k_10).Index)) (fun _ => by kernel_rfl) _ (fun _ => rfl) (fun _ => ?_))
    refine GoO.exec (is := [8, 9, 10]) (hs := [.p, .p, .p]) (rest := [11, 12, 13, 14, 15, 16, 17, 18, 19, 20, 21, 22, 23, 24, 25, 26]) (ks := [0, 1, 2, 7, 8, 34]) (env' := [(0, vP b_2), (1, vU i_5), (2, vI n_6), (7, .slice A_8 l_7.length c_9), (8, vI k_10), (34, .bool (decide (((rdL g_1.L k_10).Index) ≥ i_5)))]) (H' := [⟨1, b_2, [vU g_1.Snap.Index, vU g_1.Snap.Term, vU g_1.Snap.Config, .string (bs g_1.Snap.Data), .slice A_3 g_1.L.length c_4]⟩]) (ps := []) (by kernel_rfl) trivial ?_
    refine GoO.bsplit (t := 34) (by kernel_rfl) (fun h15 => ?_) (fun h15 => ?_)
    · refine GoO.exec (is := [11, 12, 13, 14]) (hs := [.p, .p, .p, .p]) (rest := [15, 16, 17, 18, 19, 20, 21, 22, 23, 24, 25, 26]) (ks := [0, 1, 2, 7, 8, 34, 38]) (env' := [(0, vP b_2), (1, vU i_5), (2, vI n_6), (7, .slice A_8 l_7.length c_9), (8, vI k_10), (34, .bool true), (38, .bool (decide ((l_7.length : Int) > 0)))]) (H' := [⟨1, b_2, [vU g_1.Snap.Index, vU g_1.Snap.Term, vU g_1.Snap.Config, .string (bs g_1.Snap.Data), .slice A_3 g_1.L.length c_4]⟩]) (ps := []) (by kernel_rfl) trivial ?_
      refine GoO.bsplit (t := 38) (by kernel_rfl) (fun h16 => ?_) (fun h16 => ?_)
      · refine GoO.exec (is := [15, 16, 17, 18, 19, 20, 21, 22, 23, 24, 25, 26]) (hs := [.p, .p, .p, .p, .p, .p, .p, .p, .p, .p, .p, .p]) (rest := []) (ks := [0, 1, 2, 7, 8, 50]) (env' := [(0, vP b_2), (1, vU i_5), (2, vI n_6), (7, .slice A_8 l_7.length c_9), (8, vI k_10), (50, .bool true)]) (H' := [⟨1, b_2, [vU g_1.Snap.Index, vU g_1.Snap.Term, vU g_1.Snap.Config, .string (bs g_1.Snap.Data), .slice A_3 g_1.L.length c_4]⟩]) (ps := []) (by kernel_rfl) trivial ?_
        refine GoO.regionEnd ?_
        exact GoO.sub (ks := [0, 1, 2, 7, 8, 50]) (hk := [0]) (bk := [0, 1]) (by kernel_rfl) (by kernel_rfl) (by kernel_rfl) (tontineref07_Log_Get_j1_ok n L0 g_1 i_5 n_6 l_7 k_10 b_2 A_3 c_4 A_8 c_9 w0 S0 ih0 true)
      · refine GoO.exec (is := [15, 16, 17, 18, 19]) (hs := [.p, .p, .p, .b 0, .p]) (rest := [20, 21, 22, 23, 24, 25, 26]) (ks := [0, 1, 2, 7, 8, 34, 38, 42, 43]) (env' := [(0, vP b_2), (1, vU i_5), (2, vI n_6), (7, .slice A_8 l_7.length c_9), (8, vI k_10), (34, .bool true), (38, .bool false), (42, .slice A_3 g_1.L.length c_4), (43, vI k_10)]) (H' := [⟨1, b_2, [vU g_1.Snap.Index, vU g_1.Snap.Term, vU g_1.Snap.Config, .string (bs g_1.Snap.Data), .slice A_3 g_1.L.length c_4]⟩]) (ps := [b_2 = b_2]) (by kernel_rfl) (And.intro rfl trivial) ?_
        refine GoO.guard (fun h17 => ?_)
        refine OpTo.go (GoO.idx (kk := .i64) (e := 40) (K := kT_api_Entry) (A := A_3) (c := c_4) (xs := g_1.L) (iv := k_10) (j := 0) rfl (by kernel_rfl) (by kernel_rfl) (by kernel_rfl) (by kernel_rfl) rfl Reads.own rfl h17.1 h17.2 (by decide) rfl ?_)
        refine OpTo.go (GoO.fldE (K := kT_api_Entry) (A := A_3) (c := c_4) (xs := g_1.L) (iN := k_10.toNat) (off := 0) (n := 1) (j := 0) rfl (by kernel_rfl) (by kernel_rfl) rfl Reads.own (by first | exact idx_lt h17.1 h17.2 | (simp only [List.length_set]; exact idx_lt h17.1 h17.2)) (by decide) rfl ?_)
        refine OpTo.go (GoO.ldE' (K := kT_api_Entry) (A := A_3) (c := c_4) (xs := g_1.L) (iN := k_10.toNat) (off := 1) (j := 0) rfl (by kernel_rfl) rfl Reads.own (by first | exact idx_lt h17.1 h17.2 | (simp only [List.length_set]; exact idx_lt h17.1 h17.2)) (by decide) (Opn.flat _ _ _ _ _) (v := fun _ => vU ((rdL g_1.L k_10).Index)) (fun _ => by kernel_rfl) _ (fun _ => rfl) (fun _ => ?_))
        refine GoO.exec (is := [23, 24, 25, 26]) (hs := [.p, .p, .p, .p]) (rest := []) (ks := [0, 1, 2, 7, 8, 50]) (env' := [(0, vP b_2), (1, vU i_5), (2, vI n_6), (7, .slice A_8 l_7.length c_9), (8, vI k_10), (50, .bool (((rdL g_1.L k_10).Index) == i_5))]) (H' := [⟨1, b_2, [vU g_1.Snap.Index, vU g_1.Snap.Term, vU g_1.Snap.Config, .string (bs g_1.Snap.Data), .slice A_3 g_1.L.length c_4]⟩]) (ps := []) (by kernel_rfl) trivial ?_
        refine GoO.regionEnd ?_
        exact GoO.sub (ks := [0, 1, 2, 7, 8, 50]) (hk := [0]) (bk := [0, 1]) (by kernel_rfl) (by kernel_rfl) (by kernel_rfl) (tontineref07_Log_Get_j1_ok n L0 g_1 i_5 n_6 l_7 k_10 b_2 A_3 c_4 A_8 c_9 w0 S0 ih0 (((rdL g_1.L k_10).Index) == i_5))
    · refine GoO.exec (is := [11, 12, 13, 14, 15, 16, 17, 18, 19, 20, 21, 22, 23, 24, 25, 26]) (hs := [.p, .p, .p, .p, .p, .p, .p, .p, .p, .p, .p, .p, .p, .p, .p, .p]) (rest := []) (ks := [0, 1, 2, 7, 8, 50]) (env' := [(0, vP b_2), (1, vU i_5), (2, vI n_6), (7, .slice A_8 l_7.length c_9), (8, vI k_10), (50, .bool false)]) (H' := [⟨1, b_2, [vU g_1.Snap.Index, vU g_1.Snap.Term, vU g_1.Snap.Config, .string (bs g_1.Snap.Data), .slice A_3 g_1.L.length c_4]⟩]) (ps := []) (by kernel_rfl) trivial ?_
      refine GoO.regionEnd ?_
      exact GoO.sub (ks := [0, 1, 2, 7, 8, 50]) (hk := [0]) (bk := [0, 1]) (by kernel_rfl) (by kernel_rfl) (by kernel_rfl) (tontineref07_Log_Get_j1_ok n L0 g_1 i_5 n_6 l_7 k_10 b_2 A_3 c_4 A_8 c_9 w0 S0 ih0 false)
  · refine GoO.exit' c66_14e rfl ?_
    refine GoO.seq' c66_23e ?_
    refine GoO.region' (is := [0, 1]) c66_24e (by kernel_rfl) ?_
    refine GoO.exec (is := [0, 1]) (hs := [.p, .p]) (rest := []) (ks := [6]) (env' := [(6, .slice A_8 l_7.length c_9)]) (H' := [⟨1, b_2, [vU g_1.Snap.Index, vU g_1.Snap.Term, vU g_1.Snap.Config, .string (bs g_1.Snap.Data), .slice A_3 g_1.L.length c_4]⟩]) (ps := []) (by kernel_rfl) trivial ?_
    refine GoO.regionEnd ?_
    refine GoO.retag (t := 41) (u := 3) (j := 1) (hk := [0]) (bk := [0]) rfl rfl rfl rfl rfl rfl (by kernel_rfl) (by kernel_rfl) ?_
    exact GoO.ret' (h := c66_25e) (hs := []) (ps := []) (hk := []) (bk := [0]) Try.func66 (⟨A_8, c_9⟩ : Option Addr × Nat) (by kernel_rfl) trivial (by kernel_rfl) (by kernel_rfl)
theorem tontineref07_Log_Get_l0_ok (n : Nat) (g_1 : T_tontineref07_Log) (i_5 : Int) (n_6 : Int) (b_2 : Nat) (A_3 : Option Addr) (c_4 : Nat) (w0 : World) (S0 : Fam) :
    ∀ (k : Nat) (l_7 : (List T_api_Entry)) (k_10 : Int) (A_8 : Option Addr) (c_9 : Nat), GoO (tontineref07_Log_Get.cx b_2 A_3 c_4 w0 S0) [(0, vP b_2), (1, vU i_5), (2, vI n_6), (7, .slice A_8 l_7.length c_9), (8, vI k_10)] [⟨1, b_2, [vU g_1.Snap.Index, vU g_1.Snap.Term, vU g_1.Snap.Config, .string (bs g_1.Snap.Data), .slice A_3 g_1.L.length c_4]⟩] [Ow 2 kT_api_Entry A_3 c_4 g_1.L, Ow 41 kT_api_Entry A_8 c_9 l_7] [.code c66_9, .inLoop c66_9, .inBlock 0, .code c66_23] (tontineref07_Log_Get.l0 n g_1 i_5 n_6 k l_7 k_10) := by
  intro k
  induction k with
  | zero => intros; rw [tontineref07_Log_Get.l0.eq_1]; exact GoO.stop
  | succ k ih0 =>
    intro l_7 k_10 A_8 c_9
    rw [tontineref07_Log_Get.l0.eq_2]
    refine GoO.seq' c66_9e ?_
    refine GoO.seq' c66_10e ?_
    refine GoO.region' (is := [0, 1, 2, 3, 4, 5, 6, 7, 8, 9, 10, 11, 12]) c66_11e (by kernel_rfl) ?_
    refine GoO.exec (is := [0, 1, 2, 3, 4, 5, 6, 7]) (hs := [.p, .p, .p, .p, .b 0, .p, .p, .p]) (rest := [8, 9, 10, 11, 12]) (ks := [0, 1, 2, 7, 8, 16]) (env' := [(0, vP b_2), (1, vU i_5), (2, vI n_6), (7, .slice A_8 l_7.length c_9), (8, vI k_10), (16, .bool (decide (k_10 < (g_1.L.length : Int))))]) (H' := [⟨1, b_2, [vU g_1.Snap.Index, vU g_1.Snap.Term, vU g_1.Snap.Config, .string (bs g_1.Snap.Data), .slice A_3 g_1.L.length c_4]⟩]) (ps := [b_2 = b_2]) (by kernel_rfl) (And.intro rfl trivial) ?_
    refine GoO.bsplit (t := 16) (by kernel_rfl) (fun h11 => ?_) (fun h11 => ?_)
    · refine GoO.exec (is := [8, 9, 10, 11, 12]) (hs := [.p, .p, .p, .p, .p]) (rest := []) (ks := [0, 1, 2, 7, 8, 21]) (env' := [(0, vP b_2), (1, vU i_5), (2, vI n_6), (7, .slice A_8 l_7.length c_9), (8, vI k_10), (21, .bool (decide ((l_7.length : Int) < n_6)))]) (H' := [⟨1, b_2, [vU g_1.Snap.Index, vU g_1.Snap.Term, vU g_1.Snap.Config, .string (bs g_1.Snap.Data), .slice A_3 g_1.L.length c_4]⟩]) (ps := []) (by kernel_rfl) trivial ?_
      refine GoO.regionEnd ?_
      exact GoO.sub (ks := [0, 1, 2, 7, 8, 21]) (hk := [0]) (bk := [0, 1]) (by kernel_rfl) (by kernel_rfl) (by kernel_rfl) (tontineref07_Log_Get_j0_ok n (tontineref07_Log_Get.l0 n g_1 i_5 n_6 k) g_1 i_5 n_6 l_7 k_10 b_2 A_3 c_4 A_8 c_9 w0 S0 ih0 (decide ((l_7.length : Int) < n_6)))
    · refine GoO.exec (is := [8, 9, 10, 11, 12]) (hs := [.p, .p, .p, .p, .p]) (rest := []) (ks := [0, 1, 2, 7, 8, 21]) (env' := [(0, vP b_2), (1, vU i_5), (2, vI n_6), (7, .slice A_8 l_7.length c_9), (8, vI k_10), (21, .bool false)]) (H' := [⟨1, b_2, [vU g_1.Snap.Index, vU g_1.Snap.Term, vU g_1.Snap.Config, .string (bs g_1.Snap.Data), .slice A_3 g_1.L.length c_4]⟩]) (ps := []) (by kernel_rfl) trivial ?_
      refine GoO.regionEnd ?_
      exact GoO.sub (ks := [0, 1, 2, 7, 8, 21]) (hk := [0]) (bk := [0, 1]) (by kernel_rfl) (by kernel_rfl) (by kernel_rfl) (tontineref07_Log_Get_j0_ok n (tontineref07_Log_Get.l0 n g_1 i_5 n_6 k) g_1 i_5 n_6 l_7 k_10 b_2 A_3 c_4 A_8 c_9 w0 S0 ih0 false)
theorem tontineref07_Log_Get_ok (n : Nat) (g_1 : T_tontineref07_Log) (i_5 : Int) (n_6 : Int) (b_2 : Nat) (A_3 : Option Addr) (c_4 : Nat) :
    Meets Try.prog 66 [vP b_2, vU i_5, vI n_6] 2 [] [⟨1, b_2, [vU g_1.Snap.Index, vU g_1.Snap.Term, vU g_1.Snap.Config, .string (bs g_1.Snap.Data), .slice A_3 g_1.L.length c_4]⟩] [Ow 2 kT_api_Entry A_3 c_4 g_1.L] (tontineref07_Log_Get.f n g_1 i_5 n_6) (tontineref07_Log_Get.R b_2 A_3 c_4) := by
  refine Meets.of (c := c66_0) (n := 62) Try.func66 (by kernel_rfl) (by kernel_rfl) (by kernel_rfl) fun w0 S0 => ?_
  unfold tontineref07_Log_Get.f
  show GoO (tontineref07_Log_Get.cx b_2 A_3 c_4 w0 S0) [(0, vP b_2), (1, vU i_5), (2, vI n_6)] [⟨1, b_2, [vU g_1.Snap.Index, vU g_1.Snap.Term, vU g_1.Snap.Config, .string (bs g_1.Snap.Data), .slice A_3 g_1.L.length c_4]⟩] [Ow 2 kT_api_Entry A_3 c_4 g_1.L] [.code c66_0] _
  refine GoO.seq' c66_0e ?_
  refine GoO.region' (is := [0]) c66_1e (by kernel_rfl) ?_
  refine GoO.exec (is := [0]) (hs := [.p]) (rest := []) (ks := [0, 1, 2]) (env' := [(0, vP b_2), (1, vU i_5), (2, vI n_6)]) (H' := [⟨1, b_2, [vU g_1.Snap.Index, vU g_1.Snap.Term, vU g_1.Snap.Config, .string (bs g_1.Snap.Data), .slice A_3 g_1.L.length c_4]⟩]) (ps := []) (by kernel_rfl) trivial ?_
  refine GoO.regionEnd ?_
  refine GoO.seq' c66_2e ?_
  refine GoO.region' (is := [0]) c66_3e (by kernel_rfl) ?_
  refine GoO.exec (is := [0]) (hs := [.p]) (rest := []) (ks := [0, 1, 2, 7]) (env' := [(0, vP b_2), (1, vU i_5), (2, vI n_6), (7, .slice none ([] : List T_api_Entry).length 0)]) (H' := [⟨1, b_2, [vU g_1.Snap.Index, vU g_1.Snap.Term, vU g_1.Snap.Config, .string (bs g_1.Snap.Data), .slice A_3 g_1.L.length c_4]⟩]) (ps := []) (by kernel_rfl) trivial ?_
  refine GoO.regionEnd ?_
  refine GoO.seq' c66_4e ?_
  refine GoO.seq' c66_5e ?_
  refine GoO.region' (is := [0]) c66_6e (by kernel_rfl) ?_
  refine GoO.exec (is := [0]) (hs := [.p]) (rest := []) (ks := [0, 1, 2, 7, 8]) (env' := [(0, vP b_2), (1, vU i_5), (2, vI n_6), (7, .slice none ([] : List T_api_Entry).length 0), (8, vI 0)]) (H' := [⟨1, b_2, [vU g_1.Snap.Index, vU g_1.Snap.Term, vU g_1.Snap.Config, .string (bs g_1.Snap.Data), .slice A_3 g_1.L.length c_4]⟩]) (ps := []) (by kernel_rfl) trivial ?_
  refine GoO.regionEnd ?_
  refine GoO.block' c66_7e ?_
  refine GoO.loop' c66_8e ?_
  refine GoO.nilOwn kT_api_Entry 41 ?_
  exact GoO.sub (ks := [0, 1, 2, 7, 8]) (hk := [0]) (bk := [1, 0]) (by kernel_rfl) (by kernel_rfl) (by kernel_rfl) (tontineref07_Log_Get_l0_ok n g_1 i_5 n_6 b_2 A_3 c_4 w0 S0 n ([] : List T_api_Entry) 0 none 0)
/-! tontine/tontinelaw07.alike -/
noncomputable def c29_0 : Code := bodyOf Try.f29
noncomputable def c29_1 : Code := cdL c29_0
noncomputable def c29_2 : Code := cdR c29_0
noncomputable def c29_3 : Code := cdL c29_2
noncomputable def c29_4 : Code := cdR c29_2
noncomputable def c29_5 : Code := cdL c29_4
noncomputable def c29_6 : Code := cdR c29_4
noncomputable def c29_7 : Code := cdL c29_6
noncomputable def c29_8 : Code := cdR c29_6
noncomputable def c29_9 : Code := cdL c29_8
noncomputable def c29_10 : Code := cdR c29_8
noncomputable def c29_11 : Code := cdL c29_10
noncomputable def c29_12 : Code := cdR c29_10
noncomputable def c29_13 : Code := cdL c29_12
noncomputable def c29_14 : Code := cdR c29_12
noncomputable def c29_15 : Code := cdL c29_14
noncomputable def c29_16 : Code := cdR c29_14
noncomputable def c29_17 : Code := cdL c29_16
noncomputable def c29_18 : Code := cdR c29_16
noncomputable def c29_19 : Code := cdL c29_18
noncomputable def c29_20 : Code := cdR c29_18
noncomputable def r29_1 : Array Oper := cdO c29_1
noncomputable def r29_3 : Array Oper := cdO c29_3
noncomputable def r29_5 : Array Oper := cdO c29_5
noncomputable def r29_7 : Array Oper := cdO c29_7
noncomputable def r29_9 : Array Oper := cdO c29_9
noncomputable def r29_11 : Array Oper := cdO c29_11
noncomputable def r29_13 : Array Oper := cdO c29_13
noncomputable def r29_15 : Array Oper := cdO c29_15
noncomputable def r29_17 : Array Oper := cdO c29_17
noncomputable def r29_19 : Array Oper := cdO c29_19
theorem c29_0e : c29_0 = .seq c29_1 c29_2 := by kernel_rfl
theorem c29_1e : c29_1 = .region 0 r29_1 false := by kernel_rfl
theorem c29_2e : c29_2 = .seq c29_3 c29_4 := by kernel_rfl
theorem c29_3e : c29_3 = .region 1 r29_3 false := by kernel_rfl
theorem c29_4e : c29_4 = .seq c29_5 c29_6 := by kernel_rfl
theorem c29_5e : c29_5 = .region 2 r29_5 false := by kernel_rfl
theorem c29_6e : c29_6 = .seq c29_7 c29_8 := by kernel_rfl
theorem c29_7e : c29_7 = .region 3 r29_7 false := by kernel_rfl
theorem c29_8e : c29_8 = .seq c29_9 c29_10 := by kernel_rfl
theorem c29_9e : c29_9 = .region 4 r29_9 false := by kernel_rfl
theorem c29_10e : c29_10 = .seq c29_11 c29_12 := by kernel_rfl
theorem c29_11e : c29_11 = .region 5 r29_11 false := by kernel_rfl
theorem c29_12e : c29_12 = .seq c29_13 c29_14 := by kernel_rfl
theorem c29_13e : c29_13 = .region 6 r29_13 false := by kernel_rfl
theorem c29_14e : c29_14 = .seq c29_15 c29_16 := by kernel_rfl
theorem c29_15e : c29_15 = .region 7 r29_15 false := by kernel_rfl
theorem c29_16e : c29_16 = .seq c29_17 c29_18 := by kernel_rfl
theorem c29_17e : c29_17 = .region 8 r29_17 false := by kernel_rfl
theorem c29_18e : c29_18 = .seq c29_19 c29_20 := by kernel_rfl
theorem c29_19e : c29_19 = .region 9 r29_19 true := by kernel_rfl
theorem c29_20e : c29_20 = .ret := by kernel_rfl
noncomputable def tontinelaw07_alike.R (b_2 : Nat) (A_3 : Option Addr) (c_4 : Nat) (b_6 : Nat) (A_7 : Option Addr) (c_8 : Nat) : Pst Bool where
  ε := Unit
  v := fun r x => .bool r
  H := fun r x => []
  B := fun r x => []
noncomputable def tontinelaw07_alike.cx (b_2 : Nat) (A_3 : Option Addr) (c_4 : Nat) (b_6 : Nat) (A_7 : Option Addr) (c_8 : Nat) (w0 : World) (S0 : Fam) : Cx Bool := ⟨Try.prog, 29, Try.f29, 142, w0, S0, [], 4, tontinelaw07_alike.R b_2 A_3 c_4 b_6 A_7 c_8⟩
theorem tontinelaw07_alike_j7_ok (n : Nat) (g_1 : T_rlog_Log) (m_5 : T_tontineref07_Log) (i_9 : Int) (n_10 : Int) (b_2 : Nat) (A_3 : Option Addr) (c_4 : Nat) (b_6 : Nat) (A_7 : Option Addr) (c_8 : Nat) (w0 : World) (S0 : Fam) (b_35 : Bool) :
    GoF (tontinelaw07_alike.cx b_2 A_3 c_4 b_6 A_7 c_8 w0 S0) r29_19 [73] [⟨3, b_6, [vU m_5.Snap.Index, vU m_5.Snap.Term, vU m_5.Snap.Config, .string (bs m_5.Snap.Data), .slice A_7 m_5.L.length c_8]⟩] [] [.code c29_20] 27 [true, true, true, true, true, true, true, true, true, true, true, true, true, true, true, true, true, true, true, true, true, true, true, true, true, true, true, true, true, true, true, true, true, true, true, true, true, true, true, true, true, true, true, true, true, true, true, false, false, false, false, false, false, false, false, false, false, false, false, false, false, false, false, false, false, false, false, false, false, false, false, false, false, false] [(0, vP b_2), (1, vP b_6), (2, vU i_9), (3, vI n_10), (115, .bool b_35)] [⟨1, b_2, [vU g_1.snap.Index, vU g_1.snap.Term, vU g_1.snap.Config, .string (bs g_1.snap.Data), .slice A_3 g_1.entries.length c_4]⟩, ⟨3, b_6, [vU m_5.Snap.Index, vU m_5.Snap.Term, vU m_5.Snap.Config, .string (bs m_5.Snap.Data), .slice A_7 m_5.L.length c_8]⟩] [Ow 2 kT_api_Entry A_3 c_4 g_1.entries, Ow 4 kT_api_Entry A_7 c_8 m_5.L] (tontinelaw07_alike.j7 n g_1 m_5 i_9 n_10 b_35) := by
  unfold tontinelaw07_alike.j7
  refine GoF.take [47] [.p] (ks := [0, 1, 2, 3, 116]) (fu := 26) (li := [true, true, true, true, true, true, true, true, true, true, true, true, true, true, true, true, true, true, true, true, true, true, true, true, true, true, true, true, true, true, true, true, true, true, true, true, true, true, true, true, true, true, true, true, true, true, true, true, false, false, false, false, false, false, false, false, false, false, false, false, false, false, false, false, false, false, false, false, false, false, false, false, false, false]) (env' := [(0, vP b_2), (1, vP b_6), (2, vU i_9), (3, vI n_10), (116, .bool b_35)]) (ps := []) (hk := [1]) (bk := []) (by kernel_rfl) trivial rfl rfl ?_
  refine GoF.bsplit (t := 116) (by kernel_rfl) (fun h36 => ?_) (fun h36 => ?_)
  · refine GoF.take [48, 49, 50, 51, 52, 53, 54, 56, 57, 58, 59] [.p, .p, .p, .p, .p, .b 0, .p, .p, .p, .p, .b 0] (ks := [0, 1, 2, 3, 116, 117, 123, 128]) (fu := 15) (li := [true, true, true, true, true, true, true, true, true, true, true, true, true, true, true, true, true, true, true, true, true, true, true, true, true, true, true, true, true, true, true, true, true, true, true, true, true, true, true, true, true, true, true, true, true, true, true, true, true, true, true, true, true, true, true, false, true, true, true, true, false, false, false, false, false, false, false, false, false, false, false, false, false, false]) (env' := [(0, vP b_2), (1, vP b_6), (2, vU i_9), (3, vI n_10), (116, .bool true), (117, vP b_2), (123, vU (wu64 (m_5.Snap.Index + 1))), (128, .slice A_7 m_5.L.length c_8)]) (ps := [b_6 = b_6, b_6 = b_6]) (hk := [1]) (bk := []) (by kernel_rfl) (And.intro rfl (And.intro rfl trivial)) rfl rfl ?_
    refine OpTo.goF (i := 55) (by kernel_rfl) (hk := [1]) (bk := []) (GoO.call rfl (by kernel_rfl) (by kernel_rfl) (rlog_Log_Get_ok n (⟨(⟨g_1.snap.Index, g_1.snap.Term, g_1.snap.Config, g_1.snap.Data⟩ : T_api_Snapshot), g_1.entries⟩ : T_rlog_Log) (wu64 (m_5.Snap.Index + 1)) 1000 b_2 A_3 c_4) [[0], [1], [2]] [(40, 3)] [(1, 0)] [(2, 0)] (hks := [0, 1]) (bks := [0, 1]) (by kernel_rfl) (by kernel_rfl) (by kernel_rfl) (.inl rfl) rfl rfl (by kernel_rfl) (by kernel_rfl) _ (fun _ _ => rfl) _ _ (fun _ _ => rfl) (fun _ _ => rfl) (fun _ _ => by kernel_rfl) (fun _ _ => by kernel_rfl) (fun r_37 x_53 => ⟨rfl, rfl, ?_⟩))
    obtain ⟨A_38, c_39⟩ := x_53
    refine GoF.shape (env' := [(0, vP b_2), (1, vP b_6), (2, vU i_9), (3, vI n_10), (116, .bool true), (117, vP b_2), (123, vU (wu64 (m_5.Snap.Index + 1))), (124, .slice A_38 r_37.length c_39), (128, .slice A_7 m_5.L.length c_8)]) (H' := [⟨1, b_2, [vU g_1.snap.Index, vU g_1.snap.Term, vU g_1.snap.Config, .string (bs g_1.snap.Data), .slice A_3 g_1.entries.length c_4]⟩, ⟨3, b_6, [vU m_5.Snap.Index, vU m_5.Snap.Term, vU m_5.Snap.Config, .string (bs m_5.Snap.Data), .slice A_7 m_5.L.length c_8]⟩]) (B' := [Ow 40 kT_api_Entry A_38 c_39 r_37, Ow 2 kT_api_Entry A_3 c_4 g_1.entries, Ow 4 kT_api_Entry A_7 c_8 m_5.L]) (ks := [0, 1, 2, 3, 116, 117, 123, 124, 128]) (by kernel_rfl) (by kernel_rfl) (by kernel_rfl) ?_
    refine GoF.view (j := 0) rfl ?_
    refine GoF.view (j := 2) rfl ?_
    refine OpTo.goF (i := 60) (by kernel_rfl) (hk := [1]) (bk := []) (GoO.call rfl (by kernel_rfl) (by kernel_rfl) (tontineref07_Same_ok n r_37 m_5.L A_38 c_39 A_7 c_8) [[0, 40, 4]] [] [] [(0, 3), (0, 4)] (hks := [0, 1]) (bks := [0, 1, 2]) (by kernel_rfl) (by kernel_rfl) (by kernel_rfl) (.inr (fun _ _ => by simp [tontineref07_Same.R])) rfl rfl (by kernel_rfl) (by kernel_rfl) _ (fun _ _ => rfl) _ _ (fun _ _ => rfl) (fun _ _ => rfl) (fun _ _ => by kernel_rfl) (fun _ _ => by kernel_rfl) (fun r_40 x_52 => ⟨rfl, rfl, ?_⟩))
    refine GoF.shape (env' := [(0, vP b_2), (1, vP b_6), (2, vU i_9), (3, vI n_10), (116, .bool true), (117, vP b_2), (123, vU (wu64 (m_5.Snap.Index + 1))), (124, .slice A_38 r_37.length c_39), (128, .slice A_7 m_5.L.length c_8), (129, .bool r_40)]) (H' := [⟨1, b_2, [vU g_1.snap.Index, vU g_1.snap.Term, vU g_1.snap.Config, .string (bs g_1.snap.Data), .slice A_3 g_1.entries.length c_4]⟩, ⟨3, b_6, [vU m_5.Snap.Index, vU m_5.Snap.Term, vU m_5.Snap.Config, .string (bs m_5.Snap.Data), .slice A_7 m_5.L.length c_8]⟩]) (B' := [Ow 40 kT_api_Entry A_38 c_39 r_37, Ow 2 kT_api_Entry A_3 c_4 g_1.entries, Ow 4 kT_api_Entry A_7 c_8 m_5.L]) (ks := [0, 1, 2, 3, 116, 117, 123, 124, 128, 129]) (by kernel_rfl) (by kernel_rfl) (by kernel_rfl) ?_
    refine GoF.take [61] [.p] (ks := [0, 1, 2, 3, 130]) (fu := 12) (li := [true, true, true, true, true, true, true, true, true, true, true, true, true, true, true, true, true, true, true, true, true, true, true, true, true, true, true, true, true, true, true, true, true, true, true, true, true, true, true, true, true, true, true, true, true, true, true, true, true, true, true, true, true, true, true, true, true, true, true, true, true, true, false, false, false, false, false, false, false, false, false, false, false, false]) (env' := [(0, vP b_2), (1, vP b_6), (2, vU i_9), (3, vI n_10), (130, .bool r_40)]) (ps := []) (hk := [1]) (bk := []) (by kernel_rfl) trivial rfl rfl ?_
    refine GoF.take [62] [.p] (ks := [0, 1, 2, 3, 131]) (fu := 11) (li := [true, true, true, true, true, true, true, true, true, true, true, true, true, true, true, true, true, true, true, true, true, true, true, true, true, true, true, true, true, true, true, true, true, true, true, true, true, true, true, true, true, true, true, true, true, true, true, true, true, true, true, true, true, true, true, true, true, true, true, true, true, true, true, false, false, false, false, false, false, false, false, false, false, false]) (env' := [(0, vP b_2), (1, vP b_6), (2, vU i_9), (3, vI n_10), (131, .bool r_40)]) (ps := []) (hk := [1]) (bk := []) (by kernel_rfl) trivial rfl rfl ?_
    refine GoF.bsplit (t := 131) (by kernel_rfl) (fun h41 => ?_) (fun h41 => ?_)
    · refine GoF.take [63, 64, 65, 67, 68, 69] [.p, .p, .p, .p, .p, .p] (ks := [131, 132, 133, 134, 136, 137, 138]) (fu := 5) (li := [true, true, true, true, true, true, true, true, true, true, true, true, true, true, true, true, true, true, true, true, true, true, true, true, true, true, true, true, true, true, true, true, true, true, true, true, true, true, true, true, true, true, true, true, true, true, true, true, true, true, true, true, true, true, true, true, true, true, true, true, true, true, true, true, true, true, false, true, true, true, false, false, false, false]) (env' := [(131, .bool true), (132, vP b_2), (133, vU i_9), (134, vI n_10), (136, vP b_6), (137, vU i_9), (138, vI n_10)]) (ps := []) (hk := [1]) (bk := []) (by kernel_rfl) trivial rfl rfl ?_
      refine OpTo.goF (i := 66) (by kernel_rfl) (hk := [1]) (bk := []) (GoO.call rfl (by kernel_rfl) (by kernel_rfl) (rlog_Log_Get_ok n (⟨(⟨g_1.snap.Index, g_1.snap.Term, g_1.snap.Config, g_1.snap.Data⟩ : T_api_Snapshot), g_1.entries⟩ : T_rlog_Log) i_9 n_10 b_2 A_3 c_4) [[0], [1], [2]] [(41, 3)] [(1, 0)] [(2, 1)] (hks := [0, 1]) (bks := [0, 1, 2]) (by kernel_rfl) (by kernel_rfl) (by kernel_rfl) (.inl rfl) rfl rfl (by kernel_rfl) (by kernel_rfl) _ (fun _ _ => rfl) _ _ (fun _ _ => rfl) (fun _ _ => rfl) (fun _ _ => by kernel_rfl) (fun _ _ => by kernel_rfl) (fun r_42 x_51 => ⟨rfl, rfl, ?_⟩))
      obtain ⟨A_43, c_44⟩ := x_51
      refine GoF.shape (env' := [(131, .bool true), (132, vP b_2), (133, vU i_9), (134, vI n_10), (135, .slice A_43 r_42.length c_44), (136, vP b_6), (137, vU i_9), (138, vI n_10)]) (H' := [⟨1, b_2, [vU g_1.snap.Index, vU g_1.snap.Term, vU g_1.snap.Config, .string (bs g_1.snap.Data), .slice A_3 g_1.entries.length c_4]⟩, ⟨3, b_6, [vU m_5.Snap.Index, vU m_5.Snap.Term, vU m_5.Snap.Config, .string (bs m_5.Snap.Data), .slice A_7 m_5.L.length c_8]⟩]) (B' := [Ow 41 kT_api_Entry A_43 c_44 r_42, Ow 40 kT_api_Entry A_38 c_39 r_37, Ow 2 kT_api_Entry A_3 c_4 g_1.entries, Ow 4 kT_api_Entry A_7 c_8 m_5.L]) (ks := [131, 132, 133, 134, 135, 136, 137, 138]) (by kernel_rfl) (by kernel_rfl) (by kernel_rfl) ?_
      refine OpTo.goF (i := 70) (by kernel_rfl) (hk := [1]) (bk := []) (GoO.call rfl (by kernel_rfl) (by kernel_rfl) (tontineref07_Log_Get_ok n (⟨(⟨m_5.Snap.Index, m_5.Snap.Term, m_5.Snap.Config, m_5.Snap.Data⟩ : T_api_Snapshot), m_5.L⟩ : T_tontineref07_Log) i_9 n_10 b_6 A_7 c_8) [[0], [3], [4]] [(42, 3)] [(1, 1)] [(2, 3)] (hks := [0, 1]) (bks := [0, 1, 2, 3]) (by kernel_rfl) (by kernel_rfl) (by kernel_rfl) (.inl rfl) rfl rfl (by kernel_rfl) (by kernel_rfl) _ (fun _ _ => rfl) _ _ (fun _ _ => rfl) (fun _ _ => rfl) (fun _ _ => by kernel_rfl) (fun _ _ => by kernel_rfl) (fun r_45 x_50 => ⟨rfl, rfl, ?_⟩))
      obtain ⟨A_46, c_47⟩ := x_50
      refine GoF.shape (env' := [(131, .bool true), (132, vP b_2), (133, vU i_9), (134, vI n_10), (135, .slice A_43 r_42.length c_44), (136, vP b_6), (137, vU i_9), (138, vI n_10), (139, .slice A_46 r_45.length c_47)]) (H' := [⟨1, b_2, [vU g_1.snap.Index, vU g_1.snap.Term, vU g_1.snap.Config, .string (bs g_1.snap.Data), .slice A_3 g_1.entries.length c_4]⟩, ⟨3, b_6, [vU m_5.Snap.Index, vU m_5.Snap.Term, vU m_5.Snap.Config, .string (bs m_5.Snap.Data), .slice A_7 m_5.L.length c_8]⟩]) (B' := [Ow 42 kT_api_Entry A_46 c_47 r_45, Ow 41 kT_api_Entry A_43 c_44 r_42, Ow 40 kT_api_Entry A_38 c_39 r_37, Ow 2 kT_api_Entry A_3 c_4 g_1.entries, Ow 4 kT_api_Entry A_7 c_8 m_5.L]) (ks := [131, 132, 133, 134, 135, 136, 137, 138, 139]) (by kernel_rfl) (by kernel_rfl) (by kernel_rfl) ?_
      refine GoF.view (j := 1) rfl ?_
      refine GoF.view (j := 0) rfl ?_
      refine OpTo.goF (i := 71) (by kernel_rfl) (hk := [1]) (bk := []) (GoO.call rfl (by kernel_rfl) (by kernel_rfl) (tontineref07_Same_ok n r_42 r_45 A_43 c_44 A_46 c_47) [[0, 41, 42]] [] [] [(0, 5), (0, 6)] (hks := [0, 1]) (bks := [0, 1, 2, 3, 4]) (by kernel_rfl) (by kernel_rfl) (by kernel_rfl) (.inr (fun _ _ => by simp [tontineref07_Same.R])) rfl rfl (by kernel_rfl) (by kernel_rfl) _ (fun _ _ => rfl) _ _ (fun _ _ => rfl) (fun _ _ => rfl) (fun _ _ => by kernel_rfl) (fun _ _ => by kernel_rfl) (fun r_48 x_49 => ⟨rfl, rfl, ?_⟩))
      refine GoF.shape (env' := [(131, .bool true), (132, vP b_2), (133, vU i_9), (134, vI n_10), (135, .slice A_43 r_42.length c_44), (136, vP b_6), (137, vU i_9), (138, vI n_10), (139, .slice A_46 r_45.length c_47), (140, .bool r_48)]) (H' := [⟨1, b_2, [vU g_1.snap.Index, vU g_1.snap.Term, vU g_1.snap.Config, .string (bs g_1.snap.Data), .slice A_3 g_1.entries.length c_4]⟩, ⟨3, b_6, [vU m_5.Snap.Index, vU m_5.Snap.Term, vU m_5.Snap.Config, .string (bs m_5.Snap.Data), .slice A_7 m_5.L.length c_8]⟩]) (B' := [Ow 42 kT_api_Entry A_46 c_47 r_45, Ow 41 kT_api_Entry A_43 c_44 r_42, Ow 40 kT_api_Entry A_38 c_39 r_37, Ow 2 kT_api_Entry A_3 c_4 g_1.entries, Ow 4 kT_api_Entry A_7 c_8 m_5.L]) (ks := [131, 132, 133, 134, 135, 136, 137, 138, 139, 140]) (by kernel_rfl) (by kernel_rfl) (by kernel_rfl) ?_
      refine GoF.take [72] [.p] (ks := [141]) (fu := 1) (li := [true, true, true, true, true, true, true, true, true, true, true, true, true, true, true, true, true, true, true, true, true, true, true, true, true, true, true, true, true, true, true, true, true, true, true, true, true, true, true, true, true, true, true, true, true, true, true, true, true, true, true, true, true, true, true, true, true, true, true, true, true, true, true, true, true, true, true, true, true, true, true, true, true, false]) (env' := [(141, .bool r_48)]) (ps := []) (hk := [1]) (bk := []) (by kernel_rfl) trivial rfl rfl ?_
      refine GoF.fin1 (i := 73) (hint := .p) (ps := []) (hk := []) (bk := []) (by kernel_rfl) rfl trivial (.inl rfl) ?_
      refine GoF.done (by kernel_rfl) ?_
      exact GoO.ret' (h := c29_20e) (hs := []) (ps := []) (hk := []) (bk := []) Try.func29 () (by kernel_rfl) trivial (by kernel_rfl) (by kernel_rfl)
    · refine GoF.take [63, 64, 65, 66, 67, 68, 69, 70, 71, 72] [.p, .p, .p, .p, .p, .p, .p, .p, .p, .p] (ks := [141]) (fu := 1) (li := [true, true, true, true, true, true, true, true, true, true, true, true, true, true, true, true, true, true, true, true, true, true, true, true, true, true, true, true, true, true, true, true, true, true, true, true, true, true, true, true, true, true, true, true, true, true, true, true, true, true, true, true, true, true, true, true, true, true, true, true, true, true, true, true, true, true, true, true, true, true, true, true, true, false]) (env' := [(141, .bool false)]) (ps := []) (hk := [1]) (bk := []) (by kernel_rfl) trivial rfl rfl ?_
      refine GoF.fin1 (i := 73) (hint := .p) (ps := []) (hk := []) (bk := []) (by kernel_rfl) rfl trivial (.inl rfl) ?_
      refine GoF.done (by kernel_rfl) ?_
      exact GoO.ret' (h := c29_20e) (hs := []) (ps := []) (hk := []) (bk := []) Try.func29 () (by kernel_rfl) trivial (by kernel_rfl) (by kernel_rfl)
  · refine GoF.take [48, 49, 50, 51, 52, 53, 54, 55, 56, 57, 58, 59, 60, 61] [.p, .p, .p, .p, .p, .p, .p, .p, .p, .p, .p, .p, .p, .p] (ks := [0, 1, 2, 3, 130]) (fu := 12) (li := [true, true, true, true, true, true, true, true, true, true, true, true, true, true, true, true, true, true, true, true, true, true, true, true, true, true, true, true, true, true, true, true, true, true, true, true, true, true, true, true, true, true, true, true, true, true, true, true, true, true, true, true, true, true, true, true, true, true, true, true, true, true, false, false, false, false, false, false, false, false, false, false, false, false]) (env' := [(0, vP b_2), (1, vP b_6), (2, vU i_9), (3, vI n_10), (130, .bool false)]) (ps := []) (hk := [1]) (bk := []) (by kernel_rfl) trivial rfl rfl ?_
    refine GoF.take [62, 63, 64, 65, 66, 67, 68, 69, 70, 71, 72] [.p, .p, .p, .p, .p, .p, .p, .p, .p, .p, .p] (ks := [141]) (fu := 1) (li := [true, true, true, true, true, true, true, true, true, true, true, true, true, true, true, true, true, true, true, true, true, true, true, true, true, true, true, true, true, true, true, true, true, true, true, true, true, true, true, true, true, true, true, true, true, true, true, true, true, true, true, true, true, true, true, true, true, true, true, true, true, true, true, true, true, true, true, true, true, true, true, true, true, false]) (env' := [(141, .bool false)]) (ps := []) (hk := [1]) (bk := []) (by kernel_rfl) trivial rfl rfl ?_
    refine GoF.fin1 (i := 73) (hint := .p) (ps := []) (hk := []) (bk := []) (by kernel_rfl) rfl trivial (.inl rfl) ?_
    refine GoF.done (by kernel_rfl) ?_
    exact GoO.ret' (h := c29_20e) (hs := []) (ps := []) (hk := []) (bk := []) Try.func29 () (by kernel_rfl) trivial (by kernel_rfl) (by kernel_rfl)
theorem tontinelaw07_alike_j6_ok (n : Nat) (g_1 : T_rlog_Log) (m_5 : T_tontineref07_Log) (i_9 : Int) (n_10 : Int) (b_2 : Nat) (A_3 : Option Addr) (c_4 : Nat) (b_6 : Nat) (A_7 : Option Addr) (c_8 : Nat) (w0 : World) (S0 : Fam) (b_32 : Bool) :
    GoF (tontinelaw07_alike.cx b_2 A_3 c_4 b_6 A_7 c_8 w0 S0) r29_19 [73] [⟨3, b_6, [vU m_5.Snap.Index, vU m_5.Snap.Term, vU m_5.Snap.Config, .string (bs m_5.Snap.Data), .slice A_7 m_5.L.length c_8]⟩] [] [.code c29_20] 36 [true, true, true, true, true, true, true, true, true, true, true, true, true, true, true, true, true, true, true, true, true, true, true, true, true, true, true, true, true, true, true, true, true, true, true, true, true, true, false, false, false, false, false, false, false, false, false, false, false, false, false, false, false, false, false, false, false, false, false, false, false, false, false, false, false, false, false, false, false, false, false, false, false, false] [(0, vP b_2), (1, vP b_6), (2, vU i_9), (3, vI n_10), (106, .bool b_32)] [⟨1, b_2, [vU g_1.snap.Index, vU g_1.snap.Term, vU g_1.snap.Config, .string (bs g_1.snap.Data), .slice A_3 g_1.entries.length c_4]⟩, ⟨3, b_6, [vU m_5.Snap.Index, vU m_5.Snap.Term, vU m_5.Snap.Config, .string (bs m_5.Snap.Data), .slice A_7 m_5.L.length c_8]⟩] [Ow 2 kT_api_Entry A_3 c_4 g_1.entries, Ow 4 kT_api_Entry A_7 c_8 m_5.L] (tontinelaw07_alike.j6 n g_1 m_5 i_9 n_10 b_32) := by
  unfold tontinelaw07_alike.j6
  refine GoF.take [38] [.p] (ks := [0, 1, 2, 3, 107]) (fu := 35) (li := [true, true, true, true, true, true, true, true, true, true, true, true, true, true, true, true, true, true, true, true, true, true, true, true, true, true, true, true, true, true, true, true, true, true, true, true, true, true, true, false, false, false, false, false, false, false, false, false, false, false, false, false, false, false, false, false, false, false, false, false, false, false, false, false, false, false, false, false, false, false, false, false, false, false]) (env' := [(0, vP b_2), (1, vP b_6), (2, vU i_9), (3, vI n_10), (107, .bool b_32)]) (ps := []) (hk := [1]) (bk := []) (by kernel_rfl) trivial rfl rfl ?_
  refine GoF.bsplit (t := 107) (by kernel_rfl) (fun h33 => ?_) (fun h33 => ?_)
  · refine GoF.take [39, 41, 42, 43, 44] [.p, .p, .p, .p, .b 0] (ks := [0, 1, 2, 3, 107, 108, 113]) (fu := 30) (li := [true, true, true, true, true, true, true, true, true, true, true, true, true, true, true, true, true, true, true, true, true, true, true, true, true, true, true, true, true, true, true, true, true, true, true, true, true, true, true, true, false, true, true, true, true, false, false, false, false, false, false, false, false, false, false, false, false, false, false, false, false, false, false, false, false, false, false, false, false, false, false, false, false, false]) (env' := [(0, vP b_2), (1, vP b_6), (2, vU i_9), (3, vI n_10), (107, .bool true), (108, vP b_2), (113, .agg ⟨[vU m_5.Snap.Index, vU m_5.Snap.Term, vU m_5.Snap.Config, .string (bs m_5.Snap.Data)]⟩)]) (ps := [b_6 = b_6]) (hk := [1]) (bk := []) (by kernel_rfl) (And.intro rfl trivial) rfl rfl ?_
    refine OpTo.goF (i := 40) (by kernel_rfl) (hk := [1]) (bk := []) (GoO.call rfl (by kernel_rfl) (by kernel_rfl) (rlog_Log_First_ok n (⟨(⟨g_1.snap.Index, g_1.snap.Term, g_1.snap.Config, g_1.snap.Data⟩ : T_api_Snapshot), g_1.entries⟩ : T_rlog_Log) b_2 A_3 c_4) [[0], [1], [2]] [] [(1, 0)] [(2, 0)] (hks := [0, 1]) (bks := [0, 1]) (by kernel_rfl) (by kernel_rfl) (by kernel_rfl) (.inl rfl) rfl rfl (by kernel_rfl) (by kernel_rfl) _ (fun _ _ => rfl) _ _ (fun _ _ => rfl) (fun _ _ => rfl) (fun _ _ => by kernel_rfl) (fun _ _ => by kernel_rfl) (fun r_34 x_35 => ⟨rfl, rfl, ?_⟩))
    refine GoF.shape (env' := [(0, vP b_2), (1, vP b_6), (2, vU i_9), (3, vI n_10), (107, .bool true), (108, vP b_2), (109, .agg ⟨[vU r_34.Index, vU r_34.Term, vU r_34.Config, .string (bs r_34.Data)]⟩), (113, .agg ⟨[vU m_5.Snap.Index, vU m_5.Snap.Term, vU m_5.Snap.Config, .string (bs m_5.Snap.Data)]⟩)]) (H' := [⟨1, b_2, [vU g_1.snap.Index, vU g_1.snap.Term, vU g_1.snap.Config, .string (bs g_1.snap.Data), .slice A_3 g_1.entries.length c_4]⟩, ⟨3, b_6, [vU m_5.Snap.Index, vU m_5.Snap.Term, vU m_5.Snap.Config, .string (bs m_5.Snap.Data), .slice A_7 m_5.L.length c_8]⟩]) (B' := [Ow 2 kT_api_Entry A_3 c_4 g_1.entries, Ow 4 kT_api_Entry A_7 c_8 m_5.L]) (ks := [0, 1, 2, 3, 107, 108, 109, 113]) (by kernel_rfl) (by kernel_rfl) (by kernel_rfl) ?_
    refine GoF.take [45, 46] [.p, .p] (ks := [0, 1, 2, 3, 115]) (fu := 27) (li := [true, true, true, true, true, true, true, true, true, true, true, true, true, true, true, true, true, true, true, true, true, true, true, true, true, true, true, true, true, true, true, true, true, true, true, true, true, true, true, true, true, true, true, true, true, true, true, false, false, false, false, false, false, false, false, false, false, false, false, false, false, false, false, false, false, false, false, false, false, false, false, false, false, false]) (env' := [(0, vP b_2), (1, vP b_6), (2, vU i_9), (3, vI n_10), (115, .bool ((r_34.Index == m_5.Snap.Index) && ((r_34.Term == m_5.Snap.Term) && ((r_34.Config == m_5.Snap.Config) && ((r_34.Data == m_5.Snap.Data) && true)))))]) (ps := []) (hk := [1]) (bk := []) (by kernel_rfl) trivial rfl rfl ?_
    exact GoF.sub (ks := [0, 1, 2, 3, 115]) (hk := [0, 1]) (bk := [0, 1]) (by kernel_rfl) (by kernel_rfl) (by kernel_rfl) (tontinelaw07_alike_j7_ok n g_1 m_5 i_9 n_10 b_2 A_3 c_4 b_6 A_7 c_8 w0 S0 ((r_34.Index == m_5.Snap.Index) && ((r_34.Term == m_5.Snap.Term) && ((r_34.Config == m_5.Snap.Config) && ((r_34.Data == m_5.Snap.Data) && true)))))
  · refine GoF.take [39, 40, 41, 42, 43, 44, 45, 46] [.p, .p, .p, .p, .p, .p, .p, .p] (ks := [0, 1, 2, 3, 115]) (fu := 27) (li := [true, true, true, true, true, true, true, true, true, true, true, true, true, true, true, true, true, true, true, true, true, true, true, true, true, true, true, true, true, true, true, true, true, true, true, true, true, true, true, true, true, true, true, true, true, true, true, false, false, false, false, false, false, false, false, false, false, false, false, false, false, false, false, false, false, false, false, false, false, false, false, false, false, false]) (env' := [(0, vP b_2), (1, vP b_6), (2, vU i_9), (3, vI n_10), (115, .bool false)]) (ps := []) (hk := [1]) (bk := []) (by kernel_rfl) trivial rfl rfl ?_
    exact GoF.sub (ks := [0, 1, 2, 3, 115]) (hk := [0, 1]) (bk := [0, 1]) (by kernel_rfl) (by kernel_rfl) (by kernel_rfl) (tontinelaw07_alike_j7_ok n g_1 m_5 i_9 n_10 b_2 A_3 c_4 b_6 A_7 c_8 w0 S0 false)
theorem tontinelaw07_alike_j5_ok (n : Nat) (g_1 : T_rlog_Log) (m_5 : T_tontineref07_Log) (i_9 : Int) (n_10 : Int) (r_17 : Int × Int) (r_18 : Int × Int) (b_2 : Nat) (A_3 : Option Addr) (c_4 : Nat) (b_6 : Nat) (A_7 : Option Addr) (c_8 : Nat) (w0 : World) (S0 : Fam) (b_30 : Bool) :
    GoF (tontinelaw07_alike.cx b_2 A_3 c_4 b_6 A_7 c_8 w0 S0) r29_19 [73] [⟨3, b_6, [vU m_5.Snap.Index, vU m_5.Snap.Term, vU m_5.Snap.Config, .string (bs m_5.Snap.Data), .slice A_7 m_5.L.length c_8]⟩] [] [.code c29_20] 41 [true, true, true, true, true, true, true, true, true, true, true, true, true, true, true, true, true, true, true, true, true, true, true, true, true, true, true, true, true, true, true, true, true, false, false, false, false, false, false, false, false, false, false, false, false, false, false, false, false, false, false, false, false, false, false, false, false, false, false, false, false, false, false, false, false, false, false, false, false, false, false, false, false, false] [(0, vP b_2), (1, vP b_6), (2, vU i_9), (3, vI n_10), (22, vU r_17.2), (24, vU r_18.2), (101, .bool b_30)] [⟨1, b_2, [vU g_1.snap.Index, vU g_1.snap.Term, vU g_1.snap.Config, .string (bs g_1.snap.Data), .slice A_3 g_1.entries.length c_4]⟩, ⟨3, b_6, [vU m_5.Snap.Index, vU m_5.Snap.Term, vU m_5.Snap.Config, .string (bs m_5.Snap.Data), .slice A_7 m_5.L.length c_8]⟩] [Ow 2 kT_api_Entry A_3 c_4 g_1.entries, Ow 4 kT_api_Entry A_7 c_8 m_5.L] (tontinelaw07_alike.j5 n g_1 m_5 i_9 n_10 r_17 r_18 b_30) := by
  unfold tontinelaw07_alike.j5
  refine GoF.take [33] [.p] (ks := [0, 1, 2, 3, 22, 24, 102]) (fu := 40) (li := [true, true, true, true, true, true, true, true, true, true, true, true, true, true, true, true, true, true, true, true, true, true, true, true, true, true, true, true, true, true, true, true, true, true, false, false, false, false, false, false, false, false, false, false, false, false, false, false, false, false, false, false, false, false, false, false, false, false, false, false, false, false, false, false, false, false, false, false, false, false, false, false, false, false]) (env' := [(0, vP b_2), (1, vP b_6), (2, vU i_9), (3, vI n_10), (22, vU r_17.2), (24, vU r_18.2), (102, .bool b_30)]) (ps := []) (hk := [1]) (bk := []) (by kernel_rfl) trivial rfl rfl ?_
  refine GoF.bsplit (t := 102) (by kernel_rfl) (fun h31 => ?_) (fun h31 => ?_)
  · refine GoF.take [34, 35, 36, 37] [.p, .p, .p, .p] (ks := [0, 1, 2, 3, 106]) (fu := 36) (li := [true, true, true, true, true, true, true, true, true, true, true, true, true, true, true, true, true, true, true, true, true, true, true, true, true, true, true, true, true, true, true, true, true, true, true, true, true, true, false, false, false, false, false, false, false, false, false, false, false, false, false, false, false, false, false, false, false, false, false, false, false, false, false, false, false, false, false, false, false, false, false, false, false, false]) (env' := [(0, vP b_2), (1, vP b_6), (2, vU i_9), (3, vI n_10), (106, .bool (r_17.2 == r_18.2))]) (ps := []) (hk := [1]) (bk := []) (by kernel_rfl) trivial rfl rfl ?_
    exact GoF.sub (ks := [0, 1, 2, 3, 106]) (hk := [0, 1]) (bk := [0, 1]) (by kernel_rfl) (by kernel_rfl) (by kernel_rfl) (tontinelaw07_alike_j6_ok n g_1 m_5 i_9 n_10 b_2 A_3 c_4 b_6 A_7 c_8 w0 S0 (r_17.2 == r_18.2))
  · refine GoF.take [34, 35, 36, 37] [.p, .p, .p, .p] (ks := [0, 1, 2, 3, 106]) (fu := 36) (li := [true, true, true, true, true, true, true, true, true, true, true, true, true, true, true, true, true, true, true, true, true, true, true, true, true, true, true, true, true, true, true, true, true, true, true, true, true, true, false, false, false, false, false, false, false, false, false, false, false, false, false, false, false, false, false, false, false, false, false, false, false, false, false, false, false, false, false, false, false, false, false, false, false, false]) (env' := [(0, vP b_2), (1, vP b_6), (2, vU i_9), (3, vI n_10), (106, .bool false)]) (ps := []) (hk := [1]) (bk := []) (by kernel_rfl) trivial rfl rfl ?_
    exact GoF.sub (ks := [0, 1, 2, 3, 106]) (hk := [0, 1]) (bk := [0, 1]) (by kernel_rfl) (by kernel_rfl) (by kernel_rfl) (tontinelaw07_alike_j6_ok n g_1 m_5 i_9 n_10 b_2 A_3 c_4 b_6 A_7 c_8 w0 S0 false)
theorem tontinelaw07_alike_j4_ok (n : Nat) (g_1 : T_rlog_Log) (m_5 : T_tontineref07_Log) (i_9 : Int) (n_10 : Int) (r_17 : Int × Int) (r_18 : Int × Int) (b_2 : Nat) (A_3 : Option Addr) (c_4 : Nat) (b_6 : Nat) (A_7 : Option Addr) (c_8 : Nat) (w0 : World) (S0 : Fam) (b_28 : Bool) :
    GoF (tontinelaw07_alike.cx b_2 A_3 c_4 b_6 A_7 c_8 w0 S0) r29_19 [73] [⟨3, b_6, [vU m_5.Snap.Index, vU m_5.Snap.Term, vU m_5.Snap.Config, .string (bs m_5.Snap.Data), .slice A_7 m_5.L.length c_8]⟩] [] [.code c29_20] 46 [true, true, true, true, true, true, true, true, true, true, true, true, true, true, true, true, true, true, true, true, true, true, true, true, true, true, true, true, false, false, false, false, false, false, false, false, false, false, false, false, false, false, false, false, false, false, false, false, false, false, false, false, false, false, false, false, false, false, false, false, false, false, false, false, false, false, false, false, false, false, false, false, false, false] [(0, vP b_2), (1, vP b_6), (2, vU i_9), (3, vI n_10), (21, vU r_17.1), (22, vU r_17.2), (23, vU r_18.1), (24, vU r_18.2), (96, .bool b_28)] [⟨1, b_2, [vU g_1.snap.Index, vU g_1.snap.Term, vU g_1.snap.Config, .string (bs g_1.snap.Data), .slice A_3 g_1.entries.length c_4]⟩, ⟨3, b_6, [vU m_5.Snap.Index, vU m_5.Snap.Term, vU m_5.Snap.Config, .string (bs m_5.Snap.Data), .slice A_7 m_5.L.length c_8]⟩] [Ow 2 kT_api_Entry A_3 c_4 g_1.entries, Ow 4 kT_api_Entry A_7 c_8 m_5.L] (tontinelaw07_alike.j4 n g_1 m_5 i_9 n_10 r_17 r_18 b_28) := by
  unfold tontinelaw07_alike.j4
  refine GoF.take [28] [.p] (ks := [0, 1, 2, 3, 21, 22, 23, 24, 97]) (fu := 45) (li := [true, true, true, true, true, true, true, true, true, true, true, true, true, true, true, true, true, true, true, true, true, true, true, true, true, true, true, true, true, false, false, false, false, false, false, false, false, false, false, false, false, false, false, false, false, false, false, false, false, false, false, false, false, false, false, false, false, false, false, false, false, false, false, false, false, false, false, false, false, false, false, false, false, false]) (env' := [(0, vP b_2), (1, vP b_6), (2, vU i_9), (3, vI n_10), (21, vU r_17.1), (22, vU r_17.2), (23, vU r_18.1), (24, vU r_18.2), (97, .bool b_28)]) (ps := []) (hk := [1]) (bk := []) (by kernel_rfl) trivial rfl rfl ?_
  refine GoF.bsplit (t := 97) (by kernel_rfl) (fun h29 => ?_) (fun h29 => ?_)
  · refine GoF.take [29, 30, 31, 32] [.p, .p, .p, .p] (ks := [0, 1, 2, 3, 22, 24, 101]) (fu := 41) (li := [true, true, true, true, true, true, true, true, true, true, true, true, true, true, true, true, true, true, true, true, true, true, true, true, true, true, true, true, true, true, true, true, true, false, false, false, false, false, false, false, false, false, false, false, false, false, false, false, false, false, false, false, false, false, false, false, false, false, false, false, false, false, false, false, false, false, false, false, false, false, false, false, false, false]) (env' := [(0, vP b_2), (1, vP b_6), (2, vU i_9), (3, vI n_10), (22, vU r_17.2), (24, vU r_18.2), (101, .bool (r_17.1 == r_18.1))]) (ps := []) (hk := [1]) (bk := []) (by kernel_rfl) trivial rfl rfl ?_
    exact GoF.sub (ks := [0, 1, 2, 3, 22, 24, 101]) (hk := [0, 1]) (bk := [0, 1]) (by kernel_rfl) (by kernel_rfl) (by kernel_rfl) (tontinelaw07_alike_j5_ok n g_1 m_5 i_9 n_10 r_17 r_18 b_2 A_3 c_4 b_6 A_7 c_8 w0 S0 (r_17.1 == r_18.1))
  · refine GoF.take [29, 30, 31, 32] [.p, .p, .p, .p] (ks := [0, 1, 2, 3, 22, 24, 101]) (fu := 41) (li := [true, true, true, true, true, true, true, true, true, true, true, true, true, true, true, true, true, true, true, true, true, true, true, true, true, true, true, true, true, true, true, true, true, false, false, false, false, false, false, false, false, false, false, false, false, false, false, false, false, false, false, false, false, false, false, false, false, false, false, false, false, false, false, false, false, false, false, false, false, false, false, false, false, false]) (env' := [(0, vP b_2), (1, vP b_6), (2, vU i_9), (3, vI n_10), (22, vU r_17.2), (24, vU r_18.2), (101, .bool false)]) (ps := []) (hk := [1]) (bk := []) (by kernel_rfl) trivial rfl rfl ?_
    exact GoF.sub (ks := [0, 1, 2, 3, 22, 24, 101]) (hk := [0, 1]) (bk := [0, 1]) (by kernel_rfl) (by kernel_rfl) (by kernel_rfl) (tontinelaw07_alike_j5_ok n g_1 m_5 i_9 n_10 r_17 r_18 b_2 A_3 c_4 b_6 A_7 c_8 w0 S0 false)
theorem tontinelaw07_alike_j3_ok (n : Nat) (g_1 : T_rlog_Log) (m_5 : T_tontineref07_Log) (i_9 : Int) (n_10 : Int) (r_15 : Int × Int) (r_16 : Int × Int) (r_17 : Int × Int) (r_18 : Int × Int) (b_2 : Nat) (A_3 : Option Addr) (c_4 : Nat) (b_6 : Nat) (A_7 : Option Addr) (c_8 : Nat) (w0 : World) (S0 : Fam) (b_26 : Bool) :
    GoF (tontinelaw07_alike.cx b_2 A_3 c_4 b_6 A_7 c_8 w0 S0) r29_19 [73] [⟨3, b_6, [vU m_5.Snap.Index, vU m_5.Snap.Term, vU m_5.Snap.Config, .string (bs m_5.Snap.Data), .slice A_7 m_5.L.length c_8]⟩] [] [.code c29_20] 51 [true, true, true, true, true, true, true, true, true, true, true, true, true, true, true, true, true, true, true, true, true, true, true, false, false, false, false, false, false, false, false, false, false, false, false, false, false, false, false, false, false, false, false, false, false, false, false, false, false, false, false, false, false, false, false, false, false, false, false, false, false, false, false, false, false, false, false, false, false, false, false, false, false, false] [(0, vP b_2), (1, vP b_6), (2, vU i_9), (3, vI n_10), (18, vU r_15.2), (20, vU r_16.2), (21, vU r_17.1), (22, vU r_17.2), (23, vU r_18.1), (24, vU r_18.2), (91, .bool b_26)] [⟨1, b_2, [vU g_1.snap.Index, vU g_1.snap.Term, vU g_1.snap.Config, .string (bs g_1.snap.Data), .slice A_3 g_1.entries.length c_4]⟩, ⟨3, b_6, [vU m_5.Snap.Index, vU m_5.Snap.Term, vU m_5.Snap.Config, .string (bs m_5.Snap.Data), .slice A_7 m_5.L.length c_8]⟩] [Ow 2 kT_api_Entry A_3 c_4 g_1.entries, Ow 4 kT_api_Entry A_7 c_8 m_5.L] (tontinelaw07_alike.j3 n g_1 m_5 i_9 n_10 r_15 r_16 r_17 r_18 b_26) := by
  unfold tontinelaw07_alike.j3
  refine GoF.take [23] [.p] (ks := [0, 1, 2, 3, 18, 20, 21, 22, 23, 24, 92]) (fu := 50) (li := [true, true, true, true, true, true, true, true, true, true, true, true, true, true, true, true, true, true, true, true, true, true, true, true, false, false, false, false, false, false, false, false, false, false, false, false, false, false, false, false, false, false, false, false, false, false, false, false, false, false, false, false, false, false, false, false, false, false, false, false, false, false, false, false, false, false, false, false, false, false, false, false, false, false]) (env' := [(0, vP b_2), (1, vP b_6), (2, vU i_9), (3, vI n_10), (18, vU r_15.2), (20, vU r_16.2), (21, vU r_17.1), (22, vU r_17.2), (23, vU r_18.1), (24, vU r_18.2), (92, .bool b_26)]) (ps := []) (hk := [1]) (bk := []) (by kernel_rfl) trivial rfl rfl ?_
  refine GoF.bsplit (t := 92) (by kernel_rfl) (fun h27 => ?_) (fun h27 => ?_)
  · refine GoF.take [24, 25, 26, 27] [.p, .p, .p, .p] (ks := [0, 1, 2, 3, 21, 22, 23, 24, 96]) (fu := 46) (li := [true, true, true, true, true, true, true, true, true, true, true, true, true, true, true, true, true, true, true, true, true, true, true, true, true, true, true, true, false, false, false, false, false, false, false, false, false, false, false, false, false, false, false, false, false, false, false, false, false, false, false, false, false, false, false, false, false, false, false, false, false, false, false, false, false, false, false, false, false, false, false, false, false, false]) (env' := [(0, vP b_2), (1, vP b_6), (2, vU i_9), (3, vI n_10), (21, vU r_17.1), (22, vU r_17.2), (23, vU r_18.1), (24, vU r_18.2), (96, .bool (r_15.2 == r_16.2))]) (ps := []) (hk := [1]) (bk := []) (by kernel_rfl) trivial rfl rfl ?_
    exact GoF.sub (ks := [0, 1, 2, 3, 21, 22, 23, 24, 96]) (hk := [0, 1]) (bk := [0, 1]) (by kernel_rfl) (by kernel_rfl) (by kernel_rfl) (tontinelaw07_alike_j4_ok n g_1 m_5 i_9 n_10 r_17 r_18 b_2 A_3 c_4 b_6 A_7 c_8 w0 S0 (r_15.2 == r_16.2))
  · refine GoF.take [24, 25, 26, 27] [.p, .p, .p, .p] (ks := [0, 1, 2, 3, 21, 22, 23, 24, 96]) (fu := 46) (li := [true, true, true, true, true, true, true, true, true, true, true, true, true, true, true, true, true, true, true, true, true, true, true, true, true, true, true, true, false, false, false, false, false, false, false, false, false, false, false, false, false, false, false, false, false, false, false, false, false, false, false, false, false, false, false, false, false, false, false, false, false, false, false, false, false, false, false, false, false, false, false, false, false, false]) (env' := [(0, vP b_2), (1, vP b_6), (2, vU i_9), (3, vI n_10), (21, vU r_17.1), (22, vU r_17.2), (23, vU r_18.1), (24, vU r_18.2), (96, .bool false)]) (ps := []) (hk := [1]) (bk := []) (by kernel_rfl) trivial rfl rfl ?_
    exact GoF.sub (ks := [0, 1, 2, 3, 21, 22, 23, 24, 96]) (hk := [0, 1]) (bk := [0, 1]) (by kernel_rfl) (by kernel_rfl) (by kernel_rfl) (tontinelaw07_alike_j4_ok n g_1 m_5 i_9 n_10 r_17 r_18 b_2 A_3 c_4 b_6 A_7 c_8 w0 S0 false)
theorem tontinelaw07_alike_j2_ok (n : Nat) (g_1 : T_rlog_Log) (m_5 : T_tontineref07_Log) (i_9 : Int) (n_10 : Int) (r_15 : Int × Int) (r_16 : Int × Int) (r_17 : Int × Int) (r_18 : Int × Int) (b_2 : Nat) (A_3 : Option Addr) (c_4 : Nat) (b_6 : Nat) (A_7 : Option Addr) (c_8 : Nat) (w0 : World) (S0 : Fam) (b_24 : Bool) :
    GoF (tontinelaw07_alike.cx b_2 A_3 c_4 b_6 A_7 c_8 w0 S0) r29_19 [73] [⟨3, b_6, [vU m_5.Snap.Index, vU m_5.Snap.Term, vU m_5.Snap.Config, .string (bs m_5.Snap.Data), .slice A_7 m_5.L.length c_8]⟩] [] [.code c29_20] 56 [true, true, true, true, true, true, true, true, true, true, true, true, true, true, true, true, true, true, false, false, false, false, false, false, false, false, false, false, false, false, false, false, false, false, false, false, false, false, false, false, false, false, false, false, false, false, false, false, false, false, false, false, false, false, false, false, false, false, false, false, false, false, false, false, false, false, false, false, false, false, false, false, false, false] [(0, vP b_2), (1, vP b_6), (2, vU i_9), (3, vI n_10), (17, vU r_15.1), (18, vU r_15.2), (19, vU r_16.1), (20, vU r_16.2), (21, vU r_17.1), (22, vU r_17.2), (23, vU r_18.1), (24, vU r_18.2), (86, .bool b_24)] [⟨1, b_2, [vU g_1.snap.Index, vU g_1.snap.Term, vU g_1.snap.Config, .string (bs g_1.snap.Data), .slice A_3 g_1.entries.length c_4]⟩, ⟨3, b_6, [vU m_5.Snap.Index, vU m_5.Snap.Term, vU m_5.Snap.Config, .string (bs m_5.Snap.Data), .slice A_7 m_5.L.length c_8]⟩] [Ow 2 kT_api_Entry A_3 c_4 g_1.entries, Ow 4 kT_api_Entry A_7 c_8 m_5.L] (tontinelaw07_alike.j2 n g_1 m_5 i_9 n_10 r_15 r_16 r_17 r_18 b_24) := by
  unfold tontinelaw07_alike.j2
  refine GoF.take [18] [.p] (ks := [0, 1, 2, 3, 17, 18, 19, 20, 21, 22, 23, 24, 87]) (fu := 55) (li := [true, true, true, true, true, true, true, true, true, true, true, true, true, true, true, true, true, true, true, false, false, false, false, false, false, false, false, false, false, false, false, false, false, false, false, false, false, false, false, false, false, false, false, false, false, false, false, false, false, false, false, false, false, false, false, false, false, false, false, false, false, false, false, false, false, false, false, false, false, false, false, false, false, false]) (env' := [(0, vP b_2), (1, vP b_6), (2, vU i_9), (3, vI n_10), (17, vU r_15.1), (18, vU r_15.2), (19, vU r_16.1), (20, vU r_16.2), (21, vU r_17.1), (22, vU r_17.2), (23, vU r_18.1), (24, vU r_18.2), (87, .bool b_24)]) (ps := []) (hk := [1]) (bk := []) (by kernel_rfl) trivial rfl rfl ?_
  refine GoF.bsplit (t := 87) (by kernel_rfl) (fun h25 => ?_) (fun h25 => ?_)
  · refine GoF.take [19, 20, 21, 22] [.p, .p, .p, .p] (ks := [0, 1, 2, 3, 18, 20, 21, 22, 23, 24, 91]) (fu := 51) (li := [true, true, true, true, true, true, true, true, true, true, true, true, true, true, true, true, true, true, true, true, true, true, true, false, false, false, false, false, false, false, false, false, false, false, false, false, false, false, false, false, false, false, false, false, false, false, false, false, false, false, false, false, false, false, false, false, false, false, false, false, false, false, false, false, false, false, false, false, false, false, false, false, false, false]) (env' := [(0, vP b_2), (1, vP b_6), (2, vU i_9), (3, vI n_10), (18, vU r_15.2), (20, vU r_16.2), (21, vU r_17.1), (22, vU r_17.2), (23, vU r_18.1), (24, vU r_18.2), (91, .bool (r_15.1 == r_16.1))]) (ps := []) (hk := [1]) (bk := []) (by kernel_rfl) trivial rfl rfl ?_
    exact GoF.sub (ks := [0, 1, 2, 3, 18, 20, 21, 22, 23, 24, 91]) (hk := [0, 1]) (bk := [0, 1]) (by kernel_rfl) (by kernel_rfl) (by kernel_rfl) (tontinelaw07_alike_j3_ok n g_1 m_5 i_9 n_10 r_15 r_16 r_17 r_18 b_2 A_3 c_4 b_6 A_7 c_8 w0 S0 (r_15.1 == r_16.1))
  · refine GoF.take [19, 20, 21, 22] [.p, .p, .p, .p] (ks := [0, 1, 2, 3, 18, 20, 21, 22, 23, 24, 91]) (fu := 51) (li := [true, true, true, true, true, true, true, true, true, true, true, true, true, true, true, true, true, true, true, true, true, true, true, false, false, false, false, false, false, false, false, false, false, false, false, false, false, false, false, false, false, false, false, false, false, false, false, false, false, false, false, false, false, false, false, false, false, false, false, false, false, false, false, false, false, false, false, false, false, false, false, false, false, false]) (env' := [(0, vP b_2), (1, vP b_6), (2, vU i_9), (3, vI n_10), (18, vU r_15.2), (20, vU r_16.2), (21, vU r_17.1), (22, vU r_17.2), (23, vU r_18.1), (24, vU r_18.2), (91, .bool false)]) (ps := []) (hk := [1]) (bk := []) (by kernel_rfl) trivial rfl rfl ?_
    exact GoF.sub (ks := [0, 1, 2, 3, 18, 20, 21, 22, 23, 24, 91]) (hk := [0, 1]) (bk := [0, 1]) (by kernel_rfl) (by kernel_rfl) (by kernel_rfl) (tontinelaw07_alike_j3_ok n g_1 m_5 i_9 n_10 r_15 r_16 r_17 r_18 b_2 A_3 c_4 b_6 A_7 c_8 w0 S0 false)
theorem tontinelaw07_alike_j1_ok (n : Nat) (g_1 : T_rlog_Log) (m_5 : T_tontineref07_Log) (i_9 : Int) (n_10 : Int) (r_13 : Int × Int) (r_14 : Int × Int) (r_15 : Int × Int) (r_16 : Int × Int) (r_17 : Int × Int) (r_18 : Int × Int) (b_2 : Nat) (A_3 : Option Addr) (c_4 : Nat) (b_6 : Nat) (A_7 : Option Addr) (c_8 : Nat) (w0 : World) (S0 : Fam) (b_22 : Bool) :
    GoF (tontinelaw07_alike.cx b_2 A_3 c_4 b_6 A_7 c_8 w0 S0) r29_19 [73] [⟨3, b_6, [vU m_5.Snap.Index, vU m_5.Snap.Term, vU m_5.Snap.Config, .string (bs m_5.Snap.Data), .slice A_7 m_5.L.length c_8]⟩] [] [.code c29_20] 61 [true, true, true, true, true, true, true, true, true, true, true, true, true, false, false, false, false, false, false, false, false, false, false, false, false, false, false, false, false, false, false, false, false, false, false, false, false, false, false, false, false, false, false, false, false, false, false, false, false, false, false, false, false, false, false, false, false, false, false, false, false, false, false, false, false, false, false, false, false, false, false, false, false, false] [(0, vP b_2), (1, vP b_6), (2, vU i_9), (3, vI n_10), (14, vI r_13.2), (16, vI r_14.2), (17, vU r_15.1), (18, vU r_15.2), (19, vU r_16.1), (20, vU r_16.2), (21, vU r_17.1), (22, vU r_17.2), (23, vU r_18.1), (24, vU r_18.2), (81, .bool b_22)] [⟨1, b_2, [vU g_1.snap.Index, vU g_1.snap.Term, vU g_1.snap.Config, .string (bs g_1.snap.Data), .slice A_3 g_1.entries.length c_4]⟩, ⟨3, b_6, [vU m_5.Snap.Index, vU m_5.Snap.Term, vU m_5.Snap.Config, .string (bs m_5.Snap.Data), .slice A_7 m_5.L.length c_8]⟩] [Ow 2 kT_api_Entry A_3 c_4 g_1.entries, Ow 4 kT_api_Entry A_7 c_8 m_5.L] (tontinelaw07_alike.j1 n g_1 m_5 i_9 n_10 r_13 r_14 r_15 r_16 r_17 r_18 b_22) := by
  unfold tontinelaw07_alike.j1
  refine GoF.take [13] [.p] (ks := [0, 1, 2, 3, 14, 16, 17, 18, 19, 20, 21, 22, 23, 24, 82]) (fu := 60) (li := [true, true, true, true, true, true, true, true, true, true, true, true, true, true, false, false, false, false, false, false, false, false, false, false, false, false, false, false, false, false, false, false, false, false, false, false, false, false, false, false, false, false, false, false, false, false, false, false, false, false, false, false, false, false, false, false, false, false, false, false, false, false, false, false, false, false, false, false, false, false, false, false, false, false]) (env' := [(0, vP b_2), (1, vP b_6), (2, vU i_9), (3, vI n_10), (14, vI r_13.2), (16, vI r_14.2), (17, vU r_15.1), (18, vU r_15.2), (19, vU r_16.1), (20, vU r_16.2), (21, vU r_17.1), (22, vU r_17.2), (23, vU r_18.1), (24, vU r_18.2), (82, .bool b_22)]) (ps := []) (hk := [1]) (bk := []) (by kernel_rfl) trivial rfl rfl ?_
  refine GoF.bsplit (t := 82) (by kernel_rfl) (fun h23 => ?_) (fun h23 => ?_)
  · refine GoF.take [14, 15, 16, 17] [.p, .p, .p, .p] (ks := [0, 1, 2, 3, 17, 18, 19, 20, 21, 22, 23, 24, 86]) (fu := 56) (li := [true, true, true, true, true, true, true, true, true, true, true, true, true, true, true, true, true, true, false, false, false, false, false, false, false, false, false, false, false, false, false, false, false, false, false, false, false, false, false, false, false, false, false, false, false, false, false, false, false, false, false, false, false, false, false, false, false, false, false, false, false, false, false, false, false, false, false, false, false, false, false, false, false, false]) (env' := [(0, vP b_2), (1, vP b_6), (2, vU i_9), (3, vI n_10), (17, vU r_15.1), (18, vU r_15.2), (19, vU r_16.1), (20, vU r_16.2), (21, vU r_17.1), (22, vU r_17.2), (23, vU r_18.1), (24, vU r_18.2), (86, .bool (r_13.2 == r_14.2))]) (ps := []) (hk := [1]) (bk := []) (by kernel_rfl) trivial rfl rfl ?_
    exact GoF.sub (ks := [0, 1, 2, 3, 17, 18, 19, 20, 21, 22, 23, 24, 86]) (hk := [0, 1]) (bk := [0, 1]) (by kernel_rfl) (by kernel_rfl) (by kernel_rfl) (tontinelaw07_alike_j2_ok n g_1 m_5 i_9 n_10 r_15 r_16 r_17 r_18 b_2 A_3 c_4 b_6 A_7 c_8 w0 S0 (r_13.2 == r_14.2))
  · refine GoF.take [14, 15, 16, 17] [.p, .p, .p, .p] (ks := [0, 1, 2, 3, 17, 18, 19, 20, 21, 22, 23, 24, 86]) (fu := 56) (li := [true, true, true, true, true, true, true, true, true, true, true, true, true, true, true, true, true, true, false, false, false, false, false, false, false, false, false, false, false, false, false, false, false, false, false, false, false, false, false, false, false, false, false, false, false, false, false, false, false, false, false, false, false, false, false, false, false, false, false, false, false, false, false, false, false, false, false, false, false, false, false, false, false, false]) (env' := [(0, vP b_2), (1, vP b_6), (2, vU i_9), (3, vI n_10), (17, vU r_15.1), (18, vU r_15.2), (19, vU r_16.1), (20, vU r_16.2), (21, vU r_17.1), (22, vU r_17.2), (23, vU r_18.1), (24, vU r_18.2), (86, .bool false)]) (ps := []) (hk := [1]) (bk := []) (by kernel_rfl) trivial rfl rfl ?_
    exact GoF.sub (ks := [0, 1, 2, 3, 17, 18, 19, 20, 21, 22, 23, 24, 86]) (hk := [0, 1]) (bk := [0, 1]) (by kernel_rfl) (by kernel_rfl) (by kernel_rfl) (tontinelaw07_alike_j2_ok n g_1 m_5 i_9 n_10 r_15 r_16 r_17 r_18 b_2 A_3 c_4 b_6 A_7 c_8 w0 S0 false)
end Go.GL
