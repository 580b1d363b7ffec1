import Derived.Test.YtolipnnfdclkoaaXWalkRlogStaysP1
import Derived.Test.YtolipnnfdclkoaaXKindsT1
import Derived.Test.YtolipnnfdclkoaaProg
set_option linter.unusedVariables false
set_option linter.unusedSimpArgs false
set_option maxRecDepth 100000
namespace Go.GL
open Go Go.Proofs
theorem tontineref03_Reader_Num_l0_ok (n : Nat) (r_1 : T_tontineref03_Reader) (n_5 : Int) (b_2 : Nat) (w0 : World) (S0 : Fam) :
    ∀ (k : Nat) (x_15 : Int) (i_16 : Int), GoO (tontineref03_Reader_Num.cx b_2 w0 S0) [(0, vP b_2), (3, vI n_5), (4, vU x_15), (5, vI i_16)] [⟨1, b_2, [.string (bs r_1.S_), .bool r_1.Bad]⟩] [] [.code c72_27, .inLoop c72_27, .inBlock 0, .code c72_37] (tontineref03_Reader_Num.l0 n r_1 n_5 k x_15 i_16) := by
  intro k
  induction k with
  | zero => intros; rw [tontineref03_Reader_Num.l0.eq_1]; exact GoO.stop
  | succ k ih0 =>
    intro x_15 i_16
    rw [tontineref03_Reader_Num.l0.eq_2]
    refine GoO.seq' c72_27e ?_
    refine GoO.seq' c72_28e ?_
    refine GoO.region' (is := [0, 1, 2]) c72_29e (by kernel_rfl) ?_
    refine GoO.exec (is := [0, 1, 2]) (hs := [.p, .p, .p]) (rest := []) (ks := [0, 3, 4, 5, 50]) (env' := [(0, vP b_2), (3, vI n_5), (4, vU x_15), (5, vI i_16), (50, .bool (decide (i_16 ≤ n_5)))]) (H' := [⟨1, b_2, [.string (bs r_1.S_), .bool r_1.Bad]⟩]) (ps := []) (by kernel_rfl) trivial ?_
    refine GoO.regionEnd ?_
    refine GoO.ite' c72_30e (by kernel_rfl) (fun h17 => ?_) (fun h17 => ?_)
    · refine GoO.skip' c72_31e ?_
      refine GoO.seq' c72_33e ?_
      refine GoO.block' c72_34e ?_
      refine GoO.region' (is := [0, 1, 2, 3, 4, 5, 6, 7, 8, 9, 10]) c72_35e (by kernel_rfl) ?_
      refine GoO.guard (fun h18 => ?_)
      refine GoO.exec (is := [0, 1, 2, 3, 4, 5, 6, 7, 8, 9, 10]) (hs := [.p, .p, .p, .p, .p, .b 0, .p, .p, .p, .p, .p]) (rest := []) (ks := [0, 3, 4, 5]) (env' := [(0, vP b_2), (3, vI n_5), (4, vU (wu64 ((wu64 (256 * x_15)) + (wu64 ((rdB r_1.S_ i_16).toNat : Int))))), (5, vI i_16)]) (H' := [⟨1, b_2, [.string (bs r_1.S_), .bool r_1.Bad]⟩]) (ps := [b_2 = b_2, (0 : Int) ≤ i_16, i_16 < (r_1.S_.length : Int)]) (by kernel_rfl) (And.intro rfl (And.intro h18.1 (And.intro h18.2 trivial))) ?_
      refine GoO.regionEnd ?_
      refine GoO.inBlock ?_
      refine GoO.region' (is := [0, 1, 2]) c72_36e (by kernel_rfl) ?_
      refine GoO.exec (is := [0, 1, 2]) (hs := [.p, .p, .p]) (rest := []) (ks := [0, 3, 4, 5]) (env' := [(0, vP b_2), (3, vI n_5), (4, vU (wu64 ((wu64 (256 * x_15)) + (wu64 ((rdB r_1.S_ i_16).toNat : Int))))), (5, vI (wi64 (i_16 + 1)))]) (H' := [⟨1, b_2, [.string (bs r_1.S_), .bool r_1.Bad]⟩]) (ps := []) (by kernel_rfl) trivial ?_
      refine GoO.regionEnd ?_
      refine GoO.inLoop ?_
      exact GoO.sub (ks := [0, 3, 4, 5]) (hk := [0]) (bk := []) (by kernel_rfl) (by kernel_rfl) (by kernel_rfl) (ih0 (wu64 ((wu64 (256 * x_15)) + (wu64 ((rdB r_1.S_ i_16).toNat : Int)))) (wi64 (i_16 + 1)))
    · refine GoO.exit' c72_32e rfl ?_
      refine GoO.seq' c72_37e ?_
      refine GoO.region' (is := [0, 1, 2, 3, 4, 5, 6, 7, 8, 9, 10]) c72_38e (by kernel_rfl) ?_
      refine GoO.guard (fun h19 => ?_)
      refine GoO.exec (is := [0, 1, 2, 3, 4, 5, 6, 7, 8, 9, 10]) (hs := [.p, .p, .p, .p, .b 0, .p, .p, .p, .p, .p, .b 0]) (rest := []) (ks := [4]) (env' := [(4, vU x_15)]) (H' := [⟨1, b_2, [.string (bs (r_1.S_.drop (wi64 (n_5 + 1)).toNat)), .bool r_1.Bad]⟩]) (ps := [b_2 = b_2, (0 : Int) ≤ (wi64 (n_5 + 1)), (wi64 (n_5 + 1)) ≤ (r_1.S_.length : Int), b_2 = b_2]) (by kernel_rfl) (And.intro rfl (And.intro h19.1 (And.intro h19.2 (And.intro rfl trivial)))) ?_
      refine GoO.regionEnd ?_
      refine GoO.seq' c72_39e ?_
      refine GoO.region' (is := [0, 1]) c72_40e (by kernel_rfl) ?_
      refine GoO.exec (is := [0, 1]) (hs := [.p, .p]) (rest := []) (ks := [2]) (env' := [(2, vU x_15)]) (H' := [⟨1, b_2, [.string (bs (r_1.S_.drop (wi64 (n_5 + 1)).toNat)), .bool r_1.Bad]⟩]) (ps := []) (by kernel_rfl) trivial ?_
      refine GoO.regionEnd ?_
      exact GoO.ret' (h := c72_41e) (hs := []) (ps := []) (hk := [0]) (bk := []) Try.func72 () (by kernel_rfl) trivial (by kernel_rfl) (by kernel_rfl)
theorem tontineref03_Reader_Num_j1_ok (n : Nat) (r_1 : T_tontineref03_Reader) (n_5 : Int) (b_2 : Nat) (w0 : World) (S0 : Fam) (b_11 : Bool) :
    GoO (tontineref03_Reader_Num.cx b_2 w0 S0) [(0, vP b_2), (3, vI n_5), (45, .bool b_11)] [⟨1, b_2, [.string (bs r_1.S_), .bool r_1.Bad]⟩] [] [.code c72_13, .code c72_20] (tontineref03_Reader_Num.j1 n r_1 n_5 b_11) := by
  unfold tontineref03_Reader_Num.j1
  refine GoO.ite' c72_13e (by kernel_rfl) (fun h12 => ?_) (fun h12 => ?_)
  · refine GoO.seq' c72_14e ?_
    refine GoO.region' (is := [0, 1]) c72_15e (by kernel_rfl) ?_
    refine GoO.exec (is := [0]) (hs := [.p]) (rest := [1]) (ks := [46]) (env' := [(46, vP b_2)]) (H' := [⟨1, b_2, [.string (bs r_1.S_), .bool r_1.Bad]⟩]) (ps := []) (by kernel_rfl) trivial ?_
    refine OpTo.go (GoO.call rfl (by kernel_rfl) (by kernel_rfl) (tontineref03_Reader_Fail_ok n r_1 b_2) [[0], [1]] [(1, 1)] [(1, 0)] [] (hks := []) (bks := []) (by kernel_rfl) (by kernel_rfl) (by kernel_rfl) (.inl rfl) rfl rfl (by kernel_rfl) (by kernel_rfl) _ (fun _ _ => rfl) _ _ (fun _ _ => rfl) (fun _ _ => rfl) (fun _ _ => by kernel_rfl) (fun _ _ => by kernel_rfl) (fun r_13 x_14 => ?_))
    refine GoO.shape (env' := [(46, vP b_2), (47, .tuple ⟨[]⟩)]) (H' := [⟨1, b_2, [.string (bs r_13.S_), .bool r_13.Bad]⟩]) (B' := []) (ks := [46, 47]) (by kernel_rfl) (by kernel_rfl) (by kernel_rfl) ?_
    refine GoO.regionEnd ?_
    refine GoO.seq' c72_16e ?_
    refine GoO.region' (is := [0]) c72_17e (by kernel_rfl) ?_
    refine GoO.exec (is := [0]) (hs := [.p]) (rest := []) (ks := [2]) (env' := [(2, vU 0)]) (H' := [⟨1, b_2, [.string (bs r_13.S_), .bool r_13.Bad]⟩]) (ps := []) (by kernel_rfl) trivial ?_
    refine GoO.regionEnd ?_
    exact GoO.ret' (h := c72_18e) (hs := []) (ps := []) (hk := [0]) (bk := []) Try.func72 () (by kernel_rfl) trivial (by kernel_rfl) (by kernel_rfl)
  · refine GoO.skip' c72_19e ?_
    refine GoO.seq' c72_20e ?_
    refine GoO.region' (is := [0]) c72_21e (by kernel_rfl) ?_
    refine GoO.exec (is := [0]) (hs := [.p]) (rest := []) (ks := [0, 3, 4]) (env' := [(0, vP b_2), (3, vI n_5), (4, vU 0)]) (H' := [⟨1, b_2, [.string (bs r_1.S_), .bool r_1.Bad]⟩]) (ps := []) (by kernel_rfl) trivial ?_
    refine GoO.regionEnd ?_
    refine GoO.seq' c72_22e ?_
    refine GoO.seq' c72_23e ?_
    refine GoO.region' (is := [0]) c72_24e (by kernel_rfl) ?_
    refine GoO.exec (is := [0]) (hs := [.p]) (rest := []) (ks := [0, 3, 4, 5]) (env' := [(0, vP b_2), (3, vI n_5), (4, vU 0), (5, vI 1)]) (H' := [⟨1, b_2, [.string (bs r_1.S_), .bool r_1.Bad]⟩]) (ps := []) (by kernel_rfl) trivial ?_
    refine GoO.regionEnd ?_
    refine GoO.block' c72_25e ?_
    refine GoO.loop' c72_26e ?_
    exact GoO.sub (ks := [0, 3, 4, 5]) (hk := [0]) (bk := []) (by kernel_rfl) (by kernel_rfl) (by kernel_rfl) (tontineref03_Reader_Num_l0_ok n r_1 n_5 b_2 w0 S0 n 0 1)
theorem tontineref03_Reader_Num_j0_ok (n : Nat) (r_1 : T_tontineref03_Reader) (b_2 : Nat) (w0 : World) (S0 : Fam) (n_5 : Int) :
    GoO (tontineref03_Reader_Num.cx b_2 w0 S0) [(0, vP b_2), (3, vI n_5)] [⟨1, b_2, [.string (bs r_1.S_), .bool r_1.Bad]⟩] [] [.code c72_10] (tontineref03_Reader_Num.j0 n r_1 n_5) := by
  unfold tontineref03_Reader_Num.j0
  refine GoO.seq' c72_10e ?_
  refine GoO.seq' c72_11e ?_
  refine GoO.region' (is := [0, 1, 2, 3, 4, 5, 6, 7, 8, 9, 10, 11, 12, 13, 14, 15, 16, 17, 18, 19, 20, 21, 22, 23, 24, 25, 26, 27]) c72_12e (by kernel_rfl) ?_
  refine GoO.exec (is := [0, 1, 2]) (hs := [.p, .p, .p]) (rest := [3, 4, 5, 6, 7, 8, 9, 10, 11, 12, 13, 14, 15, 16, 17, 18, 19, 20, 21, 22, 23, 24, 25, 26, 27]) (ks := [0, 3, 20]) (env' := [(0, vP b_2), (3, vI n_5), (20, .bool (decide (n_5 < 0)))]) (H' := [⟨1, b_2, [.string (bs r_1.S_), .bool r_1.Bad]⟩]) (ps := []) (by kernel_rfl) trivial ?_
  refine GoO.bsplit (t := 20) (by kernel_rfl) (fun h6 => ?_) (fun h6 => ?_)
  · refine GoO.exec (is := [3, 4, 5, 6, 7, 8, 9, 10, 11, 12, 13, 14, 15, 16, 17, 18, 19, 20, 21, 22, 23, 24, 25, 26, 27]) (hs := [.p, .p, .p, .p, .p, .p, .p, .p, .p, .p, .p, .p, .p, .p, .p, .p, .p, .p, .p, .p, .p, .p, .p, .p, .p]) (rest := []) (ks := [0, 3, 45]) (env' := [(0, vP b_2), (3, vI n_5), (45, .bool true)]) (H' := [⟨1, b_2, [.string (bs r_1.S_), .bool r_1.Bad]⟩]) (ps := []) (by kernel_rfl) trivial ?_
    refine GoO.regionEnd ?_
    exact GoO.sub (ks := [0, 3, 45]) (hk := [0]) (bk := []) (by kernel_rfl) (by kernel_rfl) (by kernel_rfl) (tontineref03_Reader_Num_j1_ok n r_1 n_5 b_2 w0 S0 true)
  · refine GoO.exec (is := [3, 4, 5, 6]) (hs := [.p, .p, .p, .p]) (rest := [7, 8, 9, 10, 11, 12, 13, 14, 15, 16, 17, 18, 19, 20, 21, 22, 23, 24, 25, 26, 27]) (ks := [0, 3, 24]) (env' := [(0, vP b_2), (3, vI n_5), (24, .bool (decide (n_5 > 8)))]) (H' := [⟨1, b_2, [.string (bs r_1.S_), .bool r_1.Bad]⟩]) (ps := []) (by kernel_rfl) trivial ?_
    refine GoO.bsplit (t := 24) (by kernel_rfl) (fun h7 => ?_) (fun h7 => ?_)
    · refine GoO.exec (is := [7, 8, 9, 10, 11, 12, 13, 14, 15, 16, 17, 18, 19, 20, 21, 22, 23, 24, 25, 26, 27]) (hs := [.p, .p, .p, .p, .p, .p, .p, .p, .p, .p, .p, .p, .p, .p, .p, .p, .p, .p, .p, .p, .p]) (rest := []) (ks := [0, 3, 45]) (env' := [(0, vP b_2), (3, vI n_5), (45, .bool true)]) (H' := [⟨1, b_2, [.string (bs r_1.S_), .bool r_1.Bad]⟩]) (ps := []) (by kernel_rfl) trivial ?_
      refine GoO.regionEnd ?_
      exact GoO.sub (ks := [0, 3, 45]) (hk := [0]) (bk := []) (by kernel_rfl) (by kernel_rfl) (by kernel_rfl) (tontineref03_Reader_Num_j1_ok n r_1 n_5 b_2 w0 S0 true)
    · refine GoO.exec (is := [7, 8, 9, 10, 11, 12, 13, 14, 15, 16]) (hs := [.p, .p, .p, .b 0, .p, .p, .p, .p, .p, .p]) (rest := [17, 18, 19, 20, 21, 22, 23, 24, 25, 26, 27]) (ks := [0, 3, 34]) (env' := [(0, vP b_2), (3, vI n_5), (34, .bool (decide ((r_1.S_.length : Int) < (wi64 (n_5 + 1)))))]) (H' := [⟨1, b_2, [.string (bs r_1.S_), .bool r_1.Bad]⟩]) (ps := [b_2 = b_2]) (by kernel_rfl) (And.intro rfl trivial) ?_
      refine GoO.bsplit (t := 34) (by kernel_rfl) (fun h8 => ?_) (fun h8 => ?_)
      · refine GoO.exec (is := [17, 18, 19, 20, 21, 22, 23, 24, 25, 26, 27]) (hs := [.p, .p, .p, .p, .p, .p, .p, .p, .p, .p, .p]) (rest := []) (ks := [0, 3, 45]) (env' := [(0, vP b_2), (3, vI n_5), (45, .bool true)]) (H' := [⟨1, b_2, [.string (bs r_1.S_), .bool r_1.Bad]⟩]) (ps := []) (by kernel_rfl) trivial ?_
        refine GoO.regionEnd ?_
        exact GoO.sub (ks := [0, 3, 45]) (hk := [0]) (bk := []) (by kernel_rfl) (by kernel_rfl) (by kernel_rfl) (tontineref03_Reader_Num_j1_ok n r_1 n_5 b_2 w0 S0 true)
      · refine GoO.exec (is := [17, 18, 19]) (hs := [.p, .p, .p]) (rest := [20, 21, 22, 23, 24, 25, 26, 27]) (ks := [0, 3, 34, 37]) (env' := [(0, vP b_2), (3, vI n_5), (34, .bool false), (37, .bool (decide (n_5 > 0)))]) (H' := [⟨1, b_2, [.string (bs r_1.S_), .bool r_1.Bad]⟩]) (ps := []) (by kernel_rfl) trivial ?_
        refine GoO.bsplit (t := 37) (by kernel_rfl) (fun h9 => ?_) (fun h9 => ?_)
        · refine GoO.guard (fun h10 => ?_)
          refine GoO.exec (is := [20, 21, 22, 23, 24, 25, 26, 27]) (hs := [.p, .p, .p, .b 0, .p, .p, .p, .p]) (rest := []) (ks := [0, 3, 45]) (env' := [(0, vP b_2), (3, vI n_5), (45, .bool (((rdB r_1.S_ 1).toNat : Int) == 0))]) (H' := [⟨1, b_2, [.string (bs r_1.S_), .bool r_1.Bad]⟩]) (ps := [b_2 = b_2, (0 : Int) ≤ 1, 1 < (r_1.S_.length : Int)]) (by kernel_rfl) (And.intro rfl (And.intro h10.1 (And.intro h10.2 trivial))) ?_
          refine GoO.regionEnd ?_
          exact GoO.sub (ks := [0, 3, 45]) (hk := [0]) (bk := []) (by kernel_rfl) (by kernel_rfl) (by kernel_rfl) (tontineref03_Reader_Num_j1_ok n r_1 n_5 b_2 w0 S0 (((rdB r_1.S_ 1).toNat : Int) == 0))
        · refine GoO.exec (is := [20, 21, 22, 23, 24, 25, 26, 27]) (hs := [.p, .p, .p, .p, .p, .p, .p, .p]) (rest := []) (ks := [0, 3, 45]) (env' := [(0, vP b_2), (3, vI n_5), (45, .bool false)]) (H' := [⟨1, b_2, [.string (bs r_1.S_), .bool r_1.Bad]⟩]) (ps := []) (by kernel_rfl) trivial ?_
          refine GoO.regionEnd ?_
          exact GoO.sub (ks := [0, 3, 45]) (hk := [0]) (bk := []) (by kernel_rfl) (by kernel_rfl) (by kernel_rfl) (tontineref03_Reader_Num_j1_ok n r_1 n_5 b_2 w0 S0 false)
theorem tontineref03_Reader_Num_ok (n : Nat) (r_1 : T_tontineref03_Reader) (b_2 : Nat) :
    Meets Try.prog 72 [vP b_2] 1 [1] [⟨1, b_2, [.string (bs r_1.S_), .bool r_1.Bad]⟩] [] (tontineref03_Reader_Num.f n r_1) (tontineref03_Reader_Num.R b_2) := by
  refine Meets.of (c := c72_0) (n := 74) Try.func72 (by kernel_rfl) (by kernel_rfl) (by kernel_rfl) fun w0 S0 => ?_
  unfold tontineref03_Reader_Num.f
  show GoO (tontineref03_Reader_Num.cx b_2 w0 S0) [(0, vP b_2)] [⟨1, b_2, [.string (bs r_1.S_), .bool r_1.Bad]⟩] [] [.code c72_0] _
  refine GoO.seq' c72_0e ?_
  refine GoO.region' (is := [0]) c72_1e (by kernel_rfl) ?_
  refine GoO.exec (is := [0]) (hs := [.p]) (rest := []) (ks := [0]) (env' := [(0, vP b_2)]) (H' := [⟨1, b_2, [.string (bs r_1.S_), .bool r_1.Bad]⟩]) (ps := []) (by kernel_rfl) trivial ?_
  refine GoO.regionEnd ?_
  refine GoO.seq' c72_2e ?_
  refine GoO.region' (is := [0]) c72_3e (by kernel_rfl) ?_
  refine GoO.exec (is := [0]) (hs := [.p]) (rest := []) (ks := [0, 3]) (env' := [(0, vP b_2), (3, vI (-1))]) (H' := [⟨1, b_2, [.string (bs r_1.S_), .bool r_1.Bad]⟩]) (ps := []) (by kernel_rfl) trivial ?_
  refine GoO.regionEnd ?_
  refine GoO.seq' c72_4e ?_
  refine GoO.seq' c72_5e ?_
  refine GoO.region' (is := [0, 1, 2, 3, 4, 5]) c72_6e (by kernel_rfl) ?_
  refine GoO.exec (is := [0, 1, 2, 3, 4, 5]) (hs := [.p, .p, .p, .b 0, .p, .p]) (rest := []) (ks := [0, 3, 11]) (env' := [(0, vP b_2), (3, vI (-1)), (11, .bool (decide ((r_1.S_.length : Int) > 0)))]) (H' := [⟨1, b_2, [.string (bs r_1.S_), .bool r_1.Bad]⟩]) (ps := [b_2 = b_2]) (by kernel_rfl) (And.intro rfl trivial) ?_
  refine GoO.regionEnd ?_
  refine GoO.ite' c72_7e (by kernel_rfl) (fun h3 => ?_) (fun h3 => ?_)
  · refine GoO.region' (is := [0, 1, 2, 3, 4, 5, 6]) c72_8e (by kernel_rfl) ?_
    refine GoO.guard (fun h4 => ?_)
    refine GoO.exec (is := [0, 1, 2, 3, 4, 5, 6]) (hs := [.p, .p, .p, .b 0, .p, .p, .p]) (rest := []) (ks := [0, 3]) (env' := [(0, vP b_2), (3, vI (wi64 ((rdB r_1.S_ 0).toNat : Int)))]) (H' := [⟨1, b_2, [.string (bs r_1.S_), .bool r_1.Bad]⟩]) (ps := [b_2 = b_2, (0 : Int) ≤ 0, 0 < (r_1.S_.length : Int)]) (by kernel_rfl) (And.intro rfl (And.intro h4.1 (And.intro h4.2 trivial))) ?_
    refine GoO.regionEnd ?_
    exact GoO.sub (ks := [0, 3]) (hk := [0]) (bk := []) (by kernel_rfl) (by kernel_rfl) (by kernel_rfl) (tontineref03_Reader_Num_j0_ok n r_1 b_2 w0 S0 (wi64 ((rdB r_1.S_ 0).toNat : Int)))
  · refine GoO.skip' c72_9e ?_
    exact GoO.sub (ks := [0, 3]) (hk := [0]) (bk := []) (by kernel_rfl) (by kernel_rfl) (by kernel_rfl) (tontineref03_Reader_Num_j0_ok n r_1 b_2 w0 S0 (-1))
/-! tontine/tontineref07.Said -/
noncomputable def c83_0 : Code := bodyOf Try.f83
noncomputable def c83_1 : Code := cdL c83_0
noncomputable def c83_2 : Code := cdR c83_0
noncomputable def c83_3 : Code := cdL c83_2
noncomputable def c83_4 : Code := cdR c83_2
noncomputable def c83_5 : Code := cdL c83_4
noncomputable def c83_6 : Code := cdR c83_4
noncomputable def c83_7 : Code := cdL c83_6
noncomputable def c83_8 : Code := cdR c83_6
noncomputable def r83_1 : Array Oper := cdO c83_1
noncomputable def r83_3 : Array Oper := cdO c83_3
noncomputable def r83_5 : Array Oper := cdO c83_5
noncomputable def r83_7 : Array Oper := cdO c83_7
theorem c83_0e : c83_0 = .seq c83_1 c83_2 := by kernel_rfl
theorem c83_1e : c83_1 = .region 0 r83_1 false := by kernel_rfl
theorem c83_2e : c83_2 = .seq c83_3 c83_4 := by kernel_rfl
theorem c83_3e : c83_3 = .region 1 r83_3 false := by kernel_rfl
theorem c83_4e : c83_4 = .seq c83_5 c83_6 := by kernel_rfl
theorem c83_5e : c83_5 = .region 2 r83_5 false := by kernel_rfl
theorem c83_6e : c83_6 = .seq c83_7 c83_8 := by kernel_rfl
theorem c83_7e : c83_7 = .region 3 r83_7 false := by kernel_rfl
theorem c83_8e : c83_8 = .ret := by kernel_rfl
noncomputable def tontineref07_Said.R : Pst (Int × Bool) where
  ε := Unit
  v := fun r x => .tuple ⟨[vU r.1, .bool r.2]⟩
  H := fun r x => []
  B := fun r x => []
noncomputable def tontineref07_Said.cx (w0 : World) (S0 : Fam) : Cx (Int × Bool) := ⟨Try.prog, 83, Try.f83, 28, w0, S0, [], 0, tontineref07_Said.R⟩
theorem tontineref07_Said_ok (n : Nat) (s_1 : (List UInt8)) :
    Meets Try.prog 83 [.string (bs s_1)] 0 [] [] [] (tontineref07_Said.f n s_1) (tontineref07_Said.R) := by
  refine Meets.of (c := c83_0) (n := 28) Try.func83 (by kernel_rfl) (by kernel_rfl) (by kernel_rfl) fun w0 S0 => ?_
  unfold tontineref07_Said.f
  show GoO (tontineref07_Said.cx w0 S0) [(0, .string (bs s_1))] [] [] [.code c83_0] _
  refine GoO.seq' c83_0e ?_
  refine GoO.region' (is := [0, 1]) c83_1e (by kernel_rfl) ?_
  refine GoO.exec (is := [0, 1]) (hs := [.p, .p]) (rest := []) (ks := [0]) (env' := [(0, .string (bs s_1))]) (H' := []) (ps := []) (by kernel_rfl) trivial ?_
  refine GoO.regionEnd ?_
  refine GoO.seq' c83_2e ?_
  refine GoO.region' (is := [0, 1, 2, 3]) c83_3e (by kernel_rfl) ?_
  refine GoO.exec (is := [0, 1]) (hs := [.p, .p]) (rest := [2, 3]) (ks := [7]) (env' := [(7, .agg ⟨[.string (bs s_1), .bool false]⟩)]) (H' := []) (ps := []) (by kernel_rfl) trivial ?_
  refine OpTo.go (GoO.new rfl 40 (cs := [.string (bs s_1), .bool false]) (by kernel_rfl) _ (fun _ => rfl) (fun b_2 => ?_))
  refine GoO.exec (is := [3]) (hs := [.p]) (rest := []) (ks := [4]) (env' := [(4, vP b_2)]) (H' := [⟨40, b_2, [.string (bs s_1), .bool false]⟩]) (ps := []) (by kernel_rfl) trivial ?_
  refine GoO.regionEnd ?_
  refine GoO.seq' c83_4e ?_
  refine GoO.region' (is := [0, 1, 2]) c83_5e (by kernel_rfl) ?_
  refine GoO.exec (is := [0]) (hs := [.p]) (rest := [1, 2]) (ks := [4, 9]) (env' := [(4, vP b_2), (9, vP b_2)]) (H' := [⟨40, b_2, [.string (bs s_1), .bool false]⟩]) (ps := []) (by kernel_rfl) trivial ?_
  refine OpTo.go (GoO.call rfl (by kernel_rfl) (by kernel_rfl) (tontineref03_Reader_Num_ok n (⟨s_1, false⟩ : T_tontineref03_Reader) b_2) [[0], [40]] [(40, 1)] [(1, 0)] [] (hks := []) (bks := []) (by kernel_rfl) (by kernel_rfl) (by kernel_rfl) (.inl rfl) rfl rfl (by kernel_rfl) (by kernel_rfl) _ (fun _ _ => rfl) _ _ (fun _ _ => rfl) (fun _ _ => rfl) (fun _ _ => by kernel_rfl) (fun _ _ => by kernel_rfl) (fun r_3 x_8 => ?_))
  refine GoO.shape (env' := [(4, vP b_2), (9, vP b_2), (10, vU r_3.1)]) (H' := [⟨40, b_2, [.string (bs r_3.2.S_), .bool r_3.2.Bad]⟩]) (B' := []) (ks := [4, 9, 10]) (by kernel_rfl) (by kernel_rfl) (by kernel_rfl) ?_
  refine GoO.exec (is := [2]) (hs := [.p]) (rest := []) (ks := [4, 5]) (env' := [(4, vP b_2), (5, vU r_3.1)]) (H' := [⟨40, b_2, [.string (bs r_3.2.S_), .bool r_3.2.Bad]⟩]) (ps := []) (by kernel_rfl) trivial ?_
  refine GoO.regionEnd ?_
  refine GoO.seq' c83_6e ?_
  refine GoO.region' (is := [0, 1, 2, 3, 4, 5, 6, 7, 8, 9, 10, 11, 12, 13, 14, 15, 16, 17, 18]) c83_7e (by kernel_rfl) ?_
  refine GoO.exec (is := [0, 1, 2, 3, 4, 5, 6]) (hs := [.p, .p, .p, .p, .b 0, .p, .p]) (rest := [7, 8, 9, 10, 11, 12, 13, 14, 15, 16, 17, 18]) (ks := [4, 5, 11, 17]) (env' := [(4, vP b_2), (5, vU r_3.1), (11, vU r_3.1), (17, .bool (!r_3.2.Bad))]) (H' := [⟨40, b_2, [.string (bs r_3.2.S_), .bool r_3.2.Bad]⟩]) (ps := [b_2 = b_2]) (by kernel_rfl) (And.intro rfl trivial) ?_
  refine GoO.bsplit (t := 17) (by kernel_rfl) (fun h4 => ?_) (fun h4 => ?_)
  · refine GoO.exec (is := [7, 8, 9, 10, 11, 12, 13]) (hs := [.p, .p, .p, .b 0, .p, .p, .p]) (rest := [14, 15, 16, 17, 18]) (ks := [5, 11, 24]) (env' := [(5, vU r_3.1), (11, vU r_3.1), (24, .bool (r_3.2.S_ == ([] : List UInt8)))]) (H' := [⟨40, b_2, [.string (bs r_3.2.S_), .bool r_3.2.Bad]⟩]) (ps := [b_2 = b_2]) (by kernel_rfl) (And.intro rfl trivial) ?_
    refine GoO.bsplit (t := 24) (by kernel_rfl) (fun h5 => ?_) (fun h5 => ?_)
    · refine GoO.exec (is := [14]) (hs := [.p]) (rest := [15, 16, 17, 18]) (ks := [11, 24, 25]) (env' := [(11, vU r_3.1), (24, .bool true), (25, vU r_3.1)]) (H' := [⟨40, b_2, [.string (bs r_3.2.S_), .bool r_3.2.Bad]⟩]) (ps := []) (by kernel_rfl) trivial ?_
      refine OpTo.go (GoO.call rfl (by kernel_rfl) (by kernel_rfl) (tontineref06_Sound_ok n r_3.1) [[0]] [] [] [] (hks := [0]) (bks := []) (by kernel_rfl) (by kernel_rfl) (by kernel_rfl) (.inl rfl) rfl rfl (by kernel_rfl) (by kernel_rfl) _ (fun _ _ => rfl) _ _ (fun _ _ => rfl) (fun _ _ => rfl) (fun _ _ => by kernel_rfl) (fun _ _ => by kernel_rfl) (fun r_6 x_7 => ?_))
      refine GoO.shape (env' := [(11, vU r_3.1), (24, .bool true), (25, vU r_3.1), (26, .bool r_6)]) (H' := [⟨40, b_2, [.string (bs r_3.2.S_), .bool r_3.2.Bad]⟩]) (B' := []) (ks := [11, 24, 25, 26]) (by kernel_rfl) (by kernel_rfl) (by kernel_rfl) ?_
      refine GoO.exec (is := [16, 17, 18]) (hs := [.p, .p, .p]) (rest := []) (ks := [2, 3]) (env' := [(2, vU r_3.1), (3, .bool r_6)]) (H' := [⟨40, b_2, [.string (bs r_3.2.S_), .bool r_3.2.Bad]⟩]) (ps := []) (by kernel_rfl) trivial ?_
      refine GoO.regionEnd ?_
      exact GoO.ret' (h := c83_8e) (hs := []) (ps := []) (hk := []) (bk := []) Try.func83 () (by kernel_rfl) trivial (by kernel_rfl) (by kernel_rfl)
    · refine GoO.exec (is := [14, 15, 16, 17, 18]) (hs := [.p, .p, .p, .p, .p]) (rest := []) (ks := [2, 3]) (env' := [(2, vU r_3.1), (3, .bool false)]) (H' := [⟨40, b_2, [.string (bs r_3.2.S_), .bool r_3.2.Bad]⟩]) (ps := []) (by kernel_rfl) trivial ?_
      refine GoO.regionEnd ?_
      exact GoO.ret' (h := c83_8e) (hs := []) (ps := []) (hk := []) (bk := []) Try.func83 () (by kernel_rfl) trivial (by kernel_rfl) (by kernel_rfl)
  · refine GoO.exec (is := [7, 8, 9, 10, 11, 12, 13, 14, 15, 16, 17, 18]) (hs := [.p, .p, .p, .p, .p, .p, .p, .p, .p, .p, .p, .p]) (rest := []) (ks := [2, 3]) (env' := [(2, vU r_3.1), (3, .bool false)]) (H' := [⟨40, b_2, [.string (bs r_3.2.S_), .bool r_3.2.Bad]⟩]) (ps := []) (by kernel_rfl) trivial ?_
    refine GoO.regionEnd ?_
    exact GoO.ret' (h := c83_8e) (hs := []) (ps := []) (hk := []) (bk := []) Try.func83 () (by kernel_rfl) trivial (by kernel_rfl) (by kernel_rfl)
/-! tontine/tontineref07.May -/
noncomputable def c57_0 : Code := bodyOf Try.f57
noncomputable def c57_1 : Code := cdL c57_0
noncomputable def c57_2 : Code := cdR c57_0
noncomputable def c57_3 : Code := cdL c57_2
noncomputable def c57_4 : Code := cdL c57_3
noncomputable def c57_5 : Code := cdR c57_3
noncomputable def c57_6 : Code := cdL c57_5
noncomputable def c57_7 : Code := cdL c57_6
noncomputable def c57_8 : Code := cdR c57_6
noncomputable def c57_9 : Code := cdL c57_8
noncomputable def c57_10 : Code := cdR c57_8
noncomputable def c57_11 : Code := cdL c57_10
noncomputable def c57_12 : Code := cdL c57_11
noncomputable def c57_13 : Code := cdR c57_11
noncomputable def c57_14 : Code := cdR c57_10
noncomputable def c57_15 : Code := cdR c57_5
noncomputable def c57_16 : Code := cdR c57_2
noncomputable def c57_17 : Code := cdL c57_16
noncomputable def c57_18 : Code := cdR c57_16
noncomputable def r57_1 : Array Oper := cdO c57_1
noncomputable def r57_4 : Array Oper := cdO c57_4
noncomputable def r57_7 : Array Oper := cdO c57_7
noncomputable def r57_9 : Array Oper := cdO c57_9
noncomputable def r57_12 : Array Oper := cdO c57_12
noncomputable def r57_17 : Array Oper := cdO c57_17
theorem c57_0e : c57_0 = .seq c57_1 c57_2 := by kernel_rfl
theorem c57_1e : c57_1 = .region 0 r57_1 false := by kernel_rfl
theorem c57_2e : c57_2 = .seq c57_3 c57_16 := by kernel_rfl
theorem c57_3e : c57_3 = .seq c57_4 c57_5 := by kernel_rfl
theorem c57_4e : c57_4 = .region 1 r57_4 false := by kernel_rfl
theorem c57_5e : c57_5 = .cond (cdC c57_5) c57_6 c57_15 := by kernel_rfl
theorem c57_6e : c57_6 = .seq c57_7 c57_8 := by kernel_rfl
theorem c57_7e : c57_7 = .region 2 r57_7 false := by kernel_rfl
theorem c57_8e : c57_8 = .seq c57_9 c57_10 := by kernel_rfl
theorem c57_9e : c57_9 = .region 3 r57_9 false := by kernel_rfl
theorem c57_10e : c57_10 = .cond (cdC c57_10) c57_11 c57_14 := by kernel_rfl
theorem c57_11e : c57_11 = .seq c57_12 c57_13 := by kernel_rfl
theorem c57_12e : c57_12 = .region 4 r57_12 false := by kernel_rfl
theorem c57_13e : c57_13 = .ret := by kernel_rfl
theorem c57_14e : c57_14 = .skip := by kernel_rfl
theorem c57_15e : c57_15 = .skip := by kernel_rfl
theorem c57_16e : c57_16 = .seq c57_17 c57_18 := by kernel_rfl
theorem c57_17e : c57_17 = .region 5 r57_17 false := by kernel_rfl
theorem c57_18e : c57_18 = .ret := by kernel_rfl
noncomputable def tontineref07_May.R : Pst Bool where
  ε := Unit
  v := fun r x => .bool r
  H := fun r x => []
  B := fun r x => []
noncomputable def tontineref07_May.cx (w0 : World) (S0 : Fam) : Cx Bool := ⟨Try.prog, 57, Try.f57, 50, w0, S0, [], 0, tontineref07_May.R⟩
theorem tontineref07_May_j0_ok (n : Nat) (e_1 : T_api_Entry) (index_2 : Int) (term_3 : Int) (b_4 : Nat) (w0 : World) (S0 : Fam) :
    GoO (tontineref07_May.cx w0 S0) [(1, vU index_2), (2, vU term_3), (3, vP b_4)] [⟨40, b_4, [vU e_1.Term, vU e_1.Index, vI e_1.Kind, .string (bs e_1.Data)]⟩] [] [.code c57_16] (tontineref07_May.j0 n e_1 index_2 term_3) := by
  unfold tontineref07_May.j0
  refine GoO.seq' c57_16e ?_
  refine GoO.region' (is := [0, 1, 2, 3, 4, 5, 6, 7, 8, 9, 10, 11, 12, 13, 14, 15, 16, 17, 18, 19, 20, 21, 22, 23, 24, 25, 26, 27, 28, 29, 30]) c57_17e (by kernel_rfl) ?_
  refine GoO.exec (is := [0, 1, 2]) (hs := [.p, .p, .p]) (rest := [3, 4, 5, 6, 7, 8, 9, 10, 11, 12, 13, 14, 15, 16, 17, 18, 19, 20, 21, 22, 23, 24, 25, 26, 27, 28, 29, 30]) (ks := [1, 2, 3, 22]) (env' := [(1, vU index_2), (2, vU term_3), (3, vP b_4), (22, .bool (decide (index_2 > 0)))]) (H' := [⟨40, b_4, [vU e_1.Term, vU e_1.Index, vI e_1.Kind, .string (bs e_1.Data)]⟩]) (ps := []) (by kernel_rfl) trivial ?_
  refine GoO.bsplit (t := 22) (by kernel_rfl) (fun h8 => ?_) (fun h8 => ?_)
  · refine GoO.exec (is := [3, 4, 5, 6, 7, 8]) (hs := [.p, .b 0, .p, .p, .p, .p]) (rest := [9, 10, 11, 12, 13, 14, 15, 16, 17, 18, 19, 20, 21, 22, 23, 24, 25, 26, 27, 28, 29, 30]) (ks := [2, 3, 28]) (env' := [(2, vU term_3), (3, vP b_4), (28, .bool (e_1.Index == index_2))]) (H' := [⟨40, b_4, [vU e_1.Term, vU e_1.Index, vI e_1.Kind, .string (bs e_1.Data)]⟩]) (ps := [b_4 = b_4]) (by kernel_rfl) (And.intro rfl trivial) ?_
    refine GoO.bsplit (t := 28) (by kernel_rfl) (fun h9 => ?_) (fun h9 => ?_)
    · refine GoO.exec (is := [9, 10, 11, 12, 13, 14]) (hs := [.p, .b 0, .p, .p, .p, .p]) (rest := [15, 16, 17, 18, 19, 20, 21, 22, 23, 24, 25, 26, 27, 28, 29, 30]) (ks := [3, 34]) (env' := [(3, vP b_4), (34, .bool (decide (e_1.Term ≥ term_3)))]) (H' := [⟨40, b_4, [vU e_1.Term, vU e_1.Index, vI e_1.Kind, .string (bs e_1.Data)]⟩]) (ps := [b_4 = b_4]) (by kernel_rfl) (And.intro rfl trivial) ?_
      refine GoO.bsplit (t := 34) (by kernel_rfl) (fun h10 => ?_) (fun h10 => ?_)
      · refine GoO.exec (is := [15, 16, 17, 18, 19]) (hs := [.p, .b 0, .p, .p, .p]) (rest := [20, 21, 22, 23, 24, 25, 26, 27, 28, 29, 30]) (ks := [3, 39]) (env' := [(3, vP b_4), (39, .bool (decide (e_1.Kind ≥ 0)))]) (H' := [⟨40, b_4, [vU e_1.Term, vU e_1.Index, vI e_1.Kind, .string (bs e_1.Data)]⟩]) (ps := [b_4 = b_4]) (by kernel_rfl) (And.intro rfl trivial) ?_
        refine GoO.bsplit (t := 39) (by kernel_rfl) (fun h11 => ?_) (fun h11 => ?_)
        · refine GoO.exec (is := [20, 21, 22, 23, 24]) (hs := [.p, .b 0, .p, .p, .p]) (rest := [25, 26, 27, 28, 29, 30]) (ks := [3, 44]) (env' := [(3, vP b_4), (44, .bool (decide (e_1.Kind ≤ 2)))]) (H' := [⟨40, b_4, [vU e_1.Term, vU e_1.Index, vI e_1.Kind, .string (bs e_1.Data)]⟩]) (ps := [b_4 = b_4]) (by kernel_rfl) (And.intro rfl trivial) ?_
          refine GoO.bsplit (t := 44) (by kernel_rfl) (fun h12 => ?_) (fun h12 => ?_)
          · refine GoO.exec (is := [25, 26, 27, 28, 29, 30]) (hs := [.p, .b 0, .p, .p, .p, .p]) (rest := []) (ks := [6]) (env' := [(6, .bool (decide ((e_1.Data.length : Int) ≤ 32768)))]) (H' := [⟨40, b_4, [vU e_1.Term, vU e_1.Index, vI e_1.Kind, .string (bs e_1.Data)]⟩]) (ps := [b_4 = b_4]) (by kernel_rfl) (And.intro rfl trivial) ?_
            refine GoO.regionEnd ?_
            exact GoO.ret' (h := c57_18e) (hs := []) (ps := []) (hk := []) (bk := []) Try.func57 () (by kernel_rfl) trivial (by kernel_rfl) (by kernel_rfl)
          · refine GoO.exec (is := [25, 26, 27, 28, 29, 30]) (hs := [.p, .p, .p, .p, .p, .p]) (rest := []) (ks := [6]) (env' := [(6, .bool false)]) (H' := [⟨40, b_4, [vU e_1.Term, vU e_1.Index, vI e_1.Kind, .string (bs e_1.Data)]⟩]) (ps := []) (by kernel_rfl) trivial ?_
            refine GoO.regionEnd ?_
            exact GoO.ret' (h := c57_18e) (hs := []) (ps := []) (hk := []) (bk := []) Try.func57 () (by kernel_rfl) trivial (by kernel_rfl) (by kernel_rfl)
        · refine GoO.exec (is := [20, 21, 22, 23, 24, 25, 26, 27, 28, 29, 30]) (hs := [.p, .p, .p, .p, .p, .p, .p, .p, .p, .p, .p]) (rest := []) (ks := [6]) (env' := [(6, .bool false)]) (H' := [⟨40, b_4, [vU e_1.Term, vU e_1.Index, vI e_1.Kind, .string (bs e_1.Data)]⟩]) (ps := []) (by kernel_rfl) trivial ?_
          refine GoO.regionEnd ?_
          exact GoO.ret' (h := c57_18e) (hs := []) (ps := []) (hk := []) (bk := []) Try.func57 () (by kernel_rfl) trivial (by kernel_rfl) (by kernel_rfl)
      · refine GoO.exec (is := [15, 16, 17, 18, 19, 20, 21, 22, 23, 24, 25, 26, 27, 28, 29, 30]) (hs := [.p, .p, .p, .p, .p, .p, .p, .p, .p, .p, .p, .p, .p, .p, .p, .p]) (rest := []) (ks := [6]) (env' := [(6, .bool false)]) (H' := [⟨40, b_4, [vU e_1.Term, vU e_1.Index, vI e_1.Kind, .string (bs e_1.Data)]⟩]) (ps := []) (by kernel_rfl) trivial ?_
        refine GoO.regionEnd ?_
        exact GoO.ret' (h := c57_18e) (hs := []) (ps := []) (hk := []) (bk := []) Try.func57 () (by kernel_rfl) trivial (by kernel_rfl) (by kernel_rfl)
    · refine GoO.exec (is := [9, 10, 11, 12, 13, 14, 15, 16, 17, 18, 19, 20, 21, 22, 23, 24, 25, 26, 27, 28, 29, 30]) (hs := [.p, .p, .p, .p, .p, .p, .p, .p, .p, .p, .p, .p, .p, .p, .p, .p, .p, .p, .p, .p, .p, .p]) (rest := []) (ks := [6]) (env' := [(6, .bool false)]) (H' := [⟨40, b_4, [vU e_1.Term, vU e_1.Index, vI e_1.Kind, .string (bs e_1.Data)]⟩]) (ps := []) (by kernel_rfl) trivial ?_
      refine GoO.regionEnd ?_
      exact GoO.ret' (h := c57_18e) (hs := []) (ps := []) (hk := []) (bk := []) Try.func57 () (by kernel_rfl) trivial (by kernel_rfl) (by kernel_rfl)
  · refine GoO.exec (is := [3, 4, 5, 6, 7, 8, 9, 10, 11, 12, 13, 14, 15, 16, 17, 18, 19, 20, 21, 22, 23, 24, 25, 26, 27, 28, 29, 30]) (hs := [.p, .p, .p, .p, .p, .p, .p, .p, .p, .p, .p, .p, .p, .p, .p, .p, .p, .p, .p, .p, .p, .p, .p, .p, .p, .p, .p, .p]) (rest := []) (ks := [6]) (env' := [(6, .bool false)]) (H' := [⟨40, b_4, [vU e_1.Term, vU e_1.Index, vI e_1.Kind, .string (bs e_1.Data)]⟩]) (ps := []) (by kernel_rfl) trivial ?_
    refine GoO.regionEnd ?_
    exact GoO.ret' (h := c57_18e) (hs := []) (ps := []) (hk := []) (bk := []) Try.func57 () (by kernel_rfl) trivial (by kernel_rfl) (by kernel_rfl)
theorem tontineref07_May_ok (n : Nat) (e_1 : T_api_Entry) (index_2 : Int) (term_3 : Int) :
    Meets Try.prog 57 [.agg ⟨[vU e_1.Term, vU e_1.Index, vI e_1.Kind, .string (bs e_1.Data)]⟩, vU index_2, vU term_3] 0 [] [] [] (tontineref07_May.f n e_1 index_2 term_3) (tontineref07_May.R) := by
  refine Meets.of (c := c57_0) (n := 50) Try.func57 (by kernel_rfl) (by kernel_rfl) (by kernel_rfl) fun w0 S0 => ?_
  unfold tontineref07_May.f
  show GoO (tontineref07_May.cx w0 S0) [(0, .agg ⟨[vU e_1.Term, vU e_1.Index, vI e_1.Kind, .string (bs e_1.Data)]⟩), (1, vU index_2), (2, vU term_3)] [] [] [.code c57_0] _
  refine GoO.seq' c57_0e ?_
  refine GoO.region' (is := [0, 1]) c57_1e (by kernel_rfl) ?_
  refine OpTo.go (GoO.new rfl 40 (cs := [vU e_1.Term, vU e_1.Index, vI e_1.Kind, .string (bs e_1.Data)]) (by kernel_rfl) _ (fun _ => rfl) (fun b_4 => ?_))
  refine GoO.exec (is := [1]) (hs := [.p]) (rest := []) (ks := [1, 2, 3]) (env' := [(1, vU index_2), (2, vU term_3), (3, vP b_4)]) (H' := [⟨40, b_4, [vU e_1.Term, vU e_1.Index, vI e_1.Kind, .string (bs e_1.Data)]⟩]) (ps := []) (by kernel_rfl) trivial ?_
  refine GoO.regionEnd ?_
  refine GoO.seq' c57_2e ?_
  refine GoO.seq' c57_3e ?_
  refine GoO.region' (is := [0, 1, 2]) c57_4e (by kernel_rfl) ?_
  refine GoO.exec (is := [0, 1, 2]) (hs := [.p, .b 0, .p]) (rest := []) (ks := [1, 2, 3, 11]) (env' := [(1, vU index_2), (2, vU term_3), (3, vP b_4), (11, .bool (e_1.Kind == 2))]) (H' := [⟨40, b_4, [vU e_1.Term, vU e_1.Index, vI e_1.Kind, .string (bs e_1.Data)]⟩]) (ps := [b_4 = b_4]) (by kernel_rfl) (And.intro rfl trivial) ?_
  refine GoO.regionEnd ?_
  refine GoO.ite' c57_5e (by kernel_rfl) (fun h5 => ?_) (fun h5 => ?_)
  · refine GoO.seq' c57_6e ?_
    refine GoO.region' (is := [0, 1, 2, 3, 4, 5, 6, 7]) c57_7e (by kernel_rfl) ?_
    refine GoO.exec (is := [0, 1]) (hs := [.p, .b 0]) (rest := [2, 3, 4, 5, 6, 7]) (ks := [1, 2, 3, 14]) (env' := [(1, vU index_2), (2, vU term_3), (3, vP b_4), (14, .string (bs e_1.Data))]) (H' := [⟨40, b_4, [vU e_1.Term, vU e_1.Index, vI e_1.Kind, .string (bs e_1.Data)]⟩]) (ps := [b_4 = b_4]) (by kernel_rfl) (And.intro rfl trivial) ?_
    refine OpTo.go (GoO.call rfl (by kernel_rfl) (by kernel_rfl) (tontineref07_Said_ok n e_1.Data) [[0]] [] [] [] (hks := [0]) (bks := []) (by kernel_rfl) (by kernel_rfl) (by kernel_rfl) (.inl rfl) rfl rfl (by kernel_rfl) (by kernel_rfl) _ (fun _ _ => rfl) _ _ (fun _ _ => rfl) (fun _ _ => rfl) (fun _ _ => by kernel_rfl) (fun _ _ => by kernel_rfl) (fun r_6 x_8 => ?_))
    refine GoO.shape (env' := [(1, vU index_2), (2, vU term_3), (3, vP b_4), (14, .string (bs e_1.Data)), (15, .tuple ⟨[vU r_6.1, .bool r_6.2]⟩)]) (H' := [⟨40, b_4, [vU e_1.Term, vU e_1.Index, vI e_1.Kind, .string (bs e_1.Data)]⟩]) (B' := []) (ks := [1, 2, 3, 14, 15]) (by kernel_rfl) (by kernel_rfl) (by kernel_rfl) ?_
    refine GoO.exec (is := [3, 4, 5, 6, 7]) (hs := [.p, .p, .p, .p, .p]) (rest := []) (ks := [1, 2, 3, 8]) (env' := [(1, vU index_2), (2, vU term_3), (3, vP b_4), (8, .bool r_6.2)]) (H' := [⟨40, b_4, [vU e_1.Term, vU e_1.Index, vI e_1.Kind, .string (bs e_1.Data)]⟩]) (ps := []) (by kernel_rfl) trivial ?_
    refine GoO.regionEnd ?_
    refine GoO.seq' c57_8e ?_
    refine GoO.region' (is := [0, 1]) c57_9e (by kernel_rfl) ?_
    refine GoO.exec (is := [0, 1]) (hs := [.p, .p]) (rest := []) (ks := [1, 2, 3, 19]) (env' := [(1, vU index_2), (2, vU term_3), (3, vP b_4), (19, .bool (!r_6.2))]) (H' := [⟨40, b_4, [vU e_1.Term, vU e_1.Index, vI e_1.Kind, .string (bs e_1.Data)]⟩]) (ps := []) (by kernel_rfl) trivial ?_
    refine GoO.regionEnd ?_
    refine GoO.ite' c57_10e (by kernel_rfl) (fun h7 => ?_) (fun h7 => ?_)
    · refine GoO.seq' c57_11e ?_
      refine GoO.region' (is := [0]) c57_12e (by kernel_rfl) ?_
      refine GoO.exec (is := [0]) (hs := [.p]) (rest := []) (ks := [6]) (env' := [(6, .bool false)]) (H' := [⟨40, b_4, [vU e_1.Term, vU e_1.Index, vI e_1.Kind, .string (bs e_1.Data)]⟩]) (ps := []) (by kernel_rfl) trivial ?_
      refine GoO.regionEnd ?_
      exact GoO.ret' (h := c57_13e) (hs := []) (ps := []) (hk := []) (bk := []) Try.func57 () (by kernel_rfl) trivial (by kernel_rfl) (by kernel_rfl)
    · refine GoO.skip' c57_14e ?_
      exact GoO.sub (ks := [1, 2, 3]) (hk := [0]) (bk := []) (by kernel_rfl) (by kernel_rfl) (by kernel_rfl) (tontineref07_May_j0_ok n e_1 index_2 term_3 b_4 w0 S0)
  · refine GoO.skip' c57_15e ?_
    exact GoO.sub (ks := [1, 2, 3]) (hk := [0]) (bk := []) (by kernel_rfl) (by kernel_rfl) (by kernel_rfl) (tontineref07_May_j0_ok n e_1 index_2 term_3 b_4 w0 S0)
/-! tontine/tontineref07.New -/
noncomputable def c27_0 : Code := bodyOf Try.f27
noncomputable def c27_1 : Code := cdL c27_0
noncomputable def c27_2 : Code := cdR c27_0
noncomputable def c27_3 : Code := cdL c27_2
noncomputable def c27_4 : Code := cdL c27_3
noncomputable def c27_5 : Code := cdR c27_3
noncomputable def c27_6 : Code := cdL c27_5
noncomputable def c27_7 : Code := cdL c27_6
noncomputable def c27_8 : Code := cdR c27_6
noncomputable def c27_9 : Code := cdR c27_5
noncomputable def c27_10 : Code := cdR c27_2
noncomputable def c27_11 : Code := cdL c27_10
noncomputable def c27_12 : Code := cdR c27_10
noncomputable def c27_13 : Code := cdL c27_12
noncomputable def c27_14 : Code := cdL c27_13
noncomputable def c27_15 : Code := cdR c27_13
noncomputable def c27_16 : Code := cdL c27_15
noncomputable def c27_17 : Code := cdL c27_16
noncomputable def c27_18 : Code := cdL c27_17
noncomputable def c27_19 : Code := cdL c27_18
noncomputable def c27_20 : Code := cdR c27_18
noncomputable def c27_21 : Code := cdL c27_20
noncomputable def c27_22 : Code := cdR c27_20
noncomputable def c27_23 : Code := cdR c27_17
noncomputable def c27_24 : Code := cdL c27_23
noncomputable def c27_25 : Code := cdL c27_24
noncomputable def c27_26 : Code := cdL c27_25
noncomputable def c27_27 : Code := cdL c27_26
noncomputable def c27_28 : Code := cdR c27_26
noncomputable def c27_29 : Code := cdL c27_28
noncomputable def c27_30 : Code := cdL c27_29
noncomputable def c27_31 : Code := cdR c27_29
noncomputable def c27_32 : Code := cdR c27_28
noncomputable def c27_33 : Code := cdR c27_25
noncomputable def c27_34 : Code := cdR c27_23
noncomputable def c27_35 : Code := cdR c27_12
noncomputable def c27_36 : Code := cdL c27_35
noncomputable def c27_37 : Code := cdR c27_35
noncomputable def r27_1 : Array Oper := cdO c27_1
noncomputable def r27_4 : Array Oper := cdO c27_4
noncomputable def r27_7 : Array Oper := cdO c27_7
noncomputable def r27_11 : Array Oper := cdO c27_11
noncomputable def r27_14 : Array Oper := cdO c27_14
noncomputable def r27_19 : Array Oper := cdO c27_19
noncomputable def r27_27 : Array Oper := cdO c27_27
noncomputable def r27_30 : Array Oper := cdO c27_30
noncomputable def r27_33 : Array Oper := cdO c27_33
noncomputable def r27_34 : Array Oper := cdO c27_34
noncomputable def r27_36 : Array Oper := cdO c27_36
theorem c27_0e : c27_0 = .seq c27_1 c27_2 := by kernel_rfl
theorem c27_1e : c27_1 = .region 0 r27_1 false := by kernel_rfl
theorem c27_2e : c27_2 = .seq c27_3 c27_10 := by kernel_rfl
theorem c27_3e : c27_3 = .seq c27_4 c27_5 := by kernel_rfl
theorem c27_4e : c27_4 = .region 1 r27_4 false := by kernel_rfl
theorem c27_5e : c27_5 = .cond (cdC c27_5) c27_6 c27_9 := by kernel_rfl
theorem c27_6e : c27_6 = .seq c27_7 c27_8 := by kernel_rfl
theorem c27_7e : c27_7 = .region 2 r27_7 false := by kernel_rfl
theorem c27_8e : c27_8 = .ret := by kernel_rfl
theorem c27_9e : c27_9 = .skip := by kernel_rfl
theorem c27_10e : c27_10 = .seq c27_11 c27_12 := by kernel_rfl
theorem c27_11e : c27_11 = .region 3 r27_11 true := by kernel_rfl
theorem c27_12e : c27_12 = .seq c27_13 c27_35 := by kernel_rfl
theorem c27_13e : c27_13 = .seq c27_14 c27_15 := by kernel_rfl
theorem c27_14e : c27_14 = .region 4 r27_14 false := by kernel_rfl
theorem c27_15e : c27_15 = .block 0 c27_16 := by kernel_rfl
theorem c27_16e : c27_16 = .loop c27_17 := by kernel_rfl
theorem c27_17e : c27_17 = .seq c27_18 c27_23 := by kernel_rfl
theorem c27_18e : c27_18 = .seq c27_19 c27_20 := by kernel_rfl
theorem c27_19e : c27_19 = .region 5 r27_19 false := by kernel_rfl
theorem c27_20e : c27_20 = .cond (cdC c27_20) c27_21 c27_22 := by kernel_rfl
theorem c27_21e : c27_21 = .skip := by kernel_rfl
theorem c27_22e : c27_22 = .exit 0 := by kernel_rfl
theorem c27_23e : c27_23 = .seq c27_24 c27_34 := by kernel_rfl
theorem c27_24e : c27_24 = .block 1 c27_25 := by kernel_rfl
theorem c27_25e : c27_25 = .seq c27_26 c27_33 := by kernel_rfl
theorem c27_26e : c27_26 = .seq c27_27 c27_28 := by kernel_rfl
theorem c27_27e : c27_27 = .region 7 r27_27 false := by kernel_rfl
theorem c27_28e : c27_28 = .cond (cdC c27_28) c27_29 c27_32 := by kernel_rfl
theorem c27_29e : c27_29 = .seq c27_30 c27_31 := by kernel_rfl
theorem c27_30e : c27_30 = .region 8 r27_30 false := by kernel_rfl
theorem c27_31e : c27_31 = .ret := by kernel_rfl
theorem c27_32e : c27_32 = .skip := by kernel_rfl
theorem c27_33e : c27_33 = .region 9 r27_33 true := by kernel_rfl
theorem c27_34e : c27_34 = .region 6 r27_34 false := by kernel_rfl
theorem c27_35e : c27_35 = .seq c27_36 c27_37 := by kernel_rfl
theorem c27_36e : c27_36 = .region 10 r27_36 true := by kernel_rfl
theorem c27_37e : c27_37 = .ret := by kernel_rfl
noncomputable def tontineref07_New.R (A_3 : Option Addr) (c_4 : Nat) : Pst (Option T_tontineref07_Log × Int) where
  ε := Nat × Option Addr × Nat
  v := fun r x => .tuple ⟨[(match r.1 with | none => Value.pointer none | some _ => Value.pointer (some ⟨x.1, 0, none⟩)), vI r.2]⟩
  H := fun r x => [] ++ ((match r.1 with | none => ([] : List Bx) | some o => [⟨1, x.1, [vU o.Snap.Index, vU o.Snap.Term, vU o.Snap.Config, .string (bs o.Snap.Data), .slice x.2.1 o.L.length x.2.2]⟩]) ++ ([]))
  B := fun r x => [] ++ ((match r.1 with | none => ([] : List Fct) | some o => [Ow 2 kT_api_Entry x.2.1 x.2.2 o.L]) ++ ([]))
noncomputable def tontineref07_New.cx (A_3 : Option Addr) (c_4 : Nat) (w0 : World) (S0 : Fam) : Cx (Option T_tontineref07_Log × Int) := ⟨Try.prog, 27, Try.f27, 47, w0, S0, [], 0, tontineref07_New.R A_3 c_4⟩
theorem tontineref07_New_l0_ok (n : Nat) (s_1 : T_api_Snapshot) (l_2 : (List T_api_Entry)) (A_3 : Option Addr) (c_4 : Nat) (b_5 : Nat) (w0 : World) (S0 : Fam) :
    ∀ (k : Nat) (index_8 : Int) (term_9 : Int) (i_10 : Int), GoO (tontineref07_New.cx A_3 c_4 w0 S0) [(1, .slice A_3 l_2.length c_4), (2, vP b_5), (6, vU index_8), (7, vU term_9), (8, vI i_10)] [⟨40, b_5, [vU s_1.Index, vU s_1.Term, vU s_1.Config, .string (bs s_1.Data)]⟩] [Rd 0 kT_api_Entry A_3 c_4 l_2] [.code c27_17, .inLoop c27_17, .inBlock 0, .code c27_35] (tontineref07_New.l0 n s_1 l_2 k index_8 term_9 i_10) := by
  intro k
  induction k with
  | zero => intros; rw [tontineref07_New.l0.eq_1]; exact GoO.stop
  | succ k ih0 =>
    intro index_8 term_9 i_10
    rw [tontineref07_New.l0.eq_2]
    refine GoO.seq' c27_17e ?_
    refine GoO.seq' c27_18e ?_
    refine GoO.region' (is := [0, 1, 2, 3]) c27_19e (by kernel_rfl) ?_
    refine GoO.exec (is := [0, 1, 2, 3]) (hs := [.p, .p, .p, .p]) (rest := []) (ks := [1, 2, 6, 7, 8, 20]) (env' := [(1, .slice A_3 l_2.length c_4), (2, vP b_5), (6, vU index_8), (7, vU term_9), (8, vI i_10), (20, .bool (decide (i_10 < (l_2.length : Int))))]) (H' := [⟨40, b_5, [vU s_1.Index, vU s_1.Term, vU s_1.Config, .string (bs s_1.Data)]⟩]) (ps := []) (by kernel_rfl) trivial ?_
    refine GoO.regionEnd ?_
    refine GoO.ite' c27_20e (by kernel_rfl) (fun h11 => ?_) (fun h11 => ?_)
    · refine GoO.skip' c27_21e ?_
      refine GoO.seq' c27_23e ?_
      refine GoO.block' c27_24e ?_
      refine GoO.seq' c27_25e ?_
      refine GoO.seq' c27_26e ?_
      refine GoO.region' (is := [0, 1, 2, 3, 4, 5, 6, 7, 8]) c27_27e (by kernel_rfl) ?_
      refine GoO.exec (is := [0, 1]) (hs := [.p, .p]) (rest := [2, 3, 4, 5, 6, 7, 8]) (ks := [1, 2, 6, 7, 8, 23, 24]) (env' := [(1, .slice A_3 l_2.length c_4), (2, vP b_5), (6, vU index_8), (7, vU term_9), (8, vI i_10), (23, .slice A_3 l_2.length c_4), (24, vI i_10)]) (H' := [⟨40, b_5, [vU s_1.Index, vU s_1.Term, vU s_1.Config, .string (bs s_1.Data)]⟩]) (ps := []) (by kernel_rfl) trivial ?_
      refine GoO.guard (fun h12 => ?_)
      refine OpTo.go (GoO.idx (kk := .i64) (e := 40) (K := kT_api_Entry) (A := A_3) (c := c_4) (xs := l_2) (iv := i_10) (j := 0) rfl (by kernel_rfl) (by kernel_rfl) (by kernel_rfl) (by kernel_rfl) rfl Reads.rd rfl h12.1 h12.2 (by decide) rfl ?_)
      refine OpTo.go (GoO.ldE' (K := kT_api_Entry) (A := A_3) (c := c_4) (xs := l_2) (iN := i_10.toNat) (off := 0) (j := 0) rfl (by kernel_rfl) rfl Reads.rd (by first | exact idx_lt h12.1 h12.2 | (simp only [List.length_set]; exact idx_lt h12.1 h12.2)) (by decide) (Opn.flat _ _ _ _ _) (v := fun _ => .agg ⟨[vU ((rdL l_2 i_10).Term), vU ((rdL l_2 i_10).Index), vI ((rdL l_2 i_10).Kind), .string (bs ((rdL l_2 i_10).Data))]⟩) (fun _ => by kernel_rfl) _ (fun _ => rfl) (fun _ => ?_))
      refine GoO.exec (is := [4, 5, 6]) (hs := [.p, .p, .p]) (rest := [7, 8]) (ks := [1, 2, 8, 26, 28, 29]) (env' := [(1, .slice A_3 l_2.length c_4), (2, vP b_5), (8, vI i_10), (26, .agg ⟨[vU ((rdL l_2 i_10).Term), vU ((rdL l_2 i_10).Index), vI ((rdL l_2 i_10).Kind), .string (bs ((rdL l_2 i_10).Data))]⟩), (28, vU (wu64 (index_8 + 1))), (29, vU term_9)]) (H' := [⟨40, b_5, [vU s_1.Index, vU s_1.Term, vU s_1.Config, .string (bs s_1.Data)]⟩]) (ps := []) (by kernel_rfl) trivial ?_
      refine OpTo.go (GoO.call rfl (by kernel_rfl) (by kernel_rfl) (tontineref07_May_ok n (rdL l_2 i_10) (wu64 (index_8 + 1)) term_9) [[0]] [] [] [] (hks := [0]) (bks := [0]) (by kernel_rfl) (by kernel_rfl) (by kernel_rfl) (.inl rfl) rfl rfl (by kernel_rfl) (by kernel_rfl) _ (fun _ _ => rfl) _ _ (fun _ _ => rfl) (fun _ _ => rfl) (fun _ _ => by kernel_rfl) (fun _ _ => by kernel_rfl) (fun r_13 x_17 => ?_))
      refine GoO.shape (env' := [(1, .slice A_3 l_2.length c_4), (2, vP b_5), (8, vI i_10), (26, .agg ⟨[vU ((rdL l_2 i_10).Term), vU ((rdL l_2 i_10).Index), vI ((rdL l_2 i_10).Kind), .string (bs ((rdL l_2 i_10).Data))]⟩), (28, vU (wu64 (index_8 + 1))), (29, vU term_9), (30, .bool r_13)]) (H' := [⟨40, b_5, [vU s_1.Index, vU s_1.Term, vU s_1.Config, .string (bs s_1.Data)]⟩]) (B' := [Rd 0 kT_api_Entry A_3 c_4 l_2]) (ks := [1, 2, 8, 26, 28, 29, 30]) (by kernel_rfl) (by kernel_rfl) (by kernel_rfl) ?_
      refine GoO.exec (is := [8]) (hs := [.p]) (rest := []) (ks := [1, 2, 8, 31]) (env' := [(1, .slice A_3 l_2.length c_4), (2, vP b_5), (8, vI i_10), (31, .bool (!r_13))]) (H' := [⟨40, b_5, [vU s_1.Index, vU s_1.Term, vU s_1.Config, .string (bs s_1.Data)]⟩]) (ps := []) (by kernel_rfl) trivial ?_
      refine GoO.regionEnd ?_
      refine GoO.ite' c27_28e (by kernel_rfl) (fun h14 => ?_) (fun h14 => ?_)
      · refine GoO.seq' c27_29e ?_
        refine GoO.region' (is := [0, 1]) c27_30e (by kernel_rfl) ?_
        refine GoO.exec (is := [0, 1]) (hs := [.p, .p]) (rest := []) (ks := [4, 5]) (env' := [(4, .pointer none), (5, vI 1)]) (H' := [⟨40, b_5, [vU s_1.Index, vU s_1.Term, vU s_1.Config, .string (bs s_1.Data)]⟩]) (ps := []) (by kernel_rfl) trivial ?_
        refine GoO.regionEnd ?_
        exact GoO.ret' (h := c27_31e) (hs := []) (ps := []) (hk := []) (bk := []) Try.func27 (⟨0, none, 0⟩ : Nat × Option Addr × Nat) (by kernel_rfl) trivial (by kernel_rfl) (by kernel_rfl)
      · refine GoO.skip' c27_32e ?_
        refine GoO.draw c27_33e (by kernel_rfl) [11] [] [Rd 0 kT_api_Entry A_3 c_4 l_2] (n := 12) (by kernel_rfl) ?_
        simp only [List.replicate]
        refine GoF.take [0, 1, 5, 6] [.p, .p, .p, .p] (ks := [1, 2, 8, 32, 33, 37, 38]) (fu := 8) (li := [true, true, false, false, false, true, true, false, false, false, false, false]) (env' := [(1, .slice A_3 l_2.length c_4), (2, vP b_5), (8, vI i_10), (32, .slice A_3 l_2.length c_4), (33, vI i_10), (37, .slice A_3 l_2.length c_4), (38, vI i_10)]) (ps := []) (hk := []) (bk := [0]) (by kernel_rfl) trivial rfl rfl ?_
        refine GoF.guard (fun h15 => ?_)
        refine GoF.idx (i := 2) (hk := []) (bk := [0]) (kk := .i64) (e := 40) (K := kT_api_Entry) (A := A_3) (c := c_4) (xs := l_2) (iv := i_10) (j := 0) (by kernel_rfl) rfl rfl rfl (by kernel_rfl) (by kernel_rfl) (by kernel_rfl) (by kernel_rfl) rfl Reads.rd rfl h15.1 h15.2 (by decide) rfl ?_
        refine GoF.fldE (i := 3) (hk := []) (bk := [0]) (K := kT_api_Entry) (A := A_3) (c := c_4) (xs := l_2) (iN := i_10.toNat) (off := 0) (n := 1) (j := 0) (by kernel_rfl) rfl rfl rfl (by kernel_rfl) (by kernel_rfl) rfl Reads.rd (by first | exact idx_lt h15.1 h15.2 | (simp only [List.length_set]; exact idx_lt h15.1 h15.2)) (by decide) rfl ?_
        refine GoF.ldE (i := 4) (hk := []) (bk := [0]) (K := kT_api_Entry) (A := A_3) (c := c_4) (xs := l_2) (iN := i_10.toNat) (off := 1) (j := 0) (v := vU ((rdL l_2 i_10).Index)) (by kernel_rfl) rfl rfl rfl (hK := rfl) (by kernel_rfl) rfl Reads.rd (by first | exact idx_lt h15.1 h15.2 | (simp only [List.length_set]; exact idx_lt h15.1 h15.2)) (by decide) (by kernel_rfl) rfl ?_
        refine GoF.take [10] [.p] (ks := [1, 2, 6, 8, 37, 38]) (fu := 4) (li := [true, true, true, true, true, true, true, false, false, false, true, false]) (env' := [(1, .slice A_3 l_2.length c_4), (2, vP b_5), (6, vU ((rdL l_2 i_10).Index)), (8, vI i_10), (37, .slice A_3 l_2.length c_4), (38, vI i_10)]) (ps := []) (hk := []) (bk := [0]) (by kernel_rfl) trivial rfl rfl ?_
        refine GoF.guard (fun h16 => ?_)
        refine GoF.idx (i := 7) (hk := []) (bk := [0]) (kk := .i64) (e := 40) (K := kT_api_Entry) (A := A_3) (c := c_4) (xs := l_2) (iv := i_10) (j := 0) (by kernel_rfl) rfl rfl rfl (by kernel_rfl) (by kernel_rfl) (by kernel_rfl) (by kernel_rfl) rfl Reads.rd rfl h16.1 h16.2 (by decide) rfl ?_
        refine GoF.fldE (i := 8) (hk := []) (bk := [0]) (K := kT_api_Entry) (A := A_3) (c := c_4) (xs := l_2) (iN := i_10.toNat) (off := 0) (n := 0) (j := 0) (by kernel_rfl) rfl rfl rfl (by kernel_rfl) (by kernel_rfl) rfl Reads.rd (by first | exact idx_lt h16.1 h16.2 | (simp only [List.length_set]; exact idx_lt h16.1 h16.2)) (by decide) rfl ?_
        refine GoF.ldE (i := 9) (hk := []) (bk := [0]) (K := kT_api_Entry) (A := A_3) (c := c_4) (xs := l_2) (iN := i_10.toNat) (off := 0) (j := 0) (v := vU ((rdL l_2 i_10).Term)) (by kernel_rfl) rfl rfl rfl (hK := rfl) (by kernel_rfl) rfl Reads.rd (by first | exact idx_lt h16.1 h16.2 | (simp only [List.length_set]; exact idx_lt h16.1 h16.2)) (by decide) (by kernel_rfl) rfl ?_
        refine GoF.fin1 (i := 11) (hint := .p) (ps := []) (hk := []) (bk := []) (by kernel_rfl) rfl trivial (.inl rfl) ?_
        refine GoF.done (by kernel_rfl) ?_
        refine GoO.inBlock ?_
        refine GoO.region' (is := [0, 1, 2]) c27_34e (by kernel_rfl) ?_
        refine GoO.exec (is := [0, 1, 2]) (hs := [.p, .p, .p]) (rest := []) (ks := [1, 2, 6, 7, 8]) (env' := [(1, .slice A_3 l_2.length c_4), (2, vP b_5), (6, vU ((rdL l_2 i_10).Index)), (7, vU ((rdL l_2 i_10).Term)), (8, vI (wi64 (i_10 + 1)))]) (H' := [⟨40, b_5, [vU s_1.Index, vU s_1.Term, vU s_1.Config, .string (bs s_1.Data)]⟩]) (ps := []) (by kernel_rfl) trivial ?_
        refine GoO.regionEnd ?_
        refine GoO.inLoop ?_
        exact GoO.sub (ks := [1, 2, 6, 7, 8]) (hk := [0]) (bk := [0]) (by kernel_rfl) (by kernel_rfl) (by kernel_rfl) (ih0 ((rdL l_2 i_10).Index) ((rdL l_2 i_10).Term) (wi64 (i_10 + 1)))
    · refine GoO.exit' c27_22e rfl ?_
      refine GoO.seq' c27_35e ?_
      refine GoO.draw c27_36e (by kernel_rfl) [5, 6] [⟨40, b_5, [vU s_1.Index, vU s_1.Term, vU s_1.Config, .string (bs s_1.Data)]⟩] [] (n := 7) (by kernel_rfl) ?_
      simp only [List.replicate]
      refine GoF.take [0, 1] [.b 0, .p] (ks := [42, 43]) (fu := 5) (li := [true, true, false, false, false, false, false]) (env' := [(42, .agg ⟨[vU s_1.Index, vU s_1.Term, vU s_1.Config, .string (bs s_1.Data)]⟩), (43, .slice A_3 l_2.length c_4)]) (ps := [b_5 = b_5]) (hk := [0]) (bk := []) (by kernel_rfl) (And.intro rfl trivial) rfl rfl ?_
      refine GoF.nilOwn kT_api_Entry 41 ?_
      refine GoF.guard (fun h18 => ?_)
      refine OpTo.goF (i := 2) (by kernel_rfl) (hk := [0]) (bk := []) (GoO.appW (e := 40) (K := kT_api_Entry) (A := none) (c := 0) (tg := 41) (bytes := 40) (zs := [vU 0, vU 0, vI 0, .string (bs [])]) (xs := ([] : List T_api_Entry)) (ys := l_2) (xv := .slice A_3 l_2.length c_4) (j := 0) (bk := [1]) rfl (by kernel_rfl) (by kernel_rfl) (by kernel_rfl) (by kernel_rfl) rfl (by kernel_rfl) rfl (fun w S hB => SrcIs.row (Reads.rd w S (hB _ (List.mem_of_getElem? (i := 1) rfl)))) h18 rfl rfl rfl rfl _ (fun _ _ => rfl) (fun A_19 c_20 => ⟨rfl, rfl, ?_⟩))
      refine GoF.take [3] [.p] (ks := [45]) (fu := 3) (li := [true, true, true, true, false, false, false]) (env' := [(45, .agg ⟨[vU s_1.Index, vU s_1.Term, vU s_1.Config, .string (bs s_1.Data), .slice A_19 (([] : List T_api_Entry) ++ l_2).length c_20]⟩)]) (ps := []) (hk := [0]) (bk := []) (by kernel_rfl) trivial rfl rfl ?_
      refine OpTo.goF (i := 4) (by kernel_rfl) (hk := [1]) (bk := []) (GoO.new rfl 42 (cs := [vU s_1.Index, vU s_1.Term, vU s_1.Config, .string (bs s_1.Data), .slice A_19 (([] : List T_api_Entry) ++ l_2).length c_20]) (by kernel_rfl) _ (fun _ => rfl) (fun b_21 => ⟨rfl, rfl, ?_⟩))
      refine GoF.fin1 (i := 5) (hint := .p) (ps := []) (hk := []) (bk := []) (by kernel_rfl) rfl trivial (.inl rfl) ?_
      refine GoF.fin1 (i := 6) (hint := .p) (ps := []) (hk := []) (bk := []) (by kernel_rfl) rfl trivial (.inl rfl) ?_
      refine GoF.done (by kernel_rfl) ?_
      refine GoO.retag (t := 41) (u := 2) (j := 0) (hk := [0, 1]) (bk := [1]) rfl rfl rfl rfl rfl rfl (by kernel_rfl) (by kernel_rfl) ?_
      refine GoO.retagB (t := 42) (u := 1) (j := 0) (hk := [1]) (bk := [0, 1]) rfl rfl rfl rfl rfl rfl (by kernel_rfl) (by kernel_rfl) ?_
      exact GoO.ret' (h := c27_37e) (hs := []) (ps := []) (hk := [0]) (bk := [0]) Try.func27 (⟨b_21, A_19, c_20⟩ : Nat × Option Addr × Nat) (by kernel_rfl) trivial (by kernel_rfl) (by kernel_rfl)
theorem tontineref07_New_ok (n : Nat) (s_1 : T_api_Snapshot) (l_2 : (List T_api_Entry)) (A_3 : Option Addr) (c_4 : Nat) :
    Meets Try.prog 27 [.agg ⟨[vU s_1.Index, vU s_1.Term, vU s_1.Config, .string (bs s_1.Data)]⟩, .slice A_3 l_2.length c_4] 0 [] [] [Rd 0 kT_api_Entry A_3 c_4 l_2] (tontineref07_New.f n s_1 l_2) (tontineref07_New.R A_3 c_4) := by
  refine Meets.of (c := c27_0) (n := 47) Try.func27 (by kernel_rfl) (by kernel_rfl) (by kernel_rfl) fun w0 S0 => ?_
  unfold tontineref07_New.f
  show GoO (tontineref07_New.cx A_3 c_4 w0 S0) [(0, .agg ⟨[vU s_1.Index, vU s_1.Term, vU s_1.Config, .string (bs s_1.Data)]⟩), (1, .slice A_3 l_2.length c_4)] [] [Rd 0 kT_api_Entry A_3 c_4 l_2] [.code c27_0] _
  refine GoO.seq' c27_0e ?_
  refine GoO.region' (is := [0, 1, 2]) c27_1e (by kernel_rfl) ?_
  refine OpTo.go (GoO.new rfl 40 (cs := [vU s_1.Index, vU s_1.Term, vU s_1.Config, .string (bs s_1.Data)]) (by kernel_rfl) _ (fun _ => rfl) (fun b_5 => ?_))
  refine GoO.exec (is := [1, 2]) (hs := [.p, .p]) (rest := []) (ks := [1, 2]) (env' := [(1, .slice A_3 l_2.length c_4), (2, vP b_5)]) (H' := [⟨40, b_5, [vU s_1.Index, vU s_1.Term, vU s_1.Config, .string (bs s_1.Data)]⟩]) (ps := []) (by kernel_rfl) trivial ?_
  refine GoO.regionEnd ?_
  refine GoO.seq' c27_2e ?_
  refine GoO.seq' c27_3e ?_
  refine GoO.region' (is := [0, 1, 2, 3]) c27_4e (by kernel_rfl) ?_
  refine GoO.exec (is := [0, 1]) (hs := [.p, .b 0]) (rest := [2, 3]) (ks := [1, 2, 10]) (env' := [(1, .slice A_3 l_2.length c_4), (2, vP b_5), (10, vU s_1.Config)]) (H' := [⟨40, b_5, [vU s_1.Index, vU s_1.Term, vU s_1.Config, .string (bs s_1.Data)]⟩]) (ps := [b_5 = b_5]) (by kernel_rfl) (And.intro rfl trivial) ?_
  refine OpTo.go (GoO.call rfl (by kernel_rfl) (by kernel_rfl) (tontineref06_Sound_ok n s_1.Config) [[0]] [] [] [] (hks := [0]) (bks := [0]) (by kernel_rfl) (by kernel_rfl) (by kernel_rfl) (.inl rfl) rfl rfl (by kernel_rfl) (by kernel_rfl) _ (fun _ _ => rfl) _ _ (fun _ _ => rfl) (fun _ _ => rfl) (fun _ _ => by kernel_rfl) (fun _ _ => by kernel_rfl) (fun r_6 x_22 => ?_))
  refine GoO.shape (env' := [(1, .slice A_3 l_2.length c_4), (2, vP b_5), (10, vU s_1.Config), (11, .bool r_6)]) (H' := [⟨40, b_5, [vU s_1.Index, vU s_1.Term, vU s_1.Config, .string (bs s_1.Data)]⟩]) (B' := [Rd 0 kT_api_Entry A_3 c_4 l_2]) (ks := [1, 2, 10, 11]) (by kernel_rfl) (by kernel_rfl) (by kernel_rfl) ?_
  refine GoO.exec (is := [3]) (hs := [.p]) (rest := []) (ks := [1, 2, 12]) (env' := [(1, .slice A_3 l_2.length c_4), (2, vP b_5), (12, .bool (!r_6))]) (H' := [⟨40, b_5, [vU s_1.Index, vU s_1.Term, vU s_1.Config, .string (bs s_1.Data)]⟩]) (ps := []) (by kernel_rfl) trivial ?_
  refine GoO.regionEnd ?_
  refine GoO.ite' c27_5e (by kernel_rfl) (fun h7 => ?_) (fun h7 => ?_)
  · refine GoO.seq' c27_6e ?_
    refine GoO.region' (is := [0, 1]) c27_7e (by kernel_rfl) ?_
    refine GoO.exec (is := [0, 1]) (hs := [.p, .p]) (rest := []) (ks := [4, 5]) (env' := [(4, .pointer none), (5, vI 1)]) (H' := [⟨40, b_5, [vU s_1.Index, vU s_1.Term, vU s_1.Config, .string (bs s_1.Data)]⟩]) (ps := []) (by kernel_rfl) trivial ?_
    refine GoO.regionEnd ?_
    exact GoO.ret' (h := c27_8e) (hs := []) (ps := []) (hk := []) (bk := []) Try.func27 (⟨0, none, 0⟩ : Nat × Option Addr × Nat) (by kernel_rfl) trivial (by kernel_rfl) (by kernel_rfl)
  · refine GoO.skip' c27_9e ?_
    refine GoO.seq' c27_10e ?_
    refine GoO.draw c27_11e (by kernel_rfl) [5] [⟨40, b_5, [vU s_1.Index, vU s_1.Term, vU s_1.Config, .string (bs s_1.Data)]⟩] [] (n := 6) (by kernel_rfl) ?_
    simp only [List.replicate]
    refine GoF.take [0, 1, 2, 3, 4] [.p, .b 0, .p, .b 0, .p] (ks := [1, 2, 6, 16]) (fu := 1) (li := [true, true, true, true, true, false]) (env' := [(1, .slice A_3 l_2.length c_4), (2, vP b_5), (6, vU s_1.Index), (16, vU s_1.Term)]) (ps := [b_5 = b_5, b_5 = b_5]) (hk := [0]) (bk := []) (by kernel_rfl) (And.intro rfl (And.intro rfl trivial)) rfl rfl ?_
    refine GoF.fin1 (i := 5) (hint := .p) (ps := []) (hk := []) (bk := []) (by kernel_rfl) rfl trivial (.inl rfl) ?_
    refine GoF.done (by kernel_rfl) ?_
    refine GoO.seq' c27_12e ?_
    refine GoO.seq' c27_13e ?_
    refine GoO.region' (is := [0]) c27_14e (by kernel_rfl) ?_
    refine GoO.exec (is := [0]) (hs := [.p]) (rest := []) (ks := [1, 2, 6, 7, 8]) (env' := [(1, .slice A_3 l_2.length c_4), (2, vP b_5), (6, vU s_1.Index), (7, vU s_1.Term), (8, vI 0)]) (H' := [⟨40, b_5, [vU s_1.Index, vU s_1.Term, vU s_1.Config, .string (bs s_1.Data)]⟩]) (ps := []) (by kernel_rfl) trivial ?_
    refine GoO.regionEnd ?_
    refine GoO.block' c27_15e ?_
    refine GoO.loop' c27_16e ?_
    exact GoO.sub (ks := [1, 2, 6, 7, 8]) (hk := [0]) (bk := [0]) (by kernel_rfl) (by kernel_rfl) (by kernel_rfl) (tontineref07_New_l0_ok n s_1 l_2 A_3 c_4 b_5 w0 S0 n s_1.Index s_1.Term 0)
/-! (*tontine/rlog.Log).Add -/
noncomputable def c21_0 : Code := bodyOf Try.f21
noncomputable def c21_1 : Code := cdL c21_0
noncomputable def c21_2 : Code := cdR c21_0
noncomputable def c21_3 : Code := cdL c21_2
noncomputable def c21_4 : Code := cdR c21_2
noncomputable def c21_5 : Code := cdL c21_4
noncomputable def c21_6 : Code := cdR c21_4
noncomputable def c21_7 : Code := cdL c21_6
noncomputable def c21_8 : Code := cdL c21_7
noncomputable def c21_9 : Code := cdR c21_7
noncomputable def c21_10 : Code := cdL c21_9
noncomputable def c21_11 : Code := cdL c21_10
noncomputable def c21_12 : Code := cdR c21_10
noncomputable def c21_13 : Code := cdR c21_9
noncomputable def c21_14 : Code := cdR c21_6
noncomputable def c21_15 : Code := cdL c21_14
noncomputable def c21_16 : Code := cdR c21_14
noncomputable def c21_17 : Code := cdL c21_16
noncomputable def c21_18 : Code := cdR c21_16
noncomputable def r21_1 : Array Oper := cdO c21_1
noncomputable def r21_3 : Array Oper := cdO c21_3
noncomputable def r21_5 : Array Oper := cdO c21_5
noncomputable def r21_8 : Array Oper := cdO c21_8
noncomputable def r21_11 : Array Oper := cdO c21_11
noncomputable def r21_15 : Array Oper := cdO c21_15
noncomputable def r21_17 : Array Oper := cdO c21_17
theorem c21_0e : c21_0 = .seq c21_1 c21_2 := by kernel_rfl
theorem c21_1e : c21_1 = .region 0 r21_1 false := by kernel_rfl
theorem c21_2e : c21_2 = .seq c21_3 c21_4 := by kernel_rfl
theorem c21_3e : c21_3 = .region 1 r21_3 false := by kernel_rfl
theorem c21_4e : c21_4 = .seq c21_5 c21_6 := by kernel_rfl
theorem c21_5e : c21_5 = .region 2 r21_5 false := by kernel_rfl
theorem c21_6e : c21_6 = .seq c21_7 c21_14 := by kernel_rfl
theorem c21_7e : c21_7 = .seq c21_8 c21_9 := by kernel_rfl
theorem c21_8e : c21_8 = .region 3 r21_8 false := by kernel_rfl
theorem c21_9e : c21_9 = .cond (cdC c21_9) c21_10 c21_13 := by kernel_rfl
theorem c21_10e : c21_10 = .seq c21_11 c21_12 := by kernel_rfl
theorem c21_11e : c21_11 = .region 4 r21_11 false := by kernel_rfl
theorem c21_12e : c21_12 = .ret := by kernel_rfl
theorem c21_13e : c21_13 = .skip := by kernel_rfl
theorem c21_14e : c21_14 = .seq c21_15 c21_16 := by kernel_rfl
theorem c21_15e : c21_15 = .region 5 r21_15 true := by kernel_rfl
theorem c21_16e : c21_16 = .seq c21_17 c21_18 := by kernel_rfl
theorem c21_17e : c21_17 = .region 6 r21_17 false := by kernel_rfl
theorem c21_18e : c21_18 = .ret := by kernel_rfl
noncomputable def rlog_Log_Add.R (b_2 : Nat) (A_3 : Option Addr) (c_4 : Nat) : Pst (T_api_Entry × Int × T_rlog_Log) where
  ε := Option Addr × Nat
  v := fun r x => .tuple ⟨[.agg ⟨[vU r.1.Term, vU r.1.Index, vI r.1.Kind, .string (bs r.1.Data)]⟩, vI r.2.1]⟩
  H := fun r x => [⟨1, b_2, [vU r.2.2.snap.Index, vU r.2.2.snap.Term, vU r.2.2.snap.Config, .string (bs r.2.2.snap.Data), .slice x.1 r.2.2.entries.length x.2]⟩]
  B := fun r x => [Ow 2 kT_api_Entry x.1 x.2 r.2.2.entries]
noncomputable def rlog_Log_Add.cx (b_2 : Nat) (A_3 : Option Addr) (c_4 : Nat) (w0 : World) (S0 : Fam) : Cx (T_api_Entry × Int × T_rlog_Log) := ⟨Try.prog, 21, Try.f21, 46, w0, S0, [1, 2], 2, rlog_Log_Add.R b_2 A_3 c_4⟩
theorem rlog_Log_Add_ok (n : Nat) (g_1 : T_rlog_Log) (term_5 : Int) (kind_6 : Int) (data_7 : (List UInt8)) (b_2 : Nat) (A_3 : Option Addr) (c_4 : Nat) :
    Meets Try.prog 21 [vP b_2, vU term_5, vI kind_6, .string (bs data_7)] 2 [1, 2] [⟨1, b_2, [vU g_1.snap.Index, vU g_1.snap.Term, vU g_1.snap.Config, .string (bs g_1.snap.Data), .slice A_3 g_1.entries.length c_4]⟩] [Ow 2 kT_api_Entry A_3 c_4 g_1.entries] (rlog_Log_Add.f n g_1 term_5 kind_6 data_7) (rlog_Log_Add.R b_2 A_3 c_4) := by
  refine Meets.of (c := c21_0) (n := 46) Try.func21 (by kernel_rfl) (by kernel_rfl) (by kernel_rfl) fun w0 S0 => ?_
  unfold rlog_Log_Add.f
  show GoO (rlog_Log_Add.cx b_2 A_3 c_4 w0 S0) [(0, vP b_2), (1, vU term_5), (2, vI kind_6), (3, .string (bs data_7))] [⟨1, b_2, [vU g_1.snap.Index, vU g_1.snap.Term, vU g_1.snap.Config, .string (bs g_1.snap.Data), .slice A_3 g_1.entries.length c_4]⟩] [Ow 2 kT_api_Entry A_3 c_4 g_1.entries] [.code c21_0] _
  refine GoO.seq' c21_0e ?_
  refine GoO.region' (is := [0, 1]) c21_1e (by kernel_rfl) ?_
  refine OpTo.go (GoO.new rfl 40 (cs := [vU 0, vU 0, vI 0, .string (bs [])]) (by kernel_rfl) _ (fun _ => rfl) (fun b_8 => ?_))
  refine GoO.exec (is := [1]) (hs := [.p]) (rest := []) (ks := [0, 1, 2, 3, 8]) (env' := [(0, vP b_2), (1, vU term_5), (2, vI kind_6), (3, .string (bs data_7)), (8, vP b_8)]) (H' := [⟨40, b_8, [vU 0, vU 0, vI 0, .string (bs [])]⟩, ⟨1, b_2, [vU g_1.snap.Index, vU g_1.snap.Term, vU g_1.snap.Config, .string (bs g_1.snap.Data), .slice A_3 g_1.entries.length c_4]⟩]) (ps := []) (by kernel_rfl) trivial ?_
  refine GoO.regionEnd ?_
  refine GoO.seq' c21_2e ?_
  refine GoO.region' (is := [0, 1, 2, 3, 4, 5, 6]) c21_3e (by kernel_rfl) ?_
  refine GoO.exec (is := [0]) (hs := [.p]) (rest := [1, 2, 3, 4, 5, 6]) (ks := [0, 1, 2, 3, 8, 14]) (env' := [(0, vP b_2), (1, vU term_5), (2, vI kind_6), (3, .string (bs data_7)), (8, vP b_8), (14, vP b_2)]) (H' := [⟨40, b_8, [vU 0, vU 0, vI 0, .string (bs [])]⟩, ⟨1, b_2, [vU g_1.snap.Index, vU g_1.snap.Term, vU g_1.snap.Config, .string (bs g_1.snap.Data), .slice A_3 g_1.entries.length c_4]⟩]) (ps := []) (by kernel_rfl) trivial ?_
  refine OpTo.go (GoO.call rfl (by kernel_rfl) (by kernel_rfl) (rlog_Log_Last_ok n (⟨(⟨g_1.snap.Index, g_1.snap.Term, g_1.snap.Config, g_1.snap.Data⟩ : T_api_Snapshot), g_1.entries⟩ : T_rlog_Log) b_2 A_3 c_4) [[0], [1], [2]] [] [(1, 1)] [(2, 0)] (hks := [0, 1]) (bks := [0]) (by kernel_rfl) (by kernel_rfl) (by kernel_rfl) (.inl rfl) rfl rfl (by kernel_rfl) (by kernel_rfl) _ (fun _ _ => rfl) _ _ (fun _ _ => rfl) (fun _ _ => rfl) (fun _ _ => by kernel_rfl) (fun _ _ => by kernel_rfl) (fun r_9 x_19 => ?_))
  refine GoO.shape (env' := [(0, vP b_2), (1, vU term_5), (2, vI kind_6), (3, .string (bs data_7)), (8, vP b_8), (14, vP b_2), (15, .tuple ⟨[vU r_9.1, vU r_9.2]⟩)]) (H' := [⟨40, b_8, [vU 0, vU 0, vI 0, .string (bs [])]⟩, ⟨1, b_2, [vU g_1.snap.Index, vU g_1.snap.Term, vU g_1.snap.Config, .string (bs g_1.snap.Data), .slice A_3 g_1.entries.length c_4]⟩]) (B' := [Ow 2 kT_api_Entry A_3 c_4 g_1.entries]) (ks := [0, 1, 2, 3, 8, 14, 15]) (by kernel_rfl) (by kernel_rfl) (by kernel_rfl) ?_
  refine GoO.exec (is := [2, 3, 4, 5, 6]) (hs := [.p, .p, .p, .p, .p]) (rest := []) (ks := [0, 1, 2, 3, 8, 10, 11]) (env' := [(0, vP b_2), (1, vU term_5), (2, vI kind_6), (3, .string (bs data_7)), (8, vP b_8), (10, vU r_9.1), (11, vU r_9.2)]) (H' := [⟨40, b_8, [vU 0, vU 0, vI 0, .string (bs [])]⟩, ⟨1, b_2, [vU g_1.snap.Index, vU g_1.snap.Term, vU g_1.snap.Config, .string (bs g_1.snap.Data), .slice A_3 g_1.entries.length c_4]⟩]) (ps := []) (by kernel_rfl) trivial ?_
  refine GoO.regionEnd ?_
  refine GoO.seq' c21_4e ?_
  refine GoO.region' (is := [0, 1, 2, 3, 4, 5, 6, 7]) c21_5e (by kernel_rfl) ?_
  refine GoO.exec (is := [0, 1, 2, 3, 4, 5]) (hs := [.p, .p, .p, .p, .p, .p]) (rest := [6, 7]) (ks := [0, 8, 10, 11, 23]) (env' := [(0, vP b_2), (8, vP b_8), (10, vU r_9.1), (11, vU r_9.2), (23, .agg ⟨[vU term_5, vU (wu64 (r_9.1 + 1)), vI kind_6, .string (bs data_7)]⟩)]) (H' := [⟨40, b_8, [vU 0, vU 0, vI 0, .string (bs [])]⟩, ⟨1, b_2, [vU g_1.snap.Index, vU g_1.snap.Term, vU g_1.snap.Config, .string (bs g_1.snap.Data), .slice A_3 g_1.entries.length c_4]⟩]) (ps := []) (by kernel_rfl) trivial ?_
  refine OpTo.go (GoO.new rfl 41 (cs := [vU 0, vU 0, vI 0, .string (bs [])]) (by kernel_rfl) _ (fun _ => rfl) (fun b_10 => ?_))
  refine GoO.exec (is := [7]) (hs := [.b 0]) (rest := []) (ks := [0, 8, 10, 11, 12]) (env' := [(0, vP b_2), (8, vP b_8), (10, vU r_9.1), (11, vU r_9.2), (12, vP b_10)]) (H' := [⟨41, b_10, [vU term_5, vU (wu64 (r_9.1 + 1)), vI kind_6, .string (bs data_7)]⟩, ⟨40, b_8, [vU 0, vU 0, vI 0, .string (bs [])]⟩, ⟨1, b_2, [vU g_1.snap.Index, vU g_1.snap.Term, vU g_1.snap.Config, .string (bs g_1.snap.Data), .slice A_3 g_1.entries.length c_4]⟩]) (ps := [b_10 = b_10]) (by kernel_rfl) (And.intro rfl trivial) ?_
  refine GoO.regionEnd ?_
  refine GoO.seq' c21_6e ?_
  refine GoO.seq' c21_7e ?_
  refine GoO.region' (is := [0, 1, 2, 3, 4, 5, 6, 7, 8, 9]) c21_8e (by kernel_rfl) ?_
  refine GoO.exec (is := [0, 1, 2, 3, 4, 5, 6]) (hs := [.p, .p, .p, .b 0, .p, .p, .p]) (rest := [7, 8, 9]) (ks := [0, 8, 12, 26, 27, 29, 30]) (env' := [(0, vP b_2), (8, vP b_8), (12, vP b_10), (26, .bool false), (27, .agg ⟨[vU term_5, vU (wu64 (r_9.1 + 1)), vI kind_6, .string (bs data_7)]⟩), (29, vU (wu64 (r_9.1 + 1))), (30, vU r_9.2)]) (H' := [⟨41, b_10, [vU term_5, vU (wu64 (r_9.1 + 1)), vI kind_6, .string (bs data_7)]⟩, ⟨40, b_8, [vU 0, vU 0, vI 0, .string (bs [])]⟩, ⟨1, b_2, [vU g_1.snap.Index, vU g_1.snap.Term, vU g_1.snap.Config, .string (bs g_1.snap.Data), .slice A_3 g_1.entries.length c_4]⟩]) (ps := [b_10 = b_10]) (by kernel_rfl) (And.intro rfl trivial) ?_
  refine OpTo.go (GoO.call rfl (by kernel_rfl) (by kernel_rfl) (rlog_sound_ok n (⟨term_5, wu64 (r_9.1 + 1), kind_6, data_7⟩ : T_api_Entry) (wu64 (r_9.1 + 1)) r_9.2) [[0]] [] [] [] (hks := [0, 1, 2]) (bks := [0]) (by kernel_rfl) (by kernel_rfl) (by kernel_rfl) (.inl rfl) rfl rfl (by kernel_rfl) (by kernel_rfl) _ (fun _ _ => rfl) _ _ (fun _ _ => rfl) (fun _ _ => rfl) (fun _ _ => by kernel_rfl) (fun _ _ => by kernel_rfl) (fun r_11 x_18 => ?_))
  refine GoO.shape (env' := [(0, vP b_2), (8, vP b_8), (12, vP b_10), (26, .bool false), (27, .agg ⟨[vU term_5, vU (wu64 (r_9.1 + 1)), vI kind_6, .string (bs data_7)]⟩), (29, vU (wu64 (r_9.1 + 1))), (30, vU r_9.2), (31, .bool r_11)]) (H' := [⟨41, b_10, [vU term_5, vU (wu64 (r_9.1 + 1)), vI kind_6, .string (bs data_7)]⟩, ⟨40, b_8, [vU 0, vU 0, vI 0, .string (bs [])]⟩, ⟨1, b_2, [vU g_1.snap.Index, vU g_1.snap.Term, vU g_1.snap.Config, .string (bs g_1.snap.Data), .slice A_3 g_1.entries.length c_4]⟩]) (B' := [Ow 2 kT_api_Entry A_3 c_4 g_1.entries]) (ks := [0, 8, 12, 26, 27, 29, 30, 31]) (by kernel_rfl) (by kernel_rfl) (by kernel_rfl) ?_
  refine GoO.exec (is := [8, 9]) (hs := [.p, .p]) (rest := []) (ks := [0, 8, 12, 33]) (env' := [(0, vP b_2), (8, vP b_8), (12, vP b_10), (33, .bool (!r_11))]) (H' := [⟨41, b_10, [vU term_5, vU (wu64 (r_9.1 + 1)), vI kind_6, .string (bs data_7)]⟩, ⟨40, b_8, [vU 0, vU 0, vI 0, .string (bs [])]⟩, ⟨1, b_2, [vU g_1.snap.Index, vU g_1.snap.Term, vU g_1.snap.Config, .string (bs g_1.snap.Data), .slice A_3 g_1.entries.length c_4]⟩]) (ps := []) (by kernel_rfl) trivial ?_
  refine GoO.regionEnd ?_
  refine GoO.ite' c21_9e (by kernel_rfl) (fun h12 => ?_) (fun h12 => ?_)
  · refine GoO.seq' c21_10e ?_
    refine GoO.region' (is := [0, 1, 2]) c21_11e (by kernel_rfl) ?_
    refine GoO.exec (is := [0, 1, 2]) (hs := [.p, .b 1, .p]) (rest := []) (ks := [8, 9]) (env' := [(8, vP b_8), (9, vI 1)]) (H' := [⟨41, b_10, [vU term_5, vU (wu64 (r_9.1 + 1)), vI kind_6, .string (bs data_7)]⟩, ⟨40, b_8, [vU 0, vU 0, vI 0, .string (bs [])]⟩, ⟨1, b_2, [vU g_1.snap.Index, vU g_1.snap.Term, vU g_1.snap.Config, .string (bs g_1.snap.Data), .slice A_3 g_1.entries.length c_4]⟩]) (ps := [b_8 = b_8]) (by kernel_rfl) (And.intro rfl trivial) ?_
    refine GoO.regionEnd ?_
    exact GoO.ret' (h := c21_12e) (hs := [1]) (ps := [b_8 = b_8]) (hk := [2]) (bk := [0]) Try.func21 (⟨A_3, c_4⟩ : Option Addr × Nat) (by kernel_rfl) (And.intro rfl trivial) (by kernel_rfl) (by kernel_rfl)
  · refine GoO.skip' c21_13e ?_
    refine GoO.seq' c21_14e ?_
    refine GoO.draw c21_15e (by kernel_rfl) [8, 9, 10] [⟨41, b_10, [vU term_5, vU (wu64 (r_9.1 + 1)), vI kind_6, .string (bs data_7)]⟩, ⟨1, b_2, [vU g_1.snap.Index, vU g_1.snap.Term, vU g_1.snap.Config, .string (bs g_1.snap.Data), .slice A_3 g_1.entries.length c_4]⟩] [] (n := 11) (by kernel_rfl) ?_
    simp only [List.replicate]
    refine GoF.take [0, 1, 2, 3, 4, 5] [.p, .p, .p, .p, .b 1, .b 0] (ks := [8, 12, 35, 39, 40]) (fu := 5) (li := [true, true, true, true, true, true, false, false, false, false, false]) (env' := [(8, vP b_8), (12, vP b_10), (35, vP b_2), (39, .slice A_3 g_1.entries.length c_4), (40, .agg ⟨[vU term_5, vU (wu64 (r_9.1 + 1)), vI kind_6, .string (bs data_7)]⟩)]) (ps := [b_2 = b_2, b_10 = b_10]) (hk := [0, 2]) (bk := []) (by kernel_rfl) (And.intro rfl (And.intro rfl trivial)) rfl rfl ?_
    refine OpTo.goF (i := 6) (by kernel_rfl) (hk := [0, 2]) (bk := []) (GoO.lit (e := 40) (K := kT_api_Entry) rfl (by kernel_rfl) (by kernel_rfl) (cs := [vU term_5, vU (wu64 (r_9.1 + 1)), vI kind_6, .string (bs data_7)]) (by kernel_rfl) [(⟨term_5, wu64 (r_9.1 + 1), kind_6, data_7⟩ : T_api_Entry)] (by kernel_rfl) (by kernel_rfl) (fun w S hB => ⟨[vU term_5, vU (wu64 (r_9.1 + 1)), vI kind_6, .string (bs data_7)], _, rfl, rfl, rfl⟩) 42 _ (fun _ _ => rfl) (fun A_13 c_14 => ⟨rfl, rfl, ?_⟩))
    refine GoF.guard (fun h15 => ?_)
    refine OpTo.goF (i := 7) (by kernel_rfl) (hk := [0, 2]) (bk := []) (GoO.appW (e := 40) (K := kT_api_Entry) (A := A_3) (c := c_4) (tg := 2) (bytes := 40) (zs := [vU 0, vU 0, vI 0, .string (bs [])]) (xs := g_1.entries) (ys := [(⟨term_5, wu64 (r_9.1 + 1), kind_6, data_7⟩ : T_api_Entry)]) (xv := .slice A_13 [(⟨term_5, wu64 (r_9.1 + 1), kind_6, data_7⟩ : T_api_Entry)].length c_14) (j := 1) (bk := [0]) rfl (by kernel_rfl) (by kernel_rfl) (by kernel_rfl) (by kernel_rfl) rfl (by kernel_rfl) rfl (fun w S hB => SrcIs.row (Reads.own w S (hB _ (List.mem_of_getElem? (i := 0) rfl)))) h15 rfl rfl rfl rfl _ (fun _ _ => rfl) (fun A_16 c_17 => ⟨rfl, rfl, ?_⟩))
    refine GoF.fin1 (i := 8) (hint := .p) (ps := []) (hk := []) (bk := []) (by kernel_rfl) rfl trivial (.inl rfl) ?_
    refine GoF.fin1 (i := 9) (hint := .p) (ps := []) (hk := []) (bk := []) (by kernel_rfl) rfl trivial (.inl rfl) ?_
    refine GoF.fin1 (i := 10) (hint := .b 2) (ps := [b_2 = b_2]) (hk := []) (bk := []) (by kernel_rfl) rfl (And.intro rfl trivial) (.inl rfl) ?_
    refine GoF.done (by kernel_rfl) ?_
    refine GoO.seq' c21_16e ?_
    refine GoO.region' (is := [0, 1, 2]) c21_17e (by kernel_rfl) ?_
    refine GoO.exec (is := [0, 1, 2]) (hs := [.b 0, .b 1, .p]) (rest := []) (ks := [8, 9]) (env' := [(8, vP b_8), (9, vI 0)]) (H' := [⟨41, b_10, [vU term_5, vU (wu64 (r_9.1 + 1)), vI kind_6, .string (bs data_7)]⟩, ⟨40, b_8, [vU term_5, vU (wu64 (r_9.1 + 1)), vI kind_6, .string (bs data_7)]⟩, ⟨1, b_2, [vU g_1.snap.Index, vU g_1.snap.Term, vU g_1.snap.Config, .string (bs g_1.snap.Data), .slice A_16 (g_1.entries ++ [(⟨term_5, wu64 (r_9.1 + 1), kind_6, data_7⟩ : T_api_Entry)]).length c_17]⟩]) (ps := [b_10 = b_10, b_8 = b_8]) (by kernel_rfl) (And.intro rfl (And.intro rfl trivial)) ?_
    refine GoO.regionEnd ?_
    exact GoO.ret' (h := c21_18e) (hs := [1]) (ps := [b_8 = b_8]) (hk := [2]) (bk := [0]) Try.func21 (⟨A_16, c_17⟩ : Option Addr × Nat) (by kernel_rfl) (And.intro rfl trivial) (by kernel_rfl) (by kernel_rfl)
/-! (*tontine/tontineref07.Log).Last -/
noncomputable def c63_0 : Code := bodyOf Try.f63
noncomputable def c63_1 : Code := cdL c63_0
noncomputable def c63_2 : Code := cdR c63_0
noncomputable def c63_3 : Code := cdL c63_2
noncomputable def c63_4 : Code := cdL c63_3
noncomputable def c63_5 : Code := cdR c63_3
noncomputable def c63_6 : Code := cdL c63_5
noncomputable def c63_7 : Code := cdL c63_6
noncomputable def c63_8 : Code := cdR c63_6
noncomputable def c63_9 : Code := cdR c63_5
noncomputable def c63_10 : Code := cdR c63_2
noncomputable def c63_11 : Code := cdL c63_10
noncomputable def c63_12 : Code := cdR c63_10
noncomputable def r63_1 : Array Oper := cdO c63_1
noncomputable def r63_4 : Array Oper := cdO c63_4
noncomputable def r63_7 : Array Oper := cdO c63_7
noncomputable def r63_11 : Array Oper := cdO c63_11
theorem c63_0e : c63_0 = .seq c63_1 c63_2 := by kernel_rfl
theorem c63_1e : c63_1 = .region 0 r63_1 false := by kernel_rfl
theorem c63_2e : c63_2 = .seq c63_3 c63_10 := by kernel_rfl
theorem c63_3e : c63_3 = .seq c63_4 c63_5 := by kernel_rfl
theorem c63_4e : c63_4 = .region 1 r63_4 false := by kernel_rfl
theorem c63_5e : c63_5 = .cond (cdC c63_5) c63_6 c63_9 := by kernel_rfl
theorem c63_6e : c63_6 = .seq c63_7 c63_8 := by kernel_rfl
theorem c63_7e : c63_7 = .region 2 r63_7 true := by kernel_rfl
theorem c63_8e : c63_8 = .ret := by kernel_rfl
theorem c63_9e : c63_9 = .skip := by kernel_rfl
theorem c63_10e : c63_10 = .seq c63_11 c63_12 := by kernel_rfl
theorem c63_11e : c63_11 = .region 3 r63_11 true := by kernel_rfl
theorem c63_12e : c63_12 = .ret := by kernel_rfl
noncomputable def tontineref07_Log_Last.R (b_2 : Nat) (A_3 : Option Addr) (c_4 : Nat) : Pst (Int × Int) where
  ε := Unit
  v := fun r x => .tuple ⟨[vU r.1, vU r.2]⟩
  H := fun r x => []
  B := fun r x => []
noncomputable def tontineref07_Log_Last.cx (b_2 : Nat) (A_3 : Option Addr) (c_4 : Nat) (w0 : World) (S0 : Fam) : Cx (Int × Int) := ⟨Try.prog, 63, Try.f63, 46, w0, S0, [], 2, tontineref07_Log_Last.R b_2 A_3 c_4⟩
theorem tontineref07_Log_Last_ok (n : Nat) (g_1 : T_tontineref07_Log) (b_2 : Nat) (A_3 : Option Addr) (c_4 : Nat) :
    Meets Try.prog 63 [vP b_2] 2 [] [⟨1, b_2, [vU g_1.Snap.Index, vU g_1.Snap.Term, vU g_1.Snap.Config, .string (bs g_1.Snap.Data), .slice A_3 g_1.L.length c_4]⟩] [Ow 2 kT_api_Entry A_3 c_4 g_1.L] (tontineref07_Log_Last.f n g_1) (tontineref07_Log_Last.R b_2 A_3 c_4) := by
  refine Meets.of (c := c63_0) (n := 46) Try.func63 (by kernel_rfl) (by kernel_rfl) (by kernel_rfl) fun w0 S0 => ?_
  unfold tontineref07_Log_Last.f
  show GoO (tontineref07_Log_Last.cx b_2 A_3 c_4 w0 S0) [(0, vP b_2)] [⟨1, b_2, [vU g_1.Snap.Index, vU g_1.Snap.Term, vU g_1.Snap.Config, .string (bs g_1.Snap.Data), .slice A_3 g_1.L.length c_4]⟩] [Ow 2 kT_api_Entry A_3 c_4 g_1.L] [.code c63_0] _
  refine GoO.seq' c63_0e ?_
  refine GoO.region' (is := [0, 1]) c63_1e (by kernel_rfl) ?_
  refine GoO.exec (is := [0, 1]) (hs := [.p, .p]) (rest := []) (ks := [0]) (env' := [(0, vP b_2)]) (H' := [⟨1, b_2, [vU g_1.Snap.Index, vU g_1.Snap.Term, vU g_1.Snap.Config, .string (bs g_1.Snap.Data), .slice A_3 g_1.L.length c_4]⟩]) (ps := []) (by kernel_rfl) trivial ?_
  refine GoO.regionEnd ?_
  refine GoO.seq' c63_2e ?_
  refine GoO.seq' c63_3e ?_
  refine GoO.region' (is := [0, 1, 2, 3, 4, 5]) c63_4e (by kernel_rfl) ?_
  refine GoO.exec (is := [0, 1, 2, 3, 4, 5]) (hs := [.p, .p, .p, .b 0, .p, .p]) (rest := []) (ks := [0, 9]) (env' := [(0, vP b_2), (9, .bool ((g_1.L.length : Int) == 0))]) (H' := [⟨1, b_2, [vU g_1.Snap.Index, vU g_1.Snap.Term, vU g_1.Snap.Config, .string (bs g_1.Snap.Data), .slice A_3 g_1.L.length c_4]⟩]) (ps := [b_2 = b_2]) (by kernel_rfl) (And.intro rfl trivial) ?_
  refine GoO.regionEnd ?_
  refine GoO.ite' c63_5e (by kernel_rfl) (fun h5 => ?_) (fun h5 => ?_)
  · refine GoO.seq' c63_6e ?_
    refine GoO.draw c63_7e (by kernel_rfl) [11] [⟨1, b_2, [vU g_1.Snap.Index, vU g_1.Snap.Term, vU g_1.Snap.Config, .string (bs g_1.Snap.Data), .slice A_3 g_1.L.length c_4]⟩] [] (n := 12) (by kernel_rfl) ?_
    simp only [List.replicate]
    refine GoF.take [0, 1, 2, 3, 4, 5, 6, 7, 8, 9, 10] [.p, .p, .p, .p, .b 0, .p, .p, .p, .p, .b 0, .p] (ks := [2, 19]) (fu := 1) (li := [true, true, true, true, true, true, true, true, true, true, true, false]) (env' := [(2, vU g_1.Snap.Index), (19, vU g_1.Snap.Term)]) (ps := [b_2 = b_2, b_2 = b_2]) (hk := [0]) (bk := []) (by kernel_rfl) (And.intro rfl (And.intro rfl trivial)) rfl rfl ?_
    refine GoF.fin1 (i := 11) (hint := .p) (ps := []) (hk := []) (bk := []) (by kernel_rfl) rfl trivial (.inl rfl) ?_
    refine GoF.done (by kernel_rfl) ?_
    exact GoO.ret' (h := c63_8e) (hs := []) (ps := []) (hk := []) (bk := []) Try.func63 () (by kernel_rfl) trivial (by kernel_rfl) (by kernel_rfl)
  · refine GoO.skip' c63_9e ?_
    refine GoO.seq' c63_10e ?_
    refine GoO.draw c63_11e (by kernel_rfl) [27] [⟨1, b_2, [vU g_1.Snap.Index, vU g_1.Snap.Term, vU g_1.Snap.Config, .string (bs g_1.Snap.Data), .slice A_3 g_1.L.length c_4]⟩] [Ow 2 kT_api_Entry A_3 c_4 g_1.L] (n := 28) (by kernel_rfl) ?_
    simp only [List.replicate]
    refine GoF.take [0, 1, 2, 3, 4, 5, 6, 7, 8, 9, 13, 14, 15, 16, 17, 18, 19, 20, 21, 22] [.p, .p, .p, .b 0, .p, .p, .p, .b 0, .p, .p, .p, .p, .p, .b 0, .p, .p, .p, .b 0, .p, .p] (ks := [23, 29, 36, 42]) (fu := 8) (li := [true, true, true, true, true, true, true, true, true, true, false, false, false, true, true, true, true, true, true, true, true, true, true, false, false, false, false, false]) (env' := [(23, .slice A_3 g_1.L.length c_4), (29, vI (wi64 ((g_1.L.length : Int) - 1))), (36, .slice A_3 g_1.L.length c_4), (42, vI (wi64 ((g_1.L.length : Int) - 1)))]) (ps := [b_2 = b_2, b_2 = b_2, b_2 = b_2, b_2 = b_2]) (hk := [0]) (bk := [0]) (by kernel_rfl) (And.intro rfl (And.intro rfl (And.intro rfl (And.intro rfl trivial)))) rfl rfl ?_
    refine GoF.guard (fun h6 => ?_)
    refine GoF.idx (i := 10) (hk := [0]) (bk := [0]) (kk := .i64) (e := 40) (K := kT_api_Entry) (A := A_3) (c := c_4) (xs := g_1.L) (iv := wi64 ((g_1.L.length : Int) - 1)) (j := 0) (by kernel_rfl) rfl rfl rfl (by kernel_rfl) (by kernel_rfl) (by kernel_rfl) (by kernel_rfl) rfl Reads.own rfl h6.1 h6.2 (by decide) rfl ?_
    refine GoF.fldE (i := 11) (hk := [0]) (bk := [0]) (K := kT_api_Entry) (A := A_3) (c := c_4) (xs := g_1.L) (iN := (wi64 ((g_1.L.length : Int) - 1)).toNat) (off := 0) (n := 1) (j := 0) (by kernel_rfl) rfl rfl rfl (by kernel_rfl) (by kernel_rfl) rfl Reads.own (by first | exact idx_lt h6.1 h6.2 | (simp only [List.length_set]; exact idx_lt h6.1 h6.2)) (by decide) rfl ?_
    refine GoF.ldE (i := 12) (hk := [0]) (bk := [0]) (K := kT_api_Entry) (A := A_3) (c := c_4) (xs := g_1.L) (iN := (wi64 ((g_1.L.length : Int) - 1)).toNat) (off := 1) (j := 0) (v := vU ((rdL g_1.L (wi64 ((g_1.L.length : Int) - 1))).Index)) (by kernel_rfl) rfl rfl rfl (hK := rfl) (by kernel_rfl) rfl Reads.own (by first | exact idx_lt h6.1 h6.2 | (simp only [List.length_set]; exact idx_lt h6.1 h6.2)) (by decide) (by kernel_rfl) rfl ?_
    refine GoF.take [26] [.p] (ks := [2, 36, 42]) (fu := 4) (li := [true, true, true, true, true, true, true, true, true, true, true, true, true, true, true, true, true, true, true, true, true, true, true, false, false, false, true, false]) (env' := [(2, vU ((rdL g_1.L (wi64 ((g_1.L.length : Int) - 1))).Index)), (36, .slice A_3 g_1.L.length c_4), (42, vI (wi64 ((g_1.L.length : Int) - 1)))]) (ps := []) (hk := [0]) (bk := [0]) (by kernel_rfl) trivial rfl rfl ?_
    refine GoF.guard (fun h7 => ?_)
    refine GoF.idx (i := 23) (hk := [0]) (bk := [0]) (kk := .i64) (e := 40) (K := kT_api_Entry) (A := A_3) (c := c_4) (xs := g_1.L) (iv := wi64 ((g_1.L.length : Int) - 1)) (j := 0) (by kernel_rfl) rfl rfl rfl (by kernel_rfl) (by kernel_rfl) (by kernel_rfl) (by kernel_rfl) rfl Reads.own rfl h7.1 h7.2 (by decide) rfl ?_
    refine GoF.fldE (i := 24) (hk := [0]) (bk := [0]) (K := kT_api_Entry) (A := A_3) (c := c_4) (xs := g_1.L) (iN := (wi64 ((g_1.L.length : Int) - 1)).toNat) (off := 0) (n := 0) (j := 0) (by kernel_rfl) rfl rfl rfl (by kernel_rfl) (by kernel_rfl) rfl Reads.own (by first | exact idx_lt h7.1 h7.2 | (simp only [List.length_set]; exact idx_lt h7.1 h7.2)) (by decide) rfl ?_
    refine GoF.ldE (i := 25) (hk := [0]) (bk := [0]) (K := kT_api_Entry) (A := A_3) (c := c_4) (xs := g_1.L) (iN := (wi64 ((g_1.L.length : Int) - 1)).toNat) (off := 0) (j := 0) (v := vU ((rdL g_1.L (wi64 ((g_1.L.length : Int) - 1))).Term)) (by kernel_rfl) rfl rfl rfl (hK := rfl) (by kernel_rfl) rfl Reads.own (by first | exact idx_lt h7.1 h7.2 | (simp only [List.length_set]; exact idx_lt h7.1 h7.2)) (by decide) (by kernel_rfl) rfl ?_
    refine GoF.fin1 (i := 27) (hint := .p) (ps := []) (hk := []) (bk := []) (by kernel_rfl) rfl trivial (.inl rfl) ?_
    refine GoF.done (by kernel_rfl) ?_
    exact GoO.ret' (h := c63_12e) (hs := []) (ps := []) (hk := []) (bk := []) Try.func63 () (by kernel_rfl) trivial (by kernel_rfl) (by kernel_rfl)
/-! (*tontine/tontineref07.Log).Add -/
noncomputable def c58_0 : Code := bodyOf Try.f58
noncomputable def c58_1 : Code := cdL c58_0
noncomputable def c58_2 : Code := cdR c58_0
noncomputable def c58_3 : Code := cdL c58_2
noncomputable def c58_4 : Code := cdR c58_2
noncomputable def c58_5 : Code := cdL c58_4
noncomputable def c58_6 : Code := cdR c58_4
noncomputable def c58_7 : Code := cdL c58_6
noncomputable def c58_8 : Code := cdL c58_7
noncomputable def c58_9 : Code := cdR c58_7
noncomputable def c58_10 : Code := cdL c58_9
noncomputable def c58_11 : Code := cdL c58_10
noncomputable def c58_12 : Code := cdR c58_10
noncomputable def c58_13 : Code := cdR c58_9
noncomputable def c58_14 : Code := cdR c58_6
noncomputable def c58_15 : Code := cdL c58_14
noncomputable def c58_16 : Code := cdR c58_14
noncomputable def c58_17 : Code := cdL c58_16
noncomputable def c58_18 : Code := cdR c58_16
noncomputable def r58_1 : Array Oper := cdO c58_1
noncomputable def r58_3 : Array Oper := cdO c58_3
noncomputable def r58_5 : Array Oper := cdO c58_5
noncomputable def r58_8 : Array Oper := cdO c58_8
noncomputable def r58_11 : Array Oper := cdO c58_11
noncomputable def r58_15 : Array Oper := cdO c58_15
noncomputable def r58_17 : Array Oper := cdO c58_17
theorem c58_0e : c58_0 = .seq c58_1 c58_2 := by kernel_rfl
theorem c58_1e : c58_1 = .region 0 r58_1 false := by kernel_rfl
theorem c58_2e : c58_2 = .seq c58_3 c58_4 := by kernel_rfl
theorem c58_3e : c58_3 = .region 1 r58_3 false := by kernel_rfl
theorem c58_4e : c58_4 = .seq c58_5 c58_6 := by kernel_rfl
theorem c58_5e : c58_5 = .region 2 r58_5 false := by kernel_rfl
theorem c58_6e : c58_6 = .seq c58_7 c58_14 := by kernel_rfl
theorem c58_7e : c58_7 = .seq c58_8 c58_9 := by kernel_rfl
theorem c58_8e : c58_8 = .region 3 r58_8 false := by kernel_rfl
theorem c58_9e : c58_9 = .cond (cdC c58_9) c58_10 c58_13 := by kernel_rfl
theorem c58_10e : c58_10 = .seq c58_11 c58_12 := by kernel_rfl
theorem c58_11e : c58_11 = .region 4 r58_11 false := by kernel_rfl
theorem c58_12e : c58_12 = .ret := by kernel_rfl
theorem c58_13e : c58_13 = .skip := by kernel_rfl
theorem c58_14e : c58_14 = .seq c58_15 c58_16 := by kernel_rfl
theorem c58_15e : c58_15 = .region 5 r58_15 true := by kernel_rfl
theorem c58_16e : c58_16 = .seq c58_17 c58_18 := by kernel_rfl
theorem c58_17e : c58_17 = .region 6 r58_17 false := by kernel_rfl
theorem c58_18e : c58_18 = .ret := by kernel_rfl
noncomputable def tontineref07_Log_Add.R (b_2 : Nat) (A_3 : Option Addr) (c_4 : Nat) : Pst (T_api_Entry × Int × T_tontineref07_Log) where
  ε := Option Addr × Nat
  v := fun r x => .tuple ⟨[.agg ⟨[vU r.1.Term, vU r.1.Index, vI r.1.Kind, .string (bs r.1.Data)]⟩, vI r.2.1]⟩
  H := fun r x => [⟨1, b_2, [vU r.2.2.Snap.Index, vU r.2.2.Snap.Term, vU r.2.2.Snap.Config, .string (bs r.2.2.Snap.Data), .slice x.1 r.2.2.L.length x.2]⟩]
  B := fun r x => [Ow 2 kT_api_Entry x.1 x.2 r.2.2.L]
noncomputable def tontineref07_Log_Add.cx (b_2 : Nat) (A_3 : Option Addr) (c_4 : Nat) (w0 : World) (S0 : Fam) : Cx (T_api_Entry × Int × T_tontineref07_Log) := ⟨Try.prog, 58, Try.f58, 42, w0, S0, [1, 2], 2, tontineref07_Log_Add.R b_2 A_3 c_4⟩
theorem tontineref07_Log_Add_ok (n : Nat) (g_1 : T_tontineref07_Log) (term_5 : Int) (kind_6 : Int) (data_7 : (List UInt8)) (b_2 : Nat) (A_3 : Option Addr) (c_4 : Nat) :
    Meets Try.prog 58 [vP b_2, vU term_5, vI kind_6, .string (bs data_7)] 2 [1, 2] [⟨1, b_2, [vU g_1.Snap.Index, vU g_1.Snap.Term, vU g_1.Snap.Config, .string (bs g_1.Snap.Data), .slice A_3 g_1.L.length c_4]⟩] [Ow 2 kT_api_Entry A_3 c_4 g_1.L] (tontineref07_Log_Add.f n g_1 term_5 kind_6 data_7) (tontineref07_Log_Add.R b_2 A_3 c_4) := by
  refine Meets.of (c := c58_0) (n := 42) Try.func58 (by kernel_rfl) (by kernel_rfl) (by kernel_rfl) fun w0 S0 => ?_
  unfold tontineref07_Log_Add.f
  show GoO (tontineref07_Log_Add.cx b_2 A_3 c_4 w0 S0) [(0, vP b_2), (1, vU term_5), (2, vI kind_6), (3, .string (bs data_7))] [⟨1, b_2, [vU g_1.Snap.Index, vU g_1.Snap.Term, vU g_1.Snap.Config, .string (bs g_1.Snap.Data), .slice A_3 g_1.L.length c_4]⟩] [Ow 2 kT_api_Entry A_3 c_4 g_1.L] [.code c58_0] _
  refine GoO.seq' c58_0e ?_
  refine GoO.region' (is := [0, 1]) c58_1e (by kernel_rfl) ?_
  refine OpTo.go (GoO.new rfl 40 (cs := [vU 0, vU 0, vI 0, .string (bs [])]) (by kernel_rfl) _ (fun _ => rfl) (fun b_8 => ?_))
  refine GoO.exec (is := [1]) (hs := [.p]) (rest := []) (ks := [0, 1, 2, 3, 8]) (env' := [(0, vP b_2), (1, vU term_5), (2, vI kind_6), (3, .string (bs data_7)), (8, vP b_8)]) (H' := [⟨40, b_8, [vU 0, vU 0, vI 0, .string (bs [])]⟩, ⟨1, b_2, [vU g_1.Snap.Index, vU g_1.Snap.Term, vU g_1.Snap.Config, .string (bs g_1.Snap.Data), .slice A_3 g_1.L.length c_4]⟩]) (ps := []) (by kernel_rfl) trivial ?_
  refine GoO.regionEnd ?_
  refine GoO.seq' c58_2e ?_
  refine GoO.region' (is := [0, 1, 2, 3, 4, 5, 6]) c58_3e (by kernel_rfl) ?_
  refine GoO.exec (is := [0]) (hs := [.p]) (rest := [1, 2, 3, 4, 5, 6]) (ks := [0, 1, 2, 3, 8, 14]) (env' := [(0, vP b_2), (1, vU term_5), (2, vI kind_6), (3, .string (bs data_7)), (8, vP b_8), (14, vP b_2)]) (H' := [⟨40, b_8, [vU 0, vU 0, vI 0, .string (bs [])]⟩, ⟨1, b_2, [vU g_1.Snap.Index, vU g_1.Snap.Term, vU g_1.Snap.Config, .string (bs g_1.Snap.Data), .slice A_3 g_1.L.length c_4]⟩]) (ps := []) (by kernel_rfl) trivial ?_
  refine OpTo.go (GoO.call rfl (by kernel_rfl) (by kernel_rfl) (tontineref07_Log_Last_ok n (⟨(⟨g_1.Snap.Index, g_1.Snap.Term, g_1.Snap.Config, g_1.Snap.Data⟩ : T_api_Snapshot), g_1.L⟩ : T_tontineref07_Log) b_2 A_3 c_4) [[0], [1], [2]] [] [(1, 1)] [(2, 0)] (hks := [0, 1]) (bks := [0]) (by kernel_rfl) (by kernel_rfl) (by kernel_rfl) (.inl rfl) rfl rfl (by kernel_rfl) (by kernel_rfl) _ (fun _ _ => rfl) _ _ (fun _ _ => rfl) (fun _ _ => rfl) (fun _ _ => by kernel_rfl) (fun _ _ => by kernel_rfl) (fun r_9 x_19 => ?_))
  refine GoO.shape (env' := [(0, vP b_2), (1, vU term_5), (2, vI kind_6), (3, .string (bs data_7)), (8, vP b_8), (14, vP b_2), (15, .tuple ⟨[vU r_9.1, vU r_9.2]⟩)]) (H' := [⟨40, b_8, [vU 0, vU 0, vI 0, .string (bs [])]⟩, ⟨1, b_2, [vU g_1.Snap.Index, vU g_1.Snap.Term, vU g_1.Snap.Config, .string (bs g_1.Snap.Data), .slice A_3 g_1.L.length c_4]⟩]) (B' := [Ow 2 kT_api_Entry A_3 c_4 g_1.L]) (ks := [0, 1, 2, 3, 8, 14, 15]) (by kernel_rfl) (by kernel_rfl) (by kernel_rfl) ?_
  refine GoO.exec (is := [2, 3, 4, 5, 6]) (hs := [.p, .p, .p, .p, .p]) (rest := []) (ks := [0, 1, 2, 3, 8, 10, 11]) (env' := [(0, vP b_2), (1, vU term_5), (2, vI kind_6), (3, .string (bs data_7)), (8, vP b_8), (10, vU r_9.1), (11, vU r_9.2)]) (H' := [⟨40, b_8, [vU 0, vU 0, vI 0, .string (bs [])]⟩, ⟨1, b_2, [vU g_1.Snap.Index, vU g_1.Snap.Term, vU g_1.Snap.Config, .string (bs g_1.Snap.Data), .slice A_3 g_1.L.length c_4]⟩]) (ps := []) (by kernel_rfl) trivial ?_
  refine GoO.regionEnd ?_
  refine GoO.seq' c58_4e ?_
  refine GoO.region' (is := [0, 1, 2, 3, 4, 5, 6, 7]) c58_5e (by kernel_rfl) ?_
  refine GoO.exec (is := [0, 1, 2, 3, 4, 5]) (hs := [.p, .p, .p, .p, .p, .p]) (rest := [6, 7]) (ks := [0, 8, 10, 11, 23]) (env' := [(0, vP b_2), (8, vP b_8), (10, vU r_9.1), (11, vU r_9.2), (23, .agg ⟨[vU term_5, vU (wu64 (r_9.1 + 1)), vI kind_6, .string (bs data_7)]⟩)]) (H' := [⟨40, b_8, [vU 0, vU 0, vI 0, .string (bs [])]⟩, ⟨1, b_2, [vU g_1.Snap.Index, vU g_1.Snap.Term, vU g_1.Snap.Config, .string (bs g_1.Snap.Data), .slice A_3 g_1.L.length c_4]⟩]) (ps := []) (by kernel_rfl) trivial ?_
  refine OpTo.go (GoO.new rfl 41 (cs := [vU 0, vU 0, vI 0, .string (bs [])]) (by kernel_rfl) _ (fun _ => rfl) (fun b_10 => ?_))
  refine GoO.exec (is := [7]) (hs := [.b 0]) (rest := []) (ks := [0, 8, 10, 11, 12]) (env' := [(0, vP b_2), (8, vP b_8), (10, vU r_9.1), (11, vU r_9.2), (12, vP b_10)]) (H' := [⟨41, b_10, [vU term_5, vU (wu64 (r_9.1 + 1)), vI kind_6, .string (bs data_7)]⟩, ⟨40, b_8, [vU 0, vU 0, vI 0, .string (bs [])]⟩, ⟨1, b_2, [vU g_1.Snap.Index, vU g_1.Snap.Term, vU g_1.Snap.Config, .string (bs g_1.Snap.Data), .slice A_3 g_1.L.length c_4]⟩]) (ps := [b_10 = b_10]) (by kernel_rfl) (And.intro rfl trivial) ?_
  refine GoO.regionEnd ?_
  refine GoO.seq' c58_6e ?_
  refine GoO.seq' c58_7e ?_
  refine GoO.region' (is := [0, 1, 2, 3, 4, 5]) c58_8e (by kernel_rfl) ?_
  refine GoO.exec (is := [0, 1, 2, 3]) (hs := [.b 0, .p, .p, .p]) (rest := [4, 5]) (ks := [0, 8, 12, 24, 26, 27]) (env' := [(0, vP b_2), (8, vP b_8), (12, vP b_10), (24, .agg ⟨[vU term_5, vU (wu64 (r_9.1 + 1)), vI kind_6, .string (bs data_7)]⟩), (26, vU (wu64 (r_9.1 + 1))), (27, vU r_9.2)]) (H' := [⟨41, b_10, [vU term_5, vU (wu64 (r_9.1 + 1)), vI kind_6, .string (bs data_7)]⟩, ⟨40, b_8, [vU 0, vU 0, vI 0, .string (bs [])]⟩, ⟨1, b_2, [vU g_1.Snap.Index, vU g_1.Snap.Term, vU g_1.Snap.Config, .string (bs g_1.Snap.Data), .slice A_3 g_1.L.length c_4]⟩]) (ps := [b_10 = b_10]) (by kernel_rfl) (And.intro rfl trivial) ?_
  refine OpTo.go (GoO.call rfl (by kernel_rfl) (by kernel_rfl) (tontineref07_May_ok n (⟨term_5, wu64 (r_9.1 + 1), kind_6, data_7⟩ : T_api_Entry) (wu64 (r_9.1 + 1)) r_9.2) [[0]] [] [] [] (hks := [0, 1, 2]) (bks := [0]) (by kernel_rfl) (by kernel_rfl) (by kernel_rfl) (.inl rfl) rfl rfl (by kernel_rfl) (by kernel_rfl) _ (fun _ _ => rfl) _ _ (fun _ _ => rfl) (fun _ _ => rfl) (fun _ _ => by kernel_rfl) (fun _ _ => by kernel_rfl) (fun r_11 x_18 => ?_))
  refine GoO.shape (env' := [(0, vP b_2), (8, vP b_8), (12, vP b_10), (24, .agg ⟨[vU term_5, vU (wu64 (r_9.1 + 1)), vI kind_6, .string (bs data_7)]⟩), (26, vU (wu64 (r_9.1 + 1))), (27, vU r_9.2), (28, .bool r_11)]) (H' := [⟨41, b_10, [vU term_5, vU (wu64 (r_9.1 + 1)), vI kind_6, .string (bs data_7)]⟩, ⟨40, b_8, [vU 0, vU 0, vI 0, .string (bs [])]⟩, ⟨1, b_2, [vU g_1.Snap.Index, vU g_1.Snap.Term, vU g_1.Snap.Config, .string (bs g_1.Snap.Data), .slice A_3 g_1.L.length c_4]⟩]) (B' := [Ow 2 kT_api_Entry A_3 c_4 g_1.L]) (ks := [0, 8, 12, 24, 26, 27, 28]) (by kernel_rfl) (by kernel_rfl) (by kernel_rfl) ?_
  refine GoO.exec (is := [5]) (hs := [.p]) (rest := []) (ks := [0, 8, 12, 29]) (env' := [(0, vP b_2), (8, vP b_8), (12, vP b_10), (29, .bool (!r_11))]) (H' := [⟨41, b_10, [vU term_5, vU (wu64 (r_9.1 + 1)), vI kind_6, .string (bs data_7)]⟩, ⟨40, b_8, [vU 0, vU 0, vI 0, .string (bs [])]⟩, ⟨1, b_2, [vU g_1.Snap.Index, vU g_1.Snap.Term, vU g_1.Snap.Config, .string (bs g_1.Snap.Data), .slice A_3 g_1.L.length c_4]⟩]) (ps := []) (by kernel_rfl) trivial ?_
  refine GoO.regionEnd ?_
  refine GoO.ite' c58_9e (by kernel_rfl) (fun h12 => ?_) (fun h12 => ?_)
  · refine GoO.seq' c58_10e ?_
    refine GoO.region' (is := [0, 1, 2]) c58_11e (by kernel_rfl) ?_
    refine GoO.exec (is := [0, 1, 2]) (hs := [.p, .b 1, .p]) (rest := []) (ks := [8, 9]) (env' := [(8, vP b_8), (9, vI 1)]) (H' := [⟨41, b_10, [vU term_5, vU (wu64 (r_9.1 + 1)), vI kind_6, .string (bs data_7)]⟩, ⟨40, b_8, [vU 0, vU 0, vI 0, .string (bs [])]⟩, ⟨1, b_2, [vU g_1.Snap.Index, vU g_1.Snap.Term, vU g_1.Snap.Config, .string (bs g_1.Snap.Data), .slice A_3 g_1.L.length c_4]⟩]) (ps := [b_8 = b_8]) (by kernel_rfl) (And.intro rfl trivial) ?_
    refine GoO.regionEnd ?_
    exact GoO.ret' (h := c58_12e) (hs := [1]) (ps := [b_8 = b_8]) (hk := [2]) (bk := [0]) Try.func58 (⟨A_3, c_4⟩ : Option Addr × Nat) (by kernel_rfl) (And.intro rfl trivial) (by kernel_rfl) (by kernel_rfl)
  · refine GoO.skip' c58_13e ?_
    refine GoO.seq' c58_14e ?_
    refine GoO.draw c58_15e (by kernel_rfl) [8, 9, 10] [⟨41, b_10, [vU term_5, vU (wu64 (r_9.1 + 1)), vI kind_6, .string (bs data_7)]⟩, ⟨1, b_2, [vU g_1.Snap.Index, vU g_1.Snap.Term, vU g_1.Snap.Config, .string (bs g_1.Snap.Data), .slice A_3 g_1.L.length c_4]⟩] [] (n := 11) (by kernel_rfl) ?_
    simp only [List.replicate]
    refine GoF.take [0, 1, 2, 3, 4, 5] [.p, .p, .p, .p, .b 1, .b 0] (ks := [8, 12, 31, 35, 36]) (fu := 5) (li := [true, true, true, true, true, true, false, false, false, false, false]) (env' := [(8, vP b_8), (12, vP b_10), (31, vP b_2), (35, .slice A_3 g_1.L.length c_4), (36, .agg ⟨[vU term_5, vU (wu64 (r_9.1 + 1)), vI kind_6, .string (bs data_7)]⟩)]) (ps := [b_2 = b_2, b_10 = b_10]) (hk := [0, 2]) (bk := []) (by kernel_rfl) (And.intro rfl (And.intro rfl trivial)) rfl rfl ?_
    refine OpTo.goF (i := 6) (by kernel_rfl) (hk := [0, 2]) (bk := []) (GoO.lit (e := 40) (K := kT_api_Entry) rfl (by kernel_rfl) (by kernel_rfl) (cs := [vU term_5, vU (wu64 (r_9.1 + 1)), vI kind_6, .string (bs data_7)]) (by kernel_rfl) [(⟨term_5, wu64 (r_9.1 + 1), kind_6, data_7⟩ : T_api_Entry)] (by kernel_rfl) (by kernel_rfl) (fun w S hB => ⟨[vU term_5, vU (wu64 (r_9.1 + 1)), vI kind_6, .string (bs data_7)], _, rfl, rfl, rfl⟩) 42 _ (fun _ _ => rfl) (fun A_13 c_14 => ⟨rfl, rfl, ?_⟩))
    refine GoF.guard (fun h15 => ?_)
    refine OpTo.goF (i := 7) (by kernel_rfl) (hk := [0, 2]) (bk := []) (GoO.appW (e := 40) (K := kT_api_Entry) (A := A_3) (c := c_4) (tg := 2) (bytes := 40) (zs := [vU 0, vU 0, vI 0, .string (bs [])]) (xs := g_1.L) (ys := [(⟨term_5, wu64 (r_9.1 + 1), kind_6, data_7⟩ : T_api_Entry)]) (xv := .slice A_13 [(⟨term_5, wu64 (r_9.1 + 1), kind_6, data_7⟩ : T_api_Entry)].length c_14) (j := 1) (bk := [0]) rfl (by kernel_rfl) (by kernel_rfl) (by kernel_rfl) (by kernel_rfl) rfl (by kernel_rfl) rfl (fun w S hB => SrcIs.row (Reads.own w S (hB _ (List.mem_of_getElem? (i := 0) rfl)))) h15 rfl rfl rfl rfl _ (fun _ _ => rfl) (fun A_16 c_17 => ⟨rfl, rfl, ?_⟩))
    refine GoF.fin1 (i := 8) (hint := .p) (ps := []) (hk := []) (bk := []) (by kernel_rfl) rfl trivial (.inl rfl) ?_
    refine GoF.fin1 (i := 9) (hint := .p) (ps := []) (hk := []) (bk := []) (by kernel_rfl) rfl trivial (.inl rfl) ?_
    refine GoF.fin1 (i := 10) (hint := .b 2) (ps := [b_2 = b_2]) (hk := []) (bk := []) (by kernel_rfl) rfl (And.intro rfl trivial) (.inl rfl) ?_
    refine GoF.done (by kernel_rfl) ?_
    refine GoO.seq' c58_16e ?_
    refine GoO.region' (is := [0, 1, 2]) c58_17e (by kernel_rfl) ?_
    refine GoO.exec (is := [0, 1, 2]) (hs := [.b 0, .b 1, .p]) (rest := []) (ks := [8, 9]) (env' := [(8, vP b_8), (9, vI 0)]) (H' := [⟨41, b_10, [vU term_5, vU (wu64 (r_9.1 + 1)), vI kind_6, .string (bs data_7)]⟩, ⟨40, b_8, [vU term_5, vU (wu64 (r_9.1 + 1)), vI kind_6, .string (bs data_7)]⟩, ⟨1, b_2, [vU g_1.Snap.Index, vU g_1.Snap.Term, vU g_1.Snap.Config, .string (bs g_1.Snap.Data), .slice A_16 (g_1.L ++ [(⟨term_5, wu64 (r_9.1 + 1), kind_6, data_7⟩ : T_api_Entry)]).length c_17]⟩]) (ps := [b_10 = b_10, b_8 = b_8]) (by kernel_rfl) (And.intro rfl (And.intro rfl trivial)) ?_
    refine GoO.regionEnd ?_
    exact GoO.ret' (h := c58_18e) (hs := [1]) (ps := [b_8 = b_8]) (hk := [2]) (bk := [0]) Try.func58 (⟨A_16, c_17⟩ : Option Addr × Nat) (by kernel_rfl) (And.intro rfl trivial) (by kernel_rfl) (by kernel_rfl)
/-! (*tontine/tontineref07.Log).Term -/
noncomputable def c64_0 : Code := bodyOf Try.f64
noncomputable def c64_1 : Code := cdL c64_0
noncomputable def c64_2 : Code := cdR c64_0
noncomputable def c64_3 : Code := cdL c64_2
noncomputable def c64_4 : Code := cdL c64_3
noncomputable def c64_5 : Code := cdR c64_3
noncomputable def c64_6 : Code := cdL c64_5
noncomputable def c64_7 : Code := cdL c64_6
noncomputable def c64_8 : Code := cdL c64_7
noncomputable def c64_9 : Code := cdL c64_8
noncomputable def c64_10 : Code := cdR c64_8
noncomputable def c64_11 : Code := cdL c64_10
noncomputable def c64_12 : Code := cdR c64_10
noncomputable def c64_13 : Code := cdR c64_7
noncomputable def c64_14 : Code := cdL c64_13
noncomputable def c64_15 : Code := cdL c64_14
noncomputable def c64_16 : Code := cdL c64_15
noncomputable def c64_17 : Code := cdR c64_15
noncomputable def c64_18 : Code := cdL c64_17
noncomputable def c64_19 : Code := cdL c64_18
noncomputable def c64_20 : Code := cdR c64_18
noncomputable def c64_21 : Code := cdR c64_17
noncomputable def c64_22 : Code := cdR c64_13
noncomputable def c64_23 : Code := cdR c64_2
noncomputable def c64_24 : Code := cdL c64_23
noncomputable def c64_25 : Code := cdL c64_24
noncomputable def c64_26 : Code := cdR c64_24
noncomputable def c64_27 : Code := cdL c64_26
noncomputable def c64_28 : Code := cdL c64_27
noncomputable def c64_29 : Code := cdR c64_27
noncomputable def c64_30 : Code := cdR c64_26
noncomputable def c64_31 : Code := cdR c64_23
noncomputable def c64_32 : Code := cdL c64_31
noncomputable def c64_33 : Code := cdR c64_31
noncomputable def r64_1 : Array Oper := cdO c64_1
noncomputable def r64_4 : Array Oper := cdO c64_4
noncomputable def r64_9 : Array Oper := cdO c64_9
noncomputable def r64_16 : Array Oper := cdO c64_16
noncomputable def r64_19 : Array Oper := cdO c64_19
noncomputable def r64_22 : Array Oper := cdO c64_22
noncomputable def r64_25 : Array Oper := cdO c64_25
noncomputable def r64_28 : Array Oper := cdO c64_28
noncomputable def r64_32 : Array Oper := cdO c64_32
theorem c64_0e : c64_0 = .seq c64_1 c64_2 := by kernel_rfl
theorem c64_1e : c64_1 = .region 0 r64_1 false := by kernel_rfl
theorem c64_2e : c64_2 = .seq c64_3 c64_23 := by kernel_rfl
theorem c64_3e : c64_3 = .seq c64_4 c64_5 := by kernel_rfl
theorem c64_4e : c64_4 = .region 1 r64_4 false := by kernel_rfl
theorem c64_5e : c64_5 = .block 0 c64_6 := by kernel_rfl
theorem c64_6e : c64_6 = .loop c64_7 := by kernel_rfl
theorem c64_7e : c64_7 = .seq c64_8 c64_13 := by kernel_rfl
theorem c64_8e : c64_8 = .seq c64_9 c64_10 := by kernel_rfl
theorem c64_9e : c64_9 = .region 2 r64_9 false := by kernel_rfl
theorem c64_10e : c64_10 = .cond (cdC c64_10) c64_11 c64_12 := by kernel_rfl
theorem c64_11e : c64_11 = .skip := by kernel_rfl
theorem c64_12e : c64_12 = .exit 0 := by kernel_rfl
theorem c64_13e : c64_13 = .seq c64_14 c64_22 := by kernel_rfl
theorem c64_14e : c64_14 = .block 1 c64_15 := by kernel_rfl
theorem c64_15e : c64_15 = .seq c64_16 c64_17 := by kernel_rfl
theorem c64_16e : c64_16 = .region 4 r64_16 false := by kernel_rfl
theorem c64_17e : c64_17 = .cond (cdC c64_17) c64_18 c64_21 := by kernel_rfl
theorem c64_18e : c64_18 = .seq c64_19 c64_20 := by kernel_rfl
theorem c64_19e : c64_19 = .region 5 r64_19 false := by kernel_rfl
theorem c64_20e : c64_20 = .ret := by kernel_rfl
theorem c64_21e : c64_21 = .skip := by kernel_rfl
theorem c64_22e : c64_22 = .region 3 r64_22 false := by kernel_rfl
theorem c64_23e : c64_23 = .seq c64_24 c64_31 := by kernel_rfl
theorem c64_24e : c64_24 = .seq c64_25 c64_26 := by kernel_rfl
theorem c64_25e : c64_25 = .region 6 r64_25 false := by kernel_rfl
theorem c64_26e : c64_26 = .cond (cdC c64_26) c64_27 c64_30 := by kernel_rfl
theorem c64_27e : c64_27 = .seq c64_28 c64_29 := by kernel_rfl
theorem c64_28e : c64_28 = .region 7 r64_28 false := by kernel_rfl
theorem c64_29e : c64_29 = .ret := by kernel_rfl
theorem c64_30e : c64_30 = .skip := by kernel_rfl
theorem c64_31e : c64_31 = .seq c64_32 c64_33 := by kernel_rfl
theorem c64_32e : c64_32 = .region 8 r64_32 false := by kernel_rfl
theorem c64_33e : c64_33 = .ret := by kernel_rfl
noncomputable def tontineref07_Log_Term.R (b_2 : Nat) (A_3 : Option Addr) (c_4 : Nat) : Pst (Int × Int) where
  ε := Unit
  v := fun r x => .tuple ⟨[vU r.1, vI r.2]⟩
  H := fun r x => []
  B := fun r x => []
noncomputable def tontineref07_Log_Term.cx (b_2 : Nat) (A_3 : Option Addr) (c_4 : Nat) (w0 : World) (S0 : Fam) : Cx (Int × Int) := ⟨Try.prog, 64, Try.f64, 46, w0, S0, [], 2, tontineref07_Log_Term.R b_2 A_3 c_4⟩
theorem tontineref07_Log_Term_l0_ok (n : Nat) (g_1 : T_tontineref07_Log) (i_5 : Int) (b_2 : Nat) (A_3 : Option Addr) (c_4 : Nat) (w0 : World) (S0 : Fam) :
    ∀ (k : Nat) (k_6 : Int), GoO (tontineref07_Log_Term.cx b_2 A_3 c_4 w0 S0) [(0, vP b_2), (1, vU i_5), (6, vI k_6)] [⟨1, b_2, [vU g_1.Snap.Index, vU g_1.Snap.Term, vU g_1.Snap.Config, .string (bs g_1.Snap.Data), .slice A_3 g_1.L.length c_4]⟩] [Ow 2 kT_api_Entry A_3 c_4 g_1.L] [.code c64_7, .inLoop c64_7, .inBlock 0, .code c64_23] (tontineref07_Log_Term.l0 n g_1 i_5 k k_6) := by
  intro k
  induction k with
  | zero => intros; rw [tontineref07_Log_Term.l0.eq_1]; exact GoO.stop
  | succ k ih0 =>
    intro k_6
    rw [tontineref07_Log_Term.l0.eq_2]
    refine GoO.seq' c64_7e ?_
    refine GoO.seq' c64_8e ?_
    refine GoO.region' (is := [0, 1, 2, 3, 4, 5, 6]) c64_9e (by kernel_rfl) ?_
    refine GoO.exec (is := [0, 1, 2, 3, 4, 5, 6]) (hs := [.p, .p, .p, .p, .b 0, .p, .p]) (rest := []) (ks := [0, 1, 6, 13]) (env' := [(0, vP b_2), (1, vU i_5), (6, vI k_6), (13, .bool (decide (k_6 < (g_1.L.length : Int))))]) (H' := [⟨1, b_2, [vU g_1.Snap.Index, vU g_1.Snap.Term, vU g_1.Snap.Config, .string (bs g_1.Snap.Data), .slice A_3 g_1.L.length c_4]⟩]) (ps := [b_2 = b_2]) (by kernel_rfl) (And.intro rfl trivial) ?_
    refine GoO.regionEnd ?_
    refine GoO.ite' c64_10e (by kernel_rfl) (fun h7 => ?_) (fun h7 => ?_)
    · refine GoO.skip' c64_11e ?_
      refine GoO.seq' c64_13e ?_
      refine GoO.block' c64_14e ?_
      refine GoO.seq' c64_15e ?_
      refine GoO.region' (is := [0, 1, 2, 3, 4, 5, 6, 7, 8, 9]) c64_16e (by kernel_rfl) ?_
      refine GoO.exec (is := [0, 1, 2, 3, 4]) (hs := [.p, .p, .p, .b 0, .p]) (rest := [5, 6, 7, 8, 9]) (ks := [0, 1, 6, 19, 20]) (env' := [(0, vP b_2), (1, vU i_5), (6, vI k_6), (19, .slice A_3 g_1.L.length c_4), (20, vI k_6)]) (H' := [⟨1, b_2, [vU g_1.Snap.Index, vU g_1.Snap.Term, vU g_1.Snap.Config, .string (bs g_1.Snap.Data), .slice A_3 g_1.L.length c_4]⟩]) (ps := [b_2 = b_2]) (by kernel_rfl) (And.intro rfl trivial) ?_
      refine GoO.guard (fun h8 => ?_)
      refine OpTo.go (GoO.idx (kk := .i64) (e := 40) (K := kT_api_Entry) (A := A_3) (c := c_4) (xs := g_1.L) (iv := k_6) (j := 0) rfl (by kernel_rfl) (by kernel_rfl) (by kernel_rfl) (by kernel_rfl) rfl Reads.own rfl h8.1 h8.2 (by decide) rfl ?_)
      refine OpTo.go (GoO.fldE (K := kT_api_Entry) (A := A_3) (c := c_4) (xs := g_1.L) (iN := k_6.toNat) (off := 0) (n := 1) (j := 0) rfl (by kernel_rfl) (by kernel_rfl) rfl Reads.own (by first | exact idx_lt h8.1 h8.2 | (simp only [List.length_set]; exact idx_lt h8.1 h8.2)) (by decide) rfl ?_)
      refine OpTo.go (GoO.ldE' (K := kT_api_Entry) (A := A_3) (c := c_4) (xs := g_1.L) (iN := k_6.toNat) (off := 1) (j := 0) rfl (by kernel_rfl) rfl Reads.own (by first | exact idx_lt h8.1 h8.2 | (simp only [List.length_set]; exact idx_lt h8.1 h8.2)) (by decide) (Opn.flat _ _ _ _ _) (v := fun _ => vU ((rdL g_1.L k_6).Index)) (fun _ => by kernel_rfl) _ (fun _ => rfl) (fun _ => ?_))
      refine GoO.exec (is := [8, 9]) (hs := [.p, .p]) (rest := []) (ks := [0, 1, 6, 25]) (env' := [(0, vP b_2), (1, vU i_5), (6, vI k_6), (25, .bool (((rdL g_1.L k_6).Index) == i_5))]) (H' := [⟨1, b_2, [vU g_1.Snap.Index, vU g_1.Snap.Term, vU g_1.Snap.Config, .string (bs g_1.Snap.Data), .slice A_3 g_1.L.length c_4]⟩]) (ps := []) (by kernel_rfl) trivial ?_
      refine GoO.regionEnd ?_
      refine GoO.ite' c64_17e (by kernel_rfl) (fun h9 => ?_) (fun h9 => ?_)
      · refine GoO.seq' c64_18e ?_
        refine GoO.region' (is := [0, 1, 2, 3, 4, 5, 6, 7, 8, 9]) c64_19e (by kernel_rfl) ?_
        refine GoO.exec (is := [0, 1, 2, 3, 4]) (hs := [.p, .p, .p, .b 0, .p]) (rest := [5, 6, 7, 8, 9]) (ks := [29, 30]) (env' := [(29, .slice A_3 g_1.L.length c_4), (30, vI k_6)]) (H' := [⟨1, b_2, [vU g_1.Snap.Index, vU g_1.Snap.Term, vU g_1.Snap.Config, .string (bs g_1.Snap.Data), .slice A_3 g_1.L.length c_4]⟩]) (ps := [b_2 = b_2]) (by kernel_rfl) (And.intro rfl trivial) ?_
        refine GoO.guard (fun h10 => ?_)
        refine OpTo.go (GoO.idx (kk := .i64) (e := 40) (K := kT_api_Entry) (A := A_3) (c := c_4) (xs := g_1.L) (iv := k_6) (j := 0) rfl (by kernel_rfl) (by kernel_rfl) (by kernel_rfl) (by kernel_rfl) rfl Reads.own rfl h10.1 h10.2 (by decide) rfl ?_)
        refine OpTo.go (GoO.fldE (K := kT_api_Entry) (A := A_3) (c := c_4) (xs := g_1.L) (iN := k_6.toNat) (off := 0) (n := 0) (j := 0) rfl (by kernel_rfl) (by kernel_rfl) rfl Reads.own (by first | exact idx_lt h10.1 h10.2 | (simp only [List.length_set]; exact idx_lt h10.1 h10.2)) (by decide) rfl ?_)
        refine OpTo.go (GoO.ldE' (K := kT_api_Entry) (A := A_3) (c := c_4) (xs := g_1.L) (iN := k_6.toNat) (off := 0) (j := 0) rfl (by kernel_rfl) rfl Reads.own (by first | exact idx_lt h10.1 h10.2 | (simp only [List.length_set]; exact idx_lt h10.1 h10.2)) (by decide) (Opn.flat _ _ _ _ _) (v := fun _ => vU ((rdL g_1.L k_6).Term)) (fun _ => by kernel_rfl) _ (fun _ => rfl) (fun _ => ?_))
        refine GoO.exec (is := [8, 9]) (hs := [.p, .p]) (rest := []) (ks := [4, 5]) (env' := [(4, vU ((rdL g_1.L k_6).Term)), (5, vI 0)]) (H' := [⟨1, b_2, [vU g_1.Snap.Index, vU g_1.Snap.Term, vU g_1.Snap.Config, .string (bs g_1.Snap.Data), .slice A_3 g_1.L.length c_4]⟩]) (ps := []) (by kernel_rfl) trivial ?_
        refine GoO.regionEnd ?_
        exact GoO.ret' (h := c64_20e) (hs := []) (ps := []) (hk := []) (bk := []) Try.func64 () (by kernel_rfl) trivial (by kernel_rfl) (by kernel_rfl)
      · refine GoO.skip' c64_21e ?_
        refine GoO.inBlock ?_
        refine GoO.region' (is := [0, 1, 2]) c64_22e (by kernel_rfl) ?_
        refine GoO.exec (is := [0, 1, 2]) (hs := [.p, .p, .p]) (rest := []) (ks := [0, 1, 6]) (env' := [(0, vP b_2), (1, vU i_5), (6, vI (wi64 (k_6 + 1)))]) (H' := [⟨1, b_2, [vU g_1.Snap.Index, vU g_1.Snap.Term, vU g_1.Snap.Config, .string (bs g_1.Snap.Data), .slice A_3 g_1.L.length c_4]⟩]) (ps := []) (by kernel_rfl) trivial ?_
        refine GoO.regionEnd ?_
        refine GoO.inLoop ?_
        exact GoO.sub (ks := [0, 1, 6]) (hk := [0]) (bk := [0]) (by kernel_rfl) (by kernel_rfl) (by kernel_rfl) (ih0 (wi64 (k_6 + 1)))
    · refine GoO.exit' c64_12e rfl ?_
      refine GoO.seq' c64_23e ?_
      refine GoO.seq' c64_24e ?_
      refine GoO.region' (is := [0, 1, 2, 3, 4, 5, 6]) c64_25e (by kernel_rfl) ?_
      refine GoO.exec (is := [0, 1, 2, 3, 4, 5, 6]) (hs := [.p, .p, .p, .p, .p, .b 0, .p]) (rest := []) (ks := [0, 40]) (env' := [(0, vP b_2), (40, .bool (i_5 == g_1.Snap.Index))]) (H' := [⟨1, b_2, [vU g_1.Snap.Index, vU g_1.Snap.Term, vU g_1.Snap.Config, .string (bs g_1.Snap.Data), .slice A_3 g_1.L.length c_4]⟩]) (ps := [b_2 = b_2]) (by kernel_rfl) (And.intro rfl trivial) ?_
      refine GoO.regionEnd ?_
      refine GoO.ite' c64_26e (by kernel_rfl) (fun h11 => ?_) (fun h11 => ?_)
      · refine GoO.seq' c64_27e ?_
        refine GoO.region' (is := [0, 1, 2, 3, 4, 5, 6]) c64_28e (by kernel_rfl) ?_
        refine GoO.exec (is := [0, 1, 2, 3, 4, 5, 6]) (hs := [.p, .p, .p, .p, .b 0, .p, .p]) (rest := []) (ks := [4, 5]) (env' := [(4, vU g_1.Snap.Term), (5, vI 0)]) (H' := [⟨1, b_2, [vU g_1.Snap.Index, vU g_1.Snap.Term, vU g_1.Snap.Config, .string (bs g_1.Snap.Data), .slice A_3 g_1.L.length c_4]⟩]) (ps := [b_2 = b_2]) (by kernel_rfl) (And.intro rfl trivial) ?_
        refine GoO.regionEnd ?_
        exact GoO.ret' (h := c64_29e) (hs := []) (ps := []) (hk := []) (bk := []) Try.func64 () (by kernel_rfl) trivial (by kernel_rfl) (by kernel_rfl)
      · refine GoO.skip' c64_30e ?_
        refine GoO.seq' c64_31e ?_
        refine GoO.region' (is := [0, 1]) c64_32e (by kernel_rfl) ?_
        refine GoO.exec (is := [0, 1]) (hs := [.p, .p]) (rest := []) (ks := [4, 5]) (env' := [(4, vU 0), (5, vI 20)]) (H' := [⟨1, b_2, [vU g_1.Snap.Index, vU g_1.Snap.Term, vU g_1.Snap.Config, .string (bs g_1.Snap.Data), .slice A_3 g_1.L.length c_4]⟩]) (ps := []) (by kernel_rfl) trivial ?_
        refine GoO.regionEnd ?_
        exact GoO.ret' (h := c64_33e) (hs := []) (ps := []) (hk := []) (bk := []) Try.func64 () (by kernel_rfl) trivial (by kernel_rfl) (by kernel_rfl)
theorem tontineref07_Log_Term_ok (n : Nat) (g_1 : T_tontineref07_Log) (i_5 : Int) (b_2 : Nat) (A_3 : Option Addr) (c_4 : Nat) :
    Meets Try.prog 64 [vP b_2, vU i_5] 2 [] [⟨1, b_2, [vU g_1.Snap.Index, vU g_1.Snap.Term, vU g_1.Snap.Config, .string (bs g_1.Snap.Data), .slice A_3 g_1.L.length c_4]⟩] [Ow 2 kT_api_Entry A_3 c_4 g_1.L] (tontineref07_Log_Term.f n g_1 i_5) (tontineref07_Log_Term.R b_2 A_3 c_4) := by
  refine Meets.of (c := c64_0) (n := 46) Try.func64 (by kernel_rfl) (by kernel_rfl) (by kernel_rfl) fun w0 S0 => ?_
  unfold tontineref07_Log_Term.f
  show GoO (tontineref07_Log_Term.cx b_2 A_3 c_4 w0 S0) [(0, vP b_2), (1, vU i_5)] [⟨1, b_2, [vU g_1.Snap.Index, vU g_1.Snap.Term, vU g_1.Snap.Config, .string (bs g_1.Snap.Data), .slice A_3 g_1.L.length c_4]⟩] [Ow 2 kT_api_Entry A_3 c_4 g_1.L] [.code c64_0] _
  refine GoO.seq' c64_0e ?_
  refine GoO.region' (is := [0, 1]) c64_1e (by kernel_rfl) ?_
  refine GoO.exec (is := [0, 1]) (hs := [.p, .p]) (rest := []) (ks := [0, 1]) (env' := [(0, vP b_2), (1, vU i_5)]) (H' := [⟨1, b_2, [vU g_1.Snap.Index, vU g_1.Snap.Term, vU g_1.Snap.Config, .string (bs g_1.Snap.Data), .slice A_3 g_1.L.length c_4]⟩]) (ps := []) (by kernel_rfl) trivial ?_
  refine GoO.regionEnd ?_
  refine GoO.seq' c64_2e ?_
  refine GoO.seq' c64_3e ?_
  refine GoO.region' (is := [0]) c64_4e (by kernel_rfl) ?_
  refine GoO.exec (is := [0]) (hs := [.p]) (rest := []) (ks := [0, 1, 6]) (env' := [(0, vP b_2), (1, vU i_5), (6, vI 0)]) (H' := [⟨1, b_2, [vU g_1.Snap.Index, vU g_1.Snap.Term, vU g_1.Snap.Config, .string (bs g_1.Snap.Data), .slice A_3 g_1.L.length c_4]⟩]) (ps := []) (by kernel_rfl) trivial ?_
  refine GoO.regionEnd ?_
  refine GoO.block' c64_5e ?_
  refine GoO.loop' c64_6e ?_
  exact GoO.sub (ks := [0, 1, 6]) (hk := [0]) (bk := [0]) (by kernel_rfl) (by kernel_rfl) (by kernel_rfl) (tontineref07_Log_Term_l0_ok n g_1 i_5 b_2 A_3 c_4 w0 S0 n 0)
/-! (*tontine/tontineref07.Log).Cut -/
noncomputable def c60_0 : Code := bodyOf Try.f60
noncomputable def c60_1 : Code := cdL c60_0
noncomputable def c60_2 : Code := cdR c60_0
noncomputable def c60_3 : Code := cdL c60_2
noncomputable def c60_4 : Code := cdR c60_2
noncomputable def c60_5 : Code := cdL c60_4
noncomputable def c60_6 : Code := cdL c60_5
noncomputable def c60_7 : Code := cdL c60_6
noncomputable def c60_8 : Code := cdL c60_7
noncomputable def c60_9 : Code := cdR c60_7
noncomputable def c60_10 : Code := cdL c60_9
noncomputable def c60_11 : Code := cdR c60_9
noncomputable def c60_12 : Code := cdR c60_6
noncomputable def c60_13 : Code := cdL c60_12
noncomputable def c60_14 : Code := cdL c60_13
noncomputable def c60_15 : Code := cdL c60_14
noncomputable def c60_16 : Code := cdL c60_15
noncomputable def c60_17 : Code := cdR c60_15
noncomputable def c60_18 : Code := cdL c60_17
noncomputable def c60_19 : Code := cdL c60_18
noncomputable def c60_20 : Code := cdR c60_18
noncomputable def c60_21 : Code := cdR c60_17
noncomputable def c60_22 : Code := cdR c60_14
noncomputable def c60_23 : Code := cdR c60_12
noncomputable def r60_1 : Array Oper := cdO c60_1
noncomputable def r60_3 : Array Oper := cdO c60_3
noncomputable def r60_8 : Array Oper := cdO c60_8
noncomputable def r60_16 : Array Oper := cdO c60_16
noncomputable def r60_19 : Array Oper := cdO c60_19
noncomputable def r60_22 : Array Oper := cdO c60_22
noncomputable def r60_23 : Array Oper := cdO c60_23
theorem c60_0e : c60_0 = .seq c60_1 c60_2 := by kernel_rfl
theorem c60_1e : c60_1 = .region 0 r60_1 false := by kernel_rfl
theorem c60_2e : c60_2 = .seq c60_3 c60_4 := by kernel_rfl
theorem c60_3e : c60_3 = .region 1 r60_3 false := by kernel_rfl
theorem c60_4e : c60_4 = .block 0 c60_5 := by kernel_rfl
theorem c60_5e : c60_5 = .loop c60_6 := by kernel_rfl
theorem c60_6e : c60_6 = .seq c60_7 c60_12 := by kernel_rfl
theorem c60_7e : c60_7 = .seq c60_8 c60_9 := by kernel_rfl
theorem c60_8e : c60_8 = .region 2 r60_8 false := by kernel_rfl
theorem c60_9e : c60_9 = .cond (cdC c60_9) c60_10 c60_11 := by kernel_rfl
theorem c60_10e : c60_10 = .skip := by kernel_rfl
theorem c60_11e : c60_11 = .exit 0 := by kernel_rfl
theorem c60_12e : c60_12 = .seq c60_13 c60_23 := by kernel_rfl
theorem c60_13e : c60_13 = .block 1 c60_14 := by kernel_rfl
theorem c60_14e : c60_14 = .seq c60_15 c60_22 := by kernel_rfl
theorem c60_15e : c60_15 = .seq c60_16 c60_17 := by kernel_rfl
theorem c60_16e : c60_16 = .region 4 r60_16 false := by kernel_rfl
theorem c60_17e : c60_17 = .cond (cdC c60_17) c60_18 c60_21 := by kernel_rfl
theorem c60_18e : c60_18 = .seq c60_19 c60_20 := by kernel_rfl
theorem c60_19e : c60_19 = .region 5 r60_19 false := by kernel_rfl
theorem c60_20e : c60_20 = .ret := by kernel_rfl
theorem c60_21e : c60_21 = .skip := by kernel_rfl
theorem c60_22e : c60_22 = .region 6 r60_22 false := by kernel_rfl
theorem c60_23e : c60_23 = .region 3 r60_23 false := by kernel_rfl
noncomputable def tontineref07_Log_Cut.R (b_2 : Nat) (A_3 : Option Addr) (c_4 : Nat) : Pst T_tontineref07_Log where
  ε := Option Addr × Nat
  v := fun r x => .tuple ⟨[]⟩
  H := fun r x => [⟨1, b_2, [vU r.Snap.Index, vU r.Snap.Term, vU r.Snap.Config, .string (bs r.Snap.Data), .slice x.1 r.L.length x.2]⟩]
  B := fun r x => [Ow 2 kT_api_Entry x.1 x.2 r.L]
noncomputable def tontineref07_Log_Cut.cx (b_2 : Nat) (A_3 : Option Addr) (c_4 : Nat) (w0 : World) (S0 : Fam) : Cx T_tontineref07_Log := ⟨Try.prog, 60, Try.f60, 39, w0, S0, [1, 2], 2, tontineref07_Log_Cut.R b_2 A_3 c_4⟩
theorem tontineref07_Log_Cut_l0_ok (n : Nat) (g_1 : T_tontineref07_Log) (i_5 : Int) (b_2 : Nat) (A_3 : Option Addr) (c_4 : Nat) (w0 : World) (S0 : Fam) :
    ∀ (k : Nat) (l_6 : (List T_api_Entry)) (k_9 : Int) (A_7 : Option Addr) (c_8 : Nat), GoO (tontineref07_Log_Cut.cx b_2 A_3 c_4 w0 S0) [(0, vP b_2), (1, vU i_5), (4, .slice A_7 l_6.length c_8), (5, vI k_9)] [⟨1, b_2, [vU g_1.Snap.Index, vU g_1.Snap.Term, vU g_1.Snap.Config, .string (bs g_1.Snap.Data), .slice A_3 g_1.L.length c_4]⟩] [Ow 2 kT_api_Entry A_3 c_4 g_1.L, Ow 41 kT_api_Entry A_7 c_8 l_6] [.code c60_6, .inLoop c60_6, .inBlock 0] (tontineref07_Log_Cut.l0 n g_1 i_5 k l_6 k_9) := by
  intro k
  induction k with
  | zero => intros; rw [tontineref07_Log_Cut.l0.eq_1]; exact GoO.stop
  | succ k ih0 =>
    intro l_6 k_9 A_7 c_8
    rw [tontineref07_Log_Cut.l0.eq_2]
    refine GoO.seq' c60_6e ?_
    refine GoO.seq' c60_7e ?_
    refine GoO.region' (is := [0, 1, 2, 3, 4, 5, 6]) c60_8e (by kernel_rfl) ?_
    refine GoO.exec (is := [0, 1, 2, 3, 4, 5, 6]) (hs := [.p, .p, .p, .p, .b 0, .p, .p]) (rest := []) (ks := [0, 1, 4, 5, 12]) (env' := [(0, vP b_2), (1, vU i_5), (4, .slice A_7 l_6.length c_8), (5, vI k_9), (12, .bool (decide (k_9 < (g_1.L.length : Int))))]) (H' := [⟨1, b_2, [vU g_1.Snap.Index, vU g_1.Snap.Term, vU g_1.Snap.Config, .string (bs g_1.Snap.Data), .slice A_3 g_1.L.length c_4]⟩]) (ps := [b_2 = b_2]) (by kernel_rfl) (And.intro rfl trivial) ?_
    refine GoO.regionEnd ?_
    refine GoO.ite' c60_9e (by kernel_rfl) (fun h10 => ?_) (fun h10 => ?_)
    · refine GoO.skip' c60_10e ?_
      refine GoO.seq' c60_12e ?_
      refine GoO.block' c60_13e ?_
      refine GoO.seq' c60_14e ?_
      refine GoO.seq' c60_15e ?_
      refine GoO.region' (is := [0, 1, 2, 3, 4, 5, 6, 7, 8, 9]) c60_16e (by kernel_rfl) ?_
      refine GoO.exec (is := [0, 1, 2, 3, 4]) (hs := [.p, .p, .p, .b 0, .p]) (rest := [5, 6, 7, 8, 9]) (ks := [0, 1, 4, 5, 18, 19]) (env' := [(0, vP b_2), (1, vU i_5), (4, .slice A_7 l_6.length c_8), (5, vI k_9), (18, .slice A_3 g_1.L.length c_4), (19, vI k_9)]) (H' := [⟨1, b_2, [vU g_1.Snap.Index, vU g_1.Snap.Term, vU g_1.Snap.Config, .string (bs g_1.Snap.Data), .slice A_3 g_1.L.length c_4]⟩]) (ps := [b_2 = b_2]) (by kernel_rfl) (And.intro rfl trivial) ?_
      refine GoO.guard (fun h11 => ?_)
      refine OpTo.go (GoO.idx (kk := .i64) (e := 40) (K := kT_api_Entry) (A := A_3) (c := c_4) (xs := g_1.L) (iv := k_9) (j := 0) rfl (by kernel_rfl) (by kernel_rfl) (by kernel_rfl) (by kernel_rfl) rfl Reads.own rfl h11.1 h11.2 (by decide) rfl ?_)
      refine OpTo.go (GoO.fldE (K := kT_api_Entry) (A := A_3) (c := c_4) (xs := g_1.L) (iN := k_9.toNat) (off := 0) (n := 1) (j := 0) rfl (by kernel_rfl) (by kernel_rfl) rfl Reads.own (by first | exact idx_lt h11.1 h11.2 | (simp only [List.length_set]; exact idx_lt h11.1 h11.2)) (by decide) rfl ?_)
      refine OpTo.go (GoO.ldE' (K := kT_api_Entry) (A := A_3) (c := c_4) (xs := g_1.L) (iN := k_9.toNat) (off := 1) (j := 0) rfl (by kernel_rfl) rfl Reads.own (by first | exact idx_lt h11.1 h11.2 | (simp only [List.length_set]; exact idx_lt h11.1 h11.2)) (by decide) (Opn.flat _ _ _ _ _) (v := fun _ => vU ((rdL g_1.L k_9).Index)) (fun _ => by kernel_rfl) _ (fun _ => rfl) (fun _ => ?_))
      refine GoO.exec (is := [8, 9]) (hs := [.p, .p]) (rest := []) (ks := [0, 1, 4, 5, 24]) (env' := [(0, vP b_2), (1, vU i_5), (4, .slice A_7 l_6.length c_8), (5, vI k_9), (24, .bool (((rdL g_1.L k_9).Index) == i_5))]) (H' := [⟨1, b_2, [vU g_1.Snap.Index, vU g_1.Snap.Term, vU g_1.Snap.Config, .string (bs g_1.Snap.Data), .slice A_3 g_1.L.length c_4]⟩]) (ps := []) (by kernel_rfl) trivial ?_
      refine GoO.regionEnd ?_
      refine GoO.ite' c60_17e (by kernel_rfl) (fun h12 => ?_) (fun h12 => ?_)
      · refine GoO.seq' c60_18e ?_
        refine GoO.region' (is := [0, 1, 2, 3, 4]) c60_19e (by kernel_rfl) ?_
        refine GoO.exec (is := [0, 1, 2, 3, 4]) (hs := [.p, .p, .p, .p, .b 0]) (rest := []) (ks := []) (env' := []) (H' := [⟨1, b_2, [vU g_1.Snap.Index, vU g_1.Snap.Term, vU g_1.Snap.Config, .string (bs g_1.Snap.Data), .slice A_7 l_6.length c_8]⟩]) (ps := [b_2 = b_2]) (by kernel_rfl) (And.intro rfl trivial) ?_
        refine GoO.regionEnd ?_
        refine GoO.sub (ks := []) (env' := []) (hk := [0]) (bk := [1]) (by kernel_rfl) rfl rfl ?_
        refine GoO.retag (t := 41) (u := 2) (j := 0) (hk := [0]) (bk := []) rfl rfl rfl rfl rfl rfl (by kernel_rfl) (by kernel_rfl) ?_
        exact GoO.ret' (h := c60_20e) (hs := []) (ps := []) (hk := [0]) (bk := [0]) Try.func60 (⟨A_7, c_8⟩ : Option Addr × Nat) (by kernel_rfl) trivial (by kernel_rfl) (by kernel_rfl)
      · refine GoO.skip' c60_21e ?_
        refine GoO.region' (is := [0, 1, 2, 3, 4, 5, 6, 7, 8, 9, 10]) c60_22e (by kernel_rfl) ?_
        refine GoO.exec (is := [0, 1, 2, 3, 4, 5]) (hs := [.p, .p, .p, .p, .b 0, .p]) (rest := [6, 7, 8, 9, 10]) (ks := [0, 1, 5, 29, 33, 34]) (env' := [(0, vP b_2), (1, vU i_5), (5, vI k_9), (29, .slice A_7 l_6.length c_8), (33, .slice A_3 g_1.L.length c_4), (34, vI k_9)]) (H' := [⟨1, b_2, [vU g_1.Snap.Index, vU g_1.Snap.Term, vU g_1.Snap.Config, .string (bs g_1.Snap.Data), .slice A_3 g_1.L.length c_4]⟩]) (ps := [b_2 = b_2]) (by kernel_rfl) (And.intro rfl trivial) ?_
        refine GoO.guard (fun h13 => ?_)
        refine OpTo.go (GoO.idx (kk := .i64) (e := 40) (K := kT_api_Entry) (A := A_3) (c := c_4) (xs := g_1.L) (iv := k_9) (j := 0) rfl (by kernel_rfl) (by kernel_rfl) (by kernel_rfl) (by kernel_rfl) rfl Reads.own rfl h13.1 h13.2 (by decide) rfl ?_)
        refine OpTo.go (GoO.ldE' (K := kT_api_Entry) (A := A_3) (c := c_4) (xs := g_1.L) (iN := k_9.toNat) (off := 0) (j := 0) rfl (by kernel_rfl) rfl Reads.own (by first | exact idx_lt h13.1 h13.2 | (simp only [List.length_set]; exact idx_lt h13.1 h13.2)) (by decide) (Opn.flat _ _ _ _ _) (v := fun _ => .agg ⟨[vU ((rdL g_1.L k_9).Term), vU ((rdL g_1.L k_9).Index), vI ((rdL g_1.L k_9).Kind), .string (bs ((rdL g_1.L k_9).Data))]⟩) (fun _ => by kernel_rfl) _ (fun _ => rfl) (fun _ => ?_))
        refine OpTo.go (GoO.lit (e := 40) (K := kT_api_Entry) rfl (by kernel_rfl) (by kernel_rfl) (cs := [vU ((rdL g_1.L k_9).Term), vU ((rdL g_1.L k_9).Index), vI ((rdL g_1.L k_9).Kind), .string (bs ((rdL g_1.L k_9).Data))]) (by kernel_rfl) [(rdL g_1.L k_9)] (by kernel_rfl) (by kernel_rfl) (fun w S hB => ⟨[vU ((rdL g_1.L k_9).Term), vU ((rdL g_1.L k_9).Index), vI ((rdL g_1.L k_9).Kind), .string (bs ((rdL g_1.L k_9).Data))], _, rfl, rfl, rfl⟩) 40 _ (fun _ _ => rfl) (fun A_14 c_15 => ?_))
        refine GoO.guard (fun h16 => ?_)
        refine OpTo.go (GoO.appW (e := 40) (K := kT_api_Entry) (A := A_7) (c := c_8) (tg := 41) (bytes := 40) (zs := [vU 0, vU 0, vI 0, .string (bs [])]) (xs := l_6) (ys := [(rdL g_1.L k_9)]) (xv := .slice A_14 [(rdL g_1.L k_9)].length c_15) (j := 2) (bk := [0, 1]) rfl (by kernel_rfl) (by kernel_rfl) (by kernel_rfl) (by kernel_rfl) rfl (by kernel_rfl) rfl (fun w S hB => SrcIs.row (Reads.own w S (hB _ (List.mem_of_getElem? (i := 0) rfl)))) h16 rfl rfl rfl rfl _ (fun _ _ => rfl) (fun A_17 c_18 => ?_))
        refine GoO.exec (is := [10]) (hs := [.p]) (rest := []) (ks := [0, 1, 4, 5]) (env' := [(0, vP b_2), (1, vU i_5), (4, .slice A_17 (l_6 ++ [(rdL g_1.L k_9)]).length c_18), (5, vI k_9)]) (H' := [⟨1, b_2, [vU g_1.Snap.Index, vU g_1.Snap.Term, vU g_1.Snap.Config, .string (bs g_1.Snap.Data), .slice A_3 g_1.L.length c_4]⟩]) (ps := []) (by kernel_rfl) trivial ?_
        refine GoO.regionEnd ?_
        refine GoO.inBlock ?_
        refine GoO.region' (is := [0, 1, 2]) c60_23e (by kernel_rfl) ?_
        refine GoO.exec (is := [0, 1, 2]) (hs := [.p, .p, .p]) (rest := []) (ks := [0, 1, 4, 5]) (env' := [(0, vP b_2), (1, vU i_5), (4, .slice A_17 (l_6 ++ [(rdL g_1.L k_9)]).length c_18), (5, vI (wi64 (k_9 + 1)))]) (H' := [⟨1, b_2, [vU g_1.Snap.Index, vU g_1.Snap.Term, vU g_1.Snap.Config, .string (bs g_1.Snap.Data), .slice A_3 g_1.L.length c_4]⟩]) (ps := []) (by kernel_rfl) trivial ?_
        refine GoO.regionEnd ?_
        refine GoO.inLoop ?_
        exact GoO.sub (ks := [0, 1, 4, 5]) (hk := [0]) (bk := [2, 0]) (by kernel_rfl) (by kernel_rfl) (by kernel_rfl) (ih0 (l_6 ++ [(rdL g_1.L k_9)]) (wi64 (k_9 + 1)) A_17 c_18)
    · refine GoO.exit' c60_11e rfl ?_
      exact GoO.fin (hs := []) (ps := []) (hk := [0]) (bk := [0]) Try.func60 (⟨A_3, c_4⟩ : Option Addr × Nat) (by kernel_rfl) trivial (by kernel_rfl) (by kernel_rfl)
theorem tontineref07_Log_Cut_ok (n : Nat) (g_1 : T_tontineref07_Log) (i_5 : Int) (b_2 : Nat) (A_3 : Option Addr) (c_4 : Nat) :
    Meets Try.prog 60 [vP b_2, vU i_5] 2 [1, 2] [⟨1, b_2, [vU g_1.Snap.Index, vU g_1.Snap.Term, vU g_1.Snap.Config, .string (bs g_1.Snap.Data), .slice A_3 g_1.L.length c_4]⟩] [Ow 2 kT_api_Entry A_3 c_4 g_1.L] (tontineref07_Log_Cut.f n g_1 i_5) (tontineref07_Log_Cut.R b_2 A_3 c_4) := by
  refine Meets.of (c := c60_0) (n := 39) Try.func60 (by kernel_rfl) (by kernel_rfl) (by kernel_rfl) fun w0 S0 => ?_
  unfold tontineref07_Log_Cut.f
  show GoO (tontineref07_Log_Cut.cx b_2 A_3 c_4 w0 S0) [(0, vP b_2), (1, vU i_5)] [⟨1, b_2, [vU g_1.Snap.Index, vU g_1.Snap.Term, vU g_1.Snap.Config, .string (bs g_1.Snap.Data), .slice A_3 g_1.L.length c_4]⟩] [Ow 2 kT_api_Entry A_3 c_4 g_1.L] [.code c60_0] _
  refine GoO.seq' c60_0e ?_
  refine GoO.region' (is := [0]) c60_1e (by kernel_rfl) ?_
  refine GoO.exec (is := [0]) (hs := [.p]) (rest := []) (ks := [0, 1, 4]) (env' := [(0, vP b_2), (1, vU i_5), (4, .slice none ([] : List T_api_Entry).length 0)]) (H' := [⟨1, b_2, [vU g_1.Snap.Index, vU g_1.Snap.Term, vU g_1.Snap.Config, .string (bs g_1.Snap.Data), .slice A_3 g_1.L.length c_4]⟩]) (ps := []) (by kernel_rfl) trivial ?_
  refine GoO.regionEnd ?_
  refine GoO.seq' c60_2e ?_
  refine GoO.region' (is := [0]) c60_3e (by kernel_rfl) ?_
  refine GoO.exec (is := [0]) (hs := [.p]) (rest := []) (ks := [0, 1, 4, 5]) (env' := [(0, vP b_2), (1, vU i_5), (4, .slice none ([] : List T_api_Entry).length 0), (5, vI 0)]) (H' := [⟨1, b_2, [vU g_1.Snap.Index, vU g_1.Snap.Term, vU g_1.Snap.Config, .string (bs g_1.Snap.Data), .slice A_3 g_1.L.length c_4]⟩]) (ps := []) (by kernel_rfl) trivial ?_
  refine GoO.regionEnd ?_
  refine GoO.block' c60_4e ?_
  refine GoO.loop' c60_5e ?_
  refine GoO.nilOwn kT_api_Entry 41 ?_
  exact GoO.sub (ks := [0, 1, 4, 5]) (hk := [0]) (bk := [1, 0]) (by kernel_rfl) (by kernel_rfl) (by kernel_rfl) (tontineref07_Log_Cut_l0_ok n g_1 i_5 b_2 A_3 c_4 w0 S0 n ([] : List T_api_Entry) 0 none 0)
/-! (*tontine/tontineref07.Log).Merge -/
noncomputable def c59_0 : Code := bodyOf Try.f59
noncomputable def c59_1 : Code := cdL c59_0
noncomputable def c59_2 : Code := cdR c59_0
noncomputable def c59_3 : Code := cdL c59_2
noncomputable def c59_4 : Code := cdR c59_2
noncomputable def c59_5 : Code := cdL c59_4
noncomputable def c59_6 : Code := cdL c59_5
noncomputable def c59_7 : Code := cdR c59_5
noncomputable def c59_8 : Code := cdL c59_7
noncomputable def c59_9 : Code := cdL c59_8
noncomputable def c59_10 : Code := cdL c59_9
noncomputable def c59_11 : Code := cdL c59_10
noncomputable def c59_12 : Code := cdR c59_10
noncomputable def c59_13 : Code := cdL c59_12
noncomputable def c59_14 : Code := cdR c59_12
noncomputable def c59_15 : Code := cdR c59_9
noncomputable def c59_16 : Code := cdL c59_15
noncomputable def c59_17 : Code := cdL c59_16
noncomputable def c59_18 : Code := cdL c59_17
noncomputable def c59_19 : Code := cdL c59_18
noncomputable def c59_20 : Code := cdR c59_18
noncomputable def c59_21 : Code := cdL c59_20
noncomputable def c59_22 : Code := cdL c59_21
noncomputable def c59_23 : Code := cdR c59_21
noncomputable def c59_24 : Code := cdR c59_20
noncomputable def c59_25 : Code := cdR c59_17
noncomputable def c59_26 : Code := cdR c59_15
noncomputable def c59_27 : Code := cdR c59_4
noncomputable def c59_28 : Code := cdL c59_27
noncomputable def c59_29 : Code := cdL c59_28
noncomputable def c59_30 : Code := cdL c59_29
noncomputable def c59_31 : Code := cdL c59_30
noncomputable def c59_32 : Code := cdL c59_31
noncomputable def c59_33 : Code := cdR c59_31
noncomputable def c59_34 : Code := cdL c59_33
noncomputable def c59_35 : Code := cdR c59_33
noncomputable def c59_36 : Code := cdR c59_30
noncomputable def c59_37 : Code := cdL c59_36
noncomputable def c59_38 : Code := cdL c59_37
noncomputable def c59_39 : Code := cdR c59_37
noncomputable def c59_40 : Code := cdR c59_27
noncomputable def c59_41 : Code := cdL c59_40
noncomputable def c59_42 : Code := cdL c59_41
noncomputable def c59_43 : Code := cdR c59_41
noncomputable def c59_44 : Code := cdL c59_43
noncomputable def c59_45 : Code := cdL c59_44
noncomputable def c59_46 : Code := cdR c59_44
noncomputable def c59_47 : Code := cdR c59_43
noncomputable def c59_48 : Code := cdR c59_40
noncomputable def c59_49 : Code := cdL c59_48
noncomputable def c59_50 : Code := cdR c59_48
noncomputable def c59_51 : Code := cdL c59_50
noncomputable def c59_52 : Code := cdL c59_51
noncomputable def c59_53 : Code := cdR c59_51
noncomputable def c59_54 : Code := cdL c59_53
noncomputable def c59_55 : Code := cdL c59_54
noncomputable def c59_56 : Code := cdR c59_54
noncomputable def c59_57 : Code := cdR c59_53
noncomputable def c59_58 : Code := cdR c59_50
noncomputable def c59_59 : Code := cdL c59_58
noncomputable def c59_60 : Code := cdL c59_59
noncomputable def c59_61 : Code := cdR c59_59
noncomputable def c59_62 : Code := cdL c59_61
noncomputable def c59_63 : Code := cdL c59_62
noncomputable def c59_64 : Code := cdL c59_63
noncomputable def c59_65 : Code := cdL c59_64
noncomputable def c59_66 : Code := cdR c59_64
noncomputable def c59_67 : Code := cdL c59_66
noncomputable def c59_68 : Code := cdR c59_66
noncomputable def c59_69 : Code := cdR c59_63
noncomputable def c59_70 : Code := cdL c59_69
noncomputable def c59_71 : Code := cdL c59_70
noncomputable def c59_72 : Code := cdL c59_71
noncomputable def c59_73 : Code := cdR c59_71
noncomputable def c59_74 : Code := cdL c59_73
noncomputable def c59_75 : Code := cdL c59_74
noncomputable def c59_76 : Code := cdR c59_74
noncomputable def c59_77 : Code := cdL c59_76
noncomputable def c59_78 : Code := cdR c59_76
noncomputable def c59_79 : Code := cdR c59_73
noncomputable def c59_80 : Code := cdL c59_79
noncomputable def c59_81 : Code := cdR c59_79
noncomputable def c59_82 : Code := cdL c59_81
noncomputable def c59_83 : Code := cdR c59_81
noncomputable def c59_84 : Code := cdL c59_83
noncomputable def c59_85 : Code := cdR c59_83
noncomputable def c59_86 : Code := cdR c59_69
noncomputable def c59_87 : Code := cdR c59_58
noncomputable def c59_88 : Code := cdL c59_87
noncomputable def c59_89 : Code := cdR c59_87
noncomputable def r59_1 : Array Oper := cdO c59_1
noncomputable def r59_3 : Array Oper := cdO c59_3
noncomputable def r59_6 : Array Oper := cdO c59_6
noncomputable def r59_11 : Array Oper := cdO c59_11
noncomputable def r59_19 : Array Oper := cdO c59_19
noncomputable def r59_22 : Array Oper := cdO c59_22
noncomputable def r59_25 : Array Oper := cdO c59_25
noncomputable def r59_26 : Array Oper := cdO c59_26
noncomputable def r59_32 : Array Oper := cdO c59_32
noncomputable def r59_38 : Array Oper := cdO c59_38
noncomputable def r59_39 : Array Oper := cdO c59_39
noncomputable def r59_42 : Array Oper := cdO c59_42
noncomputable def r59_45 : Array Oper := cdO c59_45
noncomputable def r59_49 : Array Oper := cdO c59_49
noncomputable def r59_52 : Array Oper := cdO c59_52
noncomputable def r59_55 : Array Oper := cdO c59_55
noncomputable def r59_60 : Array Oper := cdO c59_60
noncomputable def r59_65 : Array Oper := cdO c59_65
noncomputable def r59_72 : Array Oper := cdO c59_72
noncomputable def r59_75 : Array Oper := cdO c59_75
noncomputable def r59_80 : Array Oper := cdO c59_80
noncomputable def r59_82 : Array Oper := cdO c59_82
noncomputable def r59_84 : Array Oper := cdO c59_84
noncomputable def r59_86 : Array Oper := cdO c59_86
noncomputable def r59_88 : Array Oper := cdO c59_88
theorem c59_0e : c59_0 = .seq c59_1 c59_2 := by kernel_rfl
theorem c59_1e : c59_1 = .region 0 r59_1 false := by kernel_rfl
theorem c59_2e : c59_2 = .seq c59_3 c59_4 := by kernel_rfl
theorem c59_3e : c59_3 = .region 1 r59_3 false := by kernel_rfl
theorem c59_4e : c59_4 = .seq c59_5 c59_27 := by kernel_rfl
theorem c59_5e : c59_5 = .seq c59_6 c59_7 := by kernel_rfl
theorem c59_6e : c59_6 = .region 2 r59_6 false := by kernel_rfl
theorem c59_7e : c59_7 = .block 0 c59_8 := by kernel_rfl
theorem c59_8e : c59_8 = .loop c59_9 := by kernel_rfl
theorem c59_9e : c59_9 = .seq c59_10 c59_15 := by kernel_rfl
theorem c59_10e : c59_10 = .seq c59_11 c59_12 := by kernel_rfl
theorem c59_11e : c59_11 = .region 3 r59_11 false := by kernel_rfl
theorem c59_12e : c59_12 = .cond (cdC c59_12) c59_13 c59_14 := by kernel_rfl
theorem c59_13e : c59_13 = .skip := by kernel_rfl
theorem c59_14e : c59_14 = .exit 0 := by kernel_rfl
theorem c59_15e : c59_15 = .seq c59_16 c59_26 := by kernel_rfl
theorem c59_16e : c59_16 = .block 1 c59_17 := by kernel_rfl
theorem c59_17e : c59_17 = .seq c59_18 c59_25 := by kernel_rfl
theorem c59_18e : c59_18 = .seq c59_19 c59_20 := by kernel_rfl
theorem c59_19e : c59_19 = .region 5 r59_19 false := by kernel_rfl
theorem c59_20e : c59_20 = .cond (cdC c59_20) c59_21 c59_24 := by kernel_rfl
theorem c59_21e : c59_21 = .seq c59_22 c59_23 := by kernel_rfl
theorem c59_22e : c59_22 = .region 6 r59_22 false := by kernel_rfl
theorem c59_23e : c59_23 = .ret := by kernel_rfl
theorem c59_24e : c59_24 = .skip := by kernel_rfl
theorem c59_25e : c59_25 = .region 7 r59_25 true := by kernel_rfl
theorem c59_26e : c59_26 = .region 4 r59_26 false := by kernel_rfl
theorem c59_27e : c59_27 = .seq c59_28 c59_40 := by kernel_rfl
theorem c59_28e : c59_28 = .block 2 c59_29 := by kernel_rfl
theorem c59_29e : c59_29 = .loop c59_30 := by kernel_rfl
theorem c59_30e : c59_30 = .seq c59_31 c59_36 := by kernel_rfl
theorem c59_31e : c59_31 = .seq c59_32 c59_33 := by kernel_rfl
theorem c59_32e : c59_32 = .region 8 r59_32 true := by kernel_rfl
theorem c59_33e : c59_33 = .cond (cdC c59_33) c59_34 c59_35 := by kernel_rfl
theorem c59_34e : c59_34 = .skip := by kernel_rfl
theorem c59_35e : c59_35 = .exit 2 := by kernel_rfl
theorem c59_36e : c59_36 = .block 3 c59_37 := by kernel_rfl
theorem c59_37e : c59_37 = .seq c59_38 c59_39 := by kernel_rfl
theorem c59_38e : c59_38 = .region 9 r59_38 true := by kernel_rfl
theorem c59_39e : c59_39 = .region 10 r59_39 false := by kernel_rfl
theorem c59_40e : c59_40 = .seq c59_41 c59_48 := by kernel_rfl
theorem c59_41e : c59_41 = .seq c59_42 c59_43 := by kernel_rfl
theorem c59_42e : c59_42 = .region 11 r59_42 false := by kernel_rfl
theorem c59_43e : c59_43 = .cond (cdC c59_43) c59_44 c59_47 := by kernel_rfl
theorem c59_44e : c59_44 = .seq c59_45 c59_46 := by kernel_rfl
theorem c59_45e : c59_45 = .region 12 r59_45 false := by kernel_rfl
theorem c59_46e : c59_46 = .ret := by kernel_rfl
theorem c59_47e : c59_47 = .skip := by kernel_rfl
theorem c59_48e : c59_48 = .seq c59_49 c59_50 := by kernel_rfl
theorem c59_49e : c59_49 = .region 13 r59_49 false := by kernel_rfl
theorem c59_50e : c59_50 = .seq c59_51 c59_58 := by kernel_rfl
theorem c59_51e : c59_51 = .seq c59_52 c59_53 := by kernel_rfl
theorem c59_52e : c59_52 = .region 14 r59_52 false := by kernel_rfl
theorem c59_53e : c59_53 = .cond (cdC c59_53) c59_54 c59_57 := by kernel_rfl
theorem c59_54e : c59_54 = .seq c59_55 c59_56 := by kernel_rfl
theorem c59_55e : c59_55 = .region 15 r59_55 false := by kernel_rfl
theorem c59_56e : c59_56 = .ret := by kernel_rfl
theorem c59_57e : c59_57 = .skip := by kernel_rfl
theorem c59_58e : c59_58 = .seq c59_59 c59_87 := by kernel_rfl
theorem c59_59e : c59_59 = .seq c59_60 c59_61 := by kernel_rfl
theorem c59_60e : c59_60 = .region 16 r59_60 false := by kernel_rfl
theorem c59_61e : c59_61 = .block 4 c59_62 := by kernel_rfl
theorem c59_62e : c59_62 = .loop c59_63 := by kernel_rfl
theorem c59_63e : c59_63 = .seq c59_64 c59_69 := by kernel_rfl
theorem c59_64e : c59_64 = .seq c59_65 c59_66 := by kernel_rfl
theorem c59_65e : c59_65 = .region 17 r59_65 false := by kernel_rfl
theorem c59_66e : c59_66 = .cond (cdC c59_66) c59_67 c59_68 := by kernel_rfl
theorem c59_67e : c59_67 = .skip := by kernel_rfl
theorem c59_68e : c59_68 = .exit 4 := by kernel_rfl
theorem c59_69e : c59_69 = .seq c59_70 c59_86 := by kernel_rfl
theorem c59_70e : c59_70 = .block 5 c59_71 := by kernel_rfl
theorem c59_71e : c59_71 = .seq c59_72 c59_73 := by kernel_rfl
theorem c59_72e : c59_72 = .region 19 r59_72 false := by kernel_rfl
theorem c59_73e : c59_73 = .seq c59_74 c59_79 := by kernel_rfl
theorem c59_74e : c59_74 = .seq c59_75 c59_76 := by kernel_rfl
theorem c59_75e : c59_75 = .region 20 r59_75 false := by kernel_rfl
theorem c59_76e : c59_76 = .cond (cdC c59_76) c59_77 c59_78 := by kernel_rfl
theorem c59_77e : c59_77 = .exit 5 := by kernel_rfl
theorem c59_78e : c59_78 = .skip := by kernel_rfl
theorem c59_79e : c59_79 = .seq c59_80 c59_81 := by kernel_rfl
theorem c59_80e : c59_80 = .region 21 r59_80 false := by kernel_rfl
theorem c59_81e : c59_81 = .seq c59_82 c59_83 := by kernel_rfl
theorem c59_82e : c59_82 = .region 22 r59_82 true := by kernel_rfl
theorem c59_83e : c59_83 = .seq c59_84 c59_85 := by kernel_rfl
theorem c59_84e : c59_84 = .region 23 r59_84 false := by kernel_rfl
theorem c59_85e : c59_85 = .ret := by kernel_rfl
theorem c59_86e : c59_86 = .region 18 r59_86 false := by kernel_rfl
theorem c59_87e : c59_87 = .seq c59_88 c59_89 := by kernel_rfl
theorem c59_88e : c59_88 = .region 24 r59_88 false := by kernel_rfl
theorem c59_89e : c59_89 = .ret := by kernel_rfl
noncomputable def tontineref07_Log_Merge.R (b_2 : Nat) (A_3 : Option Addr) (c_4 : Nat) (A_8 : Option Addr) (c_9 : Nat) : Pst ((List T_api_Entry) × Bool × T_tontineref07_Log) where
  ε := Option Addr × Nat × Option Addr × Nat
  v := fun r x => .tuple ⟨[.slice x.1 r.1.length x.2.1, .bool r.2.1]⟩
  H := fun r x => [⟨1, b_2, [vU r.2.2.Snap.Index, vU r.2.2.Snap.Term, vU r.2.2.Snap.Config, .string (bs r.2.2.Snap.Data), .slice x.2.2.1 r.2.2.L.length x.2.2.2]⟩]
  B := fun r x => [Ow 3 kT_api_Entry x.1 x.2.1 r.1, Ow 2 kT_api_Entry x.2.2.1 x.2.2.2 r.2.2.L]
noncomputable def tontineref07_Log_Merge.cx (b_2 : Nat) (A_3 : Option Addr) (c_4 : Nat) (A_8 : Option Addr) (c_9 : Nat) (w0 : World) (S0 : Fam) : Cx ((List T_api_Entry) × Bool × T_tontineref07_Log) := ⟨Try.prog, 59, Try.f59, 139, w0, S0, [1, 2], 2, tontineref07_Log_Merge.R b_2 A_3 c_4 A_8 c_9⟩
theorem tontineref07_Log_Merge_j2_ok (n : Nat) (L2 : Int → Option ((List T_api_Entry) × Bool × T_tontineref07_Log)) (g_1 : T_tontineref07_Log) (l_22 : (List T_api_Entry)) (i_39 : Int) (b_2 : Nat) (A_3 : Option Addr) (c_4 : Nat) (A_8 : Option Addr) (c_9 : Nat) (A_23 : Option Addr) (c_24 : Nat) (w0 : World) (S0 : Fam) (ih2 : ∀ (i_39 : Int), GoO (tontineref07_Log_Merge.cx b_2 A_3 c_4 A_8 c_9 w0 S0) [(0, vP b_2), (3, .slice A_23 l_22.length c_24), (15, vI i_39)] [⟨1, b_2, [vU g_1.Snap.Index, vU g_1.Snap.Term, vU g_1.Snap.Config, .string (bs g_1.Snap.Data), .slice A_3 g_1.L.length c_4]⟩] [Ow 2 kT_api_Entry A_3 c_4 g_1.L, Rd 0 kT_api_Entry A_23 c_24 l_22] [.code c59_63, .inLoop c59_63, .inBlock 4, .code c59_87] (L2 i_39)) (b_45 : Bool) :
    GoO (tontineref07_Log_Merge.cx b_2 A_3 c_4 A_8 c_9 w0 S0) [(0, vP b_2), (3, .slice A_23 l_22.length c_24), (15, vI i_39), (116, .bool b_45)] [⟨1, b_2, [vU g_1.Snap.Index, vU g_1.Snap.Term, vU g_1.Snap.Config, .string (bs g_1.Snap.Data), .slice A_3 g_1.L.length c_4]⟩] [Ow 2 kT_api_Entry A_3 c_4 g_1.L, Rd 0 kT_api_Entry A_23 c_24 l_22] [.code c59_76, .code c59_79, .inBlock 5, .code c59_86, .inLoop c59_63, .inBlock 4, .code c59_87] (tontineref07_Log_Merge.j2 n L2 g_1 l_22 i_39 b_45) := by
  unfold tontineref07_Log_Merge.j2
  refine GoO.ite' c59_76e (by kernel_rfl) (fun h46 => ?_) (fun h46 => ?_)
  · refine GoO.exit' c59_77e rfl ?_
    refine GoO.region' (is := [0, 1, 2]) c59_86e (by kernel_rfl) ?_
    refine GoO.exec (is := [0, 1, 2]) (hs := [.p, .p, .p]) (rest := []) (ks := [0, 3, 15]) (env' := [(0, vP b_2), (3, .slice A_23 l_22.length c_24), (15, vI (wi64 (i_39 + 1)))]) (H' := [⟨1, b_2, [vU g_1.Snap.Index, vU g_1.Snap.Term, vU g_1.Snap.Config, .string (bs g_1.Snap.Data), .slice A_3 g_1.L.length c_4]⟩]) (ps := []) (by kernel_rfl) trivial ?_
    refine GoO.regionEnd ?_
    refine GoO.inLoop ?_
    exact GoO.sub (ks := [0, 3, 15]) (hk := [0]) (bk := [0, 1]) (by kernel_rfl) (by kernel_rfl) (by kernel_rfl) (ih2 (wi64 (i_39 + 1)))
  · refine GoO.skip' c59_78e ?_
    refine GoO.seq' c59_79e ?_
    refine GoO.region' (is := [0, 1, 2, 3, 4, 5, 6]) c59_80e (by kernel_rfl) ?_
    refine GoO.exec (is := [0, 1, 2]) (hs := [.p, .p, .p]) (rest := [3, 4, 5, 6]) (ks := [0, 3, 15, 117, 118, 119]) (env' := [(0, vP b_2), (3, .slice A_23 l_22.length c_24), (15, vI i_39), (117, vP b_2), (118, .slice A_23 l_22.length c_24), (119, vI i_39)]) (H' := [⟨1, b_2, [vU g_1.Snap.Index, vU g_1.Snap.Term, vU g_1.Snap.Config, .string (bs g_1.Snap.Data), .slice A_3 g_1.L.length c_4]⟩]) (ps := []) (by kernel_rfl) trivial ?_
    refine GoO.guard (fun h47 => ?_)
    refine OpTo.go (GoO.idx (kk := .i64) (e := 40) (K := kT_api_Entry) (A := A_23) (c := c_24) (xs := l_22) (iv := i_39) (j := 1) rfl (by kernel_rfl) (by kernel_rfl) (by kernel_rfl) (by kernel_rfl) rfl Reads.rd rfl h47.1 h47.2 (by decide) rfl ?_)
    refine OpTo.go (GoO.fldE (K := kT_api_Entry) (A := A_23) (c := c_24) (xs := l_22) (iN := i_39.toNat) (off := 0) (n := 1) (j := 1) rfl (by kernel_rfl) (by kernel_rfl) rfl Reads.rd (by first | exact idx_lt h47.1 h47.2 | (simp only [List.length_set]; exact idx_lt h47.1 h47.2)) (by decide) rfl ?_)
    refine OpTo.go (GoO.ldE' (K := kT_api_Entry) (A := A_23) (c := c_24) (xs := l_22) (iN := i_39.toNat) (off := 1) (j := 1) rfl (by kernel_rfl) rfl Reads.rd (by first | exact idx_lt h47.1 h47.2 | (simp only [List.length_set]; exact idx_lt h47.1 h47.2)) (by decide) (Opn.flat _ _ _ _ _) (v := fun _ => vU ((rdL l_22 i_39).Index)) (fun _ => by kernel_rfl) _ (fun _ => rfl) (fun _ => ?_))
    refine OpTo.go (GoO.call rfl (by kernel_rfl) (by kernel_rfl) (tontineref07_Log_Cut_ok n (⟨(⟨g_1.Snap.Index, g_1.Snap.Term, g_1.Snap.Config, g_1.Snap.Data⟩ : T_api_Snapshot), g_1.L⟩ : T_tontineref07_Log) ((rdL l_22 i_39).Index) b_2 A_3 c_4) [[0], [1], [2]] [(1, 1), (2, 2)] [(1, 0)] [(2, 0)] (hks := []) (bks := [1]) (by kernel_rfl) (by kernel_rfl) (by kernel_rfl) (.inl rfl) rfl rfl (by kernel_rfl) (by kernel_rfl) _ (fun _ _ => rfl) _ _ (fun _ _ => rfl) (fun _ _ => rfl) (fun _ _ => by kernel_rfl) (fun _ _ => by kernel_rfl) (fun r_48 x_63 => ?_))
    obtain ⟨A_49, c_50⟩ := x_63
    refine GoO.shape (env' := [(0, vP b_2), (3, .slice A_23 l_22.length c_24), (15, vI i_39), (117, vP b_2), (118, .slice A_23 l_22.length c_24), (119, vI i_39), (120, elemP A_23 i_39.toNat 4 0), (121, elemP A_23 i_39.toNat 4 1), (122, vU ((rdL l_22 i_39).Index)), (123, .tuple ⟨[]⟩)]) (H' := [⟨1, b_2, [vU r_48.Snap.Index, vU r_48.Snap.Term, vU r_48.Snap.Config, .string (bs r_48.Snap.Data), .slice A_49 r_48.L.length c_50]⟩]) (B' := [Ow 2 kT_api_Entry A_49 c_50 r_48.L, Rd 0 kT_api_Entry A_23 c_24 l_22]) (ks := [0, 3, 15, 117, 118, 119, 120, 121, 122, 123]) (by kernel_rfl) (by kernel_rfl) (by kernel_rfl) ?_
    refine GoO.regionEnd ?_
    refine GoO.seq' c59_81e ?_
    refine GoO.draw c59_82e (by kernel_rfl) [9, 10, 11] [⟨1, b_2, [vU r_48.Snap.Index, vU r_48.Snap.Term, vU r_48.Snap.Config, .string (bs r_48.Snap.Data), .slice A_49 r_48.L.length c_50]⟩] [] (n := 12) (by kernel_rfl) ?_
    simp only [List.replicate]
    refine GoF.take [0, 1, 2, 3, 4, 5, 6] [.p, .p, .p, .p, .b 0, .p, .p] (ks := [3, 15, 124, 128, 129, 130]) (fu := 5) (li := [true, true, true, true, true, true, true, false, false, false, false, false]) (env' := [(3, .slice A_23 l_22.length c_24), (15, vI i_39), (124, vP b_2), (128, .slice A_49 r_48.L.length c_50), (129, .slice A_23 l_22.length c_24), (130, vI i_39)]) (ps := [b_2 = b_2]) (hk := [0]) (bk := []) (by kernel_rfl) (And.intro rfl trivial) rfl rfl ?_
    refine GoF.guard (fun h53 => ?_)
    refine GoF.slc1 (i := 7) (hk := [0]) (bk := []) (e := 40) (K := kT_api_Entry) (A := A_23) (c := c_24) (xs := l_22) (j := 1) (l := i_39) (h := (l_22.length : Int)) (by kernel_rfl) rfl rfl rfl (by kernel_rfl) (by kernel_rfl) (by kernel_rfl) rfl Reads.rd rfl (by kernel_rfl) (by kernel_rfl) h53.1 h53.2.1 h53.2.2 _ (fun _ _ => rfl) (fun A_51 c_52 => ?_)
    refine GoF.guard (fun h54 => ?_)
    refine OpTo.goF (i := 8) (by kernel_rfl) (hk := [0]) (bk := []) (GoO.appW (e := 40) (K := kT_api_Entry) (A := A_49) (c := c_50) (tg := 2) (bytes := 40) (zs := [vU 0, vU 0, vI 0, .string (bs [])]) (xs := r_48.L) (ys := (l_22.take (l_22.length : Int).toNat).drop i_39.toNat) (xv := .slice A_51 ((l_22.take (l_22.length : Int).toNat).drop i_39.toNat).length c_52) (j := 1) (bk := [0, 2]) rfl (by kernel_rfl) (by kernel_rfl) (by kernel_rfl) (by kernel_rfl) rfl (by kernel_rfl) rfl (fun w S hB => SrcIs.row (Reads.rd w S (hB _ (List.mem_of_getElem? (i := 0) rfl)))) h54 rfl rfl rfl rfl _ (fun _ _ => rfl) (fun A_55 c_56 => ⟨rfl, rfl, ?_⟩))
    refine GoF.fin1 (i := 9) (hint := .p) (ps := []) (hk := []) (bk := []) (by kernel_rfl) rfl trivial (.inl rfl) ?_
    refine GoF.fin1 (i := 10) (hint := .p) (ps := []) (hk := []) (bk := []) (by kernel_rfl) rfl trivial (.inl rfl) ?_
    refine GoF.fin1 (i := 11) (hint := .b 0) (ps := [b_2 = b_2]) (hk := []) (bk := []) (by kernel_rfl) rfl (And.intro rfl trivial) (.inl rfl) ?_
    refine GoF.done (by kernel_rfl) ?_
    refine GoO.seq' c59_83e ?_
    refine GoO.region' (is := [0, 1, 2, 3, 4, 5]) c59_84e (by kernel_rfl) ?_
    refine GoO.exec (is := [0, 1]) (hs := [.p, .p]) (rest := [2, 3, 4, 5]) (ks := [135, 136]) (env' := [(135, .slice A_23 l_22.length c_24), (136, vI i_39)]) (H' := [⟨1, b_2, [vU r_48.Snap.Index, vU r_48.Snap.Term, vU r_48.Snap.Config, .string (bs r_48.Snap.Data), .slice A_55 (r_48.L ++ ((l_22.take (l_22.length : Int).toNat).drop i_39.toNat)).length c_56]⟩]) (ps := []) (by kernel_rfl) trivial ?_
    refine GoO.guard (fun h59 => ?_)
    refine OpTo.go (GoO.slc (e := 40) (K := kT_api_Entry) (A := A_23) (c := c_24) (xs := l_22) (j := 2) (l := i_39) (h := (l_22.length : Int)) rfl (by kernel_rfl) (by kernel_rfl) (by kernel_rfl) rfl Reads.rd rfl (by kernel_rfl) (by kernel_rfl) h59.1 h59.2.1 h59.2.2 _ (fun _ _ => rfl) (fun A_57 c_58 => ?_))
    refine GoO.nilOwn kT_api_Entry 40 ?_
    refine GoO.guard (fun h60 => ?_)
    refine OpTo.go (GoO.appW (e := 40) (K := kT_api_Entry) (A := none) (c := 0) (tg := 40) (bytes := 40) (zs := [vU 0, vU 0, vI 0, .string (bs [])]) (xs := ([] : List T_api_Entry)) (ys := (l_22.take (l_22.length : Int).toNat).drop i_39.toNat) (xv := .slice A_57 ((l_22.take (l_22.length : Int).toNat).drop i_39.toNat).length c_58) (j := 0) (bk := [1, 2, 3, 4]) rfl (by kernel_rfl) (by kernel_rfl) (by kernel_rfl) (by kernel_rfl) rfl (by kernel_rfl) rfl (fun w S hB => SrcIs.row (Reads.rd w S (hB _ (List.mem_of_getElem? (i := 1) rfl)))) h60 rfl rfl rfl rfl _ (fun _ _ => rfl) (fun A_61 c_62 => ?_))
    refine GoO.exec (is := [4, 5]) (hs := [.p, .p]) (rest := []) (ks := [8, 9]) (env' := [(8, .slice A_61 (([] : List T_api_Entry) ++ ((l_22.take (l_22.length : Int).toNat).drop i_39.toNat)).length c_62), (9, .bool true)]) (H' := [⟨1, b_2, [vU r_48.Snap.Index, vU r_48.Snap.Term, vU r_48.Snap.Config, .string (bs r_48.Snap.Data), .slice A_55 (r_48.L ++ ((l_22.take (l_22.length : Int).toNat).drop i_39.toNat)).length c_56]⟩]) (ps := []) (by kernel_rfl) trivial ?_
    refine GoO.regionEnd ?_
    refine GoO.retag (t := 40) (u := 3) (j := 0) (hk := [0]) (bk := [1, 2, 3, 4]) rfl rfl rfl rfl rfl rfl (by kernel_rfl) (by kernel_rfl) ?_
    exact GoO.ret' (h := c59_85e) (hs := []) (ps := []) (hk := [0]) (bk := [0, 2]) Try.func59 (⟨A_61, c_62, A_55, c_56⟩ : Option Addr × Nat × Option Addr × Nat) (by kernel_rfl) trivial (by kernel_rfl) (by kernel_rfl)
theorem tontineref07_Log_Merge_l2_ok (n : Nat) (g_1 : T_tontineref07_Log) (l_22 : (List T_api_Entry)) (b_2 : Nat) (A_3 : Option Addr) (c_4 : Nat) (A_23 : Option Addr) (c_24 : Nat) (A_8 : Option Addr) (c_9 : Nat) (w0 : World) (S0 : Fam) :
    ∀ (k : Nat) (i_39 : Int), GoO (tontineref07_Log_Merge.cx b_2 A_3 c_4 A_8 c_9 w0 S0) [(0, vP b_2), (3, .slice A_23 l_22.length c_24), (15, vI i_39)] [⟨1, b_2, [vU g_1.Snap.Index, vU g_1.Snap.Term, vU g_1.Snap.Config, .string (bs g_1.Snap.Data), .slice A_3 g_1.L.length c_4]⟩] [Ow 2 kT_api_Entry A_3 c_4 g_1.L, Rd 0 kT_api_Entry A_23 c_24 l_22] [.code c59_63, .inLoop c59_63, .inBlock 4, .code c59_87] (tontineref07_Log_Merge.l2 n g_1 l_22 k i_39) := by
  intro k
  induction k with
  | zero => intros; rw [tontineref07_Log_Merge.l2.eq_1]; exact GoO.stop
  | succ k ih2 =>
    intro i_39
    rw [tontineref07_Log_Merge.l2.eq_2]
    refine GoO.seq' c59_63e ?_
    refine GoO.seq' c59_64e ?_
    refine GoO.region' (is := [0, 1, 2, 3]) c59_65e (by kernel_rfl) ?_
    refine GoO.exec (is := [0, 1, 2, 3]) (hs := [.p, .p, .p, .p]) (rest := []) (ks := [0, 3, 15, 93]) (env' := [(0, vP b_2), (3, .slice A_23 l_22.length c_24), (15, vI i_39), (93, .bool (decide (i_39 < (l_22.length : Int))))]) (H' := [⟨1, b_2, [vU g_1.Snap.Index, vU g_1.Snap.Term, vU g_1.Snap.Config, .string (bs g_1.Snap.Data), .slice A_3 g_1.L.length c_4]⟩]) (ps := []) (by kernel_rfl) trivial ?_
    refine GoO.regionEnd ?_
    refine GoO.ite' c59_66e (by kernel_rfl) (fun h40 => ?_) (fun h40 => ?_)
    · refine GoO.skip' c59_67e ?_
      refine GoO.seq' c59_69e ?_
      refine GoO.block' c59_70e ?_
      refine GoO.seq' c59_71e ?_
      refine GoO.region' (is := [0, 1, 2, 3, 4, 5, 6, 7, 8, 9, 10, 11]) c59_72e (by kernel_rfl) ?_
      refine GoO.exec (is := [0, 1, 2]) (hs := [.p, .p, .p]) (rest := [3, 4, 5, 6, 7, 8, 9, 10, 11]) (ks := [0, 3, 15, 97, 98, 99]) (env' := [(0, vP b_2), (3, .slice A_23 l_22.length c_24), (15, vI i_39), (97, vP b_2), (98, .slice A_23 l_22.length c_24), (99, vI i_39)]) (H' := [⟨1, b_2, [vU g_1.Snap.Index, vU g_1.Snap.Term, vU g_1.Snap.Config, .string (bs g_1.Snap.Data), .slice A_3 g_1.L.length c_4]⟩]) (ps := []) (by kernel_rfl) trivial ?_
      refine GoO.guard (fun h41 => ?_)
      refine OpTo.go (GoO.idx (kk := .i64) (e := 40) (K := kT_api_Entry) (A := A_23) (c := c_24) (xs := l_22) (iv := i_39) (j := 1) rfl (by kernel_rfl) (by kernel_rfl) (by kernel_rfl) (by kernel_rfl) rfl Reads.rd rfl h41.1 h41.2 (by decide) rfl ?_)
      refine OpTo.go (GoO.fldE (K := kT_api_Entry) (A := A_23) (c := c_24) (xs := l_22) (iN := i_39.toNat) (off := 0) (n := 1) (j := 1) rfl (by kernel_rfl) (by kernel_rfl) rfl Reads.rd (by first | exact idx_lt h41.1 h41.2 | (simp only [List.length_set]; exact idx_lt h41.1 h41.2)) (by decide) rfl ?_)
      refine OpTo.go (GoO.ldE' (K := kT_api_Entry) (A := A_23) (c := c_24) (xs := l_22) (iN := i_39.toNat) (off := 1) (j := 1) rfl (by kernel_rfl) rfl Reads.rd (by first | exact idx_lt h41.1 h41.2 | (simp only [List.length_set]; exact idx_lt h41.1 h41.2)) (by decide) (Opn.flat _ _ _ _ _) (v := fun _ => vU ((rdL l_22 i_39).Index)) (fun _ => by kernel_rfl) _ (fun _ => rfl) (fun _ => ?_))
      refine OpTo.go (GoO.call rfl (by kernel_rfl) (by kernel_rfl) (tontineref07_Log_Term_ok n (⟨(⟨g_1.Snap.Index, g_1.Snap.Term, g_1.Snap.Config, g_1.Snap.Data⟩ : T_api_Snapshot), g_1.L⟩ : T_tontineref07_Log) ((rdL l_22 i_39).Index) b_2 A_3 c_4) [[0], [1], [2]] [] [(1, 0)] [(2, 0)] (hks := [0]) (bks := [0, 1]) (by kernel_rfl) (by kernel_rfl) (by kernel_rfl) (.inl rfl) rfl rfl (by kernel_rfl) (by kernel_rfl) _ (fun _ _ => rfl) _ _ (fun _ _ => rfl) (fun _ _ => rfl) (fun _ _ => by kernel_rfl) (fun _ _ => by kernel_rfl) (fun r_42 x_64 => ?_))
      refine GoO.shape (env' := [(0, vP b_2), (3, .slice A_23 l_22.length c_24), (15, vI i_39), (97, vP b_2), (98, .slice A_23 l_22.length c_24), (99, vI i_39), (100, elemP A_23 i_39.toNat 4 0), (101, elemP A_23 i_39.toNat 4 1), (102, vU ((rdL l_22 i_39).Index)), (103, .tuple ⟨[vU r_42.1, vI r_42.2]⟩)]) (H' := [⟨1, b_2, [vU g_1.Snap.Index, vU g_1.Snap.Term, vU g_1.Snap.Config, .string (bs g_1.Snap.Data), .slice A_3 g_1.L.length c_4]⟩]) (B' := [Ow 2 kT_api_Entry A_3 c_4 g_1.L, Rd 0 kT_api_Entry A_23 c_24 l_22]) (ks := [0, 3, 15, 97, 98, 99, 100, 101, 102, 103]) (by kernel_rfl) (by kernel_rfl) (by kernel_rfl) ?_
      refine GoO.exec (is := [7, 8, 9, 10, 11]) (hs := [.p, .p, .p, .p, .p]) (rest := []) (ks := [0, 3, 15, 16, 17]) (env' := [(0, vP b_2), (3, .slice A_23 l_22.length c_24), (15, vI i_39), (16, vU r_42.1), (17, vI r_42.2)]) (H' := [⟨1, b_2, [vU g_1.Snap.Index, vU g_1.Snap.Term, vU g_1.Snap.Config, .string (bs g_1.Snap.Data), .slice A_3 g_1.L.length c_4]⟩]) (ps := []) (by kernel_rfl) trivial ?_
      refine GoO.regionEnd ?_
      refine GoO.seq' c59_73e ?_
      refine GoO.seq' c59_74e ?_
      refine GoO.region' (is := [0, 1, 2, 3, 4, 5, 6, 7, 8, 9, 10]) c59_75e (by kernel_rfl) ?_
      refine GoO.exec (is := [0, 1, 2]) (hs := [.p, .p, .p]) (rest := [3, 4, 5, 6, 7, 8, 9, 10]) (ks := [0, 3, 15, 16, 108]) (env' := [(0, vP b_2), (3, .slice A_23 l_22.length c_24), (15, vI i_39), (16, vU r_42.1), (108, .bool (r_42.2 == 0))]) (H' := [⟨1, b_2, [vU g_1.Snap.Index, vU g_1.Snap.Term, vU g_1.Snap.Config, .string (bs g_1.Snap.Data), .slice A_3 g_1.L.length c_4]⟩]) (ps := []) (by kernel_rfl) trivial ?_
      refine GoO.bsplit (t := 108) (by kernel_rfl) (fun h43 => ?_) (fun h43 => ?_)
      · refine GoO.exec (is := [3, 4, 5]) (hs := [.p, .p, .p]) (rest := [6, 7, 8, 9, 10]) (ks := [0, 3, 15, 108, 109, 110, 111]) (env' := [(0, vP b_2), (3, .slice A_23 l_22.length c_24), (15, vI i_39), (108, .bool true), (109, vU r_42.1), (110, .slice A_23 l_22.length c_24), (111, vI i_39)]) (H' := [⟨1, b_2, [vU g_1.Snap.Index, vU g_1.Snap.Term, vU g_1.Snap.Config, .string (bs g_1.Snap.Data), .slice A_3 g_1.L.length c_4]⟩]) (ps := []) (by kernel_rfl) trivial ?_
        refine GoO.guard (fun h44 => ?_)
        refine OpTo.go (GoO.idx (kk := .i64) (e := 40) (K := kT_api_Entry) (A := A_23) (c := c_24) (xs := l_22) (iv := i_39) (j := 1) rfl (by kernel_rfl) (by kernel_rfl) (by kernel_rfl) (by kernel_rfl) rfl Reads.rd rfl h44.1 h44.2 (by decide) rfl ?_)
        refine OpTo.go (GoO.fldE (K := kT_api_Entry) (A := A_23) (c := c_24) (xs := l_22) (iN := i_39.toNat) (off := 0) (n := 0) (j := 1) rfl (by kernel_rfl) (by kernel_rfl) rfl Reads.rd (by first | exact idx_lt h44.1 h44.2 | (simp only [List.length_set]; exact idx_lt h44.1 h44.2)) (by decide) rfl ?_)
        refine OpTo.go (GoO.ldE' (K := kT_api_Entry) (A := A_23) (c := c_24) (xs := l_22) (iN := i_39.toNat) (off := 0) (j := 1) rfl (by kernel_rfl) rfl Reads.rd (by first | exact idx_lt h44.1 h44.2 | (simp only [List.length_set]; exact idx_lt h44.1 h44.2)) (by decide) (Opn.flat _ _ _ _ _) (v := fun _ => vU ((rdL l_22 i_39).Term)) (fun _ => by kernel_rfl) _ (fun _ => rfl) (fun _ => ?_))
        refine GoO.exec (is := [9, 10]) (hs := [.p, .p]) (rest := []) (ks := [0, 3, 15, 116]) (env' := [(0, vP b_2), (3, .slice A_23 l_22.length c_24), (15, vI i_39), (116, .bool (r_42.1 == ((rdL l_22 i_39).Term)))]) (H' := [⟨1, b_2, [vU g_1.Snap.Index, vU g_1.Snap.Term, vU g_1.Snap.Config, .string (bs g_1.Snap.Data), .slice A_3 g_1.L.length c_4]⟩]) (ps := []) (by kernel_rfl) trivial ?_
        refine GoO.regionEnd ?_
        exact GoO.sub (ks := [0, 3, 15, 116]) (hk := [0]) (bk := [0, 1]) (by kernel_rfl) (by kernel_rfl) (by kernel_rfl) (tontineref07_Log_Merge_j2_ok n (tontineref07_Log_Merge.l2 n g_1 l_22 k) g_1 l_22 i_39 b_2 A_3 c_4 A_8 c_9 A_23 c_24 w0 S0 ih2 (r_42.1 == ((rdL l_22 i_39).Term)))
      · refine GoO.exec (is := [3, 4, 5, 6, 7, 8, 9, 10]) (hs := [.p, .p, .p, .p, .p, .p, .p, .p]) (rest := []) (ks := [0, 3, 15, 116]) (env' := [(0, vP b_2), (3, .slice A_23 l_22.length c_24), (15, vI i_39), (116, .bool false)]) (H' := [⟨1, b_2, [vU g_1.Snap.Index, vU g_1.Snap.Term, vU g_1.Snap.Config, .string (bs g_1.Snap.Data), .slice A_3 g_1.L.length c_4]⟩]) (ps := []) (by kernel_rfl) trivial ?_
        refine GoO.regionEnd ?_
        exact GoO.sub (ks := [0, 3, 15, 116]) (hk := [0]) (bk := [0, 1]) (by kernel_rfl) (by kernel_rfl) (by kernel_rfl) (tontineref07_Log_Merge_j2_ok n (tontineref07_Log_Merge.l2 n g_1 l_22 k) g_1 l_22 i_39 b_2 A_3 c_4 A_8 c_9 A_23 c_24 w0 S0 ih2 false)
    · refine GoO.exit' c59_68e rfl ?_
      refine GoO.seq' c59_87e ?_
      refine GoO.region' (is := [0, 1]) c59_88e (by kernel_rfl) ?_
      refine GoO.exec (is := [0, 1]) (hs := [.p, .p]) (rest := []) (ks := [8, 9]) (env' := [(8, .slice none ([] : List T_api_Entry).length 0), (9, .bool true)]) (H' := [⟨1, b_2, [vU g_1.Snap.Index, vU g_1.Snap.Term, vU g_1.Snap.Config, .string (bs g_1.Snap.Data), .slice A_3 g_1.L.length c_4]⟩]) (ps := []) (by kernel_rfl) trivial ?_
      refine GoO.regionEnd ?_
      refine GoO.nilOwn kT_api_Entry 3 ?_
      exact GoO.ret' (h := c59_89e) (hs := []) (ps := []) (hk := [0]) (bk := [0, 1]) Try.func59 (⟨none, 0, A_3, c_4⟩ : Option Addr × Nat × Option Addr × Nat) (by kernel_rfl) trivial (by kernel_rfl) (by kernel_rfl)
theorem tontineref07_Log_Merge_j1_ok (n : Nat) (g_1 : T_tontineref07_Log) (l_22 : (List T_api_Entry)) (b_2 : Nat) (A_3 : Option Addr) (c_4 : Nat) (A_23 : Option Addr) (c_24 : Nat) (A_8 : Option Addr) (c_9 : Nat) (w0 : World) (S0 : Fam) (b_37 : Bool) :
    GoO (tontineref07_Log_Merge.cx b_2 A_3 c_4 A_8 c_9 w0 S0) [(0, vP b_2), (3, .slice A_23 l_22.length c_24), (89, .bool b_37)] [⟨1, b_2, [vU g_1.Snap.Index, vU g_1.Snap.Term, vU g_1.Snap.Config, .string (bs g_1.Snap.Data), .slice A_3 g_1.L.length c_4]⟩] [Ow 2 kT_api_Entry A_3 c_4 g_1.L, Rd 0 kT_api_Entry A_23 c_24 l_22] [.code c59_53, .code c59_58] (tontineref07_Log_Merge.j1 n g_1 l_22 b_37) := by
  unfold tontineref07_Log_Merge.j1
  refine GoO.ite' c59_53e (by kernel_rfl) (fun h38 => ?_) (fun h38 => ?_)
  · refine GoO.seq' c59_54e ?_
    refine GoO.region' (is := [0, 1]) c59_55e (by kernel_rfl) ?_
    refine GoO.exec (is := [0, 1]) (hs := [.p, .p]) (rest := []) (ks := [8, 9]) (env' := [(8, .slice none ([] : List T_api_Entry).length 0), (9, .bool false)]) (H' := [⟨1, b_2, [vU g_1.Snap.Index, vU g_1.Snap.Term, vU g_1.Snap.Config, .string (bs g_1.Snap.Data), .slice A_3 g_1.L.length c_4]⟩]) (ps := []) (by kernel_rfl) trivial ?_
    refine GoO.regionEnd ?_
    refine GoO.nilOwn kT_api_Entry 3 ?_
    exact GoO.ret' (h := c59_56e) (hs := []) (ps := []) (hk := [0]) (bk := [0, 1]) Try.func59 (⟨none, 0, A_3, c_4⟩ : Option Addr × Nat × Option Addr × Nat) (by kernel_rfl) trivial (by kernel_rfl) (by kernel_rfl)
  · refine GoO.skip' c59_57e ?_
    refine GoO.seq' c59_58e ?_
    refine GoO.seq' c59_59e ?_
    refine GoO.region' (is := [0]) c59_60e (by kernel_rfl) ?_
    refine GoO.exec (is := [0]) (hs := [.p]) (rest := []) (ks := [0, 3, 15]) (env' := [(0, vP b_2), (3, .slice A_23 l_22.length c_24), (15, vI 0)]) (H' := [⟨1, b_2, [vU g_1.Snap.Index, vU g_1.Snap.Term, vU g_1.Snap.Config, .string (bs g_1.Snap.Data), .slice A_3 g_1.L.length c_4]⟩]) (ps := []) (by kernel_rfl) trivial ?_
    refine GoO.regionEnd ?_
    refine GoO.block' c59_61e ?_
    refine GoO.loop' c59_62e ?_
    exact GoO.sub (ks := [0, 3, 15]) (hk := [0]) (bk := [0, 1]) (by kernel_rfl) (by kernel_rfl) (by kernel_rfl) (tontineref07_Log_Merge_l2_ok n g_1 l_22 b_2 A_3 c_4 A_23 c_24 A_8 c_9 w0 S0 n 0)
theorem tontineref07_Log_Merge_j0_ok (n : Nat) (L1 : Int → Int → (List T_api_Entry) → Option ((List T_api_Entry) × Bool × T_tontineref07_Log)) (g_1 : T_tontineref07_Log) (index_20 : Int) (term_21 : Int) (l_22 : (List T_api_Entry)) (b_2 : Nat) (A_3 : Option Addr) (c_4 : Nat) (A_8 : Option Addr) (c_9 : Nat) (A_23 : Option Addr) (c_24 : Nat) (w0 : World) (S0 : Fam) (ih1 : ∀ (index_20 : Int) (term_21 : Int) (l_22 : (List T_api_Entry)) (A_23 : Option Addr) (c_24 : Nat), GoO (tontineref07_Log_Merge.cx b_2 A_3 c_4 A_8 c_9 w0 S0) [(0, vP b_2), (1, vU index_20), (2, vU term_21), (3, .slice A_23 l_22.length c_24)] [⟨1, b_2, [vU g_1.Snap.Index, vU g_1.Snap.Term, vU g_1.Snap.Config, .string (bs g_1.Snap.Data), .slice A_3 g_1.L.length c_4]⟩] [Ow 2 kT_api_Entry A_3 c_4 g_1.L, Rd 0 kT_api_Entry A_23 c_24 l_22] [.code c59_30, .inLoop c59_30, .inBlock 2, .code c59_40] (L1 index_20 term_21 l_22)) (b_27 : Bool) :
    GoO (tontineref07_Log_Merge.cx b_2 A_3 c_4 A_8 c_9 w0 S0) [(0, vP b_2), (1, vU index_20), (2, vU term_21), (3, .slice A_23 l_22.length c_24), (59, .bool b_27)] [⟨1, b_2, [vU g_1.Snap.Index, vU g_1.Snap.Term, vU g_1.Snap.Config, .string (bs g_1.Snap.Data), .slice A_3 g_1.L.length c_4]⟩] [Ow 2 kT_api_Entry A_3 c_4 g_1.L, Rd 0 kT_api_Entry A_23 c_24 l_22] [.code c59_33, .code c59_36, .inLoop c59_30, .inBlock 2, .code c59_40] (tontineref07_Log_Merge.j0 n L1 g_1 index_20 term_21 l_22 b_27) := by
  unfold tontineref07_Log_Merge.j0
  refine GoO.ite' c59_33e (by kernel_rfl) (fun h28 => ?_) (fun h28 => ?_)
  · refine GoO.skip' c59_34e ?_
    refine GoO.block' c59_36e ?_
    refine GoO.seq' c59_37e ?_
    refine GoO.draw c59_38e (by kernel_rfl) [9] [] [Rd 0 kT_api_Entry A_23 c_24 l_22] (n := 10) (by kernel_rfl) ?_
    simp only [List.replicate]
    refine GoF.take [0, 4] [.p, .p] (ks := [0, 3, 60, 64]) (fu := 8) (li := [true, false, false, false, true, false, false, false, false, false]) (env' := [(0, vP b_2), (3, .slice A_23 l_22.length c_24), (60, .slice A_23 l_22.length c_24), (64, .slice A_23 l_22.length c_24)]) (ps := []) (hk := []) (bk := [1]) (by kernel_rfl) trivial rfl rfl ?_
    refine GoF.guard (fun h29 => ?_)
    refine GoF.idx (i := 1) (hk := []) (bk := [1]) (kk := .i64) (e := 40) (K := kT_api_Entry) (A := A_23) (c := c_24) (xs := l_22) (iv := 0) (j := 0) (by kernel_rfl) rfl rfl rfl (by kernel_rfl) (by kernel_rfl) (by kernel_rfl) (by kernel_rfl) rfl Reads.rd rfl h29.1 h29.2 (by decide) rfl ?_
    refine GoF.fldE (i := 2) (hk := []) (bk := [1]) (K := kT_api_Entry) (A := A_23) (c := c_24) (xs := l_22) (iN := (0 : Int).toNat) (off := 0) (n := 1) (j := 0) (by kernel_rfl) rfl rfl rfl (by kernel_rfl) (by kernel_rfl) rfl Reads.rd (by first | exact idx_lt h29.1 h29.2 | (simp only [List.length_set]; exact idx_lt h29.1 h29.2)) (by decide) rfl ?_
    refine GoF.ldE (i := 3) (hk := []) (bk := [1]) (K := kT_api_Entry) (A := A_23) (c := c_24) (xs := l_22) (iN := (0 : Int).toNat) (off := 1) (j := 0) (v := vU ((rdL l_22 (0 : Int)).Index)) (by kernel_rfl) rfl rfl rfl (hK := rfl) (by kernel_rfl) rfl Reads.rd (by first | exact idx_lt h29.1 h29.2 | (simp only [List.length_set]; exact idx_lt h29.1 h29.2)) (by decide) (by kernel_rfl) rfl ?_
    refine GoF.take [8] [.p] (ks := [0, 1, 3, 64]) (fu := 4) (li := [true, true, true, true, true, false, false, false, true, false]) (env' := [(0, vP b_2), (1, vU ((rdL l_22 (0 : Int)).Index)), (3, .slice A_23 l_22.length c_24), (64, .slice A_23 l_22.length c_24)]) (ps := []) (hk := []) (bk := [1]) (by kernel_rfl) trivial rfl rfl ?_
    refine GoF.guard (fun h30 => ?_)
    refine GoF.idx (i := 5) (hk := []) (bk := [1]) (kk := .i64) (e := 40) (K := kT_api_Entry) (A := A_23) (c := c_24) (xs := l_22) (iv := 0) (j := 0) (by kernel_rfl) rfl rfl rfl (by kernel_rfl) (by kernel_rfl) (by kernel_rfl) (by kernel_rfl) rfl Reads.rd rfl h30.1 h30.2 (by decide) rfl ?_
    refine GoF.fldE (i := 6) (hk := []) (bk := [1]) (K := kT_api_Entry) (A := A_23) (c := c_24) (xs := l_22) (iN := (0 : Int).toNat) (off := 0) (n := 0) (j := 0) (by kernel_rfl) rfl rfl rfl (by kernel_rfl) (by kernel_rfl) rfl Reads.rd (by first | exact idx_lt h30.1 h30.2 | (simp only [List.length_set]; exact idx_lt h30.1 h30.2)) (by decide) rfl ?_
    refine GoF.ldE (i := 7) (hk := []) (bk := [1]) (K := kT_api_Entry) (A := A_23) (c := c_24) (xs := l_22) (iN := (0 : Int).toNat) (off := 0) (j := 0) (v := vU ((rdL l_22 (0 : Int)).Term)) (by kernel_rfl) rfl rfl rfl (hK := rfl) (by kernel_rfl) rfl Reads.rd (by first | exact idx_lt h30.1 h30.2 | (simp only [List.length_set]; exact idx_lt h30.1 h30.2)) (by decide) (by kernel_rfl) rfl ?_
    refine GoF.fin1 (i := 9) (hint := .p) (ps := []) (hk := []) (bk := []) (by kernel_rfl) rfl trivial (.inl rfl) ?_
    refine GoF.done (by kernel_rfl) ?_
    refine GoO.region' (is := [0, 1, 2]) c59_39e (by kernel_rfl) ?_
    refine GoO.exec (is := [0]) (hs := [.p]) (rest := [1, 2]) (ks := [0, 1, 2, 68]) (env' := [(0, vP b_2), (1, vU ((rdL l_22 (0 : Int)).Index)), (2, vU ((rdL l_22 (0 : Int)).Term)), (68, .slice A_23 l_22.length c_24)]) (H' := [⟨1, b_2, [vU g_1.Snap.Index, vU g_1.Snap.Term, vU g_1.Snap.Config, .string (bs g_1.Snap.Data), .slice A_3 g_1.L.length c_4]⟩]) (ps := []) (by kernel_rfl) trivial ?_
    refine GoO.guard (fun h33 => ?_)
    refine OpTo.go (GoO.slc (e := 40) (K := kT_api_Entry) (A := A_23) (c := c_24) (xs := l_22) (j := 1) (l := (1 : Int)) (h := (l_22.length : Int)) rfl (by kernel_rfl) (by kernel_rfl) (by kernel_rfl) rfl Reads.rd rfl (by kernel_rfl) (by kernel_rfl) h33.1 h33.2.1 h33.2.2 _ (fun _ _ => rfl) (fun A_31 c_32 => ?_))
    refine GoO.exec (is := [2]) (hs := [.p]) (rest := []) (ks := [0, 1, 2, 3]) (env' := [(0, vP b_2), (1, vU ((rdL l_22 (0 : Int)).Index)), (2, vU ((rdL l_22 (0 : Int)).Term)), (3, .slice A_31 ((l_22.take (l_22.length : Int).toNat).drop (1 : Int).toNat).length c_32)]) (H' := [⟨1, b_2, [vU g_1.Snap.Index, vU g_1.Snap.Term, vU g_1.Snap.Config, .string (bs g_1.Snap.Data), .slice A_3 g_1.L.length c_4]⟩]) (ps := []) (by kernel_rfl) trivial ?_
    refine GoO.regionEnd ?_
    refine GoO.inBlock ?_
    refine GoO.inLoop ?_
    exact GoO.sub (ks := [0, 1, 2, 3]) (hk := [0]) (bk := [1, 0]) (by kernel_rfl) (by kernel_rfl) (by kernel_rfl) (ih1 ((rdL l_22 (0 : Int)).Index) ((rdL l_22 (0 : Int)).Term) ((l_22.take (l_22.length : Int).toNat).drop (1 : Int).toNat) A_31 c_32)
  · refine GoO.exit' c59_35e rfl ?_
    refine GoO.seq' c59_40e ?_
    refine GoO.seq' c59_41e ?_
    refine GoO.region' (is := [0, 1, 2, 3, 4, 5, 6]) c59_42e (by kernel_rfl) ?_
    refine GoO.exec (is := [0, 1, 2, 3, 4, 5, 6]) (hs := [.p, .p, .p, .p, .p, .b 0, .p]) (rest := []) (ks := [0, 1, 2, 3, 76]) (env' := [(0, vP b_2), (1, vU index_20), (2, vU term_21), (3, .slice A_23 l_22.length c_24), (76, .bool (decide (index_20 < g_1.Snap.Index)))]) (H' := [⟨1, b_2, [vU g_1.Snap.Index, vU g_1.Snap.Term, vU g_1.Snap.Config, .string (bs g_1.Snap.Data), .slice A_3 g_1.L.length c_4]⟩]) (ps := [b_2 = b_2]) (by kernel_rfl) (And.intro rfl trivial) ?_
    refine GoO.regionEnd ?_
    refine GoO.ite' c59_43e (by kernel_rfl) (fun h34 => ?_) (fun h34 => ?_)
    · refine GoO.seq' c59_44e ?_
      refine GoO.region' (is := [0, 1]) c59_45e (by kernel_rfl) ?_
      refine GoO.exec (is := [0, 1]) (hs := [.p, .p]) (rest := []) (ks := [8, 9]) (env' := [(8, .slice none ([] : List T_api_Entry).length 0), (9, .bool true)]) (H' := [⟨1, b_2, [vU g_1.Snap.Index, vU g_1.Snap.Term, vU g_1.Snap.Config, .string (bs g_1.Snap.Data), .slice A_3 g_1.L.length c_4]⟩]) (ps := []) (by kernel_rfl) trivial ?_
      refine GoO.regionEnd ?_
      refine GoO.nilOwn kT_api_Entry 3 ?_
      exact GoO.ret' (h := c59_46e) (hs := []) (ps := []) (hk := [0]) (bk := [0, 1]) Try.func59 (⟨none, 0, A_3, c_4⟩ : Option Addr × Nat × Option Addr × Nat) (by kernel_rfl) trivial (by kernel_rfl) (by kernel_rfl)
    · refine GoO.skip' c59_47e ?_
      refine GoO.seq' c59_48e ?_
      refine GoO.region' (is := [0, 1, 2, 3, 4, 5, 6, 7]) c59_49e (by kernel_rfl) ?_
      refine GoO.exec (is := [0, 1]) (hs := [.p, .p]) (rest := [2, 3, 4, 5, 6, 7]) (ks := [0, 2, 3, 78, 79]) (env' := [(0, vP b_2), (2, vU term_21), (3, .slice A_23 l_22.length c_24), (78, vP b_2), (79, vU index_20)]) (H' := [⟨1, b_2, [vU g_1.Snap.Index, vU g_1.Snap.Term, vU g_1.Snap.Config, .string (bs g_1.Snap.Data), .slice A_3 g_1.L.length c_4]⟩]) (ps := []) (by kernel_rfl) trivial ?_
      refine OpTo.go (GoO.call rfl (by kernel_rfl) (by kernel_rfl) (tontineref07_Log_Term_ok n (⟨(⟨g_1.Snap.Index, g_1.Snap.Term, g_1.Snap.Config, g_1.Snap.Data⟩ : T_api_Snapshot), g_1.L⟩ : T_tontineref07_Log) index_20 b_2 A_3 c_4) [[0], [1], [2]] [] [(1, 0)] [(2, 0)] (hks := [0]) (bks := [0, 1]) (by kernel_rfl) (by kernel_rfl) (by kernel_rfl) (.inl rfl) rfl rfl (by kernel_rfl) (by kernel_rfl) _ (fun _ _ => rfl) _ _ (fun _ _ => rfl) (fun _ _ => rfl) (fun _ _ => by kernel_rfl) (fun _ _ => by kernel_rfl) (fun r_35 x_65 => ?_))
      refine GoO.shape (env' := [(0, vP b_2), (2, vU term_21), (3, .slice A_23 l_22.length c_24), (78, vP b_2), (79, vU index_20), (80, .tuple ⟨[vU r_35.1, vI r_35.2]⟩)]) (H' := [⟨1, b_2, [vU g_1.Snap.Index, vU g_1.Snap.Term, vU g_1.Snap.Config, .string (bs g_1.Snap.Data), .slice A_3 g_1.L.length c_4]⟩]) (B' := [Ow 2 kT_api_Entry A_3 c_4 g_1.L, Rd 0 kT_api_Entry A_23 c_24 l_22]) (ks := [0, 2, 3, 78, 79, 80]) (by kernel_rfl) (by kernel_rfl) (by kernel_rfl) ?_
      refine GoO.exec (is := [3, 4, 5, 6, 7]) (hs := [.p, .p, .p, .p, .p]) (rest := []) (ks := [0, 2, 3, 13, 14]) (env' := [(0, vP b_2), (2, vU term_21), (3, .slice A_23 l_22.length c_24), (13, vU r_35.1), (14, vI r_35.2)]) (H' := [⟨1, b_2, [vU g_1.Snap.Index, vU g_1.Snap.Term, vU g_1.Snap.Config, .string (bs g_1.Snap.Data), .slice A_3 g_1.L.length c_4]⟩]) (ps := []) (by kernel_rfl) trivial ?_
      refine GoO.regionEnd ?_
      refine GoO.seq' c59_50e ?_
      refine GoO.seq' c59_51e ?_
      refine GoO.region' (is := [0, 1, 2, 3, 4, 5, 6]) c59_52e (by kernel_rfl) ?_
      refine GoO.exec (is := [0, 1, 2]) (hs := [.p, .p, .p]) (rest := [3, 4, 5, 6]) (ks := [0, 2, 3, 13, 85]) (env' := [(0, vP b_2), (2, vU term_21), (3, .slice A_23 l_22.length c_24), (13, vU r_35.1), (85, .bool (r_35.2 != 0))]) (H' := [⟨1, b_2, [vU g_1.Snap.Index, vU g_1.Snap.Term, vU g_1.Snap.Config, .string (bs g_1.Snap.Data), .slice A_3 g_1.L.length c_4]⟩]) (ps := []) (by kernel_rfl) trivial ?_
      refine GoO.bsplit (t := 85) (by kernel_rfl) (fun h36 => ?_) (fun h36 => ?_)
      · refine GoO.exec (is := [3, 4, 5, 6]) (hs := [.p, .p, .p, .p]) (rest := []) (ks := [0, 3, 89]) (env' := [(0, vP b_2), (3, .slice A_23 l_22.length c_24), (89, .bool true)]) (H' := [⟨1, b_2, [vU g_1.Snap.Index, vU g_1.Snap.Term, vU g_1.Snap.Config, .string (bs g_1.Snap.Data), .slice A_3 g_1.L.length c_4]⟩]) (ps := []) (by kernel_rfl) trivial ?_
        refine GoO.regionEnd ?_
        exact GoO.sub (ks := [0, 3, 89]) (hk := [0]) (bk := [0, 1]) (by kernel_rfl) (by kernel_rfl) (by kernel_rfl) (tontineref07_Log_Merge_j1_ok n g_1 l_22 b_2 A_3 c_4 A_23 c_24 A_8 c_9 w0 S0 true)
      · refine GoO.exec (is := [3, 4, 5, 6]) (hs := [.p, .p, .p, .p]) (rest := []) (ks := [0, 3, 89]) (env' := [(0, vP b_2), (3, .slice A_23 l_22.length c_24), (89, .bool (r_35.1 != term_21))]) (H' := [⟨1, b_2, [vU g_1.Snap.Index, vU g_1.Snap.Term, vU g_1.Snap.Config, .string (bs g_1.Snap.Data), .slice A_3 g_1.L.length c_4]⟩]) (ps := []) (by kernel_rfl) trivial ?_
        refine GoO.regionEnd ?_
        exact GoO.sub (ks := [0, 3, 89]) (hk := [0]) (bk := [0, 1]) (by kernel_rfl) (by kernel_rfl) (by kernel_rfl) (tontineref07_Log_Merge_j1_ok n g_1 l_22 b_2 A_3 c_4 A_23 c_24 A_8 c_9 w0 S0 (r_35.1 != term_21))
theorem tontineref07_Log_Merge_l1_ok (n : Nat) (g_1 : T_tontineref07_Log) (b_2 : Nat) (A_3 : Option Addr) (c_4 : Nat) (A_8 : Option Addr) (c_9 : Nat) (w0 : World) (S0 : Fam) :
    ∀ (k : Nat) (index_20 : Int) (term_21 : Int) (l_22 : (List T_api_Entry)) (A_23 : Option Addr) (c_24 : Nat), GoO (tontineref07_Log_Merge.cx b_2 A_3 c_4 A_8 c_9 w0 S0) [(0, vP b_2), (1, vU index_20), (2, vU term_21), (3, .slice A_23 l_22.length c_24)] [⟨1, b_2, [vU g_1.Snap.Index, vU g_1.Snap.Term, vU g_1.Snap.Config, .string (bs g_1.Snap.Data), .slice A_3 g_1.L.length c_4]⟩] [Ow 2 kT_api_Entry A_3 c_4 g_1.L, Rd 0 kT_api_Entry A_23 c_24 l_22] [.code c59_30, .inLoop c59_30, .inBlock 2, .code c59_40] (tontineref07_Log_Merge.l1 n g_1 k index_20 term_21 l_22) := by
  intro k
  induction k with
  | zero => intros; rw [tontineref07_Log_Merge.l1.eq_1]; exact GoO.stop
  | succ k ih1 =>
    intro index_20 term_21 l_22 A_23 c_24
    rw [tontineref07_Log_Merge.l1.eq_2]
    refine GoO.seq' c59_30e ?_
    refine GoO.seq' c59_31e ?_
    refine GoO.draw c59_32e (by kernel_rfl) [] [⟨1, b_2, [vU g_1.Snap.Index, vU g_1.Snap.Term, vU g_1.Snap.Config, .string (bs g_1.Snap.Data), .slice A_3 g_1.L.length c_4]⟩] [Rd 0 kT_api_Entry A_23 c_24 l_22] (n := 15) (by kernel_rfl) ?_
    simp only [List.replicate]
    refine GoF.take [0, 1, 2, 3] [.p, .p, .p, .p] (ks := [0, 1, 2, 3, 48]) (fu := 11) (li := [true, true, true, true, false, false, false, false, false, false, false, false, false, false, false]) (env' := [(0, vP b_2), (1, vU index_20), (2, vU term_21), (3, .slice A_23 l_22.length c_24), (48, .bool (decide ((l_22.length : Int) > 0)))]) (ps := []) (hk := [0]) (bk := [1]) (by kernel_rfl) trivial rfl rfl ?_
    refine GoF.bsplit (t := 48) (by kernel_rfl) (fun h25 => ?_) (fun h25 => ?_)
    · refine GoF.take [4, 8, 9, 10, 11, 12] [.p, .p, .p, .p, .p, .b 0] (ks := [0, 1, 2, 3, 48, 49, 57]) (fu := 5) (li := [true, true, true, true, true, false, false, false, true, true, true, true, true, false, false]) (env' := [(0, vP b_2), (1, vU index_20), (2, vU term_21), (3, .slice A_23 l_22.length c_24), (48, .bool true), (49, .slice A_23 l_22.length c_24), (57, vU g_1.Snap.Index)]) (ps := [b_2 = b_2]) (hk := [0]) (bk := [1]) (by kernel_rfl) (And.intro rfl trivial) rfl rfl ?_
      refine GoF.guard (fun h26 => ?_)
      refine GoF.idx (i := 5) (hk := [0]) (bk := [1]) (kk := .i64) (e := 40) (K := kT_api_Entry) (A := A_23) (c := c_24) (xs := l_22) (iv := 0) (j := 0) (by kernel_rfl) rfl rfl rfl (by kernel_rfl) (by kernel_rfl) (by kernel_rfl) (by kernel_rfl) rfl Reads.rd rfl h26.1 h26.2 (by decide) rfl ?_
      refine GoF.fldE (i := 6) (hk := [0]) (bk := [1]) (K := kT_api_Entry) (A := A_23) (c := c_24) (xs := l_22) (iN := (0 : Int).toNat) (off := 0) (n := 1) (j := 0) (by kernel_rfl) rfl rfl rfl (by kernel_rfl) (by kernel_rfl) rfl Reads.rd (by first | exact idx_lt h26.1 h26.2 | (simp only [List.length_set]; exact idx_lt h26.1 h26.2)) (by decide) rfl ?_
      refine GoF.ldE (i := 7) (hk := [0]) (bk := [1]) (K := kT_api_Entry) (A := A_23) (c := c_24) (xs := l_22) (iN := (0 : Int).toNat) (off := 1) (j := 0) (v := vU ((rdL l_22 (0 : Int)).Index)) (by kernel_rfl) rfl rfl rfl (hK := rfl) (by kernel_rfl) rfl Reads.rd (by first | exact idx_lt h26.1 h26.2 | (simp only [List.length_set]; exact idx_lt h26.1 h26.2)) (by decide) (by kernel_rfl) rfl ?_
      refine GoF.take [13, 14] [.p, .p] (ks := [0, 1, 2, 3, 59]) (fu := 0) (li := [true, true, true, true, true, true, true, true, true, true, true, true, true, true, true]) (env' := [(0, vP b_2), (1, vU index_20), (2, vU term_21), (3, .slice A_23 l_22.length c_24), (59, .bool (decide (((rdL l_22 (0 : Int)).Index) ≤ g_1.Snap.Index)))]) (ps := []) (hk := [0]) (bk := [1]) (by kernel_rfl) trivial rfl rfl ?_
      refine GoF.done (by kernel_rfl) ?_
      exact GoO.sub (ks := [0, 1, 2, 3, 59]) (hk := [0]) (bk := [0, 1]) (by kernel_rfl) (by kernel_rfl) (by kernel_rfl) (tontineref07_Log_Merge_j0_ok n (tontineref07_Log_Merge.l1 n g_1 k) g_1 index_20 term_21 l_22 b_2 A_3 c_4 A_8 c_9 A_23 c_24 w0 S0 ih1 (decide (((rdL l_22 (0 : Int)).Index) ≤ g_1.Snap.Index)))
    · refine GoF.take [4, 5, 6, 7, 8, 9, 10, 11, 12, 13, 14] [.p, .p, .p, .p, .p, .p, .p, .p, .p, .p, .p] (ks := [0, 1, 2, 3, 59]) (fu := 0) (li := [true, true, true, true, true, true, true, true, true, true, true, true, true, true, true]) (env' := [(0, vP b_2), (1, vU index_20), (2, vU term_21), (3, .slice A_23 l_22.length c_24), (59, .bool false)]) (ps := []) (hk := [0]) (bk := [1]) (by kernel_rfl) trivial rfl rfl ?_
      refine GoF.done (by kernel_rfl) ?_
      exact GoO.sub (ks := [0, 1, 2, 3, 59]) (hk := [0]) (bk := [0, 1]) (by kernel_rfl) (by kernel_rfl) (by kernel_rfl) (tontineref07_Log_Merge_j0_ok n (tontineref07_Log_Merge.l1 n g_1 k) g_1 index_20 term_21 l_22 b_2 A_3 c_4 A_8 c_9 A_23 c_24 w0 S0 ih1 false)
theorem tontineref07_Log_Merge_l0_ok (n : Nat) (g_1 : T_tontineref07_Log) (index_5 : Int) (term_6 : Int) (l_7 : (List T_api_Entry)) (b_2 : Nat) (A_3 : Option Addr) (c_4 : Nat) (A_8 : Option Addr) (c_9 : Nat) (w0 : World) (S0 : Fam) :
    ∀ (k : Nat) (at_10 : Int) (t_11 : Int) (i_12 : Int), GoO (tontineref07_Log_Merge.cx b_2 A_3 c_4 A_8 c_9 w0 S0) [(0, vP b_2), (1, vU index_5), (2, vU term_6), (3, .slice A_8 l_7.length c_9), (10, vU at_10), (11, vU t_11), (12, vI i_12)] [⟨1, b_2, [vU g_1.Snap.Index, vU g_1.Snap.Term, vU g_1.Snap.Config, .string (bs g_1.Snap.Data), .slice A_3 g_1.L.length c_4]⟩] [Ow 2 kT_api_Entry A_3 c_4 g_1.L, Rd 0 kT_api_Entry A_8 c_9 l_7] [.code c59_9, .inLoop c59_9, .inBlock 0, .code c59_27] (tontineref07_Log_Merge.l0 n g_1 index_5 term_6 l_7 k at_10 t_11 i_12) := by
  intro k
  induction k with
  | zero => intros; rw [tontineref07_Log_Merge.l0.eq_1]; exact GoO.stop
  | succ k ih0 =>
    intro at_10 t_11 i_12
    rw [tontineref07_Log_Merge.l0.eq_2]
    refine GoO.seq' c59_9e ?_
    refine GoO.seq' c59_10e ?_
    refine GoO.region' (is := [0, 1, 2, 3]) c59_11e (by kernel_rfl) ?_
    refine GoO.exec (is := [0, 1, 2, 3]) (hs := [.p, .p, .p, .p]) (rest := []) (ks := [0, 1, 2, 3, 10, 11, 12, 23]) (env' := [(0, vP b_2), (1, vU index_5), (2, vU term_6), (3, .slice A_8 l_7.length c_9), (10, vU at_10), (11, vU t_11), (12, vI i_12), (23, .bool (decide (i_12 < (l_7.length : Int))))]) (H' := [⟨1, b_2, [vU g_1.Snap.Index, vU g_1.Snap.Term, vU g_1.Snap.Config, .string (bs g_1.Snap.Data), .slice A_3 g_1.L.length c_4]⟩]) (ps := []) (by kernel_rfl) trivial ?_
    refine GoO.regionEnd ?_
    refine GoO.ite' c59_12e (by kernel_rfl) (fun h13 => ?_) (fun h13 => ?_)
    · refine GoO.skip' c59_13e ?_
      refine GoO.seq' c59_15e ?_
      refine GoO.block' c59_16e ?_
      refine GoO.seq' c59_17e ?_
      refine GoO.seq' c59_18e ?_
      refine GoO.region' (is := [0, 1, 2, 3, 4, 5, 6, 7, 8]) c59_19e (by kernel_rfl) ?_
      refine GoO.exec (is := [0, 1]) (hs := [.p, .p]) (rest := [2, 3, 4, 5, 6, 7, 8]) (ks := [0, 1, 2, 3, 10, 11, 12, 26, 27]) (env' := [(0, vP b_2), (1, vU index_5), (2, vU term_6), (3, .slice A_8 l_7.length c_9), (10, vU at_10), (11, vU t_11), (12, vI i_12), (26, .slice A_8 l_7.length c_9), (27, vI i_12)]) (H' := [⟨1, b_2, [vU g_1.Snap.Index, vU g_1.Snap.Term, vU g_1.Snap.Config, .string (bs g_1.Snap.Data), .slice A_3 g_1.L.length c_4]⟩]) (ps := []) (by kernel_rfl) trivial ?_
      refine GoO.guard (fun h14 => ?_)
      refine OpTo.go (GoO.idx (kk := .i64) (e := 40) (K := kT_api_Entry) (A := A_8) (c := c_9) (xs := l_7) (iv := i_12) (j := 1) rfl (by kernel_rfl) (by kernel_rfl) (by kernel_rfl) (by kernel_rfl) rfl Reads.rd rfl h14.1 h14.2 (by decide) rfl ?_)
      refine OpTo.go (GoO.ldE' (K := kT_api_Entry) (A := A_8) (c := c_9) (xs := l_7) (iN := i_12.toNat) (off := 0) (j := 1) rfl (by kernel_rfl) rfl Reads.rd (by first | exact idx_lt h14.1 h14.2 | (simp only [List.length_set]; exact idx_lt h14.1 h14.2)) (by decide) (Opn.flat _ _ _ _ _) (v := fun _ => .agg ⟨[vU ((rdL l_7 i_12).Term), vU ((rdL l_7 i_12).Index), vI ((rdL l_7 i_12).Kind), .string (bs ((rdL l_7 i_12).Data))]⟩) (fun _ => by kernel_rfl) _ (fun _ => rfl) (fun _ => ?_))
      refine GoO.exec (is := [4, 5, 6]) (hs := [.p, .p, .p]) (rest := [7, 8]) (ks := [0, 1, 2, 3, 12, 29, 31, 32]) (env' := [(0, vP b_2), (1, vU index_5), (2, vU term_6), (3, .slice A_8 l_7.length c_9), (12, vI i_12), (29, .agg ⟨[vU ((rdL l_7 i_12).Term), vU ((rdL l_7 i_12).Index), vI ((rdL l_7 i_12).Kind), .string (bs ((rdL l_7 i_12).Data))]⟩), (31, vU (wu64 (at_10 + 1))), (32, vU t_11)]) (H' := [⟨1, b_2, [vU g_1.Snap.Index, vU g_1.Snap.Term, vU g_1.Snap.Config, .string (bs g_1.Snap.Data), .slice A_3 g_1.L.length c_4]⟩]) (ps := []) (by kernel_rfl) trivial ?_
      refine OpTo.go (GoO.call rfl (by kernel_rfl) (by kernel_rfl) (tontineref07_May_ok n (rdL l_7 i_12) (wu64 (at_10 + 1)) t_11) [[0]] [] [] [] (hks := [0]) (bks := [0, 1]) (by kernel_rfl) (by kernel_rfl) (by kernel_rfl) (.inl rfl) rfl rfl (by kernel_rfl) (by kernel_rfl) _ (fun _ _ => rfl) _ _ (fun _ _ => rfl) (fun _ _ => rfl) (fun _ _ => by kernel_rfl) (fun _ _ => by kernel_rfl) (fun r_15 x_19 => ?_))
      refine GoO.shape (env' := [(0, vP b_2), (1, vU index_5), (2, vU term_6), (3, .slice A_8 l_7.length c_9), (12, vI i_12), (29, .agg ⟨[vU ((rdL l_7 i_12).Term), vU ((rdL l_7 i_12).Index), vI ((rdL l_7 i_12).Kind), .string (bs ((rdL l_7 i_12).Data))]⟩), (31, vU (wu64 (at_10 + 1))), (32, vU t_11), (33, .bool r_15)]) (H' := [⟨1, b_2, [vU g_1.Snap.Index, vU g_1.Snap.Term, vU g_1.Snap.Config, .string (bs g_1.Snap.Data), .slice A_3 g_1.L.length c_4]⟩]) (B' := [Ow 2 kT_api_Entry A_3 c_4 g_1.L, Rd 0 kT_api_Entry A_8 c_9 l_7]) (ks := [0, 1, 2, 3, 12, 29, 31, 32, 33]) (by kernel_rfl) (by kernel_rfl) (by kernel_rfl) ?_
      refine GoO.exec (is := [8]) (hs := [.p]) (rest := []) (ks := [0, 1, 2, 3, 12, 34]) (env' := [(0, vP b_2), (1, vU index_5), (2, vU term_6), (3, .slice A_8 l_7.length c_9), (12, vI i_12), (34, .bool (!r_15))]) (H' := [⟨1, b_2, [vU g_1.Snap.Index, vU g_1.Snap.Term, vU g_1.Snap.Config, .string (bs g_1.Snap.Data), .slice A_3 g_1.L.length c_4]⟩]) (ps := []) (by kernel_rfl) trivial ?_
      refine GoO.regionEnd ?_
      refine GoO.ite' c59_20e (by kernel_rfl) (fun h16 => ?_) (fun h16 => ?_)
      · refine GoO.seq' c59_21e ?_
        refine GoO.region' (is := [0, 1]) c59_22e (by kernel_rfl) ?_
        refine GoO.exec (is := [0, 1]) (hs := [.p, .p]) (rest := []) (ks := [8, 9]) (env' := [(8, .slice none ([] : List T_api_Entry).length 0), (9, .bool false)]) (H' := [⟨1, b_2, [vU g_1.Snap.Index, vU g_1.Snap.Term, vU g_1.Snap.Config, .string (bs g_1.Snap.Data), .slice A_3 g_1.L.length c_4]⟩]) (ps := []) (by kernel_rfl) trivial ?_
        refine GoO.regionEnd ?_
        refine GoO.nilOwn kT_api_Entry 3 ?_
        exact GoO.ret' (h := c59_23e) (hs := []) (ps := []) (hk := [0]) (bk := [0, 1]) Try.func59 (⟨none, 0, A_3, c_4⟩ : Option Addr × Nat × Option Addr × Nat) (by kernel_rfl) trivial (by kernel_rfl) (by kernel_rfl)
      · refine GoO.skip' c59_24e ?_
        refine GoO.draw c59_25e (by kernel_rfl) [11] [] [Rd 0 kT_api_Entry A_8 c_9 l_7] (n := 12) (by kernel_rfl) ?_
        simp only [List.replicate]
        refine GoF.take [0, 1, 5, 6] [.p, .p, .p, .p] (ks := [0, 1, 2, 3, 12, 35, 36, 40, 41]) (fu := 8) (li := [true, true, false, false, false, true, true, false, false, false, false, false]) (env' := [(0, vP b_2), (1, vU index_5), (2, vU term_6), (3, .slice A_8 l_7.length c_9), (12, vI i_12), (35, .slice A_8 l_7.length c_9), (36, vI i_12), (40, .slice A_8 l_7.length c_9), (41, vI i_12)]) (ps := []) (hk := []) (bk := [1]) (by kernel_rfl) trivial rfl rfl ?_
        refine GoF.guard (fun h17 => ?_)
        refine GoF.idx (i := 2) (hk := []) (bk := [1]) (kk := .i64) (e := 40) (K := kT_api_Entry) (A := A_8) (c := c_9) (xs := l_7) (iv := i_12) (j := 0) (by kernel_rfl) rfl rfl rfl (by kernel_rfl) (by kernel_rfl) (by kernel_rfl) (by kernel_rfl) rfl Reads.rd rfl h17.1 h17.2 (by decide) rfl ?_
        refine GoF.fldE (i := 3) (hk := []) (bk := [1]) (K := kT_api_Entry) (A := A_8) (c := c_9) (xs := l_7) (iN := i_12.toNat) (off := 0) (n := 1) (j := 0) (by kernel_rfl) rfl rfl rfl (by kernel_rfl) (by kernel_rfl) rfl Reads.rd (by first | exact idx_lt h17.1 h17.2 | (simp only [List.length_set]; exact idx_lt h17.1 h17.2)) (by decide) rfl ?_
        refine GoF.ldE (i := 4) (hk := []) (bk := [1]) (K := kT_api_Entry) (A := A_8) (c := c_9) (xs := l_7) (iN := i_12.toNat) (off := 1) (j := 0) (v := vU ((rdL l_7 i_12).Index)) (by kernel_rfl) rfl rfl rfl (hK := rfl) (by kernel_rfl) rfl Reads.rd (by first | exact idx_lt h17.1 h17.2 | (simp only [List.length_set]; exact idx_lt h17.1 h17.2)) (by decide) (by kernel_rfl) rfl ?_
        refine GoF.take [10] [.p] (ks := [0, 1, 2, 3, 10, 12, 40, 41]) (fu := 4) (li := [true, true, true, true, true, true, true, false, false, false, true, false]) (env' := [(0, vP b_2), (1, vU index_5), (2, vU term_6), (3, .slice A_8 l_7.length c_9), (10, vU ((rdL l_7 i_12).Index)), (12, vI i_12), (40, .slice A_8 l_7.length c_9), (41, vI i_12)]) (ps := []) (hk := []) (bk := [1]) (by kernel_rfl) trivial rfl rfl ?_
        refine GoF.guard (fun h18 => ?_)
        refine GoF.idx (i := 7) (hk := []) (bk := [1]) (kk := .i64) (e := 40) (K := kT_api_Entry) (A := A_8) (c := c_9) (xs := l_7) (iv := i_12) (j := 0) (by kernel_rfl) rfl rfl rfl (by kernel_rfl) (by kernel_rfl) (by kernel_rfl) (by kernel_rfl) rfl Reads.rd rfl h18.1 h18.2 (by decide) rfl ?_
        refine GoF.fldE (i := 8) (hk := []) (bk := [1]) (K := kT_api_Entry) (A := A_8) (c := c_9) (xs := l_7) (iN := i_12.toNat) (off := 0) (n := 0) (j := 0) (by kernel_rfl) rfl rfl rfl (by kernel_rfl) (by kernel_rfl) rfl Reads.rd (by first | exact idx_lt h18.1 h18.2 | (simp only [List.length_set]; exact idx_lt h18.1 h18.2)) (by decide) rfl ?_
        refine GoF.ldE (i := 9) (hk := []) (bk := [1]) (K := kT_api_Entry) (A := A_8) (c := c_9) (xs := l_7) (iN := i_12.toNat) (off := 0) (j := 0) (v := vU ((rdL l_7 i_12).Term)) (by kernel_rfl) rfl rfl rfl (hK := rfl) (by kernel_rfl) rfl Reads.rd (by first | exact idx_lt h18.1 h18.2 | (simp only [List.length_set]; exact idx_lt h18.1 h18.2)) (by decide) (by kernel_rfl) rfl ?_
        refine GoF.fin1 (i := 11) (hint := .p) (ps := []) (hk := []) (bk := []) (by kernel_rfl) rfl trivial (.inl rfl) ?_
        refine GoF.done (by kernel_rfl) ?_
        refine GoO.inBlock ?_
        refine GoO.region' (is := [0, 1, 2]) c59_26e (by kernel_rfl) ?_
        refine GoO.exec (is := [0, 1, 2]) (hs := [.p, .p, .p]) (rest := []) (ks := [0, 1, 2, 3, 10, 11, 12]) (env' := [(0, vP b_2), (1, vU index_5), (2, vU term_6), (3, .slice A_8 l_7.length c_9), (10, vU ((rdL l_7 i_12).Index)), (11, vU ((rdL l_7 i_12).Term)), (12, vI (wi64 (i_12 + 1)))]) (H' := [⟨1, b_2, [vU g_1.Snap.Index, vU g_1.Snap.Term, vU g_1.Snap.Config, .string (bs g_1.Snap.Data), .slice A_3 g_1.L.length c_4]⟩]) (ps := []) (by kernel_rfl) trivial ?_
        refine GoO.regionEnd ?_
        refine GoO.inLoop ?_
        exact GoO.sub (ks := [0, 1, 2, 3, 10, 11, 12]) (hk := [0]) (bk := [0, 1]) (by kernel_rfl) (by kernel_rfl) (by kernel_rfl) (ih0 ((rdL l_7 i_12).Index) ((rdL l_7 i_12).Term) (wi64 (i_12 + 1)))
    · refine GoO.exit' c59_14e rfl ?_
      refine GoO.seq' c59_27e ?_
      refine GoO.block' c59_28e ?_
      refine GoO.loop' c59_29e ?_
      exact GoO.sub (ks := [0, 1, 2, 3]) (hk := [0]) (bk := [0, 1]) (by kernel_rfl) (by kernel_rfl) (by kernel_rfl) (tontineref07_Log_Merge_l1_ok n g_1 b_2 A_3 c_4 A_8 c_9 w0 S0 n index_5 term_6 l_7 A_8 c_9)
theorem tontineref07_Log_Merge_ok (n : Nat) (g_1 : T_tontineref07_Log) (index_5 : Int) (term_6 : Int) (l_7 : (List T_api_Entry)) (b_2 : Nat) (A_3 : Option Addr) (c_4 : Nat) (A_8 : Option Addr) (c_9 : Nat) :
    Meets Try.prog 59 [vP b_2, vU index_5, vU term_6, .slice A_8 l_7.length c_9] 2 [1, 2] [⟨1, b_2, [vU g_1.Snap.Index, vU g_1.Snap.Term, vU g_1.Snap.Config, .string (bs g_1.Snap.Data), .slice A_3 g_1.L.length c_4]⟩] [Ow 2 kT_api_Entry A_3 c_4 g_1.L, Rd 0 kT_api_Entry A_8 c_9 l_7] (tontineref07_Log_Merge.f n g_1 index_5 term_6 l_7) (tontineref07_Log_Merge.R b_2 A_3 c_4 A_8 c_9) := by
  refine Meets.of (c := c59_0) (n := 139) Try.func59 (by kernel_rfl) (by kernel_rfl) (by kernel_rfl) fun w0 S0 => ?_
  unfold tontineref07_Log_Merge.f
  show GoO (tontineref07_Log_Merge.cx b_2 A_3 c_4 A_8 c_9 w0 S0) [(0, vP b_2), (1, vU index_5), (2, vU term_6), (3, .slice A_8 l_7.length c_9)] [⟨1, b_2, [vU g_1.Snap.Index, vU g_1.Snap.Term, vU g_1.Snap.Config, .string (bs g_1.Snap.Data), .slice A_3 g_1.L.length c_4]⟩] [Ow 2 kT_api_Entry A_3 c_4 g_1.L, Rd 0 kT_api_Entry A_8 c_9 l_7] [.code c59_0] _
  refine GoO.seq' c59_0e ?_
  refine GoO.region' (is := [0, 1]) c59_1e (by kernel_rfl) ?_
  refine GoO.exec (is := [0, 1]) (hs := [.p, .p]) (rest := []) (ks := [0, 1, 2, 3]) (env' := [(0, vP b_2), (1, vU index_5), (2, vU term_6), (3, .slice A_8 l_7.length c_9)]) (H' := [⟨1, b_2, [vU g_1.Snap.Index, vU g_1.Snap.Term, vU g_1.Snap.Config, .string (bs g_1.Snap.Data), .slice A_3 g_1.L.length c_4]⟩]) (ps := []) (by kernel_rfl) trivial ?_
  refine GoO.regionEnd ?_
  refine GoO.seq' c59_2e ?_
  refine GoO.region' (is := [0, 1, 2, 3]) c59_3e (by kernel_rfl) ?_
  refine GoO.exec (is := [0, 1, 2, 3]) (hs := [.p, .p, .p, .p]) (rest := []) (ks := [0, 1, 2, 3, 10, 11]) (env' := [(0, vP b_2), (1, vU index_5), (2, vU term_6), (3, .slice A_8 l_7.length c_9), (10, vU index_5), (11, vU term_6)]) (H' := [⟨1, b_2, [vU g_1.Snap.Index, vU g_1.Snap.Term, vU g_1.Snap.Config, .string (bs g_1.Snap.Data), .slice A_3 g_1.L.length c_4]⟩]) (ps := []) (by kernel_rfl) trivial ?_
  refine GoO.regionEnd ?_
  refine GoO.seq' c59_4e ?_
  refine GoO.seq' c59_5e ?_
  refine GoO.region' (is := [0]) c59_6e (by kernel_rfl) ?_
  refine GoO.exec (is := [0]) (hs := [.p]) (rest := []) (ks := [0, 1, 2, 3, 10, 11, 12]) (env' := [(0, vP b_2), (1, vU index_5), (2, vU term_6), (3, .slice A_8 l_7.length c_9), (10, vU index_5), (11, vU term_6), (12, vI 0)]) (H' := [⟨1, b_2, [vU g_1.Snap.Index, vU g_1.Snap.Term, vU g_1.Snap.Config, .string (bs g_1.Snap.Data), .slice A_3 g_1.L.length c_4]⟩]) (ps := []) (by kernel_rfl) trivial ?_
  refine GoO.regionEnd ?_
  refine GoO.block' c59_7e ?_
  refine GoO.loop' c59_8e ?_
  exact GoO.sub (ks := [0, 1, 2, 3, 10, 11, 12]) (hk := [0]) (bk := [0, 1]) (by kernel_rfl) (by kernel_rfl) (by kernel_rfl) (tontineref07_Log_Merge_l0_ok n g_1 index_5 term_6 l_7 b_2 A_3 c_4 A_8 c_9 w0 S0 n index_5 term_6 0)
/-! tontine/tontineref07.Same -/
noncomputable def c19_0 : Code := bodyOf Try.f19
noncomputable def c19_1 : Code := cdL c19_0
noncomputable def c19_2 : Code := cdR c19_0
noncomputable def c19_3 : Code := cdL c19_2
noncomputable def c19_4 : Code := cdL c19_3
noncomputable def c19_5 : Code := cdR c19_3
noncomputable def c19_6 : Code := cdL c19_5
noncomputable def c19_7 : Code := cdL c19_6
noncomputable def c19_8 : Code := cdR c19_6
noncomputable def c19_9 : Code := cdR c19_5
noncomputable def c19_10 : Code := cdR c19_2
noncomputable def c19_11 : Code := cdL c19_10
noncomputable def c19_12 : Code := cdL c19_11
noncomputable def c19_13 : Code := cdR c19_11
noncomputable def c19_14 : Code := cdL c19_13
noncomputable def c19_15 : Code := cdL c19_14
noncomputable def c19_16 : Code := cdL c19_15
noncomputable def c19_17 : Code := cdL c19_16
noncomputable def c19_18 : Code := cdR c19_16
noncomputable def c19_19 : Code := cdL c19_18
noncomputable def c19_20 : Code := cdR c19_18
noncomputable def c19_21 : Code := cdR c19_15
noncomputable def c19_22 : Code := cdL c19_21
noncomputable def c19_23 : Code := cdL c19_22
noncomputable def c19_24 : Code := cdL c19_23
noncomputable def c19_25 : Code := cdR c19_23
noncomputable def c19_26 : Code := cdL c19_25
noncomputable def c19_27 : Code := cdL c19_26
noncomputable def c19_28 : Code := cdR c19_26
noncomputable def c19_29 : Code := cdR c19_25
noncomputable def c19_30 : Code := cdR c19_21
noncomputable def c19_31 : Code := cdR c19_10
noncomputable def c19_32 : Code := cdL c19_31
noncomputable def c19_33 : Code := cdR c19_31
noncomputable def r19_1 : Array Oper := cdO c19_1
noncomputable def r19_4 : Array Oper := cdO c19_4
noncomputable def r19_7 : Array Oper := cdO c19_7
noncomputable def r19_12 : Array Oper := cdO c19_12
noncomputable def r19_17 : Array Oper := cdO c19_17
noncomputable def r19_24 : Array Oper := cdO c19_24
noncomputable def r19_27 : Array Oper := cdO c19_27
noncomputable def r19_30 : Array Oper := cdO c19_30
noncomputable def r19_32 : Array Oper := cdO c19_32
theorem c19_0e : c19_0 = .seq c19_1 c19_2 := by kernel_rfl
theorem c19_1e : c19_1 = .region 0 r19_1 false := by kernel_rfl
theorem c19_2e : c19_2 = .seq c19_3 c19_10 := by kernel_rfl
theorem c19_3e : c19_3 = .seq c19_4 c19_5 := by kernel_rfl
theorem c19_4e : c19_4 = .region 1 r19_4 false := by kernel_rfl
theorem c19_5e : c19_5 = .cond (cdC c19_5) c19_6 c19_9 := by kernel_rfl
theorem c19_6e : c19_6 = .seq c19_7 c19_8 := by kernel_rfl
theorem c19_7e : c19_7 = .region 2 r19_7 false := by kernel_rfl
theorem c19_8e : c19_8 = .ret := by kernel_rfl
theorem c19_9e : c19_9 = .skip := by kernel_rfl
theorem c19_10e : c19_10 = .seq c19_11 c19_31 := by kernel_rfl
theorem c19_11e : c19_11 = .seq c19_12 c19_13 := by kernel_rfl
theorem c19_12e : c19_12 = .region 3 r19_12 false := by kernel_rfl
theorem c19_13e : c19_13 = .block 0 c19_14 := by kernel_rfl
theorem c19_14e : c19_14 = .loop c19_15 := by kernel_rfl
theorem c19_15e : c19_15 = .seq c19_16 c19_21 := by kernel_rfl
theorem c19_16e : c19_16 = .seq c19_17 c19_18 := by kernel_rfl
theorem c19_17e : c19_17 = .region 4 r19_17 false := by kernel_rfl
theorem c19_18e : c19_18 = .cond (cdC c19_18) c19_19 c19_20 := by kernel_rfl
theorem c19_19e : c19_19 = .skip := by kernel_rfl
theorem c19_20e : c19_20 = .exit 0 := by kernel_rfl
theorem c19_21e : c19_21 = .seq c19_22 c19_30 := by kernel_rfl
theorem c19_22e : c19_22 = .block 1 c19_23 := by kernel_rfl
theorem c19_23e : c19_23 = .seq c19_24 c19_25 := by kernel_rfl
theorem c19_24e : c19_24 = .region 6 r19_24 true := by kernel_rfl
theorem c19_25e : c19_25 = .cond (cdC c19_25) c19_26 c19_29 := by kernel_rfl
theorem c19_26e : c19_26 = .seq c19_27 c19_28 := by kernel_rfl
theorem c19_27e : c19_27 = .region 7 r19_27 false := by kernel_rfl
theorem c19_28e : c19_28 = .ret := by kernel_rfl
theorem c19_29e : c19_29 = .skip := by kernel_rfl
theorem c19_30e : c19_30 = .region 5 r19_30 false := by kernel_rfl
theorem c19_31e : c19_31 = .seq c19_32 c19_33 := by kernel_rfl
theorem c19_32e : c19_32 = .region 8 r19_32 false := by kernel_rfl
theorem c19_33e : c19_33 = .ret := by kernel_rfl
noncomputable def tontineref07_Same.R (A_2 : Option Addr) (c_3 : Nat) (A_5 : Option Addr) (c_6 : Nat) : Pst Bool where
  ε := Unit
  v := fun r x => .bool r
  H := fun r x => []
  B := fun r x => []
noncomputable def tontineref07_Same.cx (A_2 : Option Addr) (c_3 : Nat) (A_5 : Option Addr) (c_6 : Nat) (w0 : World) (S0 : Fam) : Cx Bool := ⟨Try.prog, 19, Try.f19, 26, w0, S0, [], 0, tontineref07_Same.R A_2 c_3 A_5 c_6⟩
theorem tontineref07_Same_l0_ok (n : Nat) (a_1 : (List T_api_Entry)) (b_4 : (List T_api_Entry)) (A_2 : Option Addr) (c_3 : Nat) (A_5 : Option Addr) (c_6 : Nat) (w0 : World) (S0 : Fam) :
    ∀ (k : Nat) (i_8 : Int), GoO (tontineref07_Same.cx A_2 c_3 A_5 c_6 w0 S0) [(0, .slice A_2 a_1.length c_3), (1, .slice A_5 b_4.length c_6), (5, vI i_8)] [] [Rd 0 kT_api_Entry A_2 c_3 a_1, Rd 0 kT_api_Entry A_5 c_6 b_4] [.code c19_15, .inLoop c19_15, .inBlock 0, .code c19_31] (tontineref07_Same.l0 n a_1 b_4 k i_8) := by
  intro k
  induction k with
  | zero => intros; rw [tontineref07_Same.l0.eq_1]; exact GoO.stop
  | succ k ih0 =>
    intro i_8
    rw [tontineref07_Same.l0.eq_2]
    refine GoO.seq' c19_15e ?_
    refine GoO.seq' c19_16e ?_
    refine GoO.region' (is := [0, 1, 2, 3]) c19_17e (by kernel_rfl) ?_
    refine GoO.exec (is := [0, 1, 2, 3]) (hs := [.p, .p, .p, .p]) (rest := []) (ks := [0, 1, 5, 14]) (env' := [(0, .slice A_2 a_1.length c_3), (1, .slice A_5 b_4.length c_6), (5, vI i_8), (14, .bool (decide (i_8 < (a_1.length : Int))))]) (H' := []) (ps := []) (by kernel_rfl) trivial ?_
    refine GoO.regionEnd ?_
    refine GoO.ite' c19_18e (by kernel_rfl) (fun h9 => ?_) (fun h9 => ?_)
    · refine GoO.skip' c19_19e ?_
      refine GoO.seq' c19_21e ?_
      refine GoO.block' c19_22e ?_
      refine GoO.seq' c19_23e ?_
      refine GoO.draw c19_24e (by kernel_rfl) [] [] [Rd 0 kT_api_Entry A_2 c_3 a_1, Rd 0 kT_api_Entry A_5 c_6 b_4] (n := 9) (by kernel_rfl) ?_
      simp only [List.replicate]
      refine GoF.take [0, 1, 4, 5] [.p, .p, .p, .p] (ks := [0, 1, 5, 17, 18, 21, 22]) (fu := 5) (li := [true, true, false, false, true, true, false, false, false]) (env' := [(0, .slice A_2 a_1.length c_3), (1, .slice A_5 b_4.length c_6), (5, vI i_8), (17, .slice A_2 a_1.length c_3), (18, vI i_8), (21, .slice A_5 b_4.length c_6), (22, vI i_8)]) (ps := []) (hk := []) (bk := [0, 1]) (by kernel_rfl) trivial rfl rfl ?_
      refine GoF.guard (fun h10 => ?_)
      refine GoF.idx (i := 2) (hk := []) (bk := [0, 1]) (kk := .i64) (e := 40) (K := kT_api_Entry) (A := A_2) (c := c_3) (xs := a_1) (iv := i_8) (j := 0) (by kernel_rfl) rfl rfl rfl (by kernel_rfl) (by kernel_rfl) (by kernel_rfl) (by kernel_rfl) rfl Reads.rd rfl h10.1 h10.2 (by decide) rfl ?_
      refine GoF.ldE (i := 3) (hk := []) (bk := [0, 1]) (K := kT_api_Entry) (A := A_2) (c := c_3) (xs := a_1) (iN := i_8.toNat) (off := 0) (j := 0) (v := .agg ⟨[vU ((rdL a_1 i_8).Term), vU ((rdL a_1 i_8).Index), vI ((rdL a_1 i_8).Kind), .string (bs ((rdL a_1 i_8).Data))]⟩) (by kernel_rfl) rfl rfl rfl (hK := rfl) (by kernel_rfl) rfl Reads.rd (by first | exact idx_lt h10.1 h10.2 | (simp only [List.length_set]; exact idx_lt h10.1 h10.2)) (by decide) (by kernel_rfl) rfl ?_
      refine GoF.guard (fun h11 => ?_)
      refine GoF.idx (i := 6) (hk := []) (bk := [0, 1]) (kk := .i64) (e := 40) (K := kT_api_Entry) (A := A_5) (c := c_6) (xs := b_4) (iv := i_8) (j := 1) (by kernel_rfl) rfl rfl rfl (by kernel_rfl) (by kernel_rfl) (by kernel_rfl) (by kernel_rfl) rfl Reads.rd rfl h11.1 h11.2 (by decide) rfl ?_
      refine GoF.ldE (i := 7) (hk := []) (bk := [0, 1]) (K := kT_api_Entry) (A := A_5) (c := c_6) (xs := b_4) (iN := i_8.toNat) (off := 0) (j := 1) (v := .agg ⟨[vU ((rdL b_4 i_8).Term), vU ((rdL b_4 i_8).Index), vI ((rdL b_4 i_8).Kind), .string (bs ((rdL b_4 i_8).Data))]⟩) (by kernel_rfl) rfl rfl rfl (hK := rfl) (by kernel_rfl) rfl Reads.rd (by first | exact idx_lt h11.1 h11.2 | (simp only [List.length_set]; exact idx_lt h11.1 h11.2)) (by decide) (by kernel_rfl) rfl ?_
      refine GoF.take [8] [.p] (ks := [0, 1, 5, 25]) (fu := 0) (li := [true, true, true, true, true, true, true, true, true]) (env' := [(0, .slice A_2 a_1.length c_3), (1, .slice A_5 b_4.length c_6), (5, vI i_8), (25, .bool (!((((rdL a_1 i_8).Term) == ((rdL b_4 i_8).Term)) && ((((rdL a_1 i_8).Index) == ((rdL b_4 i_8).Index)) && ((((rdL a_1 i_8).Kind) == ((rdL b_4 i_8).Kind)) && ((((rdL a_1 i_8).Data) == ((rdL b_4 i_8).Data)) && true))))))]) (ps := []) (hk := []) (bk := [0, 1]) (by kernel_rfl) trivial rfl rfl ?_
      refine GoF.done (by kernel_rfl) ?_
      refine GoO.ite' c19_25e (by kernel_rfl) (fun h12 => ?_) (fun h12 => ?_)
      · refine GoO.seq' c19_26e ?_
        refine GoO.region' (is := [0]) c19_27e (by kernel_rfl) ?_
        refine GoO.exec (is := [0]) (hs := [.p]) (rest := []) (ks := [4]) (env' := [(4, .bool false)]) (H' := []) (ps := []) (by kernel_rfl) trivial ?_
        refine GoO.regionEnd ?_
        exact GoO.ret' (h := c19_28e) (hs := []) (ps := []) (hk := []) (bk := []) Try.func19 () (by kernel_rfl) trivial (by kernel_rfl) (by kernel_rfl)
      · refine GoO.skip' c19_29e ?_
        refine GoO.inBlock ?_
        refine GoO.region' (is := [0, 1, 2]) c19_30e (by kernel_rfl) ?_
        refine GoO.exec (is := [0, 1, 2]) (hs := [.p, .p, .p]) (rest := []) (ks := [0, 1, 5]) (env' := [(0, .slice A_2 a_1.length c_3), (1, .slice A_5 b_4.length c_6), (5, vI (wi64 (i_8 + 1)))]) (H' := []) (ps := []) (by kernel_rfl) trivial ?_
        refine GoO.regionEnd ?_
        refine GoO.inLoop ?_
        exact GoO.sub (ks := [0, 1, 5]) (hk := []) (bk := [0, 1]) (by kernel_rfl) (by kernel_rfl) (by kernel_rfl) (ih0 (wi64 (i_8 + 1)))
    · refine GoO.exit' c19_20e rfl ?_
      refine GoO.seq' c19_31e ?_
      refine GoO.region' (is := [0]) c19_32e (by kernel_rfl) ?_
      refine GoO.exec (is := [0]) (hs := [.p]) (rest := []) (ks := [4]) (env' := [(4, .bool true)]) (H' := []) (ps := []) (by kernel_rfl) trivial ?_
      refine GoO.regionEnd ?_
      exact GoO.ret' (h := c19_33e) (hs := []) (ps := []) (hk := []) (bk := []) Try.func19 () (by kernel_rfl) trivial (by kernel_rfl) (by kernel_rfl)
theorem tontineref07_Same_ok (n : Nat) (a_1 : (List T_api_Entry)) (b_4 : (List T_api_Entry)) (A_2 : Option Addr) (c_3 : Nat) (A_5 : Option Addr) (c_6 : Nat) :
    Meets Try.prog 19 [.slice A_2 a_1.length c_3, .slice A_5 b_4.length c_6] 0 [] [] [Rd 0 kT_api_Entry A_2 c_3 a_1, Rd 0 kT_api_Entry A_5 c_6 b_4] (tontineref07_Same.f n a_1 b_4) (tontineref07_Same.R A_2 c_3 A_5 c_6) := by
  refine Meets.of (c := c19_0) (n := 26) Try.func19 (by kernel_rfl) (by kernel_rfl) (by kernel_rfl) fun w0 S0 => ?_
  unfold tontineref07_Same.f
  show GoO (tontineref07_Same.cx A_2 c_3 A_5 c_6 w0 S0) [(0, .slice A_2 a_1.length c_3), (1, .slice A_5 b_4.length c_6)] [] [Rd 0 kT_api_Entry A_2 c_3 a_1, Rd 0 kT_api_Entry A_5 c_6 b_4] [.code c19_0] _
  refine GoO.seq' c19_0e ?_
  refine GoO.region' (is := [0]) c19_1e (by kernel_rfl) ?_
  refine GoO.exec (is := [0]) (hs := [.p]) (rest := []) (ks := [0, 1]) (env' := [(0, .slice A_2 a_1.length c_3), (1, .slice A_5 b_4.length c_6)]) (H' := []) (ps := []) (by kernel_rfl) trivial ?_
  refine GoO.regionEnd ?_
  refine GoO.seq' c19_2e ?_
  refine GoO.seq' c19_3e ?_
  refine GoO.region' (is := [0, 1, 2, 3, 4]) c19_4e (by kernel_rfl) ?_
  refine GoO.exec (is := [0, 1, 2, 3, 4]) (hs := [.p, .p, .p, .p, .p]) (rest := []) (ks := [0, 1, 10]) (env' := [(0, .slice A_2 a_1.length c_3), (1, .slice A_5 b_4.length c_6), (10, .bool ((a_1.length : Int) != (b_4.length : Int)))]) (H' := []) (ps := []) (by kernel_rfl) trivial ?_
  refine GoO.regionEnd ?_
  refine GoO.ite' c19_5e (by kernel_rfl) (fun h7 => ?_) (fun h7 => ?_)
  · refine GoO.seq' c19_6e ?_
    refine GoO.region' (is := [0]) c19_7e (by kernel_rfl) ?_
    refine GoO.exec (is := [0]) (hs := [.p]) (rest := []) (ks := [4]) (env' := [(4, .bool false)]) (H' := []) (ps := []) (by kernel_rfl) trivial ?_
    refine GoO.regionEnd ?_
    exact GoO.ret' (h := c19_8e) (hs := []) (ps := []) (hk := []) (bk := []) Try.func19 () (by kernel_rfl) trivial (by kernel_rfl) (by kernel_rfl)
  · refine GoO.skip' c19_9e ?_
    refine GoO.seq' c19_10e ?_
    refine GoO.seq' c19_11e ?_
    refine GoO.region' (is := [0]) c19_12e (by kernel_rfl) ?_
    refine GoO.exec (is := [0]) (hs := [.p]) (rest := []) (ks := [0, 1, 5]) (env' := [(0, .slice A_2 a_1.length c_3), (1, .slice A_5 b_4.length c_6), (5, vI 0)]) (H' := []) (ps := []) (by kernel_rfl) trivial ?_
    refine GoO.regionEnd ?_
    refine GoO.block' c19_13e ?_
    refine GoO.loop' c19_14e ?_
    exact GoO.sub (ks := [0, 1, 5]) (hk := []) (bk := [0, 1]) (by kernel_rfl) (by kernel_rfl) (by kernel_rfl) (tontineref07_Same_l0_ok n a_1 b_4 A_2 c_3 A_5 c_6 w0 S0 n 0)
/-! (*tontine/rlog.Log).Cut -/
noncomputable def c40_0 : Code := bodyOf Try.f40
noncomputable def c40_1 : Code := cdL c40_0
noncomputable def c40_2 : Code := cdR c40_0
noncomputable def c40_3 : Code := cdL c40_2
noncomputable def c40_4 : Code := cdR c40_2
noncomputable def c40_5 : Code := cdL c40_4
noncomputable def c40_6 : Code := cdR c40_4
noncomputable def r40_1 : Array Oper := cdO c40_1
noncomputable def r40_3 : Array Oper := cdO c40_3
noncomputable def r40_5 : Array Oper := cdO c40_5
theorem c40_0e : c40_0 = .seq c40_1 c40_2 := by kernel_rfl
theorem c40_1e : c40_1 = .region 0 r40_1 false := by kernel_rfl
theorem c40_2e : c40_2 = .seq c40_3 c40_4 := by kernel_rfl
theorem c40_3e : c40_3 = .region 1 r40_3 false := by kernel_rfl
theorem c40_4e : c40_4 = .cond (cdC c40_4) c40_5 c40_6 := by kernel_rfl
theorem c40_5e : c40_5 = .region 2 r40_5 false := by kernel_rfl
theorem c40_6e : c40_6 = .skip := by kernel_rfl
noncomputable def rlog_Log_Cut.R (b_2 : Nat) (A_3 : Option Addr) (c_4 : Nat) : Pst T_rlog_Log where
  ε := Option Addr × Nat
  v := fun r x => .tuple ⟨[]⟩
  H := fun r x => [⟨1, b_2, [vU r.snap.Index, vU r.snap.Term, vU r.snap.Config, .string (bs r.snap.Data), .slice x.1 r.entries.length x.2]⟩]
  B := fun r x => [Ow 2 kT_api_Entry x.1 x.2 r.entries]
noncomputable def rlog_Log_Cut.cx (b_2 : Nat) (A_3 : Option Addr) (c_4 : Nat) (w0 : World) (S0 : Fam) : Cx T_rlog_Log := ⟨Try.prog, 40, Try.f40, 20, w0, S0, [1, 2], 2, rlog_Log_Cut.R b_2 A_3 c_4⟩
theorem rlog_Log_Cut_ok (n : Nat) (g_1 : T_rlog_Log) (i_5 : Int) (b_2 : Nat) (A_3 : Option Addr) (c_4 : Nat) :
    Meets Try.prog 40 [vP b_2, vU i_5] 2 [1, 2] [⟨1, b_2, [vU g_1.snap.Index, vU g_1.snap.Term, vU g_1.snap.Config, .string (bs g_1.snap.Data), .slice A_3 g_1.entries.length c_4]⟩] [Ow 2 kT_api_Entry A_3 c_4 g_1.entries] (rlog_Log_Cut.f n g_1 i_5) (rlog_Log_Cut.R b_2 A_3 c_4) := by
  refine Meets.of (c := c40_0) (n := 20) Try.func40 (by kernel_rfl) (by kernel_rfl) (by kernel_rfl) fun w0 S0 => ?_
  unfold rlog_Log_Cut.f
  show GoO (rlog_Log_Cut.cx b_2 A_3 c_4 w0 S0) [(0, vP b_2), (1, vU i_5)] [⟨1, b_2, [vU g_1.snap.Index, vU g_1.snap.Term, vU g_1.snap.Config, .string (bs g_1.snap.Data), .slice A_3 g_1.entries.length c_4]⟩] [Ow 2 kT_api_Entry A_3 c_4 g_1.entries] [.code c40_0] _
  refine GoO.seq' c40_0e ?_
  refine GoO.region' (is := [0, 1, 2, 3]) c40_1e (by kernel_rfl) ?_
  refine GoO.exec (is := [0, 1]) (hs := [.p, .p]) (rest := [2, 3]) (ks := [0, 5, 6]) (env' := [(0, vP b_2), (5, vP b_2), (6, vU i_5)]) (H' := [⟨1, b_2, [vU g_1.snap.Index, vU g_1.snap.Term, vU g_1.snap.Config, .string (bs g_1.snap.Data), .slice A_3 g_1.entries.length c_4]⟩]) (ps := []) (by kernel_rfl) trivial ?_
  refine OpTo.go (GoO.call rfl (by kernel_rfl) (by kernel_rfl) (rlog_Log_at_ok n (⟨(⟨g_1.snap.Index, g_1.snap.Term, g_1.snap.Config, g_1.snap.Data⟩ : T_api_Snapshot), g_1.entries⟩ : T_rlog_Log) i_5 b_2 A_3 c_4) [[0], [1], [2]] [] [(1, 0)] [(2, 0)] (hks := [0]) (bks := [0]) (by kernel_rfl) (by kernel_rfl) (by kernel_rfl) (.inl rfl) rfl rfl (by kernel_rfl) (by kernel_rfl) _ (fun _ _ => rfl) _ _ (fun _ _ => rfl) (fun _ _ => rfl) (fun _ _ => by kernel_rfl) (fun _ _ => by kernel_rfl) (fun r_6 x_14 => ?_))
  refine GoO.shape (env' := [(0, vP b_2), (5, vP b_2), (6, vU i_5), (7, vI r_6)]) (H' := [⟨1, b_2, [vU g_1.snap.Index, vU g_1.snap.Term, vU g_1.snap.Config, .string (bs g_1.snap.Data), .slice A_3 g_1.entries.length c_4]⟩]) (B' := [Ow 2 kT_api_Entry A_3 c_4 g_1.entries]) (ks := [0, 5, 6, 7]) (by kernel_rfl) (by kernel_rfl) (by kernel_rfl) ?_
  refine GoO.exec (is := [3]) (hs := [.p]) (rest := []) (ks := [0, 4]) (env' := [(0, vP b_2), (4, vI r_6)]) (H' := [⟨1, b_2, [vU g_1.snap.Index, vU g_1.snap.Term, vU g_1.snap.Config, .string (bs g_1.snap.Data), .slice A_3 g_1.entries.length c_4]⟩]) (ps := []) (by kernel_rfl) trivial ?_
  refine GoO.regionEnd ?_
  refine GoO.seq' c40_2e ?_
  refine GoO.region' (is := [0, 1]) c40_3e (by kernel_rfl) ?_
  refine GoO.exec (is := [0, 1]) (hs := [.p, .p]) (rest := []) (ks := [0, 4, 9]) (env' := [(0, vP b_2), (4, vI r_6), (9, .bool (decide (r_6 ≥ 0)))]) (H' := [⟨1, b_2, [vU g_1.snap.Index, vU g_1.snap.Term, vU g_1.snap.Config, .string (bs g_1.snap.Data), .slice A_3 g_1.entries.length c_4]⟩]) (ps := []) (by kernel_rfl) trivial ?_
  refine GoO.regionEnd ?_
  refine GoO.ite' c40_4e (by kernel_rfl) (fun h7 => ?_) (fun h7 => ?_)
  · refine GoO.region' (is := [0, 1, 2, 3, 4, 5, 6, 7, 8, 9, 10]) c40_5e (by kernel_rfl) ?_
    refine GoO.exec (is := [0, 1, 2, 3, 4, 5]) (hs := [.p, .p, .p, .p, .b 0, .p]) (rest := [6, 7, 8, 9, 10]) (ks := [10, 14, 15]) (env' := [(10, vP b_2), (14, .slice A_3 g_1.entries.length c_4), (15, vI r_6)]) (H' := [⟨1, b_2, [vU g_1.snap.Index, vU g_1.snap.Term, vU g_1.snap.Config, .string (bs g_1.snap.Data), .slice A_3 g_1.entries.length c_4]⟩]) (ps := [b_2 = b_2]) (by kernel_rfl) (And.intro rfl trivial) ?_
    refine GoO.guard (fun h10 => ?_)
    refine OpTo.go (GoO.slc (e := 40) (K := kT_api_Entry) (A := A_3) (c := c_4) (xs := g_1.entries) (j := 0) (l := (0 : Int)) (h := r_6) rfl (by kernel_rfl) (by kernel_rfl) (by kernel_rfl) rfl Reads.own rfl (by kernel_rfl) (by kernel_rfl) h10.1 h10.2.1 h10.2.2 _ (fun _ _ => rfl) (fun A_8 c_9 => ?_))
    refine GoO.nilOwn kT_api_Entry 40 ?_
    refine GoO.guard (fun h11 => ?_)
    refine OpTo.go (GoO.appW (e := 40) (K := kT_api_Entry) (A := none) (c := 0) (tg := 40) (bytes := 40) (zs := [vU 0, vU 0, vI 0, .string (bs [])]) (xs := ([] : List T_api_Entry)) (ys := (g_1.entries.take r_6.toNat).drop (0 : Int).toNat) (xv := .slice A_8 ((g_1.entries.take r_6.toNat).drop (0 : Int).toNat).length c_9) (j := 0) (bk := [1, 2]) rfl (by kernel_rfl) (by kernel_rfl) (by kernel_rfl) (by kernel_rfl) rfl (by kernel_rfl) rfl (fun w S hB => SrcIs.row (Reads.rd w S (hB _ (List.mem_of_getElem? (i := 1) rfl)))) h11 rfl rfl rfl rfl _ (fun _ _ => rfl) (fun A_12 c_13 => ?_))
    refine GoO.exec (is := [8, 9, 10]) (hs := [.p, .p, .b 0]) (rest := []) (ks := []) (env' := []) (H' := [⟨1, b_2, [vU g_1.snap.Index, vU g_1.snap.Term, vU g_1.snap.Config, .string (bs g_1.snap.Data), .slice A_12 (([] : List T_api_Entry) ++ ((g_1.entries.take r_6.toNat).drop (0 : Int).toNat)).length c_13]⟩]) (ps := [b_2 = b_2]) (by kernel_rfl) (And.intro rfl trivial) ?_
    refine GoO.regionEnd ?_
    refine GoO.sub (ks := []) (env' := []) (hk := [0]) (bk := [0]) (by kernel_rfl) rfl rfl ?_
    refine GoO.retag (t := 40) (u := 2) (j := 0) (hk := [0]) (bk := []) rfl rfl rfl rfl rfl rfl (by kernel_rfl) (by kernel_rfl) ?_
    exact GoO.fin (hs := []) (ps := []) (hk := [0]) (bk := [0]) Try.func40 (⟨A_12, c_13⟩ : Option Addr × Nat) (by kernel_rfl) trivial (by kernel_rfl) (by kernel_rfl)
  · refine GoO.skip' c40_6e ?_
    exact GoO.fin (hs := []) (ps := []) (hk := [0]) (bk := [0]) Try.func40 (⟨A_3, c_4⟩ : Option Addr × Nat) (by kernel_rfl) trivial (by kernel_rfl) (by kernel_rfl)
/-! (*tontine/rlog.Log).MembersAt -/
noncomputable def c24_0 : Code := bodyOf Try.f24
noncomputable def c24_1 : Code := cdL c24_0
noncomputable def c24_2 : Code := cdR c24_0
noncomputable def c24_3 : Code := cdL c24_2
noncomputable def c24_4 : Code := cdL c24_3
noncomputable def c24_5 : Code := cdR c24_3
noncomputable def c24_9 : Code := cdR c24_5
noncomputable def c24_10 : Code := cdR c24_2
noncomputable def c24_11 : Code := cdL c24_10
noncomputable def c24_12 : Code := cdL c24_11
noncomputable def c24_13 : Code := cdR c24_11
noncomputable def c24_14 : Code := cdL c24_13
noncomputable def c24_15 : Code := cdL c24_14
noncomputable def c24_16 : Code := cdL c24_15
noncomputable def c24_17 : Code := cdL c24_16
noncomputable def c24_18 : Code := cdR c24_16
noncomputable def c24_19 : Code := cdL c24_18
noncomputable def c24_20 : Code := cdR c24_18
noncomputable def c24_21 : Code := cdR c24_15
noncomputable def c24_22 : Code := cdL c24_21
noncomputable def c24_23 : Code := cdL c24_22
noncomputable def c24_24 : Code := cdL c24_23
noncomputable def c24_25 : Code := cdR c24_23
noncomputable def c24_26 : Code := cdL c24_25
noncomputable def c24_27 : Code := cdR c24_25
noncomputable def c24_28 : Code := cdL c24_27
noncomputable def c24_29 : Code := cdL c24_28
noncomputable def c24_30 : Code := cdR c24_28
noncomputable def c24_31 : Code := cdL c24_30
noncomputable def c24_32 : Code := cdR c24_30
noncomputable def c24_33 : Code := cdR c24_27
noncomputable def c24_34 : Code := cdR c24_21
noncomputable def c24_35 : Code := cdR c24_10
noncomputable def c24_36 : Code := cdL c24_35
noncomputable def c24_37 : Code := cdR c24_35
noncomputable def c24_6 : Code := cdL c24_5
noncomputable def r24_1 : Array Oper := cdO c24_1
noncomputable def r24_4 : Array Oper := cdO c24_4
noncomputable def r24_12 : Array Oper := cdO c24_12
noncomputable def r24_17 : Array Oper := cdO c24_17
noncomputable def r24_24 : Array Oper := cdO c24_24
noncomputable def r24_26 : Array Oper := cdO c24_26
noncomputable def r24_29 : Array Oper := cdO c24_29
noncomputable def r24_31 : Array Oper := cdO c24_31
noncomputable def r24_34 : Array Oper := cdO c24_34
noncomputable def r24_36 : Array Oper := cdO c24_36
theorem c24_0e : c24_0 = .seq c24_1 c24_2 := by kernel_rfl
theorem c24_1e : c24_1 = .region 0 r24_1 false := by kernel_rfl
theorem c24_2e : c24_2 = .seq c24_3 c24_10 := by kernel_rfl
theorem c24_3e : c24_3 = .seq c24_4 c24_5 := by kernel_rfl
theorem c24_4e : c24_4 = .region 1 r24_4 false := by kernel_rfl
theorem c24_5e : c24_5 = .cond (cdC c24_5) c24_6 c24_9 := by kernel_rfl
theorem c24_9e : c24_9 = .skip := by kernel_rfl
theorem c24_10e : c24_10 = .seq c24_11 c24_35 := by kernel_rfl
theorem c24_11e : c24_11 = .seq c24_12 c24_13 := by kernel_rfl
theorem c24_12e : c24_12 = .region 3 r24_12 false := by kernel_rfl
theorem c24_13e : c24_13 = .block 0 c24_14 := by kernel_rfl
theorem c24_14e : c24_14 = .loop c24_15 := by kernel_rfl
theorem c24_15e : c24_15 = .seq c24_16 c24_21 := by kernel_rfl
theorem c24_16e : c24_16 = .seq c24_17 c24_18 := by kernel_rfl
theorem c24_17e : c24_17 = .region 4 r24_17 false := by kernel_rfl
theorem c24_18e : c24_18 = .cond (cdC c24_18) c24_19 c24_20 := by kernel_rfl
theorem c24_19e : c24_19 = .skip := by kernel_rfl
theorem c24_20e : c24_20 = .exit 0 := by kernel_rfl
theorem c24_21e : c24_21 = .seq c24_22 c24_34 := by kernel_rfl
theorem c24_22e : c24_22 = .block 1 c24_23 := by kernel_rfl
theorem c24_23e : c24_23 = .seq c24_24 c24_25 := by kernel_rfl
theorem c24_24e : c24_24 = .region 6 r24_24 false := by kernel_rfl
theorem c24_25e : c24_25 = .seq c24_26 c24_27 := by kernel_rfl
theorem c24_26e : c24_26 = .region 7 r24_26 false := by kernel_rfl
theorem c24_27e : c24_27 = .cond (cdC c24_27) c24_28 c24_33 := by kernel_rfl
theorem c24_28e : c24_28 = .seq c24_29 c24_30 := by kernel_rfl
theorem c24_29e : c24_29 = .region 8 r24_29 false := by kernel_rfl
theorem c24_30e : c24_30 = .seq c24_31 c24_32 := by kernel_rfl
theorem c24_31e : c24_31 = .region 9 r24_31 true := by kernel_rfl
theorem c24_32e : c24_32 = .ret := by kernel_rfl
theorem c24_33e : c24_33 = .skip := by kernel_rfl
theorem c24_34e : c24_34 = .region 5 r24_34 false := by kernel_rfl
theorem c24_35e : c24_35 = .seq c24_36 c24_37 := by kernel_rfl
theorem c24_36e : c24_36 = .region 10 r24_36 true := by kernel_rfl
theorem c24_37e : c24_37 = .ret := by kernel_rfl
noncomputable def rlog_Log_MembersAt.R (b_2 : Nat) (A_3 : Option Addr) (c_4 : Nat) : Pst (Int × Int) where
  ε := Unit
  v := fun r x => .tuple ⟨[vU r.1, vU r.2]⟩
  H := fun r x => []
  B := fun r x => []
noncomputable def rlog_Log_MembersAt.cx (b_2 : Nat) (A_3 : Option Addr) (c_4 : Nat) (w0 : World) (S0 : Fam) : Cx (Int × Int) := ⟨Try.prog, 24, Try.f24, 57, w0, S0, [], 2, rlog_Log_MembersAt.R b_2 A_3 c_4⟩
theorem rlog_Log_MembersAt_j0_ok (n : Nat) (L0 : Int → Option (Int × Int)) (g_1 : T_rlog_Log) (i_5 : Int) (k_6 : Int) (b_2 : Nat) (A_3 : Option Addr) (c_4 : Nat) (b_9 : Nat) (w0 : World) (S0 : Fam) (ih0 : ∀ (k_6 : Int), GoO (rlog_Log_MembersAt.cx b_2 A_3 c_4 w0 S0) [(0, vP b_2), (1, vU i_5), (6, vI k_6)] [⟨1, b_2, [vU g_1.snap.Index, vU g_1.snap.Term, vU g_1.snap.Config, .string (bs g_1.snap.Data), .slice A_3 g_1.entries.length c_4]⟩] [Ow 2 kT_api_Entry A_3 c_4 g_1.entries] [.code c24_15, .inLoop c24_15, .inBlock 0, .code c24_35] (L0 k_6)) (b_11 : Bool) :
    GoO (rlog_Log_MembersAt.cx b_2 A_3 c_4 w0 S0) [(0, vP b_2), (1, vU i_5), (6, vI k_6), (7, vP b_9), (37, .bool b_11)] [⟨1, b_2, [vU g_1.snap.Index, vU g_1.snap.Term, vU g_1.snap.Config, .string (bs g_1.snap.Data), .slice A_3 g_1.entries.length c_4]⟩, ⟨40, b_9, [vU ((rdL g_1.entries k_6).Term), vU ((rdL g_1.entries k_6).Index), vI ((rdL g_1.entries k_6).Kind), .string (bs ((rdL g_1.entries k_6).Data))]⟩] [Ow 2 kT_api_Entry A_3 c_4 g_1.entries] [.code c24_27, .inBlock 1, .code c24_34, .inLoop c24_15, .inBlock 0, .code c24_35] (rlog_Log_MembersAt.j0 n L0 g_1 k_6 b_11) := by
  unfold rlog_Log_MembersAt.j0
  refine GoO.ite' c24_27e (by kernel_rfl) (fun h12 => ?_) (fun h12 => ?_)
  · refine GoO.seq' c24_28e ?_
    refine GoO.region' (is := [0, 1, 2, 3, 4, 5, 6, 7]) c24_29e (by kernel_rfl) ?_
    refine GoO.exec (is := [0, 1]) (hs := [.p, .b 1]) (rest := [2, 3, 4, 5, 6, 7]) (ks := [7, 40]) (env' := [(7, vP b_9), (40, .string (bs ((rdL g_1.entries k_6).Data)))]) (H' := [⟨1, b_2, [vU g_1.snap.Index, vU g_1.snap.Term, vU g_1.snap.Config, .string (bs g_1.snap.Data), .slice A_3 g_1.entries.length c_4]⟩, ⟨40, b_9, [vU ((rdL g_1.entries k_6).Term), vU ((rdL g_1.entries k_6).Index), vI ((rdL g_1.entries k_6).Kind), .string (bs ((rdL g_1.entries k_6).Data))]⟩]) (ps := [b_9 = b_9]) (by kernel_rfl) (And.intro rfl trivial) ?_
    refine OpTo.go (GoO.call rfl (by kernel_rfl) (by kernel_rfl) (rlog_configOf_ok n ((rdL g_1.entries k_6).Data)) [[0]] [] [] [] (hks := [0, 1]) (bks := [0]) (by kernel_rfl) (by kernel_rfl) (by kernel_rfl) (.inl rfl) rfl rfl (by kernel_rfl) (by kernel_rfl) _ (fun _ _ => rfl) _ _ (fun _ _ => rfl) (fun _ _ => rfl) (fun _ _ => by kernel_rfl) (fun _ _ => by kernel_rfl) (fun r_13 x_14 => ?_))
    refine GoO.shape (env' := [(7, vP b_9), (40, .string (bs ((rdL g_1.entries k_6).Data))), (41, .tuple ⟨[vU r_13.1, .bool r_13.2]⟩)]) (H' := [⟨1, b_2, [vU g_1.snap.Index, vU g_1.snap.Term, vU g_1.snap.Config, .string (bs g_1.snap.Data), .slice A_3 g_1.entries.length c_4]⟩, ⟨40, b_9, [vU ((rdL g_1.entries k_6).Term), vU ((rdL g_1.entries k_6).Index), vI ((rdL g_1.entries k_6).Kind), .string (bs ((rdL g_1.entries k_6).Data))]⟩]) (B' := [Ow 2 kT_api_Entry A_3 c_4 g_1.entries]) (ks := [7, 40, 41]) (by kernel_rfl) (by kernel_rfl) (by kernel_rfl) ?_
    refine GoO.exec (is := [3, 4, 5, 6, 7]) (hs := [.p, .p, .p, .p, .p]) (rest := []) (ks := [7, 8]) (env' := [(7, vP b_9), (8, vU r_13.1)]) (H' := [⟨1, b_2, [vU g_1.snap.Index, vU g_1.snap.Term, vU g_1.snap.Config, .string (bs g_1.snap.Data), .slice A_3 g_1.entries.length c_4]⟩, ⟨40, b_9, [vU ((rdL g_1.entries k_6).Term), vU ((rdL g_1.entries k_6).Index), vI ((rdL g_1.entries k_6).Kind), .string (bs ((rdL g_1.entries k_6).Data))]⟩]) (ps := []) (by kernel_rfl) trivial ?_
    refine GoO.regionEnd ?_
    refine GoO.seq' c24_30e ?_
    refine GoO.draw c24_31e (by kernel_rfl) [4] [⟨40, b_9, [vU ((rdL g_1.entries k_6).Term), vU ((rdL g_1.entries k_6).Index), vI ((rdL g_1.entries k_6).Kind), .string (bs ((rdL g_1.entries k_6).Data))]⟩] [] (n := 5) (by kernel_rfl) ?_
    simp only [List.replicate]
    refine GoF.take [0, 1, 2, 3] [.p, .p, .b 0, .p] (ks := [4, 46]) (fu := 1) (li := [true, true, true, true, false]) (env' := [(4, vU r_13.1), (46, vU ((rdL g_1.entries k_6).Index))]) (ps := [b_9 = b_9]) (hk := [1]) (bk := []) (by kernel_rfl) (And.intro rfl trivial) rfl rfl ?_
    refine GoF.fin1 (i := 4) (hint := .p) (ps := []) (hk := []) (bk := []) (by kernel_rfl) rfl trivial (.inl rfl) ?_
    refine GoF.done (by kernel_rfl) ?_
    exact GoO.ret' (h := c24_32e) (hs := []) (ps := []) (hk := []) (bk := []) Try.func24 () (by kernel_rfl) trivial (by kernel_rfl) (by kernel_rfl)
  · refine GoO.skip' c24_33e ?_
    refine GoO.inBlock ?_
    refine GoO.region' (is := [0, 1, 2]) c24_34e (by kernel_rfl) ?_
    refine GoO.exec (is := [0, 1, 2]) (hs := [.p, .p, .p]) (rest := []) (ks := [0, 1, 6]) (env' := [(0, vP b_2), (1, vU i_5), (6, vI (wi64 (k_6 - 1)))]) (H' := [⟨1, b_2, [vU g_1.snap.Index, vU g_1.snap.Term, vU g_1.snap.Config, .string (bs g_1.snap.Data), .slice A_3 g_1.entries.length c_4]⟩, ⟨40, b_9, [vU ((rdL g_1.entries k_6).Term), vU ((rdL g_1.entries k_6).Index), vI ((rdL g_1.entries k_6).Kind), .string (bs ((rdL g_1.entries k_6).Data))]⟩]) (ps := []) (by kernel_rfl) trivial ?_
    refine GoO.regionEnd ?_
    refine GoO.inLoop ?_
    exact GoO.sub (ks := [0, 1, 6]) (hk := [0]) (bk := [0]) (by kernel_rfl) (by kernel_rfl) (by kernel_rfl) (ih0 (wi64 (k_6 - 1)))
theorem rlog_Log_MembersAt_l0_ok (n : Nat) (g_1 : T_rlog_Log) (i_5 : Int) (b_2 : Nat) (A_3 : Option Addr) (c_4 : Nat) (w0 : World) (S0 : Fam) :
    ∀ (k : Nat) (k_6 : Int), GoO (rlog_Log_MembersAt.cx b_2 A_3 c_4 w0 S0) [(0, vP b_2), (1, vU i_5), (6, vI k_6)] [⟨1, b_2, [vU g_1.snap.Index, vU g_1.snap.Term, vU g_1.snap.Config, .string (bs g_1.snap.Data), .slice A_3 g_1.entries.length c_4]⟩] [Ow 2 kT_api_Entry A_3 c_4 g_1.entries] [.code c24_15, .inLoop c24_15, .inBlock 0, .code c24_35] (rlog_Log_MembersAt.l0 n g_1 i_5 k k_6) := by
  intro k
  induction k with
  | zero => intros; rw [rlog_Log_MembersAt.l0.eq_1]; exact GoO.stop
  | succ k ih0 =>
    intro k_6
    rw [rlog_Log_MembersAt.l0.eq_2]
    refine GoO.seq' c24_15e ?_
    refine GoO.seq' c24_16e ?_
    refine GoO.region' (is := [0, 1]) c24_17e (by kernel_rfl) ?_
    refine GoO.exec (is := [0, 1]) (hs := [.p, .p]) (rest := []) (ks := [0, 1, 6, 19]) (env' := [(0, vP b_2), (1, vU i_5), (6, vI k_6), (19, .bool (decide (k_6 ≥ 0)))]) (H' := [⟨1, b_2, [vU g_1.snap.Index, vU g_1.snap.Term, vU g_1.snap.Config, .string (bs g_1.snap.Data), .slice A_3 g_1.entries.length c_4]⟩]) (ps := []) (by kernel_rfl) trivial ?_
    refine GoO.regionEnd ?_
    refine GoO.ite' c24_18e (by kernel_rfl) (fun h7 => ?_) (fun h7 => ?_)
    · refine GoO.skip' c24_19e ?_
      refine GoO.seq' c24_21e ?_
      refine GoO.block' c24_22e ?_
      refine GoO.seq' c24_23e ?_
      refine GoO.region' (is := [0, 1, 2, 3, 4, 5, 6, 7, 8]) c24_24e (by kernel_rfl) ?_
      refine GoO.exec (is := [0, 1, 2, 3, 4]) (hs := [.p, .p, .p, .b 0, .p]) (rest := [5, 6, 7, 8]) (ks := [0, 1, 6, 25, 26]) (env' := [(0, vP b_2), (1, vU i_5), (6, vI k_6), (25, .slice A_3 g_1.entries.length c_4), (26, vI k_6)]) (H' := [⟨1, b_2, [vU g_1.snap.Index, vU g_1.snap.Term, vU g_1.snap.Config, .string (bs g_1.snap.Data), .slice A_3 g_1.entries.length c_4]⟩]) (ps := [b_2 = b_2]) (by kernel_rfl) (And.intro rfl trivial) ?_
      refine GoO.guard (fun h8 => ?_)
      refine OpTo.go (GoO.idx (kk := .i64) (e := 40) (K := kT_api_Entry) (A := A_3) (c := c_4) (xs := g_1.entries) (iv := k_6) (j := 0) rfl (by kernel_rfl) (by kernel_rfl) (by kernel_rfl) (by kernel_rfl) rfl Reads.own rfl h8.1 h8.2 (by decide) rfl ?_)
      refine OpTo.go (GoO.ldE' (K := kT_api_Entry) (A := A_3) (c := c_4) (xs := g_1.entries) (iN := k_6.toNat) (off := 0) (j := 0) rfl (by kernel_rfl) rfl Reads.own (by first | exact idx_lt h8.1 h8.2 | (simp only [List.length_set]; exact idx_lt h8.1 h8.2)) (by decide) (Opn.flat _ _ _ _ _) (v := fun _ => .agg ⟨[vU ((rdL g_1.entries k_6).Term), vU ((rdL g_1.entries k_6).Index), vI ((rdL g_1.entries k_6).Kind), .string (bs ((rdL g_1.entries k_6).Data))]⟩) (fun _ => by kernel_rfl) _ (fun _ => rfl) (fun _ => ?_))
      refine OpTo.go (GoO.new rfl 40 (cs := [vU 0, vU 0, vI 0, .string (bs [])]) (by kernel_rfl) _ (fun _ => rfl) (fun b_9 => ?_))
      refine GoO.exec (is := [8]) (hs := [.b 0]) (rest := []) (ks := [0, 1, 6, 7]) (env' := [(0, vP b_2), (1, vU i_5), (6, vI k_6), (7, vP b_9)]) (H' := [⟨40, b_9, [vU ((rdL g_1.entries k_6).Term), vU ((rdL g_1.entries k_6).Index), vI ((rdL g_1.entries k_6).Kind), .string (bs ((rdL g_1.entries k_6).Data))]⟩, ⟨1, b_2, [vU g_1.snap.Index, vU g_1.snap.Term, vU g_1.snap.Config, .string (bs g_1.snap.Data), .slice A_3 g_1.entries.length c_4]⟩]) (ps := [b_9 = b_9]) (by kernel_rfl) (And.intro rfl trivial) ?_
      refine GoO.regionEnd ?_
      refine GoO.seq' c24_25e ?_
      refine GoO.region' (is := [0, 1, 2, 3, 4, 5, 6, 7, 8]) c24_26e (by kernel_rfl) ?_
      refine GoO.exec (is := [0, 1, 2, 3]) (hs := [.p, .b 0, .p, .p]) (rest := [4, 5, 6, 7, 8]) (ks := [0, 1, 6, 7, 32]) (env' := [(0, vP b_2), (1, vU i_5), (6, vI k_6), (7, vP b_9), (32, .bool (((rdL g_1.entries k_6).Kind) == 2))]) (H' := [⟨40, b_9, [vU ((rdL g_1.entries k_6).Term), vU ((rdL g_1.entries k_6).Index), vI ((rdL g_1.entries k_6).Kind), .string (bs ((rdL g_1.entries k_6).Data))]⟩, ⟨1, b_2, [vU g_1.snap.Index, vU g_1.snap.Term, vU g_1.snap.Config, .string (bs g_1.snap.Data), .slice A_3 g_1.entries.length c_4]⟩]) (ps := [b_9 = b_9]) (by kernel_rfl) (And.intro rfl trivial) ?_
      refine GoO.bsplit (t := 32) (by kernel_rfl) (fun h10 => ?_) (fun h10 => ?_)
      · refine GoO.exec (is := [4, 5, 6, 7, 8]) (hs := [.p, .b 0, .p, .p, .p]) (rest := []) (ks := [0, 1, 6, 7, 37]) (env' := [(0, vP b_2), (1, vU i_5), (6, vI k_6), (7, vP b_9), (37, .bool (decide (((rdL g_1.entries k_6).Index) ≤ i_5)))]) (H' := [⟨40, b_9, [vU ((rdL g_1.entries k_6).Term), vU ((rdL g_1.entries k_6).Index), vI ((rdL g_1.entries k_6).Kind), .string (bs ((rdL g_1.entries k_6).Data))]⟩, ⟨1, b_2, [vU g_1.snap.Index, vU g_1.snap.Term, vU g_1.snap.Config, .string (bs g_1.snap.Data), .slice A_3 g_1.entries.length c_4]⟩]) (ps := [b_9 = b_9]) (by kernel_rfl) (And.intro rfl trivial) ?_
        refine GoO.regionEnd ?_
        exact GoO.sub (ks := [0, 1, 6, 7, 37]) (hk := [1, 0]) (bk := [0]) (by kernel_rfl) (by kernel_rfl) (by kernel_rfl) (rlog_Log_MembersAt_j0_ok n (rlog_Log_MembersAt.l0 n g_1 i_5 k) g_1 i_5 k_6 b_2 A_3 c_4 b_9 w0 S0 ih0 (decide (((rdL g_1.entries k_6).Index) ≤ i_5)))
      · refine GoO.exec (is := [4, 5, 6, 7, 8]) (hs := [.p, .p, .p, .p, .p]) (rest := []) (ks := [0, 1, 6, 7, 37]) (env' := [(0, vP b_2), (1, vU i_5), (6, vI k_6), (7, vP b_9), (37, .bool false)]) (H' := [⟨40, b_9, [vU ((rdL g_1.entries k_6).Term), vU ((rdL g_1.entries k_6).Index), vI ((rdL g_1.entries k_6).Kind), .string (bs ((rdL g_1.entries k_6).Data))]⟩, ⟨1, b_2, [vU g_1.snap.Index, vU g_1.snap.Term, vU g_1.snap.Config, .string (bs g_1.snap.Data), .slice A_3 g_1.entries.length c_4]⟩]) (ps := []) (by kernel_rfl) trivial ?_
        refine GoO.regionEnd ?_
        exact GoO.sub (ks := [0, 1, 6, 7, 37]) (hk := [1, 0]) (bk := [0]) (by kernel_rfl) (by kernel_rfl) (by kernel_rfl) (rlog_Log_MembersAt_j0_ok n (rlog_Log_MembersAt.l0 n g_1 i_5 k) g_1 i_5 k_6 b_2 A_3 c_4 b_9 w0 S0 ih0 false)
    · refine GoO.exit' c24_20e rfl ?_
      refine GoO.seq' c24_35e ?_
      refine GoO.draw c24_36e (by kernel_rfl) [11] [⟨1, b_2, [vU g_1.snap.Index, vU g_1.snap.Term, vU g_1.snap.Config, .string (bs g_1.snap.Data), .slice A_3 g_1.entries.length c_4]⟩] [] (n := 12) (by kernel_rfl) ?_
      simp only [List.replicate]
      refine GoF.take [0, 1, 2, 3, 4, 5, 6, 7, 8, 9, 10] [.p, .p, .p, .p, .b 0, .p, .p, .p, .p, .b 0, .p] (ks := [4, 56]) (fu := 1) (li := [true, true, true, true, true, true, true, true, true, true, true, false]) (env' := [(4, vU g_1.snap.Config), (56, vU g_1.snap.Index)]) (ps := [b_2 = b_2, b_2 = b_2]) (hk := [0]) (bk := []) (by kernel_rfl) (And.intro rfl (And.intro rfl trivial)) rfl rfl ?_
      refine GoF.fin1 (i := 11) (hint := .p) (ps := []) (hk := []) (bk := []) (by kernel_rfl) rfl trivial (.inl rfl) ?_
      refine GoF.done (by kernel_rfl) ?_
      exact GoO.ret' (h := c24_37e) (hs := []) (ps := []) (hk := []) (bk := []) Try.func24 () (by kernel_rfl) trivial (by kernel_rfl) (by kernel_rfl)
theorem rlog_Log_MembersAt_ok (n : Nat) (g_1 : T_rlog_Log) (i_5 : Int) (b_2 : Nat) (A_3 : Option Addr) (c_4 : Nat) :
    Meets Try.prog 24 [vP b_2, vU i_5] 2 [] [⟨1, b_2, [vU g_1.snap.Index, vU g_1.snap.Term, vU g_1.snap.Config, .string (bs g_1.snap.Data), .slice A_3 g_1.entries.length c_4]⟩] [Ow 2 kT_api_Entry A_3 c_4 g_1.entries] (rlog_Log_MembersAt.f n g_1 i_5) (rlog_Log_MembersAt.R b_2 A_3 c_4) := by
  refine Meets.of (c := c24_0) (n := 57) Try.func24 (by kernel_rfl) (by kernel_rfl) (by kernel_rfl) fun w0 S0 => ?_
  unfold rlog_Log_MembersAt.f
  show GoO (rlog_Log_MembersAt.cx b_2 A_3 c_4 w0 S0) [(0, vP b_2), (1, vU i_5)] [⟨1, b_2, [vU g_1.snap.Index, vU g_1.snap.Term, vU g_1.snap.Config, .string (bs g_1.snap.Data), .slice A_3 g_1.entries.length c_4]⟩] [Ow 2 kT_api_Entry A_3 c_4 g_1.entries] [.code c24_0] _
  refine GoO.seq' c24_0e ?_
  refine GoO.region' (is := [0, 1]) c24_1e (by kernel_rfl) ?_
  refine GoO.exec (is := [0, 1]) (hs := [.p, .p]) (rest := []) (ks := [0, 1]) (env' := [(0, vP b_2), (1, vU i_5)]) (H' := [⟨1, b_2, [vU g_1.snap.Index, vU g_1.snap.Term, vU g_1.snap.Config, .string (bs g_1.snap.Data), .slice A_3 g_1.entries.length c_4]⟩]) (ps := []) (by kernel_rfl) trivial ?_
  refine GoO.regionEnd ?_
  refine GoO.seq' c24_2e ?_
  refine GoO.seq' c24_3e ?_
  refine GoO.region' (is := [0, 1]) c24_4e (by kernel_rfl) ?_
  refine GoO.exec (is := [0, 1]) (hs := [.p, .p]) (rest := []) (ks := [0, 1, 11]) (env' := [(0, vP b_2), (1, vU i_5), (11, .bool false)]) (H' := [⟨1, b_2, [vU g_1.snap.Index, vU g_1.snap.Term, vU g_1.snap.Config, .string (bs g_1.snap.Data), .slice A_3 g_1.entries.length c_4]⟩]) (ps := []) (by kernel_rfl) trivial ?_
  refine GoO.regionEnd ?_
  refine GoO.condF c24_5e (by kernel_rfl) ?_
  refine GoO.skip' c24_9e ?_
  refine GoO.seq' c24_10e ?_
  refine GoO.seq' c24_11e ?_
  refine GoO.region' (is := [0, 1, 2, 3, 4, 5, 6]) c24_12e (by kernel_rfl) ?_
  refine GoO.exec (is := [0, 1, 2, 3, 4, 5, 6]) (hs := [.p, .p, .p, .b 0, .p, .p, .p]) (rest := []) (ks := [0, 1, 6]) (env' := [(0, vP b_2), (1, vU i_5), (6, vI (wi64 ((g_1.entries.length : Int) - 1)))]) (H' := [⟨1, b_2, [vU g_1.snap.Index, vU g_1.snap.Term, vU g_1.snap.Config, .string (bs g_1.snap.Data), .slice A_3 g_1.entries.length c_4]⟩]) (ps := [b_2 = b_2]) (by kernel_rfl) (And.intro rfl trivial) ?_
  refine GoO.regionEnd ?_
  refine GoO.block' c24_13e ?_
  refine GoO.loop' c24_14e ?_
  exact GoO.sub (ks := [0, 1, 6]) (hk := [0]) (bk := [0]) (by kernel_rfl) (by kernel_rfl) (by kernel_rfl) (rlog_Log_MembersAt_l0_ok n g_1 i_5 b_2 A_3 c_4 w0 S0 n (wi64 ((g_1.entries.length : Int) - 1)))
/-! (*tontine/rlog.Log).Compact -/
noncomputable def c25_0 : Code := bodyOf Try.f25
noncomputable def c25_1 : Code := cdL c25_0
noncomputable def c25_2 : Code := cdR c25_0
noncomputable def c25_3 : Code := cdL c25_2
noncomputable def c25_4 : Code := cdR c25_2
noncomputable def c25_5 : Code := cdL c25_4
noncomputable def c25_6 : Code := cdL c25_5
noncomputable def c25_7 : Code := cdR c25_5
noncomputable def c25_8 : Code := cdL c25_7
noncomputable def c25_9 : Code := cdL c25_8
noncomputable def c25_10 : Code := cdR c25_8
noncomputable def c25_11 : Code := cdR c25_7
noncomputable def c25_12 : Code := cdR c25_4
noncomputable def c25_13 : Code := cdL c25_12
noncomputable def c25_14 : Code := cdR c25_12
noncomputable def c25_15 : Code := cdL c25_14
noncomputable def c25_16 : Code := cdR c25_14
noncomputable def c25_17 : Code := cdL c25_16
noncomputable def c25_18 : Code := cdR c25_16
noncomputable def c25_19 : Code := cdL c25_18
noncomputable def c25_20 : Code := cdR c25_18
noncomputable def r25_1 : Array Oper := cdO c25_1
noncomputable def r25_3 : Array Oper := cdO c25_3
noncomputable def r25_6 : Array Oper := cdO c25_6
noncomputable def r25_9 : Array Oper := cdO c25_9
noncomputable def r25_13 : Array Oper := cdO c25_13
noncomputable def r25_15 : Array Oper := cdO c25_15
noncomputable def r25_17 : Array Oper := cdO c25_17
noncomputable def r25_19 : Array Oper := cdO c25_19
theorem c25_0e : c25_0 = .seq c25_1 c25_2 := by kernel_rfl
theorem c25_1e : c25_1 = .region 0 r25_1 false := by kernel_rfl
theorem c25_2e : c25_2 = .seq c25_3 c25_4 := by kernel_rfl
theorem c25_3e : c25_3 = .region 1 r25_3 false := by kernel_rfl
theorem c25_4e : c25_4 = .seq c25_5 c25_12 := by kernel_rfl
theorem c25_5e : c25_5 = .seq c25_6 c25_7 := by kernel_rfl
theorem c25_6e : c25_6 = .region 2 r25_6 false := by kernel_rfl
theorem c25_7e : c25_7 = .cond (cdC c25_7) c25_8 c25_11 := by kernel_rfl
theorem c25_8e : c25_8 = .seq c25_9 c25_10 := by kernel_rfl
theorem c25_9e : c25_9 = .region 3 r25_9 false := by kernel_rfl
theorem c25_10e : c25_10 = .ret := by kernel_rfl
theorem c25_11e : c25_11 = .skip := by kernel_rfl
theorem c25_12e : c25_12 = .seq c25_13 c25_14 := by kernel_rfl
theorem c25_13e : c25_13 = .region 4 r25_13 false := by kernel_rfl
theorem c25_14e : c25_14 = .seq c25_15 c25_16 := by kernel_rfl
theorem c25_15e : c25_15 = .region 5 r25_15 false := by kernel_rfl
theorem c25_16e : c25_16 = .seq c25_17 c25_18 := by kernel_rfl
theorem c25_17e : c25_17 = .region 6 r25_17 true := by kernel_rfl
theorem c25_18e : c25_18 = .seq c25_19 c25_20 := by kernel_rfl
theorem c25_19e : c25_19 = .region 7 r25_19 false := by kernel_rfl
theorem c25_20e : c25_20 = .ret := by kernel_rfl
noncomputable def rlog_Log_Compact.R (b_2 : Nat) (A_3 : Option Addr) (c_4 : Nat) : Pst (Int × T_rlog_Log) where
  ε := Option Addr × Nat
  v := fun r x => vI r.1
  H := fun r x => [⟨1, b_2, [vU r.2.snap.Index, vU r.2.snap.Term, vU r.2.snap.Config, .string (bs r.2.snap.Data), .slice x.1 r.2.entries.length x.2]⟩]
  B := fun r x => [Ow 2 kT_api_Entry x.1 x.2 r.2.entries]
noncomputable def rlog_Log_Compact.cx (b_2 : Nat) (A_3 : Option Addr) (c_4 : Nat) (w0 : World) (S0 : Fam) : Cx (Int × T_rlog_Log) := ⟨Try.prog, 25, Try.f25, 49, w0, S0, [1, 2], 2, rlog_Log_Compact.R b_2 A_3 c_4⟩
theorem rlog_Log_Compact_ok (n : Nat) (g_1 : T_rlog_Log) (i_5 : Int) (data_6 : (List UInt8)) (b_2 : Nat) (A_3 : Option Addr) (c_4 : Nat) :
    Meets Try.prog 25 [vP b_2, vU i_5, .string (bs data_6)] 2 [1, 2] [⟨1, b_2, [vU g_1.snap.Index, vU g_1.snap.Term, vU g_1.snap.Config, .string (bs g_1.snap.Data), .slice A_3 g_1.entries.length c_4]⟩] [Ow 2 kT_api_Entry A_3 c_4 g_1.entries] (rlog_Log_Compact.f n g_1 i_5 data_6) (rlog_Log_Compact.R b_2 A_3 c_4) := by
  refine Meets.of (c := c25_0) (n := 49) Try.func25 (by kernel_rfl) (by kernel_rfl) (by kernel_rfl) fun w0 S0 => ?_
  unfold rlog_Log_Compact.f
  show GoO (rlog_Log_Compact.cx b_2 A_3 c_4 w0 S0) [(0, vP b_2), (1, vU i_5), (2, .string (bs data_6))] [⟨1, b_2, [vU g_1.snap.Index, vU g_1.snap.Term, vU g_1.snap.Config, .string (bs g_1.snap.Data), .slice A_3 g_1.entries.length c_4]⟩] [Ow 2 kT_api_Entry A_3 c_4 g_1.entries] [.code c25_0] _
  refine GoO.seq' c25_0e ?_
  refine GoO.region' (is := [0]) c25_1e (by kernel_rfl) ?_
  refine GoO.exec (is := [0]) (hs := [.p]) (rest := []) (ks := [0, 1, 2]) (env' := [(0, vP b_2), (1, vU i_5), (2, .string (bs data_6))]) (H' := [⟨1, b_2, [vU g_1.snap.Index, vU g_1.snap.Term, vU g_1.snap.Config, .string (bs g_1.snap.Data), .slice A_3 g_1.entries.length c_4]⟩]) (ps := []) (by kernel_rfl) trivial ?_
  refine GoO.regionEnd ?_
  refine GoO.seq' c25_2e ?_
  refine GoO.region' (is := [0, 1, 2, 3]) c25_3e (by kernel_rfl) ?_
  refine GoO.exec (is := [0, 1]) (hs := [.p, .p]) (rest := [2, 3]) (ks := [0, 1, 2, 11, 12]) (env' := [(0, vP b_2), (1, vU i_5), (2, .string (bs data_6)), (11, vP b_2), (12, vU i_5)]) (H' := [⟨1, b_2, [vU g_1.snap.Index, vU g_1.snap.Term, vU g_1.snap.Config, .string (bs g_1.snap.Data), .slice A_3 g_1.entries.length c_4]⟩]) (ps := []) (by kernel_rfl) trivial ?_
  refine OpTo.go (GoO.call rfl (by kernel_rfl) (by kernel_rfl) (rlog_Log_at_ok n (⟨(⟨g_1.snap.Index, g_1.snap.Term, g_1.snap.Config, g_1.snap.Data⟩ : T_api_Snapshot), g_1.entries⟩ : T_rlog_Log) i_5 b_2 A_3 c_4) [[0], [1], [2]] [] [(1, 0)] [(2, 0)] (hks := [0]) (bks := [0]) (by kernel_rfl) (by kernel_rfl) (by kernel_rfl) (.inl rfl) rfl rfl (by kernel_rfl) (by kernel_rfl) _ (fun _ _ => rfl) _ _ (fun _ _ => rfl) (fun _ _ => rfl) (fun _ _ => by kernel_rfl) (fun _ _ => by kernel_rfl) (fun r_7 x_19 => ?_))
  refine GoO.shape (env' := [(0, vP b_2), (1, vU i_5), (2, .string (bs data_6)), (11, vP b_2), (12, vU i_5), (13, vI r_7)]) (H' := [⟨1, b_2, [vU g_1.snap.Index, vU g_1.snap.Term, vU g_1.snap.Config, .string (bs g_1.snap.Data), .slice A_3 g_1.entries.length c_4]⟩]) (B' := [Ow 2 kT_api_Entry A_3 c_4 g_1.entries]) (ks := [0, 1, 2, 11, 12, 13]) (by kernel_rfl) (by kernel_rfl) (by kernel_rfl) ?_
  refine GoO.exec (is := [3]) (hs := [.p]) (rest := []) (ks := [0, 1, 2, 7]) (env' := [(0, vP b_2), (1, vU i_5), (2, .string (bs data_6)), (7, vI r_7)]) (H' := [⟨1, b_2, [vU g_1.snap.Index, vU g_1.snap.Term, vU g_1.snap.Config, .string (bs g_1.snap.Data), .slice A_3 g_1.entries.length c_4]⟩]) (ps := []) (by kernel_rfl) trivial ?_
  refine GoO.regionEnd ?_
  refine GoO.seq' c25_4e ?_
  refine GoO.seq' c25_5e ?_
  refine GoO.region' (is := [0, 1]) c25_6e (by kernel_rfl) ?_
  refine GoO.exec (is := [0, 1]) (hs := [.p, .p]) (rest := []) (ks := [0, 1, 2, 7, 15]) (env' := [(0, vP b_2), (1, vU i_5), (2, .string (bs data_6)), (7, vI r_7), (15, .bool (decide (r_7 < 0)))]) (H' := [⟨1, b_2, [vU g_1.snap.Index, vU g_1.snap.Term, vU g_1.snap.Config, .string (bs g_1.snap.Data), .slice A_3 g_1.entries.length c_4]⟩]) (ps := []) (by kernel_rfl) trivial ?_
  refine GoO.regionEnd ?_
  refine GoO.ite' c25_7e (by kernel_rfl) (fun h8 => ?_) (fun h8 => ?_)
  · refine GoO.seq' c25_8e ?_
    refine GoO.region' (is := [0]) c25_9e (by kernel_rfl) ?_
    refine GoO.exec (is := [0]) (hs := [.p]) (rest := []) (ks := [6]) (env' := [(6, vI 20)]) (H' := [⟨1, b_2, [vU g_1.snap.Index, vU g_1.snap.Term, vU g_1.snap.Config, .string (bs g_1.snap.Data), .slice A_3 g_1.entries.length c_4]⟩]) (ps := []) (by kernel_rfl) trivial ?_
    refine GoO.regionEnd ?_
    exact GoO.ret' (h := c25_10e) (hs := []) (ps := []) (hk := [0]) (bk := [0]) Try.func25 (⟨A_3, c_4⟩ : Option Addr × Nat) (by kernel_rfl) trivial (by kernel_rfl) (by kernel_rfl)
  · refine GoO.skip' c25_11e ?_
    refine GoO.seq' c25_12e ?_
    refine GoO.region' (is := [0, 1, 2, 3, 4, 5, 6, 7]) c25_13e (by kernel_rfl) ?_
    refine GoO.exec (is := [0, 1]) (hs := [.p, .p]) (rest := [2, 3, 4, 5, 6, 7]) (ks := [0, 1, 2, 7, 17, 18]) (env' := [(0, vP b_2), (1, vU i_5), (2, .string (bs data_6)), (7, vI r_7), (17, vP b_2), (18, vU i_5)]) (H' := [⟨1, b_2, [vU g_1.snap.Index, vU g_1.snap.Term, vU g_1.snap.Config, .string (bs g_1.snap.Data), .slice A_3 g_1.entries.length c_4]⟩]) (ps := []) (by kernel_rfl) trivial ?_
    refine OpTo.go (GoO.call rfl (by kernel_rfl) (by kernel_rfl) (rlog_Log_MembersAt_ok n (⟨(⟨g_1.snap.Index, g_1.snap.Term, g_1.snap.Config, g_1.snap.Data⟩ : T_api_Snapshot), g_1.entries⟩ : T_rlog_Log) i_5 b_2 A_3 c_4) [[0], [1], [2]] [] [(1, 0)] [(2, 0)] (hks := [0]) (bks := [0]) (by kernel_rfl) (by kernel_rfl) (by kernel_rfl) (.inl rfl) rfl rfl (by kernel_rfl) (by kernel_rfl) _ (fun _ _ => rfl) _ _ (fun _ _ => rfl) (fun _ _ => rfl) (fun _ _ => by kernel_rfl) (fun _ _ => by kernel_rfl) (fun r_9 x_18 => ?_))
    refine GoO.shape (env' := [(0, vP b_2), (1, vU i_5), (2, .string (bs data_6)), (7, vI r_7), (17, vP b_2), (18, vU i_5), (19, .tuple ⟨[vU r_9.1, vU r_9.2]⟩)]) (H' := [⟨1, b_2, [vU g_1.snap.Index, vU g_1.snap.Term, vU g_1.snap.Config, .string (bs g_1.snap.Data), .slice A_3 g_1.entries.length c_4]⟩]) (B' := [Ow 2 kT_api_Entry A_3 c_4 g_1.entries]) (ks := [0, 1, 2, 7, 17, 18, 19]) (by kernel_rfl) (by kernel_rfl) (by kernel_rfl) ?_
    refine GoO.exec (is := [3, 4, 5, 6, 7]) (hs := [.p, .p, .p, .p, .p]) (rest := []) (ks := [0, 1, 2, 7, 8]) (env' := [(0, vP b_2), (1, vU i_5), (2, .string (bs data_6)), (7, vI r_7), (8, vU r_9.1)]) (H' := [⟨1, b_2, [vU g_1.snap.Index, vU g_1.snap.Term, vU g_1.snap.Config, .string (bs g_1.snap.Data), .slice A_3 g_1.entries.length c_4]⟩]) (ps := []) (by kernel_rfl) trivial ?_
    refine GoO.regionEnd ?_
    refine GoO.seq' c25_14e ?_
    refine GoO.region' (is := [0, 1, 2, 3, 4, 5, 6, 7, 8, 9, 10, 11, 12, 13]) c25_15e (by kernel_rfl) ?_
    refine GoO.exec (is := [0, 1, 2, 3, 4, 5]) (hs := [.p, .p, .p, .p, .b 0, .p]) (rest := [6, 7, 8, 9, 10, 11, 12, 13]) (ks := [0, 2, 7, 8, 22, 26, 27]) (env' := [(0, vP b_2), (2, .string (bs data_6)), (7, vI r_7), (8, vU r_9.1), (22, vU i_5), (26, .slice A_3 g_1.entries.length c_4), (27, vI r_7)]) (H' := [⟨1, b_2, [vU g_1.snap.Index, vU g_1.snap.Term, vU g_1.snap.Config, .string (bs g_1.snap.Data), .slice A_3 g_1.entries.length c_4]⟩]) (ps := [b_2 = b_2]) (by kernel_rfl) (And.intro rfl trivial) ?_
    refine GoO.guard (fun h10 => ?_)
    refine OpTo.go (GoO.idx (kk := .i64) (e := 40) (K := kT_api_Entry) (A := A_3) (c := c_4) (xs := g_1.entries) (iv := r_7) (j := 0) rfl (by kernel_rfl) (by kernel_rfl) (by kernel_rfl) (by kernel_rfl) rfl Reads.own rfl h10.1 h10.2 (by decide) rfl ?_)
    refine OpTo.go (GoO.fldE (K := kT_api_Entry) (A := A_3) (c := c_4) (xs := g_1.entries) (iN := r_7.toNat) (off := 0) (n := 0) (j := 0) rfl (by kernel_rfl) (by kernel_rfl) rfl Reads.own (by first | exact idx_lt h10.1 h10.2 | (simp only [List.length_set]; exact idx_lt h10.1 h10.2)) (by decide) rfl ?_)
    refine OpTo.go (GoO.ldE' (K := kT_api_Entry) (A := A_3) (c := c_4) (xs := g_1.entries) (iN := r_7.toNat) (off := 0) (j := 0) rfl (by kernel_rfl) rfl Reads.own (by first | exact idx_lt h10.1 h10.2 | (simp only [List.length_set]; exact idx_lt h10.1 h10.2)) (by decide) (Opn.flat _ _ _ _ _) (v := fun _ => vU ((rdL g_1.entries r_7).Term)) (fun _ => by kernel_rfl) _ (fun _ => rfl) (fun _ => ?_))
    refine GoO.exec (is := [9, 10, 11]) (hs := [.p, .p, .p]) (rest := [12, 13]) (ks := [0, 7, 33]) (env' := [(0, vP b_2), (7, vI r_7), (33, .agg ⟨[vU i_5, vU ((rdL g_1.entries r_7).Term), vU r_9.1, .string (bs data_6)]⟩)]) (H' := [⟨1, b_2, [vU g_1.snap.Index, vU g_1.snap.Term, vU g_1.snap.Config, .string (bs g_1.snap.Data), .slice A_3 g_1.entries.length c_4]⟩]) (ps := []) (by kernel_rfl) trivial ?_
    refine OpTo.go (GoO.new rfl 40 (cs := [vU 0, vU 0, vU 0, .string (bs [])]) (by kernel_rfl) _ (fun _ => rfl) (fun b_11 => ?_))
    refine GoO.exec (is := [13]) (hs := [.b 0]) (rest := []) (ks := [0, 7, 10]) (env' := [(0, vP b_2), (7, vI r_7), (10, vP b_11)]) (H' := [⟨40, b_11, [vU i_5, vU ((rdL g_1.entries r_7).Term), vU r_9.1, .string (bs data_6)]⟩, ⟨1, b_2, [vU g_1.snap.Index, vU g_1.snap.Term, vU g_1.snap.Config, .string (bs g_1.snap.Data), .slice A_3 g_1.entries.length c_4]⟩]) (ps := [b_11 = b_11]) (by kernel_rfl) (And.intro rfl trivial) ?_
    refine GoO.regionEnd ?_
    refine GoO.seq' c25_16e ?_
    refine GoO.draw c25_17e (by kernel_rfl) [14, 15, 16] [⟨40, b_11, [vU i_5, vU ((rdL g_1.entries r_7).Term), vU r_9.1, .string (bs data_6)]⟩] [] (n := 17) (by kernel_rfl) ?_
    simp only [List.replicate]
    refine GoF.take [0, 1, 2, 3, 4, 5, 7, 8] [.p, .p, .b 0, .p, .p, .p, .p, .p] (ks := [34, 35, 36, 39, 42]) (fu := 9) (li := [true, true, true, true, true, true, false, true, true, false, false, false, false, false, false, false, false]) (env' := [(34, vP b_2), (35, vP b_2), (36, .agg ⟨[vU i_5, vU ((rdL g_1.entries r_7).Term), vU r_9.1, .string (bs data_6)]⟩), (39, .pointer (some ⟨b_2, 4, none⟩)), (42, vI (wi64 (r_7 + 1)))]) (ps := [b_11 = b_11]) (hk := [0]) (bk := []) (by kernel_rfl) (And.intro rfl trivial) rfl rfl ?_
    refine GoF.fin1 (i := 6) (hint := .b 1) (ps := [b_2 = b_2]) (hk := [0]) (bk := []) (by kernel_rfl) rfl (And.intro rfl trivial) (.inr ⟨rfl, rfl⟩) ?_
    refine GoF.guard (fun h14 => ?_)
    refine GoF.slc1 (i := 9) (hk := [0]) (bk := []) (e := 40) (K := kT_api_Entry) (A := A_3) (c := c_4) (xs := g_1.entries) (j := 0) (l := (wi64 (r_7 + 1))) (h := (g_1.entries.length : Int)) (by kernel_rfl) rfl rfl rfl (by kernel_rfl) (by kernel_rfl) (by kernel_rfl) rfl Reads.own rfl (by kernel_rfl) (by kernel_rfl) h14.1 h14.2.1 h14.2.2 _ (fun _ _ => rfl) (fun A_12 c_13 => ?_)
    refine GoF.nilOwn kT_api_Entry 41 ?_
    refine GoF.guard (fun h15 => ?_)
    refine OpTo.goF (i := 10) (by kernel_rfl) (hk := [0]) (bk := []) (GoO.appW (e := 40) (K := kT_api_Entry) (A := none) (c := 0) (tg := 41) (bytes := 40) (zs := [vU 0, vU 0, vI 0, .string (bs [])]) (xs := ([] : List T_api_Entry)) (ys := (g_1.entries.take (g_1.entries.length : Int).toNat).drop (wi64 (r_7 + 1)).toNat) (xv := .slice A_12 ((g_1.entries.take (g_1.entries.length : Int).toNat).drop (wi64 (r_7 + 1)).toNat).length c_13) (j := 0) (bk := [1, 2]) rfl (by kernel_rfl) (by kernel_rfl) (by kernel_rfl) (by kernel_rfl) rfl (by kernel_rfl) rfl (fun w S hB => SrcIs.row (Reads.rd w S (hB _ (List.mem_of_getElem? (i := 1) rfl)))) h15 rfl rfl rfl rfl _ (fun _ _ => rfl) (fun A_16 c_17 => ⟨rfl, rfl, ?_⟩))
    refine GoF.take [11, 12] [.p, .p] (ks := [35, 36, 44, 46]) (fu := 4) (li := [true, true, true, true, true, true, true, true, true, true, true, true, true, false, false, false, false]) (env' := [(35, vP b_2), (36, .agg ⟨[vU i_5, vU ((rdL g_1.entries r_7).Term), vU r_9.1, .string (bs data_6)]⟩), (44, .slice A_16 (([] : List T_api_Entry) ++ ((g_1.entries.take (g_1.entries.length : Int).toNat).drop (wi64 (r_7 + 1)).toNat)).length c_17), (46, vP b_2)]) (ps := []) (hk := [0]) (bk := []) (by kernel_rfl) trivial rfl rfl ?_
    refine GoF.fin1 (i := 13) (hint := .b 1) (ps := [b_2 = b_2]) (hk := [0]) (bk := []) (by kernel_rfl) rfl (And.intro rfl trivial) (.inr ⟨rfl, rfl⟩) ?_
    refine GoF.fin1 (i := 14) (hint := .p) (ps := []) (hk := []) (bk := []) (by kernel_rfl) rfl trivial (.inl rfl) ?_
    refine GoF.fin1 (i := 15) (hint := .p) (ps := []) (hk := []) (bk := []) (by kernel_rfl) rfl trivial (.inl rfl) ?_
    refine GoF.fin1 (i := 16) (hint := .b 1) (ps := [b_2 = b_2]) (hk := []) (bk := []) (by kernel_rfl) rfl (And.intro rfl trivial) (.inl rfl) ?_
    refine GoF.done (by kernel_rfl) ?_
    refine GoO.seq' c25_18e ?_
    refine GoO.region' (is := [0]) c25_19e (by kernel_rfl) ?_
    refine GoO.exec (is := [0]) (hs := [.p]) (rest := []) (ks := [6]) (env' := [(6, vI 0)]) (H' := [⟨40, b_11, [vU i_5, vU ((rdL g_1.entries r_7).Term), vU r_9.1, .string (bs data_6)]⟩, ⟨1, b_2, [vU i_5, vU ((rdL g_1.entries r_7).Term), vU r_9.1, .string (bs data_6), .slice A_16 (([] : List T_api_Entry) ++ ((g_1.entries.take (g_1.entries.length : Int).toNat).drop (wi64 (r_7 + 1)).toNat)).length c_17]⟩]) (ps := []) (by kernel_rfl) trivial ?_
    refine GoO.regionEnd ?_
    refine GoO.sub (ks := [6]) (env' := [(6, vI 0)]) (hk := [0, 1]) (bk := [0]) (by kernel_rfl) rfl rfl ?_
    refine GoO.retag (t := 41) (u := 2) (j := 0) (hk := [0, 1]) (bk := []) rfl rfl rfl rfl rfl rfl (by kernel_rfl) (by kernel_rfl) ?_
    exact GoO.ret' (h := c25_20e) (hs := []) (ps := []) (hk := [1]) (bk := [0]) Try.func25 (⟨A_16, c_17⟩ : Option Addr × Nat) (by kernel_rfl) trivial (by kernel_rfl) (by kernel_rfl)
/-! (*tontine/tontineref07.Log).MembersAt -/
noncomputable def c65_0 : Code := bodyOf Try.f65
noncomputable def c65_1 : Code := cdL c65_0
noncomputable def c65_2 : Code := cdR c65_0
noncomputable def c65_3 : Code := cdL c65_2
noncomputable def c65_4 : Code := cdR c65_2
noncomputable def c65_5 : Code := cdL c65_4
noncomputable def c65_6 : Code := cdL c65_5
noncomputable def c65_7 : Code := cdR c65_5
noncomputable def c65_8 : Code := cdL c65_7
noncomputable def c65_9 : Code := cdL c65_8
noncomputable def c65_10 : Code := cdL c65_9
noncomputable def c65_11 : Code := cdL c65_10
noncomputable def c65_12 : Code := cdR c65_10
noncomputable def c65_13 : Code := cdL c65_12
noncomputable def c65_14 : Code := cdR c65_12
noncomputable def c65_15 : Code := cdR c65_9
noncomputable def c65_16 : Code := cdL c65_15
noncomputable def c65_17 : Code := cdL c65_16
noncomputable def c65_18 : Code := cdL c65_17
noncomputable def c65_19 : Code := cdR c65_17
noncomputable def c65_20 : Code := cdL c65_19
noncomputable def c65_21 : Code := cdL c65_20
noncomputable def c65_22 : Code := cdR c65_20
noncomputable def c65_23 : Code := cdR c65_19
noncomputable def c65_24 : Code := cdR c65_15
noncomputable def c65_25 : Code := cdR c65_4
noncomputable def c65_26 : Code := cdL c65_25
noncomputable def c65_27 : Code := cdR c65_25
noncomputable def r65_1 : Array Oper := cdO c65_1
noncomputable def r65_3 : Array Oper := cdO c65_3
noncomputable def r65_6 : Array Oper := cdO c65_6
noncomputable def r65_11 : Array Oper := cdO c65_11
noncomputable def r65_18 : Array Oper := cdO c65_18
noncomputable def r65_21 : Array Oper := cdO c65_21
noncomputable def r65_22 : Array Oper := cdO c65_22
noncomputable def r65_24 : Array Oper := cdO c65_24
noncomputable def r65_26 : Array Oper := cdO c65_26
theorem c65_0e : c65_0 = .seq c65_1 c65_2 := by kernel_rfl
theorem c65_1e : c65_1 = .region 0 r65_1 false := by kernel_rfl
theorem c65_2e : c65_2 = .seq c65_3 c65_4 := by kernel_rfl
theorem c65_3e : c65_3 = .region 1 r65_3 true := by kernel_rfl
theorem c65_4e : c65_4 = .seq c65_5 c65_25 := by kernel_rfl
theorem c65_5e : c65_5 = .seq c65_6 c65_7 := by kernel_rfl
theorem c65_6e : c65_6 = .region 2 r65_6 false := by kernel_rfl
theorem c65_7e : c65_7 = .block 0 c65_8 := by kernel_rfl
theorem c65_8e : c65_8 = .loop c65_9 := by kernel_rfl
theorem c65_9e : c65_9 = .seq c65_10 c65_15 := by kernel_rfl
theorem c65_10e : c65_10 = .seq c65_11 c65_12 := by kernel_rfl
theorem c65_11e : c65_11 = .region 3 r65_11 false := by kernel_rfl
theorem c65_12e : c65_12 = .cond (cdC c65_12) c65_13 c65_14 := by kernel_rfl
theorem c65_13e : c65_13 = .skip := by kernel_rfl
theorem c65_14e : c65_14 = .exit 0 := by kernel_rfl
theorem c65_15e : c65_15 = .seq c65_16 c65_24 := by kernel_rfl
theorem c65_16e : c65_16 = .block 1 c65_17 := by kernel_rfl
theorem c65_17e : c65_17 = .seq c65_18 c65_19 := by kernel_rfl
theorem c65_18e : c65_18 = .region 5 r65_18 false := by kernel_rfl
theorem c65_19e : c65_19 = .cond (cdC c65_19) c65_20 c65_23 := by kernel_rfl
theorem c65_20e : c65_20 = .seq c65_21 c65_22 := by kernel_rfl
theorem c65_21e : c65_21 = .region 6 r65_21 false := by kernel_rfl
theorem c65_22e : c65_22 = .region 7 r65_22 false := by kernel_rfl
theorem c65_23e : c65_23 = .skip := by kernel_rfl
theorem c65_24e : c65_24 = .region 4 r65_24 false := by kernel_rfl
theorem c65_25e : c65_25 = .seq c65_26 c65_27 := by kernel_rfl
theorem c65_26e : c65_26 = .region 8 r65_26 false := by kernel_rfl
theorem c65_27e : c65_27 = .ret := by kernel_rfl
noncomputable def tontineref07_Log_MembersAt.R (b_2 : Nat) (A_3 : Option Addr) (c_4 : Nat) : Pst (Int × Int) where
  ε := Unit
  v := fun r x => .tuple ⟨[vU r.1, vU r.2]⟩
  H := fun r x => []
  B := fun r x => []
noncomputable def tontineref07_Log_MembersAt.cx (b_2 : Nat) (A_3 : Option Addr) (c_4 : Nat) (w0 : World) (S0 : Fam) : Cx (Int × Int) := ⟨Try.prog, 65, Try.f65, 71, w0, S0, [], 2, tontineref07_Log_MembersAt.R b_2 A_3 c_4⟩
end Go.GL
