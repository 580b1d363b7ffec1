import Derived.Test.YtfeddlhkiomdaaaWalkSagaBytesP1
import Derived.Test.YtfeddlhkiomdaaaKindsT1
import Derived.Test.YtfeddlhkiomdaaaProg
set_option linter.unusedVariables false
set_option linter.unusedSimpArgs false
set_option maxRecDepth 100000
namespace Go.GL
open Go Go.Proofs
theorem pack_Reader_Up_ok (n : Nat) (r_1 : T_pack_Reader) (limit_3 : Int) (b_2 : Nat) :
    Meets Try.prog 58 [.pointer (some ⟨b_2, 0, none⟩), .int .i64 limit_3] 1 [1] [⟨1, b_2, [.string (bs r_1.s), .bool r_1.bad]⟩] [] (pack_Reader_Up.f n r_1 limit_3) (pack_Reader_Up.R b_2) := by
  refine Meets.of (c := c58_0) (n := 21) Try.func58 (by kernel_rfl) (by kernel_rfl) (by kernel_rfl) fun w0 S0 => ?_
  unfold pack_Reader_Up.f
  show GoO (pack_Reader_Up.cx b_2 w0 S0) [(0, .pointer (some ⟨b_2, 0, none⟩)), (1, .int .i64 limit_3)] [⟨1, b_2, [.string (bs r_1.s), .bool r_1.bad]⟩] [] [.code c58_0] _
  refine GoO.seq' c58_0e ?_
  refine GoO.region' (is := [0]) c58_1e (by kernel_rfl) ?_
  refine GoO.exec (is := [0]) (hs := [.p]) (rest := []) (ks := [0, 1]) (env' := [(0, .pointer (some ⟨b_2, 0, none⟩)), (1, .int .i64 limit_3)]) (H' := [⟨1, b_2, [.string (bs r_1.s), .bool r_1.bad]⟩]) (ps := []) (by kernel_rfl) trivial ?_
  refine GoO.regionEnd ?_
  refine GoO.seq' c58_2e ?_
  refine GoO.region' (is := [0, 1, 2]) c58_3e (by kernel_rfl) ?_
  refine GoO.exec (is := [0]) (hs := [.p]) (rest := [1, 2]) (ks := [0, 1, 6]) (env' := [(0, .pointer (some ⟨b_2, 0, none⟩)), (1, .int .i64 limit_3), (6, .pointer (some ⟨b_2, 0, none⟩))]) (H' := [⟨1, b_2, [.string (bs r_1.s), .bool r_1.bad]⟩]) (ps := []) (by kernel_rfl) trivial ?_
  refine OpTo.go (GoO.call rfl (by kernel_rfl) (by kernel_rfl) (pack_Reader_Num_ok n r_1 b_2) [[0], [1]] [(1, 1)] [(1, 0)] [] (hks := []) (bks := []) (by kernel_rfl) (by kernel_rfl) (by kernel_rfl) (.inl rfl) rfl rfl (by kernel_rfl) (by kernel_rfl) _ (fun _ _ => rfl) _ _ (fun _ _ => rfl) (fun _ _ => rfl) (fun _ _ => by kernel_rfl) (fun _ _ => by kernel_rfl) (fun r_4 x_10 => ?_))
  refine GoO.shape (env' := [(0, .pointer (some ⟨b_2, 0, none⟩)), (1, .int .i64 limit_3), (6, .pointer (some ⟨b_2, 0, none⟩)), (7, .int .u64 r_4.1)]) (H' := [⟨1, b_2, [.string (bs r_4.2.s), .bool r_4.2.bad]⟩]) (B' := []) (ks := [0, 1, 6, 7]) (by kernel_rfl) (by kernel_rfl) (by kernel_rfl) ?_
  refine GoO.exec (is := [2]) (hs := [.p]) (rest := []) (ks := [0, 1, 5]) (env' := [(0, .pointer (some ⟨b_2, 0, none⟩)), (1, .int .i64 limit_3), (5, .int .u64 r_4.1)]) (H' := [⟨1, b_2, [.string (bs r_4.2.s), .bool r_4.2.bad]⟩]) (ps := []) (by kernel_rfl) trivial ?_
  refine GoO.regionEnd ?_
  refine GoO.seq' c58_4e ?_
  refine GoO.seq' c58_5e ?_
  refine GoO.region' (is := [0, 1, 2, 3, 4, 5, 6, 7]) c58_6e (by kernel_rfl) ?_
  refine GoO.exec (is := [0, 1, 2]) (hs := [.p, .p, .p]) (rest := [3, 4, 5, 6, 7]) (ks := [0, 1, 5, 10]) (env' := [(0, .pointer (some ⟨b_2, 0, none⟩)), (1, .int .i64 limit_3), (5, .int .u64 r_4.1), (10, .bool (decide (limit_3 < 0)))]) (H' := [⟨1, b_2, [.string (bs r_4.2.s), .bool r_4.2.bad]⟩]) (ps := []) (by kernel_rfl) trivial ?_
  refine GoO.bsplit (t := 10) (by kernel_rfl) (fun h5 => ?_) (fun h5 => ?_)
  · refine GoO.exec (is := [3, 4, 5, 6, 7]) (hs := [.p, .p, .p, .p, .p]) (rest := []) (ks := [0, 5, 15]) (env' := [(0, .pointer (some ⟨b_2, 0, none⟩)), (5, .int .u64 r_4.1), (15, .bool true)]) (H' := [⟨1, b_2, [.string (bs r_4.2.s), .bool r_4.2.bad]⟩]) (ps := []) (by kernel_rfl) trivial ?_
    refine GoO.regionEnd ?_
    exact GoO.sub (ks := [0, 5, 15]) (hk := [0]) (bk := []) (by kernel_rfl) (by kernel_rfl) (by kernel_rfl) (pack_Reader_Up_j0_ok n r_4 b_2 w0 S0 true)
  · refine GoO.exec (is := [3, 4, 5, 6, 7]) (hs := [.p, .p, .p, .p, .p]) (rest := []) (ks := [0, 5, 15]) (env' := [(0, .pointer (some ⟨b_2, 0, none⟩)), (5, .int .u64 r_4.1), (15, .bool (decide (r_4.1 > (wu64 limit_3))))]) (H' := [⟨1, b_2, [.string (bs r_4.2.s), .bool r_4.2.bad]⟩]) (ps := []) (by kernel_rfl) trivial ?_
    refine GoO.regionEnd ?_
    exact GoO.sub (ks := [0, 5, 15]) (hk := [0]) (bk := []) (by kernel_rfl) (by kernel_rfl) (by kernel_rfl) (pack_Reader_Up_j0_ok n r_4 b_2 w0 S0 (decide (r_4.1 > (wu64 limit_3))))

/-! (*tontine/pack.Reader).Text -/
noncomputable def c70_0 : Code := bodyOf Try.f70
noncomputable def c70_1 : Code := cdL c70_0
noncomputable def c70_2 : Code := cdR c70_0
noncomputable def c70_3 : Code := cdL c70_2
noncomputable def c70_4 : Code := cdR c70_2
noncomputable def c70_5 : Code := cdL c70_4
noncomputable def c70_6 : Code := cdL c70_5
noncomputable def c70_7 : Code := cdR c70_5
noncomputable def c70_8 : Code := cdL c70_7
noncomputable def c70_9 : Code := cdL c70_8
noncomputable def c70_10 : Code := cdR c70_8
noncomputable def c70_11 : Code := cdL c70_10
noncomputable def c70_12 : Code := cdR c70_10
noncomputable def c70_13 : Code := cdR c70_7
noncomputable def c70_14 : Code := cdR c70_4
noncomputable def c70_15 : Code := cdL c70_14
noncomputable def c70_16 : Code := cdR c70_14
noncomputable def c70_17 : Code := cdL c70_16
noncomputable def c70_18 : Code := cdR c70_16
noncomputable def c70_19 : Code := cdL c70_18
noncomputable def c70_20 : Code := cdR c70_18
noncomputable def r70_1 : Array Oper := cdO c70_1
noncomputable def r70_3 : Array Oper := cdO c70_3
noncomputable def r70_6 : Array Oper := cdO c70_6
noncomputable def r70_9 : Array Oper := cdO c70_9
noncomputable def r70_11 : Array Oper := cdO c70_11
noncomputable def r70_15 : Array Oper := cdO c70_15
noncomputable def r70_17 : Array Oper := cdO c70_17
noncomputable def r70_19 : Array Oper := cdO c70_19
theorem c70_0e : c70_0 = .seq c70_1 c70_2 := by kernel_rfl
theorem c70_1e : c70_1 = .region 0 r70_1 false := by kernel_rfl
theorem c70_2e : c70_2 = .seq c70_3 c70_4 := by kernel_rfl
theorem c70_3e : c70_3 = .region 1 r70_3 false := by kernel_rfl
theorem c70_4e : c70_4 = .seq c70_5 c70_14 := by kernel_rfl
theorem c70_5e : c70_5 = .seq c70_6 c70_7 := by kernel_rfl
theorem c70_6e : c70_6 = .region 2 r70_6 false := by kernel_rfl
theorem c70_7e : c70_7 = .cond (cdC c70_7) c70_8 c70_13 := by kernel_rfl
theorem c70_8e : c70_8 = .seq c70_9 c70_10 := by kernel_rfl
theorem c70_9e : c70_9 = .region 3 r70_9 false := by kernel_rfl
theorem c70_10e : c70_10 = .seq c70_11 c70_12 := by kernel_rfl
theorem c70_11e : c70_11 = .region 4 r70_11 false := by kernel_rfl
theorem c70_12e : c70_12 = .ret := by kernel_rfl
theorem c70_13e : c70_13 = .skip := by kernel_rfl
theorem c70_14e : c70_14 = .seq c70_15 c70_16 := by kernel_rfl
theorem c70_15e : c70_15 = .region 5 r70_15 false := by kernel_rfl
theorem c70_16e : c70_16 = .seq c70_17 c70_18 := by kernel_rfl
theorem c70_17e : c70_17 = .region 6 r70_17 false := by kernel_rfl
theorem c70_18e : c70_18 = .seq c70_19 c70_20 := by kernel_rfl
theorem c70_19e : c70_19 = .region 7 r70_19 false := by kernel_rfl
theorem c70_20e : c70_20 = .ret := by kernel_rfl
noncomputable def pack_Reader_Text.R (b_2 : Nat) : Pst ((List UInt8) × T_pack_Reader) where
  ε := Unit
  v := fun r x => .string (bs r.1)
  H := fun r x => [⟨1, b_2, [.string (bs r.2.s), .bool r.2.bad]⟩]
  B := fun r x => []
noncomputable def pack_Reader_Text.cx (b_2 : Nat) (w0 : World) (S0 : Fam) : Cx ((List UInt8) × T_pack_Reader) := ⟨Try.prog, 70, Try.f70, 39, w0, S0, [1], 1, pack_Reader_Text.R b_2⟩
theorem pack_Reader_Text_ok (n : Nat) (r_1 : T_pack_Reader) (limit_3 : Int) (b_2 : Nat) :
    Meets Try.prog 70 [.pointer (some ⟨b_2, 0, none⟩), .int .i64 limit_3] 1 [1] [⟨1, b_2, [.string (bs r_1.s), .bool r_1.bad]⟩] [] (pack_Reader_Text.f n r_1 limit_3) (pack_Reader_Text.R b_2) := by
  refine Meets.of (c := c70_0) (n := 39) Try.func70 (by kernel_rfl) (by kernel_rfl) (by kernel_rfl) fun w0 S0 => ?_
  unfold pack_Reader_Text.f
  show GoO (pack_Reader_Text.cx b_2 w0 S0) [(0, .pointer (some ⟨b_2, 0, none⟩)), (1, .int .i64 limit_3)] [⟨1, b_2, [.string (bs r_1.s), .bool r_1.bad]⟩] [] [.code c70_0] _
  refine GoO.seq' c70_0e ?_
  refine GoO.region' (is := [0]) c70_1e (by kernel_rfl) ?_
  refine GoO.exec (is := [0]) (hs := [.p]) (rest := []) (ks := [0, 1]) (env' := [(0, .pointer (some ⟨b_2, 0, none⟩)), (1, .int .i64 limit_3)]) (H' := [⟨1, b_2, [.string (bs r_1.s), .bool r_1.bad]⟩]) (ps := []) (by kernel_rfl) trivial ?_
  refine GoO.regionEnd ?_
  refine GoO.seq' c70_2e ?_
  refine GoO.region' (is := [0, 1, 2, 3]) c70_3e (by kernel_rfl) ?_
  refine GoO.exec (is := [0, 1]) (hs := [.p, .p]) (rest := [2, 3]) (ks := [0, 7, 8]) (env' := [(0, .pointer (some ⟨b_2, 0, none⟩)), (7, .pointer (some ⟨b_2, 0, none⟩)), (8, .int .i64 limit_3)]) (H' := [⟨1, b_2, [.string (bs r_1.s), .bool r_1.bad]⟩]) (ps := []) (by kernel_rfl) trivial ?_
  refine OpTo.go (GoO.call rfl (by kernel_rfl) (by kernel_rfl) (pack_Reader_Up_ok n r_1 limit_3 b_2) [[0], [1]] [(1, 1)] [(1, 0)] [] (hks := []) (bks := []) (by kernel_rfl) (by kernel_rfl) (by kernel_rfl) (.inl rfl) rfl rfl (by kernel_rfl) (by kernel_rfl) _ (fun _ _ => rfl) _ _ (fun _ _ => rfl) (fun _ _ => rfl) (fun _ _ => by kernel_rfl) (fun _ _ => by kernel_rfl) (fun r_4 x_10 => ?_))
  refine GoO.shape (env' := [(0, .pointer (some ⟨b_2, 0, none⟩)), (7, .pointer (some ⟨b_2, 0, none⟩)), (8, .int .i64 limit_3), (9, .int .i64 r_4.1)]) (H' := [⟨1, b_2, [.string (bs r_4.2.s), .bool r_4.2.bad]⟩]) (B' := []) (ks := [0, 7, 8, 9]) (by kernel_rfl) (by kernel_rfl) (by kernel_rfl) ?_
  refine GoO.exec (is := [3]) (hs := [.p]) (rest := []) (ks := [0, 5]) (env' := [(0, .pointer (some ⟨b_2, 0, none⟩)), (5, .int .i64 r_4.1)]) (H' := [⟨1, b_2, [.string (bs r_4.2.s), .bool r_4.2.bad]⟩]) (ps := []) (by kernel_rfl) trivial ?_
  refine GoO.regionEnd ?_
  refine GoO.seq' c70_4e ?_
  refine GoO.seq' c70_5e ?_
  refine GoO.region' (is := [0, 1, 2, 3, 4, 5, 6, 7, 8, 9, 10]) c70_6e (by kernel_rfl) ?_
  refine GoO.exec (is := [0, 1, 2, 3, 4, 5, 6, 7, 8, 9, 10]) (hs := [.p, .p, .p, .p, .p, .p, .p, .b 0, .p, .p, .p]) (rest := []) (ks := [0, 5, 20]) (env' := [(0, .pointer (some ⟨b_2, 0, none⟩)), (5, .int .i64 r_4.1), (20, .bool (decide (r_4.1 > (r_4.2.s.length : Int))))]) (H' := [⟨1, b_2, [.string (bs r_4.2.s), .bool r_4.2.bad]⟩]) (ps := [b_2 = b_2]) (by kernel_rfl) (And.intro rfl trivial) ?_
  refine GoO.regionEnd ?_
  refine GoO.ite' c70_7e (by kernel_rfl) (fun h5 => ?_) (fun h5 => ?_)
  · refine GoO.seq' c70_8e ?_
    refine GoO.region' (is := [0, 1]) c70_9e (by kernel_rfl) ?_
    refine GoO.exec (is := [0]) (hs := [.p]) (rest := [1]) (ks := [21]) (env' := [(21, .pointer (some ⟨b_2, 0, none⟩))]) (H' := [⟨1, b_2, [.string (bs r_4.2.s), .bool r_4.2.bad]⟩]) (ps := []) (by kernel_rfl) trivial ?_
    refine OpTo.go (GoO.call rfl (by kernel_rfl) (by kernel_rfl) (pack_Reader_fail_ok n r_4.2 b_2) [[0], [1]] [(1, 1)] [(1, 0)] [] (hks := []) (bks := []) (by kernel_rfl) (by kernel_rfl) (by kernel_rfl) (.inl rfl) rfl rfl (by kernel_rfl) (by kernel_rfl) _ (fun _ _ => rfl) _ _ (fun _ _ => rfl) (fun _ _ => rfl) (fun _ _ => by kernel_rfl) (fun _ _ => by kernel_rfl) (fun r_6 x_7 => ?_))
    refine GoO.shape (env' := [(21, .pointer (some ⟨b_2, 0, none⟩)), (22, .int .u64 r_6.1)]) (H' := [⟨1, b_2, [.string (bs r_6.2.s), .bool r_6.2.bad]⟩]) (B' := []) (ks := [21, 22]) (by kernel_rfl) (by kernel_rfl) (by kernel_rfl) ?_
    refine GoO.regionEnd ?_
    refine GoO.seq' c70_10e ?_
    refine GoO.region' (is := [0]) c70_11e (by kernel_rfl) ?_
    refine GoO.exec (is := [0]) (hs := [.p]) (rest := []) (ks := [4]) (env' := [(4, .string (bs []))]) (H' := [⟨1, b_2, [.string (bs r_6.2.s), .bool r_6.2.bad]⟩]) (ps := []) (by kernel_rfl) trivial ?_
    refine GoO.regionEnd ?_
    exact GoO.ret' (h := c70_12e) (hs := []) (ps := []) (hk := [0]) (bk := []) Try.func70 () (by kernel_rfl) trivial (by kernel_rfl) (by kernel_rfl)
  · refine GoO.skip' c70_13e ?_
    refine GoO.seq' c70_14e ?_
    refine GoO.region' (is := [0, 1, 2, 3, 4, 5, 6]) c70_15e (by kernel_rfl) ?_
    refine GoO.guard (fun h8 => ?_)
    refine GoO.exec (is := [0, 1, 2, 3, 4, 5, 6]) (hs := [.p, .p, .p, .b 0, .p, .p, .p]) (rest := []) (ks := [0, 5, 6]) (env' := [(0, .pointer (some ⟨b_2, 0, none⟩)), (5, .int .i64 r_4.1), (6, .string (bs (r_4.2.s.take r_4.1.toNat)))]) (H' := [⟨1, b_2, [.string (bs r_4.2.s), .bool r_4.2.bad]⟩]) (ps := [b_2 = b_2, (0 : Int) ≤ r_4.1, r_4.1 ≤ (r_4.2.s.length : Int)]) (by kernel_rfl) (And.intro rfl (And.intro h8.1 (And.intro h8.2 trivial))) ?_
    refine GoO.regionEnd ?_
    refine GoO.seq' c70_16e ?_
    refine GoO.region' (is := [0, 1, 2, 3, 4, 5, 6, 7, 8, 9]) c70_17e (by kernel_rfl) ?_
    refine GoO.guard (fun h9 => ?_)
    refine GoO.exec (is := [0, 1, 2, 3, 4, 5, 6, 7, 8, 9]) (hs := [.p, .p, .p, .p, .b 0, .p, .p, .p, .p, .b 0]) (rest := []) (ks := [6]) (env' := [(6, .string (bs (r_4.2.s.take r_4.1.toNat)))]) (H' := [⟨1, b_2, [.string (bs (r_4.2.s.drop r_4.1.toNat)), .bool r_4.2.bad]⟩]) (ps := [b_2 = b_2, (0 : Int) ≤ r_4.1, r_4.1 ≤ (r_4.2.s.length : Int), b_2 = b_2]) (by kernel_rfl) (And.intro rfl (And.intro h9.1 (And.intro h9.2 (And.intro rfl trivial)))) ?_
    refine GoO.regionEnd ?_
    refine GoO.seq' c70_18e ?_
    refine GoO.region' (is := [0, 1]) c70_19e (by kernel_rfl) ?_
    refine GoO.exec (is := [0, 1]) (hs := [.p, .p]) (rest := []) (ks := [4]) (env' := [(4, .string (bs (r_4.2.s.take r_4.1.toNat)))]) (H' := [⟨1, b_2, [.string (bs (r_4.2.s.drop r_4.1.toNat)), .bool r_4.2.bad]⟩]) (ps := []) (by kernel_rfl) trivial ?_
    refine GoO.regionEnd ?_
    exact GoO.ret' (h := c70_20e) (hs := []) (ps := []) (hk := [0]) (bk := []) Try.func70 () (by kernel_rfl) trivial (by kernel_rfl) (by kernel_rfl)

/-! (*tontine/pack.Reader).Left -/
noncomputable def c45_0 : Code := bodyOf Try.f45
noncomputable def c45_1 : Code := cdL c45_0
noncomputable def c45_2 : Code := cdR c45_0
noncomputable def c45_3 : Code := cdL c45_2
noncomputable def c45_4 : Code := cdL c45_3
noncomputable def c45_5 : Code := cdR c45_3
noncomputable def c45_9 : Code := cdR c45_5
noncomputable def c45_10 : Code := cdR c45_2
noncomputable def c45_11 : Code := cdL c45_10
noncomputable def c45_12 : Code := cdR c45_10
noncomputable def c45_6 : Code := cdL c45_5
noncomputable def r45_1 : Array Oper := cdO c45_1
noncomputable def r45_4 : Array Oper := cdO c45_4
noncomputable def r45_11 : Array Oper := cdO c45_11
theorem c45_0e : c45_0 = .seq c45_1 c45_2 := by kernel_rfl
theorem c45_1e : c45_1 = .region 0 r45_1 false := by kernel_rfl
theorem c45_2e : c45_2 = .seq c45_3 c45_10 := by kernel_rfl
theorem c45_3e : c45_3 = .seq c45_4 c45_5 := by kernel_rfl
theorem c45_4e : c45_4 = .region 1 r45_4 false := by kernel_rfl
theorem c45_5e : c45_5 = .cond (cdC c45_5) c45_6 c45_9 := by kernel_rfl
theorem c45_9e : c45_9 = .skip := by kernel_rfl
theorem c45_10e : c45_10 = .seq c45_11 c45_12 := by kernel_rfl
theorem c45_11e : c45_11 = .region 3 r45_11 true := by kernel_rfl
theorem c45_12e : c45_12 = .ret := by kernel_rfl
noncomputable def pack_Reader_Left.R (b_2 : Nat) : Pst (Int × Bool) where
  ε := Unit
  v := fun r x => .tuple ⟨[.int .i64 r.1, .bool r.2]⟩
  H := fun r x => []
  B := fun r x => []
noncomputable def pack_Reader_Left.cx (b_2 : Nat) (w0 : World) (S0 : Fam) : Cx (Int × Bool) := ⟨Try.prog, 45, Try.f45, 16, w0, S0, [], 1, pack_Reader_Left.R b_2⟩
theorem pack_Reader_Left_ok (n : Nat) (r_1 : T_pack_Reader) (b_2 : Nat) :
    Meets Try.prog 45 [.pointer (some ⟨b_2, 0, none⟩)] 1 [] [⟨1, b_2, [.string (bs r_1.s), .bool r_1.bad]⟩] [] (pack_Reader_Left.f n r_1) (pack_Reader_Left.R b_2) := by
  refine Meets.of (c := c45_0) (n := 16) Try.func45 (by kernel_rfl) (by kernel_rfl) (by kernel_rfl) fun w0 S0 => ?_
  unfold pack_Reader_Left.f
  show GoO (pack_Reader_Left.cx b_2 w0 S0) [(0, .pointer (some ⟨b_2, 0, none⟩))] [⟨1, b_2, [.string (bs r_1.s), .bool r_1.bad]⟩] [] [.code c45_0] _
  refine GoO.seq' c45_0e ?_
  refine GoO.region' (is := [0, 1]) c45_1e (by kernel_rfl) ?_
  refine GoO.exec (is := [0, 1]) (hs := [.p, .p]) (rest := []) (ks := [0]) (env' := [(0, .pointer (some ⟨b_2, 0, none⟩))]) (H' := [⟨1, b_2, [.string (bs r_1.s), .bool r_1.bad]⟩]) (ps := []) (by kernel_rfl) trivial ?_
  refine GoO.regionEnd ?_
  refine GoO.seq' c45_2e ?_
  refine GoO.seq' c45_3e ?_
  refine GoO.region' (is := [0, 1]) c45_4e (by kernel_rfl) ?_
  refine GoO.exec (is := [0, 1]) (hs := [.p, .p]) (rest := []) (ks := [0, 5]) (env' := [(0, .pointer (some ⟨b_2, 0, none⟩)), (5, .bool false)]) (H' := [⟨1, b_2, [.string (bs r_1.s), .bool r_1.bad]⟩]) (ps := []) (by kernel_rfl) trivial ?_
  refine GoO.regionEnd ?_
  refine GoO.condF c45_5e (by kernel_rfl) ?_
  refine GoO.skip' c45_9e ?_
  refine GoO.seq' c45_10e ?_
  refine GoO.draw c45_11e (by kernel_rfl) [11] [⟨1, b_2, [.string (bs r_1.s), .bool r_1.bad]⟩] [] (n := 12) (by kernel_rfl) ?_
  simp only [List.replicate]
  refine GoF.take [0, 1, 2, 3, 4, 5, 6, 7, 8, 9, 10] [.p, .p, .p, .b 0, .p, .p, .p, .p, .b 0, .p, .p] (ks := [2, 15]) (fu := 1) (li := [true, true, true, true, true, true, true, true, true, true, true, false]) (env' := [(2, .int .i64 (r_1.s.length : Int)), (15, .bool (!r_1.bad))]) (ps := [b_2 = b_2, b_2 = b_2]) (hk := [0]) (bk := []) (by kernel_rfl) (And.intro rfl (And.intro rfl trivial)) rfl rfl ?_
  refine GoF.fin1 (i := 11) (hint := .p) (ps := []) (hk := []) (bk := []) (by kernel_rfl) rfl trivial (.inl rfl) ?_
  refine GoF.done (by kernel_rfl) ?_
  exact GoO.ret' (h := c45_12e) (hs := []) (ps := []) (hk := []) (bk := []) Try.func45 () (by kernel_rfl) trivial (by kernel_rfl) (by kernel_rfl)

/-! tontine/plan.Read -/
noncomputable def c62_0 : Code := bodyOf Try.f62
noncomputable def c62_1 : Code := cdL c62_0
noncomputable def c62_2 : Code := cdR c62_0
noncomputable def c62_3 : Code := cdL c62_2
noncomputable def c62_4 : Code := cdR c62_2
noncomputable def c62_5 : Code := cdL c62_4
noncomputable def c62_6 : Code := cdL c62_5
noncomputable def c62_7 : Code := cdR c62_5
noncomputable def c62_8 : Code := cdL c62_7
noncomputable def c62_9 : Code := cdL c62_8
noncomputable def c62_10 : Code := cdL c62_9
noncomputable def c62_11 : Code := cdL c62_10
noncomputable def c62_12 : Code := cdR c62_10
noncomputable def c62_13 : Code := cdL c62_12
noncomputable def c62_14 : Code := cdR c62_12
noncomputable def c62_15 : Code := cdR c62_9
noncomputable def c62_16 : Code := cdL c62_15
noncomputable def c62_17 : Code := cdL c62_16
noncomputable def c62_18 : Code := cdL c62_17
noncomputable def c62_19 : Code := cdR c62_17
noncomputable def c62_20 : Code := cdL c62_19
noncomputable def c62_21 : Code := cdR c62_19
noncomputable def c62_22 : Code := cdL c62_21
noncomputable def c62_23 : Code := cdR c62_21
noncomputable def c62_24 : Code := cdR c62_15
noncomputable def c62_25 : Code := cdR c62_4
noncomputable def c62_26 : Code := cdL c62_25
noncomputable def c62_27 : Code := cdL c62_26
noncomputable def c62_28 : Code := cdR c62_26
noncomputable def c62_29 : Code := cdL c62_28
noncomputable def c62_30 : Code := cdR c62_28
noncomputable def c62_31 : Code := cdL c62_30
noncomputable def c62_32 : Code := cdL c62_31
noncomputable def c62_33 : Code := cdR c62_31
noncomputable def c62_34 : Code := cdR c62_30
noncomputable def c62_35 : Code := cdR c62_25
noncomputable def c62_36 : Code := cdL c62_35
noncomputable def c62_37 : Code := cdR c62_35
noncomputable def r62_1 : Array Oper := cdO c62_1
noncomputable def r62_3 : Array Oper := cdO c62_3
noncomputable def r62_6 : Array Oper := cdO c62_6
noncomputable def r62_11 : Array Oper := cdO c62_11
noncomputable def r62_18 : Array Oper := cdO c62_18
noncomputable def r62_20 : Array Oper := cdO c62_20
noncomputable def r62_22 : Array Oper := cdO c62_22
noncomputable def r62_23 : Array Oper := cdO c62_23
noncomputable def r62_24 : Array Oper := cdO c62_24
noncomputable def r62_27 : Array Oper := cdO c62_27
noncomputable def r62_29 : Array Oper := cdO c62_29
noncomputable def r62_32 : Array Oper := cdO c62_32
noncomputable def r62_36 : Array Oper := cdO c62_36
theorem c62_0e : c62_0 = .seq c62_1 c62_2 := by kernel_rfl
theorem c62_1e : c62_1 = .region 0 r62_1 false := by kernel_rfl
theorem c62_2e : c62_2 = .seq c62_3 c62_4 := by kernel_rfl
theorem c62_3e : c62_3 = .region 1 r62_3 false := by kernel_rfl
theorem c62_4e : c62_4 = .seq c62_5 c62_25 := by kernel_rfl
theorem c62_5e : c62_5 = .seq c62_6 c62_7 := by kernel_rfl
theorem c62_6e : c62_6 = .region 2 r62_6 false := by kernel_rfl
theorem c62_7e : c62_7 = .block 0 c62_8 := by kernel_rfl
theorem c62_8e : c62_8 = .loop c62_9 := by kernel_rfl
theorem c62_9e : c62_9 = .seq c62_10 c62_15 := by kernel_rfl
theorem c62_10e : c62_10 = .seq c62_11 c62_12 := by kernel_rfl
theorem c62_11e : c62_11 = .region 3 r62_11 false := by kernel_rfl
theorem c62_12e : c62_12 = .cond (cdC c62_12) c62_13 c62_14 := by kernel_rfl
theorem c62_13e : c62_13 = .skip := by kernel_rfl
theorem c62_14e : c62_14 = .exit 0 := by kernel_rfl
theorem c62_15e : c62_15 = .seq c62_16 c62_24 := by kernel_rfl
theorem c62_16e : c62_16 = .block 1 c62_17 := by kernel_rfl
theorem c62_17e : c62_17 = .seq c62_18 c62_19 := by kernel_rfl
theorem c62_18e : c62_18 = .region 5 r62_18 false := by kernel_rfl
theorem c62_19e : c62_19 = .seq c62_20 c62_21 := by kernel_rfl
theorem c62_20e : c62_20 = .region 6 r62_20 false := by kernel_rfl
theorem c62_21e : c62_21 = .seq c62_22 c62_23 := by kernel_rfl
theorem c62_22e : c62_22 = .region 7 r62_22 false := by kernel_rfl
theorem c62_23e : c62_23 = .region 8 r62_23 false := by kernel_rfl
theorem c62_24e : c62_24 = .region 4 r62_24 false := by kernel_rfl
theorem c62_25e : c62_25 = .seq c62_26 c62_35 := by kernel_rfl
theorem c62_26e : c62_26 = .seq c62_27 c62_28 := by kernel_rfl
theorem c62_27e : c62_27 = .region 9 r62_27 false := by kernel_rfl
theorem c62_28e : c62_28 = .seq c62_29 c62_30 := by kernel_rfl
theorem c62_29e : c62_29 = .region 10 r62_29 false := by kernel_rfl
theorem c62_30e : c62_30 = .cond (cdC c62_30) c62_31 c62_34 := by kernel_rfl
theorem c62_31e : c62_31 = .seq c62_32 c62_33 := by kernel_rfl
theorem c62_32e : c62_32 = .region 11 r62_32 false := by kernel_rfl
theorem c62_33e : c62_33 = .ret := by kernel_rfl
theorem c62_34e : c62_34 = .skip := by kernel_rfl
theorem c62_35e : c62_35 = .seq c62_36 c62_37 := by kernel_rfl
theorem c62_36e : c62_36 = .region 12 r62_36 false := by kernel_rfl
theorem c62_37e : c62_37 = .ret := by kernel_rfl
noncomputable def plan_Read.R (b_2 : Nat) : Pst ((List T_api_Step) × T_pack_Reader) where
  ε := Option Addr × Nat
  v := fun r x => .slice x.1 r.1.length x.2
  H := fun r x => [⟨1, b_2, [.string (bs r.2.s), .bool r.2.bad]⟩]
  B := fun r x => [Ow 2 kT_api_Step x.1 x.2 r.1]
noncomputable def plan_Read.cx (b_2 : Nat) (w0 : World) (S0 : Fam) : Cx ((List T_api_Step) × T_pack_Reader) := ⟨Try.prog, 62, Try.f62, 35, w0, S0, [1], 1, plan_Read.R b_2⟩
theorem plan_Read_l0_ok (n : Nat) (b_2 : Nat) (w0 : World) (S0 : Fam) :
    ∀ (k : Nat) (f_4 : (List UInt8)) (f_5 : Bool) (l_6 : (List T_api_Step)) (n_9 : Int) (A_7 : Option Addr) (c_8 : Nat), GoO (plan_Read.cx b_2 w0 S0) [(0, .pointer (some ⟨b_2, 0, none⟩)), (3, .slice A_7 l_6.length c_8), (4, .int .i64 n_9)] [⟨1, b_2, [.string (bs f_4), .bool f_5]⟩] [Ow 42 kT_api_Step A_7 c_8 l_6] [.code c62_9, .inLoop c62_9, .inBlock 0, .code c62_25] (plan_Read.l0 n k f_4 f_5 l_6 n_9) := by
  intro k
  induction k with
  | zero => intros; rw [plan_Read.l0.eq_1]; exact GoO.stop
  | succ k ih0 =>
    intro f_4 f_5 l_6 n_9 A_7 c_8
    rw [plan_Read.l0.eq_2]
    refine GoO.seq' c62_9e ?_
    refine GoO.seq' c62_10e ?_
    refine GoO.region' (is := [0, 1]) c62_11e (by kernel_rfl) ?_
    refine GoO.exec (is := [0, 1]) (hs := [.p, .p]) (rest := []) (ks := [0, 3, 4, 11]) (env' := [(0, .pointer (some ⟨b_2, 0, none⟩)), (3, .slice A_7 l_6.length c_8), (4, .int .i64 n_9), (11, .bool (decide (n_9 > 0)))]) (H' := [⟨1, b_2, [.string (bs f_4), .bool f_5]⟩]) (ps := []) (by kernel_rfl) trivial ?_
    refine GoO.regionEnd ?_
    refine GoO.ite' c62_12e (by kernel_rfl) (fun h10 => ?_) (fun h10 => ?_)
    · refine GoO.skip' c62_13e ?_
      refine GoO.seq' c62_15e ?_
      refine GoO.block' c62_16e ?_
      refine GoO.seq' c62_17e ?_
      refine GoO.region' (is := [0, 1, 2, 3, 4]) c62_18e (by kernel_rfl) ?_
      refine GoO.exec (is := [0]) (hs := [.p]) (rest := [1, 2, 3, 4]) (ks := [0, 3, 4, 14]) (env' := [(0, .pointer (some ⟨b_2, 0, none⟩)), (3, .slice A_7 l_6.length c_8), (4, .int .i64 n_9), (14, .pointer (some ⟨b_2, 0, none⟩))]) (H' := [⟨1, b_2, [.string (bs f_4), .bool f_5]⟩]) (ps := []) (by kernel_rfl) trivial ?_
      refine OpTo.go (GoO.call rfl (by kernel_rfl) (by kernel_rfl) (pack_Reader_Up_ok n (⟨f_4, f_5⟩ : T_pack_Reader) 3 b_2) [[0], [1]] [(1, 1)] [(1, 0)] [] (hks := []) (bks := [0]) (by kernel_rfl) (by kernel_rfl) (by kernel_rfl) (.inl rfl) rfl rfl (by kernel_rfl) (by kernel_rfl) _ (fun _ _ => rfl) _ _ (fun _ _ => rfl) (fun _ _ => rfl) (fun _ _ => by kernel_rfl) (fun _ _ => by kernel_rfl) (fun r_11 x_22 => ?_))
      refine GoO.shape (env' := [(0, .pointer (some ⟨b_2, 0, none⟩)), (3, .slice A_7 l_6.length c_8), (4, .int .i64 n_9), (14, .pointer (some ⟨b_2, 0, none⟩)), (15, .int .i64 r_11.1)]) (H' := [⟨1, b_2, [.string (bs r_11.2.s), .bool r_11.2.bad]⟩]) (B' := [Ow 42 kT_api_Step A_7 c_8 l_6]) (ks := [0, 3, 4, 14, 15]) (by kernel_rfl) (by kernel_rfl) (by kernel_rfl) ?_
      refine GoO.exec (is := [2]) (hs := [.p]) (rest := [3, 4]) (ks := [0, 3, 4, 16]) (env' := [(0, .pointer (some ⟨b_2, 0, none⟩)), (3, .slice A_7 l_6.length c_8), (4, .int .i64 n_9), (16, .agg ⟨[.int .i64 r_11.1, .string (bs []), .int .i64 0]⟩)]) (H' := [⟨1, b_2, [.string (bs r_11.2.s), .bool r_11.2.bad]⟩]) (ps := []) (by kernel_rfl) trivial ?_
      refine OpTo.go (GoO.new rfl 40 (cs := [.int .i64 0, .string (bs []), .int .i64 0]) (by kernel_rfl) _ (fun _ => rfl) (fun b_12 => ?_))
      refine GoO.exec (is := [4]) (hs := [.b 0]) (rest := []) (ks := [0, 3, 4, 5]) (env' := [(0, .pointer (some ⟨b_2, 0, none⟩)), (3, .slice A_7 l_6.length c_8), (4, .int .i64 n_9), (5, .pointer (some ⟨b_12, 0, none⟩))]) (H' := [⟨40, b_12, [.int .i64 r_11.1, .string (bs []), .int .i64 0]⟩, ⟨1, b_2, [.string (bs r_11.2.s), .bool r_11.2.bad]⟩]) (ps := [b_12 = b_12]) (by kernel_rfl) (And.intro rfl trivial) ?_
      refine GoO.regionEnd ?_
      refine GoO.seq' c62_19e ?_
      refine GoO.region' (is := [0, 1, 2, 3]) c62_20e (by kernel_rfl) ?_
      refine GoO.exec (is := [0]) (hs := [.p]) (rest := [1, 2, 3]) (ks := [0, 3, 4, 5, 17]) (env' := [(0, .pointer (some ⟨b_2, 0, none⟩)), (3, .slice A_7 l_6.length c_8), (4, .int .i64 n_9), (5, .pointer (some ⟨b_12, 0, none⟩)), (17, .pointer (some ⟨b_2, 0, none⟩))]) (H' := [⟨40, b_12, [.int .i64 r_11.1, .string (bs []), .int .i64 0]⟩, ⟨1, b_2, [.string (bs r_11.2.s), .bool r_11.2.bad]⟩]) (ps := []) (by kernel_rfl) trivial ?_
      refine OpTo.go (GoO.call rfl (by kernel_rfl) (by kernel_rfl) (pack_Reader_Text_ok n r_11.2 16 b_2) [[0], [1]] [(1, 1)] [(1, 1)] [] (hks := [0]) (bks := [0]) (by kernel_rfl) (by kernel_rfl) (by kernel_rfl) (.inl rfl) rfl rfl (by kernel_rfl) (by kernel_rfl) _ (fun _ _ => rfl) _ _ (fun _ _ => rfl) (fun _ _ => rfl) (fun _ _ => by kernel_rfl) (fun _ _ => by kernel_rfl) (fun r_13 x_21 => ?_))
      refine GoO.shape (env' := [(0, .pointer (some ⟨b_2, 0, none⟩)), (3, .slice A_7 l_6.length c_8), (4, .int .i64 n_9), (5, .pointer (some ⟨b_12, 0, none⟩)), (17, .pointer (some ⟨b_2, 0, none⟩)), (18, .string (bs r_13.1))]) (H' := [⟨1, b_2, [.string (bs r_13.2.s), .bool r_13.2.bad]⟩, ⟨40, b_12, [.int .i64 r_11.1, .string (bs []), .int .i64 0]⟩]) (B' := [Ow 42 kT_api_Step A_7 c_8 l_6]) (ks := [0, 3, 4, 5, 17, 18]) (by kernel_rfl) (by kernel_rfl) (by kernel_rfl) ?_
      refine GoO.exec (is := [2, 3]) (hs := [.p, .b 1]) (rest := []) (ks := [0, 3, 4, 5]) (env' := [(0, .pointer (some ⟨b_2, 0, none⟩)), (3, .slice A_7 l_6.length c_8), (4, .int .i64 n_9), (5, .pointer (some ⟨b_12, 0, none⟩))]) (H' := [⟨1, b_2, [.string (bs r_13.2.s), .bool r_13.2.bad]⟩, ⟨40, b_12, [.int .i64 r_11.1, .string (bs r_13.1), .int .i64 0]⟩]) (ps := [b_12 = b_12]) (by kernel_rfl) (And.intro rfl trivial) ?_
      refine GoO.regionEnd ?_
      refine GoO.seq' c62_21e ?_
      refine GoO.region' (is := [0, 1, 2, 3]) c62_22e (by kernel_rfl) ?_
      refine GoO.exec (is := [0]) (hs := [.p]) (rest := [1, 2, 3]) (ks := [0, 3, 4, 5, 20]) (env' := [(0, .pointer (some ⟨b_2, 0, none⟩)), (3, .slice A_7 l_6.length c_8), (4, .int .i64 n_9), (5, .pointer (some ⟨b_12, 0, none⟩)), (20, .pointer (some ⟨b_2, 0, none⟩))]) (H' := [⟨1, b_2, [.string (bs r_13.2.s), .bool r_13.2.bad]⟩, ⟨40, b_12, [.int .i64 r_11.1, .string (bs r_13.1), .int .i64 0]⟩]) (ps := []) (by kernel_rfl) trivial ?_
      refine OpTo.go (GoO.call rfl (by kernel_rfl) (by kernel_rfl) (pack_Reader_Up_ok n r_13.2 9 b_2) [[0], [1]] [(1, 1)] [(1, 0)] [] (hks := [1]) (bks := [0]) (by kernel_rfl) (by kernel_rfl) (by kernel_rfl) (.inl rfl) rfl rfl (by kernel_rfl) (by kernel_rfl) _ (fun _ _ => rfl) _ _ (fun _ _ => rfl) (fun _ _ => rfl) (fun _ _ => by kernel_rfl) (fun _ _ => by kernel_rfl) (fun r_14 x_20 => ?_))
      refine GoO.shape (env' := [(0, .pointer (some ⟨b_2, 0, none⟩)), (3, .slice A_7 l_6.length c_8), (4, .int .i64 n_9), (5, .pointer (some ⟨b_12, 0, none⟩)), (20, .pointer (some ⟨b_2, 0, none⟩)), (21, .int .i64 r_14.1)]) (H' := [⟨1, b_2, [.string (bs r_14.2.s), .bool r_14.2.bad]⟩, ⟨40, b_12, [.int .i64 r_11.1, .string (bs r_13.1), .int .i64 0]⟩]) (B' := [Ow 42 kT_api_Step A_7 c_8 l_6]) (ks := [0, 3, 4, 5, 20, 21]) (by kernel_rfl) (by kernel_rfl) (by kernel_rfl) ?_
      refine GoO.exec (is := [2, 3]) (hs := [.p, .b 1]) (rest := []) (ks := [0, 3, 4, 5]) (env' := [(0, .pointer (some ⟨b_2, 0, none⟩)), (3, .slice A_7 l_6.length c_8), (4, .int .i64 n_9), (5, .pointer (some ⟨b_12, 0, none⟩))]) (H' := [⟨1, b_2, [.string (bs r_14.2.s), .bool r_14.2.bad]⟩, ⟨40, b_12, [.int .i64 r_11.1, .string (bs r_13.1), .int .i64 r_14.1]⟩]) (ps := [b_12 = b_12]) (by kernel_rfl) (And.intro rfl trivial) ?_
      refine GoO.regionEnd ?_
      refine GoO.region' (is := [0, 1, 2, 3, 4]) c62_23e (by kernel_rfl) ?_
      refine GoO.exec (is := [0, 1]) (hs := [.p, .b 1]) (rest := [2, 3, 4]) (ks := [0, 4, 23, 24]) (env' := [(0, .pointer (some ⟨b_2, 0, none⟩)), (4, .int .i64 n_9), (23, .slice A_7 l_6.length c_8), (24, .agg ⟨[.int .i64 r_11.1, .string (bs r_13.1), .int .i64 r_14.1]⟩)]) (H' := [⟨1, b_2, [.string (bs r_14.2.s), .bool r_14.2.bad]⟩, ⟨40, b_12, [.int .i64 r_11.1, .string (bs r_13.1), .int .i64 r_14.1]⟩]) (ps := [b_12 = b_12]) (by kernel_rfl) (And.intro rfl trivial) ?_
      refine OpTo.go (GoO.lit (e := 50) (K := kT_api_Step) rfl (by kernel_rfl) (by kernel_rfl) (cs := [.int .i64 r_11.1, .string (bs r_13.1), .int .i64 r_14.1]) (by kernel_rfl) [(⟨r_11.1, r_13.1, r_14.1⟩ : T_api_Step)] (by kernel_rfl) (by kernel_rfl) (fun w S hB => ⟨[.int .i64 r_11.1, .string (bs r_13.1), .int .i64 r_14.1], _, rfl, rfl, rfl⟩) 41 _ (fun _ _ => rfl) (fun A_15 c_16 => ?_))
      refine GoO.guard (fun h17 => ?_)
      refine OpTo.go (GoO.appW (e := 50) (K := kT_api_Step) (A := A_7) (c := c_8) (tg := 42) (bytes := 32) (zs := [.int .i64 0, .string (bs []), .int .i64 0]) (xs := l_6) (ys := [(⟨r_11.1, r_13.1, r_14.1⟩ : T_api_Step)]) (xv := .slice A_15 [(⟨r_11.1, r_13.1, r_14.1⟩ : T_api_Step)].length c_16) (j := 1) (bk := [0]) rfl (by kernel_rfl) (by kernel_rfl) (by kernel_rfl) (by kernel_rfl) rfl (by kernel_rfl) rfl (fun w S hB => SrcIs.row (Reads.own w S (hB _ (List.mem_of_getElem? (i := 0) rfl)))) h17 rfl rfl rfl rfl _ (fun _ _ => rfl) (fun A_18 c_19 => ?_))
      refine GoO.exec (is := [4]) (hs := [.p]) (rest := []) (ks := [0, 3, 4]) (env' := [(0, .pointer (some ⟨b_2, 0, none⟩)), (3, .slice A_18 (l_6 ++ [(⟨r_11.1, r_13.1, r_14.1⟩ : T_api_Step)]).length c_19), (4, .int .i64 n_9)]) (H' := [⟨1, b_2, [.string (bs r_14.2.s), .bool r_14.2.bad]⟩, ⟨40, b_12, [.int .i64 r_11.1, .string (bs r_13.1), .int .i64 r_14.1]⟩]) (ps := []) (by kernel_rfl) trivial ?_
      refine GoO.regionEnd ?_
      refine GoO.inBlock ?_
      refine GoO.region' (is := [0, 1, 2]) c62_24e (by kernel_rfl) ?_
      refine GoO.exec (is := [0, 1, 2]) (hs := [.p, .p, .p]) (rest := []) (ks := [0, 3, 4]) (env' := [(0, .pointer (some ⟨b_2, 0, none⟩)), (3, .slice A_18 (l_6 ++ [(⟨r_11.1, r_13.1, r_14.1⟩ : T_api_Step)]).length c_19), (4, .int .i64 (wi64 (n_9 - 1)))]) (H' := [⟨1, b_2, [.string (bs r_14.2.s), .bool r_14.2.bad]⟩, ⟨40, b_12, [.int .i64 r_11.1, .string (bs r_13.1), .int .i64 r_14.1]⟩]) (ps := []) (by kernel_rfl) trivial ?_
      refine GoO.regionEnd ?_
      refine GoO.inLoop ?_
      exact GoO.sub (ks := [0, 3, 4]) (hk := [0]) (bk := [0]) (by kernel_rfl) (by kernel_rfl) (by kernel_rfl) (ih0 r_14.2.s r_14.2.bad (l_6 ++ [(⟨r_11.1, r_13.1, r_14.1⟩ : T_api_Step)]) (wi64 (n_9 - 1)) A_18 c_19)
    · refine GoO.exit' c62_14e rfl ?_
      refine GoO.seq' c62_25e ?_
      refine GoO.seq' c62_26e ?_
      refine GoO.region' (is := [0, 1, 2, 3, 4, 5, 6]) c62_27e (by kernel_rfl) ?_
      refine GoO.exec (is := [0]) (hs := [.p]) (rest := [1, 2, 3, 4, 5, 6]) (ks := [3, 28]) (env' := [(3, .slice A_7 l_6.length c_8), (28, .pointer (some ⟨b_2, 0, none⟩))]) (H' := [⟨1, b_2, [.string (bs f_4), .bool f_5]⟩]) (ps := []) (by kernel_rfl) trivial ?_
      refine OpTo.go (GoO.call rfl (by kernel_rfl) (by kernel_rfl) (pack_Reader_Left_ok n (⟨f_4, f_5⟩ : T_pack_Reader) b_2) [[0], [1]] [] [(1, 0)] [] (hks := [0]) (bks := [0]) (by kernel_rfl) (by kernel_rfl) (by kernel_rfl) (.inl rfl) rfl rfl (by kernel_rfl) (by kernel_rfl) _ (fun _ _ => rfl) _ _ (fun _ _ => rfl) (fun _ _ => rfl) (fun _ _ => by kernel_rfl) (fun _ _ => by kernel_rfl) (fun r_23 x_25 => ?_))
      refine GoO.shape (env' := [(3, .slice A_7 l_6.length c_8), (28, .pointer (some ⟨b_2, 0, none⟩)), (29, .tuple ⟨[.int .i64 r_23.1, .bool r_23.2]⟩)]) (H' := [⟨1, b_2, [.string (bs f_4), .bool f_5]⟩]) (B' := [Ow 42 kT_api_Step A_7 c_8 l_6]) (ks := [3, 28, 29]) (by kernel_rfl) (by kernel_rfl) (by kernel_rfl) ?_
      refine GoO.exec (is := [2, 3, 4, 5, 6]) (hs := [.p, .p, .p, .p, .p]) (rest := []) (ks := [3, 7]) (env' := [(3, .slice A_7 l_6.length c_8), (7, .bool r_23.2)]) (H' := [⟨1, b_2, [.string (bs f_4), .bool f_5]⟩]) (ps := []) (by kernel_rfl) trivial ?_
      refine GoO.regionEnd ?_
      refine GoO.seq' c62_28e ?_
      refine GoO.region' (is := [0, 1]) c62_29e (by kernel_rfl) ?_
      refine GoO.exec (is := [0, 1]) (hs := [.p, .p]) (rest := []) (ks := [3, 33]) (env' := [(3, .slice A_7 l_6.length c_8), (33, .bool (!r_23.2))]) (H' := [⟨1, b_2, [.string (bs f_4), .bool f_5]⟩]) (ps := []) (by kernel_rfl) trivial ?_
      refine GoO.regionEnd ?_
      refine GoO.ite' c62_30e (by kernel_rfl) (fun h24 => ?_) (fun h24 => ?_)
      · refine GoO.seq' c62_31e ?_
        refine GoO.region' (is := [0]) c62_32e (by kernel_rfl) ?_
        refine GoO.exec (is := [0]) (hs := [.p]) (rest := []) (ks := [2]) (env' := [(2, .slice none ([] : List T_api_Step).length 0)]) (H' := [⟨1, b_2, [.string (bs f_4), .bool f_5]⟩]) (ps := []) (by kernel_rfl) trivial ?_
        refine GoO.regionEnd ?_
        refine GoO.nilOwn kT_api_Step 2 ?_
        exact GoO.ret' (h := c62_33e) (hs := []) (ps := []) (hk := [0]) (bk := [0]) Try.func62 (⟨none, 0⟩ : Option Addr × Nat) (by kernel_rfl) trivial (by kernel_rfl) (by kernel_rfl)
      · refine GoO.skip' c62_34e ?_
        refine GoO.seq' c62_35e ?_
        refine GoO.region' (is := [0, 1]) c62_36e (by kernel_rfl) ?_
        refine GoO.exec (is := [0, 1]) (hs := [.p, .p]) (rest := []) (ks := [2]) (env' := [(2, .slice A_7 l_6.length c_8)]) (H' := [⟨1, b_2, [.string (bs f_4), .bool f_5]⟩]) (ps := []) (by kernel_rfl) trivial ?_
        refine GoO.regionEnd ?_
        refine GoO.retag (t := 42) (u := 2) (j := 0) (hk := [0]) (bk := []) rfl rfl rfl rfl rfl rfl (by kernel_rfl) (by kernel_rfl) ?_
        exact GoO.ret' (h := c62_37e) (hs := []) (ps := []) (hk := [0]) (bk := [0]) Try.func62 (⟨A_7, c_8⟩ : Option Addr × Nat) (by kernel_rfl) trivial (by kernel_rfl) (by kernel_rfl)
theorem plan_Read_ok (n : Nat) (r_1 : T_pack_Reader) (b_2 : Nat) :
    Meets Try.prog 62 [.pointer (some ⟨b_2, 0, none⟩)] 1 [1] [⟨1, b_2, [.string (bs r_1.s), .bool r_1.bad]⟩] [] (plan_Read.f n r_1) (plan_Read.R b_2) := by
  refine Meets.of (c := c62_0) (n := 35) Try.func62 (by kernel_rfl) (by kernel_rfl) (by kernel_rfl) fun w0 S0 => ?_
  unfold plan_Read.f
  show GoO (plan_Read.cx b_2 w0 S0) [(0, .pointer (some ⟨b_2, 0, none⟩))] [⟨1, b_2, [.string (bs r_1.s), .bool r_1.bad]⟩] [] [.code c62_0] _
  refine GoO.seq' c62_0e ?_
  refine GoO.region' (is := [0]) c62_1e (by kernel_rfl) ?_
  refine GoO.exec (is := [0]) (hs := [.p]) (rest := []) (ks := [0]) (env' := [(0, .pointer (some ⟨b_2, 0, none⟩))]) (H' := [⟨1, b_2, [.string (bs r_1.s), .bool r_1.bad]⟩]) (ps := []) (by kernel_rfl) trivial ?_
  refine GoO.regionEnd ?_
  refine GoO.seq' c62_2e ?_
  refine GoO.region' (is := [0]) c62_3e (by kernel_rfl) ?_
  refine GoO.exec (is := [0]) (hs := [.p]) (rest := []) (ks := [0, 3]) (env' := [(0, .pointer (some ⟨b_2, 0, none⟩)), (3, .slice none ([] : List T_api_Step).length 0)]) (H' := [⟨1, b_2, [.string (bs r_1.s), .bool r_1.bad]⟩]) (ps := []) (by kernel_rfl) trivial ?_
  refine GoO.regionEnd ?_
  refine GoO.seq' c62_4e ?_
  refine GoO.seq' c62_5e ?_
  refine GoO.region' (is := [0, 1, 2]) c62_6e (by kernel_rfl) ?_
  refine GoO.exec (is := [0]) (hs := [.p]) (rest := [1, 2]) (ks := [0, 3, 8]) (env' := [(0, .pointer (some ⟨b_2, 0, none⟩)), (3, .slice none ([] : List T_api_Step).length 0), (8, .pointer (some ⟨b_2, 0, none⟩))]) (H' := [⟨1, b_2, [.string (bs r_1.s), .bool r_1.bad]⟩]) (ps := []) (by kernel_rfl) trivial ?_
  refine OpTo.go (GoO.call rfl (by kernel_rfl) (by kernel_rfl) (pack_Reader_Up_ok n r_1 64 b_2) [[0], [1]] [(1, 1)] [(1, 0)] [] (hks := []) (bks := []) (by kernel_rfl) (by kernel_rfl) (by kernel_rfl) (.inl rfl) rfl rfl (by kernel_rfl) (by kernel_rfl) _ (fun _ _ => rfl) _ _ (fun _ _ => rfl) (fun _ _ => rfl) (fun _ _ => by kernel_rfl) (fun _ _ => by kernel_rfl) (fun r_3 x_26 => ?_))
  refine GoO.shape (env' := [(0, .pointer (some ⟨b_2, 0, none⟩)), (3, .slice none ([] : List T_api_Step).length 0), (8, .pointer (some ⟨b_2, 0, none⟩)), (9, .int .i64 r_3.1)]) (H' := [⟨1, b_2, [.string (bs r_3.2.s), .bool r_3.2.bad]⟩]) (B' := []) (ks := [0, 3, 8, 9]) (by kernel_rfl) (by kernel_rfl) (by kernel_rfl) ?_
  refine GoO.exec (is := [2]) (hs := [.p]) (rest := []) (ks := [0, 3, 4]) (env' := [(0, .pointer (some ⟨b_2, 0, none⟩)), (3, .slice none ([] : List T_api_Step).length 0), (4, .int .i64 r_3.1)]) (H' := [⟨1, b_2, [.string (bs r_3.2.s), .bool r_3.2.bad]⟩]) (ps := []) (by kernel_rfl) trivial ?_
  refine GoO.regionEnd ?_
  refine GoO.block' c62_7e ?_
  refine GoO.loop' c62_8e ?_
  refine GoO.nilOwn kT_api_Step 42 ?_
  exact GoO.sub (ks := [0, 3, 4]) (hk := [0]) (bk := [0]) (by kernel_rfl) (by kernel_rfl) (by kernel_rfl) (plan_Read_l0_ok n b_2 w0 S0 n r_3.2.s r_3.2.bad ([] : List T_api_Step) r_3.1 none 0)

/-! tontine/saga.Read -/
noncomputable def c43_0 : Code := bodyOf Try.f43
noncomputable def c43_1 : Code := cdL c43_0
noncomputable def c43_2 : Code := cdR c43_0
noncomputable def c43_3 : Code := cdL c43_2
noncomputable def c43_4 : Code := cdR c43_2
noncomputable def c43_5 : Code := cdL c43_4
noncomputable def c43_6 : Code := cdR c43_4
noncomputable def c43_7 : Code := cdL c43_6
noncomputable def c43_8 : Code := cdR c43_6
noncomputable def c43_9 : Code := cdL c43_8
noncomputable def c43_10 : Code := cdR c43_8
noncomputable def c43_11 : Code := cdL c43_10
noncomputable def c43_12 : Code := cdL c43_11
noncomputable def c43_13 : Code := cdR c43_11
noncomputable def c43_14 : Code := cdL c43_13
noncomputable def c43_15 : Code := cdR c43_13
noncomputable def c43_16 : Code := cdL c43_15
noncomputable def c43_17 : Code := cdL c43_16
noncomputable def c43_18 : Code := cdR c43_16
noncomputable def c43_19 : Code := cdR c43_15
noncomputable def c43_20 : Code := cdR c43_10
noncomputable def c43_21 : Code := cdL c43_20
noncomputable def c43_22 : Code := cdR c43_20
noncomputable def r43_1 : Array Oper := cdO c43_1
noncomputable def r43_3 : Array Oper := cdO c43_3
noncomputable def r43_5 : Array Oper := cdO c43_5
noncomputable def r43_7 : Array Oper := cdO c43_7
noncomputable def r43_9 : Array Oper := cdO c43_9
noncomputable def r43_12 : Array Oper := cdO c43_12
noncomputable def r43_14 : Array Oper := cdO c43_14
noncomputable def r43_17 : Array Oper := cdO c43_17
noncomputable def r43_21 : Array Oper := cdO c43_21
theorem c43_0e : c43_0 = .seq c43_1 c43_2 := by kernel_rfl
theorem c43_1e : c43_1 = .region 0 r43_1 false := by kernel_rfl
theorem c43_2e : c43_2 = .seq c43_3 c43_4 := by kernel_rfl
theorem c43_3e : c43_3 = .region 1 r43_3 false := by kernel_rfl
theorem c43_4e : c43_4 = .seq c43_5 c43_6 := by kernel_rfl
theorem c43_5e : c43_5 = .region 2 r43_5 false := by kernel_rfl
theorem c43_6e : c43_6 = .seq c43_7 c43_8 := by kernel_rfl
theorem c43_7e : c43_7 = .region 3 r43_7 false := by kernel_rfl
theorem c43_8e : c43_8 = .seq c43_9 c43_10 := by kernel_rfl
theorem c43_9e : c43_9 = .region 4 r43_9 false := by kernel_rfl
theorem c43_10e : c43_10 = .seq c43_11 c43_20 := by kernel_rfl
theorem c43_11e : c43_11 = .seq c43_12 c43_13 := by kernel_rfl
theorem c43_12e : c43_12 = .region 5 r43_12 false := by kernel_rfl
theorem c43_13e : c43_13 = .seq c43_14 c43_15 := by kernel_rfl
theorem c43_14e : c43_14 = .region 6 r43_14 false := by kernel_rfl
theorem c43_15e : c43_15 = .cond (cdC c43_15) c43_16 c43_19 := by kernel_rfl
theorem c43_16e : c43_16 = .seq c43_17 c43_18 := by kernel_rfl
theorem c43_17e : c43_17 = .region 7 r43_17 false := by kernel_rfl
theorem c43_18e : c43_18 = .ret := by kernel_rfl
theorem c43_19e : c43_19 = .skip := by kernel_rfl
theorem c43_20e : c43_20 = .seq c43_21 c43_22 := by kernel_rfl
theorem c43_21e : c43_21 = .region 8 r43_21 false := by kernel_rfl
theorem c43_22e : c43_22 = .ret := by kernel_rfl
noncomputable def saga_Read.R (b_2 : Nat) : Pst (T_api_Saga × Bool × T_pack_Reader) where
  ε := Option Addr × Nat
  v := fun r x => .tuple ⟨[.agg ⟨[.slice x.1 r.1.Steps.length x.2, .int .i64 r.1.State, .int .i64 r.1.Cursor, .int .i64 r.1.Failed]⟩, .bool r.2.1]⟩
  H := fun r x => [⟨1, b_2, [.string (bs r.2.2.s), .bool r.2.2.bad]⟩]
  B := fun r x => [Rd 0 kT_api_Step x.1 x.2 r.1.Steps]
noncomputable def saga_Read.cx (b_2 : Nat) (w0 : World) (S0 : Fam) : Cx (T_api_Saga × Bool × T_pack_Reader) := ⟨Try.prog, 43, Try.f43, 33, w0, S0, [1], 1, saga_Read.R b_2⟩
theorem saga_Read_ok (n : Nat) (r_1 : T_pack_Reader) (b_2 : Nat) :
    Meets Try.prog 43 [.pointer (some ⟨b_2, 0, none⟩)] 1 [1] [⟨1, b_2, [.string (bs r_1.s), .bool r_1.bad]⟩] [] (saga_Read.f n r_1) (saga_Read.R b_2) := by
  refine Meets.of (c := c43_0) (n := 33) Try.func43 (by kernel_rfl) (by kernel_rfl) (by kernel_rfl) fun w0 S0 => ?_
  unfold saga_Read.f
  show GoO (saga_Read.cx b_2 w0 S0) [(0, .pointer (some ⟨b_2, 0, none⟩))] [⟨1, b_2, [.string (bs r_1.s), .bool r_1.bad]⟩] [] [.code c43_0] _
  refine GoO.seq' c43_0e ?_
  refine GoO.region' (is := [0, 1]) c43_1e (by kernel_rfl) ?_
  refine OpTo.go (GoO.new rfl 40 (cs := [.slice none ([] : List T_api_Step).length 0, .int .i64 0, .int .i64 0, .int .i64 0]) (by kernel_rfl) _ (fun _ => rfl) (fun b_3 => ?_))
  refine GoO.exec (is := [1]) (hs := [.p]) (rest := []) (ks := [0, 2]) (env' := [(0, .pointer (some ⟨b_2, 0, none⟩)), (2, .pointer (some ⟨b_3, 0, none⟩))]) (H' := [⟨40, b_3, [.slice none ([] : List T_api_Step).length 0, .int .i64 0, .int .i64 0, .int .i64 0]⟩, ⟨1, b_2, [.string (bs r_1.s), .bool r_1.bad]⟩]) (ps := []) (by kernel_rfl) trivial ?_
  refine GoO.regionEnd ?_
  refine GoO.seq' c43_2e ?_
  refine GoO.region' (is := [0, 1, 2, 3, 4]) c43_3e (by kernel_rfl) ?_
  refine GoO.exec (is := [0]) (hs := [.p]) (rest := [1, 2, 3, 4]) (ks := [0, 2, 7]) (env' := [(0, .pointer (some ⟨b_2, 0, none⟩)), (2, .pointer (some ⟨b_3, 0, none⟩)), (7, .pointer (some ⟨b_2, 0, none⟩))]) (H' := [⟨40, b_3, [.slice none ([] : List T_api_Step).length 0, .int .i64 0, .int .i64 0, .int .i64 0]⟩, ⟨1, b_2, [.string (bs r_1.s), .bool r_1.bad]⟩]) (ps := []) (by kernel_rfl) trivial ?_
  refine OpTo.go (GoO.call rfl (by kernel_rfl) (by kernel_rfl) (plan_Read_ok n r_1 b_2) [[0], [1]] [(1, 1), (41, 2)] [(1, 1)] [] (hks := [0]) (bks := []) (by kernel_rfl) (by kernel_rfl) (by kernel_rfl) (.inl rfl) rfl rfl (by kernel_rfl) (by kernel_rfl) _ (fun _ _ => rfl) _ _ (fun _ _ => rfl) (fun _ _ => rfl) (fun _ _ => by kernel_rfl) (fun _ _ => by kernel_rfl) (fun r_4 x_20 => ?_))
  obtain ⟨A_5, c_6⟩ := x_20
  refine GoO.shape (env' := [(0, .pointer (some ⟨b_2, 0, none⟩)), (2, .pointer (some ⟨b_3, 0, none⟩)), (7, .pointer (some ⟨b_2, 0, none⟩)), (8, .slice A_5 r_4.1.length c_6)]) (H' := [⟨1, b_2, [.string (bs r_4.2.s), .bool r_4.2.bad]⟩, ⟨40, b_3, [.slice none ([] : List T_api_Step).length 0, .int .i64 0, .int .i64 0, .int .i64 0]⟩]) (B' := [Ow 41 kT_api_Step A_5 c_6 r_4.1]) (ks := [0, 2, 7, 8]) (by kernel_rfl) (by kernel_rfl) (by kernel_rfl) ?_
  refine GoO.exec (is := [2]) (hs := [.p]) (rest := [3, 4]) (ks := [0, 2, 9]) (env' := [(0, .pointer (some ⟨b_2, 0, none⟩)), (2, .pointer (some ⟨b_3, 0, none⟩)), (9, .agg ⟨[.slice A_5 r_4.1.length c_6, .int .i64 0, .int .i64 0, .int .i64 0]⟩)]) (H' := [⟨1, b_2, [.string (bs r_4.2.s), .bool r_4.2.bad]⟩, ⟨40, b_3, [.slice none ([] : List T_api_Step).length 0, .int .i64 0, .int .i64 0, .int .i64 0]⟩]) (ps := []) (by kernel_rfl) trivial ?_
  refine OpTo.go (GoO.new rfl 42 (cs := [.slice none ([] : List T_api_Step).length 0, .int .i64 0, .int .i64 0, .int .i64 0]) (by kernel_rfl) _ (fun _ => rfl) (fun b_7 => ?_))
  refine GoO.exec (is := [4]) (hs := [.b 0]) (rest := []) (ks := [0, 2, 4]) (env' := [(0, .pointer (some ⟨b_2, 0, none⟩)), (2, .pointer (some ⟨b_3, 0, none⟩)), (4, .pointer (some ⟨b_7, 0, none⟩))]) (H' := [⟨42, b_7, [.slice A_5 r_4.1.length c_6, .int .i64 0, .int .i64 0, .int .i64 0]⟩, ⟨1, b_2, [.string (bs r_4.2.s), .bool r_4.2.bad]⟩, ⟨40, b_3, [.slice none ([] : List T_api_Step).length 0, .int .i64 0, .int .i64 0, .int .i64 0]⟩]) (ps := [b_7 = b_7]) (by kernel_rfl) (And.intro rfl trivial) ?_
  refine GoO.regionEnd ?_
  refine GoO.seq' c43_4e ?_
  refine GoO.region' (is := [0, 1, 2, 3]) c43_5e (by kernel_rfl) ?_
  refine GoO.exec (is := [0]) (hs := [.p]) (rest := [1, 2, 3]) (ks := [0, 2, 4, 10]) (env' := [(0, .pointer (some ⟨b_2, 0, none⟩)), (2, .pointer (some ⟨b_3, 0, none⟩)), (4, .pointer (some ⟨b_7, 0, none⟩)), (10, .pointer (some ⟨b_2, 0, none⟩))]) (H' := [⟨42, b_7, [.slice A_5 r_4.1.length c_6, .int .i64 0, .int .i64 0, .int .i64 0]⟩, ⟨1, b_2, [.string (bs r_4.2.s), .bool r_4.2.bad]⟩, ⟨40, b_3, [.slice none ([] : List T_api_Step).length 0, .int .i64 0, .int .i64 0, .int .i64 0]⟩]) (ps := []) (by kernel_rfl) trivial ?_
  refine OpTo.go (GoO.call rfl (by kernel_rfl) (by kernel_rfl) (pack_Reader_Up_ok n r_4.2 5 b_2) [[0], [1]] [(1, 1)] [(1, 1)] [] (hks := [0, 2]) (bks := [0]) (by kernel_rfl) (by kernel_rfl) (by kernel_rfl) (.inl rfl) rfl rfl (by kernel_rfl) (by kernel_rfl) _ (fun _ _ => rfl) _ _ (fun _ _ => rfl) (fun _ _ => rfl) (fun _ _ => by kernel_rfl) (fun _ _ => by kernel_rfl) (fun r_8 x_19 => ?_))
  refine GoO.shape (env' := [(0, .pointer (some ⟨b_2, 0, none⟩)), (2, .pointer (some ⟨b_3, 0, none⟩)), (4, .pointer (some ⟨b_7, 0, none⟩)), (10, .pointer (some ⟨b_2, 0, none⟩)), (11, .int .i64 r_8.1)]) (H' := [⟨1, b_2, [.string (bs r_8.2.s), .bool r_8.2.bad]⟩, ⟨42, b_7, [.slice A_5 r_4.1.length c_6, .int .i64 0, .int .i64 0, .int .i64 0]⟩, ⟨40, b_3, [.slice none ([] : List T_api_Step).length 0, .int .i64 0, .int .i64 0, .int .i64 0]⟩]) (B' := [Ow 41 kT_api_Step A_5 c_6 r_4.1]) (ks := [0, 2, 4, 10, 11]) (by kernel_rfl) (by kernel_rfl) (by kernel_rfl) ?_
  refine GoO.exec (is := [2, 3]) (hs := [.p, .b 1]) (rest := []) (ks := [0, 2, 4]) (env' := [(0, .pointer (some ⟨b_2, 0, none⟩)), (2, .pointer (some ⟨b_3, 0, none⟩)), (4, .pointer (some ⟨b_7, 0, none⟩))]) (H' := [⟨1, b_2, [.string (bs r_8.2.s), .bool r_8.2.bad]⟩, ⟨42, b_7, [.slice A_5 r_4.1.length c_6, .int .i64 r_8.1, .int .i64 0, .int .i64 0]⟩, ⟨40, b_3, [.slice none ([] : List T_api_Step).length 0, .int .i64 0, .int .i64 0, .int .i64 0]⟩]) (ps := [b_7 = b_7]) (by kernel_rfl) (And.intro rfl trivial) ?_
  refine GoO.regionEnd ?_
  refine GoO.seq' c43_6e ?_
  refine GoO.region' (is := [0, 1, 2, 3]) c43_7e (by kernel_rfl) ?_
  refine GoO.exec (is := [0]) (hs := [.p]) (rest := [1, 2, 3]) (ks := [0, 2, 4, 13]) (env' := [(0, .pointer (some ⟨b_2, 0, none⟩)), (2, .pointer (some ⟨b_3, 0, none⟩)), (4, .pointer (some ⟨b_7, 0, none⟩)), (13, .pointer (some ⟨b_2, 0, none⟩))]) (H' := [⟨1, b_2, [.string (bs r_8.2.s), .bool r_8.2.bad]⟩, ⟨42, b_7, [.slice A_5 r_4.1.length c_6, .int .i64 r_8.1, .int .i64 0, .int .i64 0]⟩, ⟨40, b_3, [.slice none ([] : List T_api_Step).length 0, .int .i64 0, .int .i64 0, .int .i64 0]⟩]) (ps := []) (by kernel_rfl) trivial ?_
  refine OpTo.go (GoO.call rfl (by kernel_rfl) (by kernel_rfl) (pack_Reader_Up_ok n r_8.2 64 b_2) [[0], [1]] [(1, 1)] [(1, 0)] [] (hks := [1, 2]) (bks := [0]) (by kernel_rfl) (by kernel_rfl) (by kernel_rfl) (.inl rfl) rfl rfl (by kernel_rfl) (by kernel_rfl) _ (fun _ _ => rfl) _ _ (fun _ _ => rfl) (fun _ _ => rfl) (fun _ _ => by kernel_rfl) (fun _ _ => by kernel_rfl) (fun r_9 x_18 => ?_))
  refine GoO.shape (env' := [(0, .pointer (some ⟨b_2, 0, none⟩)), (2, .pointer (some ⟨b_3, 0, none⟩)), (4, .pointer (some ⟨b_7, 0, none⟩)), (13, .pointer (some ⟨b_2, 0, none⟩)), (14, .int .i64 r_9.1)]) (H' := [⟨1, b_2, [.string (bs r_9.2.s), .bool r_9.2.bad]⟩, ⟨42, b_7, [.slice A_5 r_4.1.length c_6, .int .i64 r_8.1, .int .i64 0, .int .i64 0]⟩, ⟨40, b_3, [.slice none ([] : List T_api_Step).length 0, .int .i64 0, .int .i64 0, .int .i64 0]⟩]) (B' := [Ow 41 kT_api_Step A_5 c_6 r_4.1]) (ks := [0, 2, 4, 13, 14]) (by kernel_rfl) (by kernel_rfl) (by kernel_rfl) ?_
  refine GoO.exec (is := [2, 3]) (hs := [.p, .b 1]) (rest := []) (ks := [0, 2, 4]) (env' := [(0, .pointer (some ⟨b_2, 0, none⟩)), (2, .pointer (some ⟨b_3, 0, none⟩)), (4, .pointer (some ⟨b_7, 0, none⟩))]) (H' := [⟨1, b_2, [.string (bs r_9.2.s), .bool r_9.2.bad]⟩, ⟨42, b_7, [.slice A_5 r_4.1.length c_6, .int .i64 r_8.1, .int .i64 r_9.1, .int .i64 0]⟩, ⟨40, b_3, [.slice none ([] : List T_api_Step).length 0, .int .i64 0, .int .i64 0, .int .i64 0]⟩]) (ps := [b_7 = b_7]) (by kernel_rfl) (And.intro rfl trivial) ?_
  refine GoO.regionEnd ?_
  refine GoO.seq' c43_8e ?_
  refine GoO.region' (is := [0, 1, 2, 3]) c43_9e (by kernel_rfl) ?_
  refine GoO.exec (is := [0]) (hs := [.p]) (rest := [1, 2, 3]) (ks := [0, 2, 4, 16]) (env' := [(0, .pointer (some ⟨b_2, 0, none⟩)), (2, .pointer (some ⟨b_3, 0, none⟩)), (4, .pointer (some ⟨b_7, 0, none⟩)), (16, .pointer (some ⟨b_2, 0, none⟩))]) (H' := [⟨1, b_2, [.string (bs r_9.2.s), .bool r_9.2.bad]⟩, ⟨42, b_7, [.slice A_5 r_4.1.length c_6, .int .i64 r_8.1, .int .i64 r_9.1, .int .i64 0]⟩, ⟨40, b_3, [.slice none ([] : List T_api_Step).length 0, .int .i64 0, .int .i64 0, .int .i64 0]⟩]) (ps := []) (by kernel_rfl) trivial ?_
  refine OpTo.go (GoO.call rfl (by kernel_rfl) (by kernel_rfl) (pack_Reader_Up_ok n r_9.2 9 b_2) [[0], [1]] [(1, 1)] [(1, 0)] [] (hks := [1, 2]) (bks := [0]) (by kernel_rfl) (by kernel_rfl) (by kernel_rfl) (.inl rfl) rfl rfl (by kernel_rfl) (by kernel_rfl) _ (fun _ _ => rfl) _ _ (fun _ _ => rfl) (fun _ _ => rfl) (fun _ _ => by kernel_rfl) (fun _ _ => by kernel_rfl) (fun r_10 x_17 => ?_))
  refine GoO.shape (env' := [(0, .pointer (some ⟨b_2, 0, none⟩)), (2, .pointer (some ⟨b_3, 0, none⟩)), (4, .pointer (some ⟨b_7, 0, none⟩)), (16, .pointer (some ⟨b_2, 0, none⟩)), (17, .int .i64 r_10.1)]) (H' := [⟨1, b_2, [.string (bs r_10.2.s), .bool r_10.2.bad]⟩, ⟨42, b_7, [.slice A_5 r_4.1.length c_6, .int .i64 r_8.1, .int .i64 r_9.1, .int .i64 0]⟩, ⟨40, b_3, [.slice none ([] : List T_api_Step).length 0, .int .i64 0, .int .i64 0, .int .i64 0]⟩]) (B' := [Ow 41 kT_api_Step A_5 c_6 r_4.1]) (ks := [0, 2, 4, 16, 17]) (by kernel_rfl) (by kernel_rfl) (by kernel_rfl) ?_
  refine GoO.exec (is := [2, 3]) (hs := [.p, .b 1]) (rest := []) (ks := [0, 2, 4]) (env' := [(0, .pointer (some ⟨b_2, 0, none⟩)), (2, .pointer (some ⟨b_3, 0, none⟩)), (4, .pointer (some ⟨b_7, 0, none⟩))]) (H' := [⟨1, b_2, [.string (bs r_10.2.s), .bool r_10.2.bad]⟩, ⟨42, b_7, [.slice A_5 r_4.1.length c_6, .int .i64 r_8.1, .int .i64 r_9.1, .int .i64 r_10.1]⟩, ⟨40, b_3, [.slice none ([] : List T_api_Step).length 0, .int .i64 0, .int .i64 0, .int .i64 0]⟩]) (ps := [b_7 = b_7]) (by kernel_rfl) (And.intro rfl trivial) ?_
  refine GoO.regionEnd ?_
  refine GoO.seq' c43_10e ?_
  refine GoO.seq' c43_11e ?_
  refine GoO.region' (is := [0, 1, 2, 3, 4, 5, 6]) c43_12e (by kernel_rfl) ?_
  refine GoO.exec (is := [0]) (hs := [.p]) (rest := [1, 2, 3, 4, 5, 6]) (ks := [2, 4, 20]) (env' := [(2, .pointer (some ⟨b_3, 0, none⟩)), (4, .pointer (some ⟨b_7, 0, none⟩)), (20, .pointer (some ⟨b_2, 0, none⟩))]) (H' := [⟨1, b_2, [.string (bs r_10.2.s), .bool r_10.2.bad]⟩, ⟨42, b_7, [.slice A_5 r_4.1.length c_6, .int .i64 r_8.1, .int .i64 r_9.1, .int .i64 r_10.1]⟩, ⟨40, b_3, [.slice none ([] : List T_api_Step).length 0, .int .i64 0, .int .i64 0, .int .i64 0]⟩]) (ps := []) (by kernel_rfl) trivial ?_
  refine OpTo.go (GoO.call rfl (by kernel_rfl) (by kernel_rfl) (pack_Reader_Left_ok n r_10.2 b_2) [[0], [1]] [] [(1, 0)] [] (hks := [0, 1, 2]) (bks := [0]) (by kernel_rfl) (by kernel_rfl) (by kernel_rfl) (.inl rfl) rfl rfl (by kernel_rfl) (by kernel_rfl) _ (fun _ _ => rfl) _ _ (fun _ _ => rfl) (fun _ _ => rfl) (fun _ _ => by kernel_rfl) (fun _ _ => by kernel_rfl) (fun r_11 x_16 => ?_))
  refine GoO.shape (env' := [(2, .pointer (some ⟨b_3, 0, none⟩)), (4, .pointer (some ⟨b_7, 0, none⟩)), (20, .pointer (some ⟨b_2, 0, none⟩)), (21, .tuple ⟨[.int .i64 r_11.1, .bool r_11.2]⟩)]) (H' := [⟨1, b_2, [.string (bs r_10.2.s), .bool r_10.2.bad]⟩, ⟨42, b_7, [.slice A_5 r_4.1.length c_6, .int .i64 r_8.1, .int .i64 r_9.1, .int .i64 r_10.1]⟩, ⟨40, b_3, [.slice none ([] : List T_api_Step).length 0, .int .i64 0, .int .i64 0, .int .i64 0]⟩]) (B' := [Ow 41 kT_api_Step A_5 c_6 r_4.1]) (ks := [2, 4, 20, 21]) (by kernel_rfl) (by kernel_rfl) (by kernel_rfl) ?_
  refine GoO.exec (is := [2, 3, 4, 5, 6]) (hs := [.p, .p, .p, .p, .p]) (rest := []) (ks := [2, 4, 6]) (env' := [(2, .pointer (some ⟨b_3, 0, none⟩)), (4, .pointer (some ⟨b_7, 0, none⟩)), (6, .bool r_11.2)]) (H' := [⟨1, b_2, [.string (bs r_10.2.s), .bool r_10.2.bad]⟩, ⟨42, b_7, [.slice A_5 r_4.1.length c_6, .int .i64 r_8.1, .int .i64 r_9.1, .int .i64 r_10.1]⟩, ⟨40, b_3, [.slice none ([] : List T_api_Step).length 0, .int .i64 0, .int .i64 0, .int .i64 0]⟩]) (ps := []) (by kernel_rfl) trivial ?_
  refine GoO.regionEnd ?_
  refine GoO.seq' c43_13e ?_
  refine GoO.region' (is := [0, 1, 2, 3, 4, 5, 6]) c43_14e (by kernel_rfl) ?_
  refine GoO.exec (is := [0, 1, 2]) (hs := [.p, .p, .p]) (rest := [3, 4, 5, 6]) (ks := [2, 4, 26]) (env' := [(2, .pointer (some ⟨b_3, 0, none⟩)), (4, .pointer (some ⟨b_7, 0, none⟩)), (26, .bool (!r_11.2))]) (H' := [⟨1, b_2, [.string (bs r_10.2.s), .bool r_10.2.bad]⟩, ⟨42, b_7, [.slice A_5 r_4.1.length c_6, .int .i64 r_8.1, .int .i64 r_9.1, .int .i64 r_10.1]⟩, ⟨40, b_3, [.slice none ([] : List T_api_Step).length 0, .int .i64 0, .int .i64 0, .int .i64 0]⟩]) (ps := []) (by kernel_rfl) trivial ?_
  refine GoO.bsplit (t := 26) (by kernel_rfl) (fun h12 => ?_) (fun h12 => ?_)
  · refine GoO.exec (is := [3, 4, 5, 6]) (hs := [.p, .p, .p, .p]) (rest := []) (ks := [2, 4, 30]) (env' := [(2, .pointer (some ⟨b_3, 0, none⟩)), (4, .pointer (some ⟨b_7, 0, none⟩)), (30, .bool true)]) (H' := [⟨1, b_2, [.string (bs r_10.2.s), .bool r_10.2.bad]⟩, ⟨42, b_7, [.slice A_5 r_4.1.length c_6, .int .i64 r_8.1, .int .i64 r_9.1, .int .i64 r_10.1]⟩, ⟨40, b_3, [.slice none ([] : List T_api_Step).length 0, .int .i64 0, .int .i64 0, .int .i64 0]⟩]) (ps := []) (by kernel_rfl) trivial ?_
    refine GoO.regionEnd ?_
    refine GoO.condT c43_15e (by kernel_rfl) ?_
    refine GoO.seq' c43_16e ?_
    refine GoO.region' (is := [0, 1, 2]) c43_17e (by kernel_rfl) ?_
    refine GoO.exec (is := [0, 1, 2]) (hs := [.p, .b 2, .p]) (rest := []) (ks := [2, 3]) (env' := [(2, .pointer (some ⟨b_3, 0, none⟩)), (3, .bool false)]) (H' := [⟨1, b_2, [.string (bs r_10.2.s), .bool r_10.2.bad]⟩, ⟨42, b_7, [.slice A_5 r_4.1.length c_6, .int .i64 r_8.1, .int .i64 r_9.1, .int .i64 r_10.1]⟩, ⟨40, b_3, [.slice none ([] : List T_api_Step).length 0, .int .i64 0, .int .i64 0, .int .i64 0]⟩]) (ps := [b_3 = b_3]) (by kernel_rfl) (And.intro rfl trivial) ?_
    refine GoO.regionEnd ?_
    refine GoO.nilRd kT_api_Step ?_
    exact GoO.ret' (h := c43_18e) (hs := [2]) (ps := [b_3 = b_3]) (hk := [0]) (bk := [0]) Try.func43 (⟨none, 0⟩ : Option Addr × Nat) (by kernel_rfl) (And.intro rfl trivial) (by kernel_rfl) (by kernel_rfl)
  · refine GoO.exec (is := [3]) (hs := [.b 1]) (rest := [4, 5, 6]) (ks := [2, 4, 26, 27]) (env' := [(2, .pointer (some ⟨b_3, 0, none⟩)), (4, .pointer (some ⟨b_7, 0, none⟩)), (26, .bool false), (27, .agg ⟨[.slice A_5 r_4.1.length c_6, .int .i64 r_8.1, .int .i64 r_9.1, .int .i64 r_10.1]⟩)]) (H' := [⟨1, b_2, [.string (bs r_10.2.s), .bool r_10.2.bad]⟩, ⟨42, b_7, [.slice A_5 r_4.1.length c_6, .int .i64 r_8.1, .int .i64 r_9.1, .int .i64 r_10.1]⟩, ⟨40, b_3, [.slice none ([] : List T_api_Step).length 0, .int .i64 0, .int .i64 0, .int .i64 0]⟩]) (ps := [b_7 = b_7]) (by kernel_rfl) (And.intro rfl trivial) ?_
    refine GoO.view (j := 0) rfl ?_
    refine OpTo.go (GoO.call rfl (by kernel_rfl) (by kernel_rfl) (saga_Sound_ok n (⟨r_4.1, r_8.1, r_9.1, r_10.1⟩ : T_api_Saga) A_5 c_6) [[0, 41]] [] [] [(0, 1)] (hks := [0, 1, 2]) (bks := [0]) (by kernel_rfl) (by kernel_rfl) (by kernel_rfl) (.inr (fun _ _ => by simp [saga_Sound.R])) rfl rfl (by kernel_rfl) (by kernel_rfl) _ (fun _ _ => rfl) _ _ (fun _ _ => rfl) (fun _ _ => rfl) (fun _ _ => by kernel_rfl) (fun _ _ => by kernel_rfl) (fun r_13 x_15 => ?_))
    refine GoO.shape (env' := [(2, .pointer (some ⟨b_3, 0, none⟩)), (4, .pointer (some ⟨b_7, 0, none⟩)), (26, .bool false), (27, .agg ⟨[.slice A_5 r_4.1.length c_6, .int .i64 r_8.1, .int .i64 r_9.1, .int .i64 r_10.1]⟩), (28, .bool r_13)]) (H' := [⟨1, b_2, [.string (bs r_10.2.s), .bool r_10.2.bad]⟩, ⟨42, b_7, [.slice A_5 r_4.1.length c_6, .int .i64 r_8.1, .int .i64 r_9.1, .int .i64 r_10.1]⟩, ⟨40, b_3, [.slice none ([] : List T_api_Step).length 0, .int .i64 0, .int .i64 0, .int .i64 0]⟩]) (B' := [Ow 41 kT_api_Step A_5 c_6 r_4.1]) (ks := [2, 4, 26, 27, 28]) (by kernel_rfl) (by kernel_rfl) (by kernel_rfl) ?_
    refine GoO.exec (is := [5, 6]) (hs := [.p, .p]) (rest := []) (ks := [2, 4, 30]) (env' := [(2, .pointer (some ⟨b_3, 0, none⟩)), (4, .pointer (some ⟨b_7, 0, none⟩)), (30, .bool (!r_13))]) (H' := [⟨1, b_2, [.string (bs r_10.2.s), .bool r_10.2.bad]⟩, ⟨42, b_7, [.slice A_5 r_4.1.length c_6, .int .i64 r_8.1, .int .i64 r_9.1, .int .i64 r_10.1]⟩, ⟨40, b_3, [.slice none ([] : List T_api_Step).length 0, .int .i64 0, .int .i64 0, .int .i64 0]⟩]) (ps := []) (by kernel_rfl) trivial ?_
    refine GoO.regionEnd ?_
    refine GoO.ite' c43_15e (by kernel_rfl) (fun h14 => ?_) (fun h14 => ?_)
    · refine GoO.seq' c43_16e ?_
      refine GoO.region' (is := [0, 1, 2]) c43_17e (by kernel_rfl) ?_
      refine GoO.exec (is := [0, 1, 2]) (hs := [.p, .b 2, .p]) (rest := []) (ks := [2, 3]) (env' := [(2, .pointer (some ⟨b_3, 0, none⟩)), (3, .bool false)]) (H' := [⟨1, b_2, [.string (bs r_10.2.s), .bool r_10.2.bad]⟩, ⟨42, b_7, [.slice A_5 r_4.1.length c_6, .int .i64 r_8.1, .int .i64 r_9.1, .int .i64 r_10.1]⟩, ⟨40, b_3, [.slice none ([] : List T_api_Step).length 0, .int .i64 0, .int .i64 0, .int .i64 0]⟩]) (ps := [b_3 = b_3]) (by kernel_rfl) (And.intro rfl trivial) ?_
      refine GoO.regionEnd ?_
      refine GoO.nilRd kT_api_Step ?_
      exact GoO.ret' (h := c43_18e) (hs := [2]) (ps := [b_3 = b_3]) (hk := [0]) (bk := [0]) Try.func43 (⟨none, 0⟩ : Option Addr × Nat) (by kernel_rfl) (And.intro rfl trivial) (by kernel_rfl) (by kernel_rfl)
    · refine GoO.skip' c43_19e ?_
      refine GoO.seq' c43_20e ?_
      refine GoO.region' (is := [0, 1, 2]) c43_21e (by kernel_rfl) ?_
      refine GoO.exec (is := [0, 1, 2]) (hs := [.b 1, .b 2, .p]) (rest := []) (ks := [2, 3]) (env' := [(2, .pointer (some ⟨b_3, 0, none⟩)), (3, .bool true)]) (H' := [⟨1, b_2, [.string (bs r_10.2.s), .bool r_10.2.bad]⟩, ⟨42, b_7, [.slice A_5 r_4.1.length c_6, .int .i64 r_8.1, .int .i64 r_9.1, .int .i64 r_10.1]⟩, ⟨40, b_3, [.slice A_5 r_4.1.length c_6, .int .i64 r_8.1, .int .i64 r_9.1, .int .i64 r_10.1]⟩]) (ps := [b_7 = b_7, b_3 = b_3]) (by kernel_rfl) (And.intro rfl (And.intro rfl trivial)) ?_
      refine GoO.regionEnd ?_
      refine GoO.retag (t := 41) (u := 0) (j := 0) (hk := [0, 1, 2]) (bk := []) rfl rfl rfl rfl rfl rfl (by kernel_rfl) (by kernel_rfl) ?_
      refine GoO.own2rd (j := 0) rfl ?_
      exact GoO.ret' (h := c43_22e) (hs := [2]) (ps := [b_3 = b_3]) (hk := [0]) (bk := [0]) Try.func43 (⟨A_5, c_6⟩ : Option Addr × Nat) (by kernel_rfl) (And.intro rfl trivial) (by kernel_rfl) (by kernel_rfl)

/-! (*tontine/tontineref03.Reader).Fail -/
noncomputable def c69_0 : Code := bodyOf Try.f69
noncomputable def c69_1 : Code := cdL c69_0
noncomputable def c69_2 : Code := cdR c69_0
noncomputable def r69_1 : Array Oper := cdO c69_1
noncomputable def r69_2 : Array Oper := cdO c69_2
theorem c69_0e : c69_0 = .seq c69_1 c69_2 := by kernel_rfl
theorem c69_1e : c69_1 = .region 0 r69_1 false := by kernel_rfl
theorem c69_2e : c69_2 = .region 1 r69_2 false := by kernel_rfl
noncomputable def tontineref03_Reader_Fail.R (b_2 : Nat) : Pst T_tontineref03_Reader where
  ε := Unit
  v := fun r x => .tuple ⟨[]⟩
  H := fun r x => [⟨1, b_2, [.string (bs r.S_), .bool r.Bad]⟩]
  B := fun r x => []
noncomputable def tontineref03_Reader_Fail.cx (b_2 : Nat) (w0 : World) (S0 : Fam) : Cx T_tontineref03_Reader := ⟨Try.prog, 69, Try.f69, 8, w0, S0, [1], 1, tontineref03_Reader_Fail.R b_2⟩
theorem tontineref03_Reader_Fail_ok (n : Nat) (r_1 : T_tontineref03_Reader) (b_2 : Nat) :
    Meets Try.prog 69 [.pointer (some ⟨b_2, 0, none⟩)] 1 [1] [⟨1, b_2, [.string (bs r_1.S_), .bool r_1.Bad]⟩] [] (tontineref03_Reader_Fail.f n r_1) (tontineref03_Reader_Fail.R b_2) := by
  refine Meets.of (c := c69_0) (n := 8) Try.func69 (by kernel_rfl) (by kernel_rfl) (by kernel_rfl) fun w0 S0 => ?_
  unfold tontineref03_Reader_Fail.f
  show GoO (tontineref03_Reader_Fail.cx b_2 w0 S0) [(0, .pointer (some ⟨b_2, 0, none⟩))] [⟨1, b_2, [.string (bs r_1.S_), .bool r_1.Bad]⟩] [] [.code c69_0] _
  refine GoO.seq' c69_0e ?_
  refine GoO.region' (is := [0, 1, 2, 3]) c69_1e (by kernel_rfl) ?_
  refine GoO.exec (is := [0, 1, 2, 3]) (hs := [.p, .p, .p, .b 0]) (rest := []) (ks := [0]) (env' := [(0, .pointer (some ⟨b_2, 0, none⟩))]) (H' := [⟨1, b_2, [.string (bs []), .bool r_1.Bad]⟩]) (ps := [b_2 = b_2]) (by kernel_rfl) (And.intro rfl trivial) ?_
  refine GoO.regionEnd ?_
  refine GoO.region' (is := [0, 1, 2, 3]) c69_2e (by kernel_rfl) ?_
  refine GoO.exec (is := [0, 1, 2, 3]) (hs := [.p, .p, .p, .b 0]) (rest := []) (ks := []) (env' := []) (H' := [⟨1, b_2, [.string (bs []), .bool true]⟩]) (ps := [b_2 = b_2]) (by kernel_rfl) (And.intro rfl trivial) ?_
  refine GoO.regionEnd ?_
  exact GoO.fin (hs := []) (ps := []) (hk := [0]) (bk := []) Try.func69 () (by kernel_rfl) trivial (by kernel_rfl) (by kernel_rfl)

/-! (*tontine/tontineref03.Reader).Num -/
noncomputable def c61_0 : Code := bodyOf Try.f61
noncomputable def c61_1 : Code := cdL c61_0
noncomputable def c61_2 : Code := cdR c61_0
noncomputable def c61_3 : Code := cdL c61_2
noncomputable def c61_4 : Code := cdR c61_2
noncomputable def c61_5 : Code := cdL c61_4
noncomputable def c61_6 : Code := cdL c61_5
noncomputable def c61_7 : Code := cdR c61_5
noncomputable def c61_8 : Code := cdL c61_7
noncomputable def c61_9 : Code := cdR c61_7
noncomputable def c61_10 : Code := cdR c61_4
noncomputable def c61_11 : Code := cdL c61_10
noncomputable def c61_12 : Code := cdL c61_11
noncomputable def c61_13 : Code := cdR c61_11
noncomputable def c61_14 : Code := cdL c61_13
noncomputable def c61_15 : Code := cdL c61_14
noncomputable def c61_16 : Code := cdR c61_14
noncomputable def c61_17 : Code := cdL c61_16
noncomputable def c61_18 : Code := cdR c61_16
noncomputable def c61_19 : Code := cdR c61_13
noncomputable def c61_20 : Code := cdR c61_10
noncomputable def c61_21 : Code := cdL c61_20
noncomputable def c61_22 : Code := cdR c61_20
noncomputable def c61_23 : Code := cdL c61_22
noncomputable def c61_24 : Code := cdL c61_23
noncomputable def c61_25 : Code := cdR c61_23
noncomputable def c61_26 : Code := cdL c61_25
noncomputable def c61_27 : Code := cdL c61_26
noncomputable def c61_28 : Code := cdL c61_27
noncomputable def c61_29 : Code := cdL c61_28
noncomputable def c61_30 : Code := cdR c61_28
noncomputable def c61_31 : Code := cdL c61_30
noncomputable def c61_32 : Code := cdR c61_30
noncomputable def c61_33 : Code := cdR c61_27
noncomputable def c61_34 : Code := cdL c61_33
noncomputable def c61_35 : Code := cdL c61_34
noncomputable def c61_36 : Code := cdR c61_33
noncomputable def c61_37 : Code := cdR c61_22
noncomputable def c61_38 : Code := cdL c61_37
noncomputable def c61_39 : Code := cdR c61_37
noncomputable def c61_40 : Code := cdL c61_39
noncomputable def c61_41 : Code := cdR c61_39
noncomputable def r61_1 : Array Oper := cdO c61_1
noncomputable def r61_3 : Array Oper := cdO c61_3
noncomputable def r61_6 : Array Oper := cdO c61_6
noncomputable def r61_8 : Array Oper := cdO c61_8
noncomputable def r61_12 : Array Oper := cdO c61_12
noncomputable def r61_15 : Array Oper := cdO c61_15
noncomputable def r61_17 : Array Oper := cdO c61_17
noncomputable def r61_21 : Array Oper := cdO c61_21
noncomputable def r61_24 : Array Oper := cdO c61_24
noncomputable def r61_29 : Array Oper := cdO c61_29
noncomputable def r61_35 : Array Oper := cdO c61_35
noncomputable def r61_36 : Array Oper := cdO c61_36
noncomputable def r61_38 : Array Oper := cdO c61_38
noncomputable def r61_40 : Array Oper := cdO c61_40
theorem c61_0e : c61_0 = .seq c61_1 c61_2 := by kernel_rfl
theorem c61_1e : c61_1 = .region 0 r61_1 false := by kernel_rfl
theorem c61_2e : c61_2 = .seq c61_3 c61_4 := by kernel_rfl
theorem c61_3e : c61_3 = .region 1 r61_3 false := by kernel_rfl
theorem c61_4e : c61_4 = .seq c61_5 c61_10 := by kernel_rfl
theorem c61_5e : c61_5 = .seq c61_6 c61_7 := by kernel_rfl
theorem c61_6e : c61_6 = .region 2 r61_6 false := by kernel_rfl
theorem c61_7e : c61_7 = .cond (cdC c61_7) c61_8 c61_9 := by kernel_rfl
theorem c61_8e : c61_8 = .region 3 r61_8 false := by kernel_rfl
theorem c61_9e : c61_9 = .skip := by kernel_rfl
theorem c61_10e : c61_10 = .seq c61_11 c61_20 := by kernel_rfl
theorem c61_11e : c61_11 = .seq c61_12 c61_13 := by kernel_rfl
theorem c61_12e : c61_12 = .region 4 r61_12 false := by kernel_rfl
theorem c61_13e : c61_13 = .cond (cdC c61_13) c61_14 c61_19 := by kernel_rfl
theorem c61_14e : c61_14 = .seq c61_15 c61_16 := by kernel_rfl
theorem c61_15e : c61_15 = .region 5 r61_15 false := by kernel_rfl
theorem c61_16e : c61_16 = .seq c61_17 c61_18 := by kernel_rfl
theorem c61_17e : c61_17 = .region 6 r61_17 false := by kernel_rfl
theorem c61_18e : c61_18 = .ret := by kernel_rfl
theorem c61_19e : c61_19 = .skip := by kernel_rfl
theorem c61_20e : c61_20 = .seq c61_21 c61_22 := by kernel_rfl
theorem c61_21e : c61_21 = .region 7 r61_21 false := by kernel_rfl
theorem c61_22e : c61_22 = .seq c61_23 c61_37 := by kernel_rfl
theorem c61_23e : c61_23 = .seq c61_24 c61_25 := by kernel_rfl
theorem c61_24e : c61_24 = .region 8 r61_24 false := by kernel_rfl
theorem c61_25e : c61_25 = .block 0 c61_26 := by kernel_rfl
theorem c61_26e : c61_26 = .loop c61_27 := by kernel_rfl
theorem c61_27e : c61_27 = .seq c61_28 c61_33 := by kernel_rfl
theorem c61_28e : c61_28 = .seq c61_29 c61_30 := by kernel_rfl
theorem c61_29e : c61_29 = .region 9 r61_29 false := by kernel_rfl
theorem c61_30e : c61_30 = .cond (cdC c61_30) c61_31 c61_32 := by kernel_rfl
theorem c61_31e : c61_31 = .skip := by kernel_rfl
theorem c61_32e : c61_32 = .exit 0 := by kernel_rfl
theorem c61_33e : c61_33 = .seq c61_34 c61_36 := by kernel_rfl
theorem c61_34e : c61_34 = .block 1 c61_35 := by kernel_rfl
theorem c61_35e : c61_35 = .region 11 r61_35 false := by kernel_rfl
theorem c61_36e : c61_36 = .region 10 r61_36 false := by kernel_rfl
theorem c61_37e : c61_37 = .seq c61_38 c61_39 := by kernel_rfl
theorem c61_38e : c61_38 = .region 12 r61_38 false := by kernel_rfl
theorem c61_39e : c61_39 = .seq c61_40 c61_41 := by kernel_rfl
theorem c61_40e : c61_40 = .region 13 r61_40 false := by kernel_rfl
theorem c61_41e : c61_41 = .ret := by kernel_rfl
noncomputable def tontineref03_Reader_Num.R (b_2 : Nat) : Pst (Int × T_tontineref03_Reader) where
  ε := Unit
  v := fun r x => .int .u64 r.1
  H := fun r x => [⟨1, b_2, [.string (bs r.2.S_), .bool r.2.Bad]⟩]
  B := fun r x => []
noncomputable def tontineref03_Reader_Num.cx (b_2 : Nat) (w0 : World) (S0 : Fam) : Cx (Int × T_tontineref03_Reader) := ⟨Try.prog, 61, Try.f61, 74, w0, S0, [1], 1, tontineref03_Reader_Num.R b_2⟩
theorem tontineref03_Reader_Num_l0_ok (n : Nat) (r_1 : T_tontineref03_Reader) (n_5 : Int) (b_2 : Nat) (w0 : World) (S0 : Fam) :
    ∀ (k : Nat) (x_15 : Int) (i_16 : Int), GoO (tontineref03_Reader_Num.cx b_2 w0 S0) [(0, .pointer (some ⟨b_2, 0, none⟩)), (3, .int .i64 n_5), (4, .int .u64 x_15), (5, .int .i64 i_16)] [⟨1, b_2, [.string (bs r_1.S_), .bool r_1.Bad]⟩] [] [.code c61_27, .inLoop c61_27, .inBlock 0, .code c61_37] (tontineref03_Reader_Num.l0 n r_1 n_5 k x_15 i_16) := by
  intro k
  induction k with
  | zero => intros; rw [tontineref03_Reader_Num.l0.eq_1]; exact GoO.stop
  | succ k ih0 =>
    intro x_15 i_16
    rw [tontineref03_Reader_Num.l0.eq_2]
    refine GoO.seq' c61_27e ?_
    refine GoO.seq' c61_28e ?_
    refine GoO.region' (is := [0, 1, 2]) c61_29e (by kernel_rfl) ?_
    refine GoO.exec (is := [0, 1, 2]) (hs := [.p, .p, .p]) (rest := []) (ks := [0, 3, 4, 5, 50]) (env' := [(0, .pointer (some ⟨b_2, 0, none⟩)), (3, .int .i64 n_5), (4, .int .u64 x_15), (5, .int .i64 i_16), (50, .bool (decide (i_16 ≤ n_5)))]) (H' := [⟨1, b_2, [.string (bs r_1.S_), .bool r_1.Bad]⟩]) (ps := []) (by kernel_rfl) trivial ?_
    refine GoO.regionEnd ?_
    refine GoO.ite' c61_30e (by kernel_rfl) (fun h17 => ?_) (fun h17 => ?_)
    · refine GoO.skip' c61_31e ?_
      refine GoO.seq' c61_33e ?_
      refine GoO.block' c61_34e ?_
      refine GoO.region' (is := [0, 1, 2, 3, 4, 5, 6, 7, 8, 9, 10]) c61_35e (by kernel_rfl) ?_
      refine GoO.guard (fun h18 => ?_)
      refine GoO.exec (is := [0, 1, 2, 3, 4, 5, 6, 7, 8, 9, 10]) (hs := [.p, .p, .p, .p, .p, .b 0, .p, .p, .p, .p, .p]) (rest := []) (ks := [0, 3, 4, 5]) (env' := [(0, .pointer (some ⟨b_2, 0, none⟩)), (3, .int .i64 n_5), (4, .int .u64 (wu64 ((wu64 (256 * x_15)) + (wu64 ((rdB r_1.S_ i_16).toNat : Int))))), (5, .int .i64 i_16)]) (H' := [⟨1, b_2, [.string (bs r_1.S_), .bool r_1.Bad]⟩]) (ps := [b_2 = b_2, (0 : Int) ≤ i_16, i_16 < (r_1.S_.length : Int)]) (by kernel_rfl) (And.intro rfl (And.intro h18.1 (And.intro h18.2 trivial))) ?_
      refine GoO.regionEnd ?_
      refine GoO.inBlock ?_
      refine GoO.region' (is := [0, 1, 2]) c61_36e (by kernel_rfl) ?_
      refine GoO.exec (is := [0, 1, 2]) (hs := [.p, .p, .p]) (rest := []) (ks := [0, 3, 4, 5]) (env' := [(0, .pointer (some ⟨b_2, 0, none⟩)), (3, .int .i64 n_5), (4, .int .u64 (wu64 ((wu64 (256 * x_15)) + (wu64 ((rdB r_1.S_ i_16).toNat : Int))))), (5, .int .i64 (wi64 (i_16 + 1)))]) (H' := [⟨1, b_2, [.string (bs r_1.S_), .bool r_1.Bad]⟩]) (ps := []) (by kernel_rfl) trivial ?_
      refine GoO.regionEnd ?_
      refine GoO.inLoop ?_
      exact GoO.sub (ks := [0, 3, 4, 5]) (hk := [0]) (bk := []) (by kernel_rfl) (by kernel_rfl) (by kernel_rfl) (ih0 (wu64 ((wu64 (256 * x_15)) + (wu64 ((rdB r_1.S_ i_16).toNat : Int)))) (wi64 (i_16 + 1)))
    · refine GoO.exit' c61_32e rfl ?_
      refine GoO.seq' c61_37e ?_
      refine GoO.region' (is := [0, 1, 2, 3, 4, 5, 6, 7, 8, 9, 10]) c61_38e (by kernel_rfl) ?_
      refine GoO.guard (fun h19 => ?_)
      refine GoO.exec (is := [0, 1, 2, 3, 4, 5, 6, 7, 8, 9, 10]) (hs := [.p, .p, .p, .p, .b 0, .p, .p, .p, .p, .p, .b 0]) (rest := []) (ks := [4]) (env' := [(4, .int .u64 x_15)]) (H' := [⟨1, b_2, [.string (bs (r_1.S_.drop (wi64 (n_5 + 1)).toNat)), .bool r_1.Bad]⟩]) (ps := [b_2 = b_2, (0 : Int) ≤ (wi64 (n_5 + 1)), (wi64 (n_5 + 1)) ≤ (r_1.S_.length : Int), b_2 = b_2]) (by kernel_rfl) (And.intro rfl (And.intro h19.1 (And.intro h19.2 (And.intro rfl trivial)))) ?_
      refine GoO.regionEnd ?_
      refine GoO.seq' c61_39e ?_
      refine GoO.region' (is := [0, 1]) c61_40e (by kernel_rfl) ?_
      refine GoO.exec (is := [0, 1]) (hs := [.p, .p]) (rest := []) (ks := [2]) (env' := [(2, .int .u64 x_15)]) (H' := [⟨1, b_2, [.string (bs (r_1.S_.drop (wi64 (n_5 + 1)).toNat)), .bool r_1.Bad]⟩]) (ps := []) (by kernel_rfl) trivial ?_
      refine GoO.regionEnd ?_
      exact GoO.ret' (h := c61_41e) (hs := []) (ps := []) (hk := [0]) (bk := []) Try.func61 () (by kernel_rfl) trivial (by kernel_rfl) (by kernel_rfl)
theorem tontineref03_Reader_Num_j1_ok (n : Nat) (r_1 : T_tontineref03_Reader) (n_5 : Int) (b_2 : Nat) (w0 : World) (S0 : Fam) (b_11 : Bool) :
    GoO (tontineref03_Reader_Num.cx b_2 w0 S0) [(0, .pointer (some ⟨b_2, 0, none⟩)), (3, .int .i64 n_5), (45, .bool b_11)] [⟨1, b_2, [.string (bs r_1.S_), .bool r_1.Bad]⟩] [] [.code c61_13, .code c61_20] (tontineref03_Reader_Num.j1 n r_1 n_5 b_11) := by
  unfold tontineref03_Reader_Num.j1
  refine GoO.ite' c61_13e (by kernel_rfl) (fun h12 => ?_) (fun h12 => ?_)
  · refine GoO.seq' c61_14e ?_
    refine GoO.region' (is := [0, 1]) c61_15e (by kernel_rfl) ?_
    refine GoO.exec (is := [0]) (hs := [.p]) (rest := [1]) (ks := [46]) (env' := [(46, .pointer (some ⟨b_2, 0, none⟩))]) (H' := [⟨1, b_2, [.string (bs r_1.S_), .bool r_1.Bad]⟩]) (ps := []) (by kernel_rfl) trivial ?_
    refine OpTo.go (GoO.call rfl (by kernel_rfl) (by kernel_rfl) (tontineref03_Reader_Fail_ok n r_1 b_2) [[0], [1]] [(1, 1)] [(1, 0)] [] (hks := []) (bks := []) (by kernel_rfl) (by kernel_rfl) (by kernel_rfl) (.inl rfl) rfl rfl (by kernel_rfl) (by kernel_rfl) _ (fun _ _ => rfl) _ _ (fun _ _ => rfl) (fun _ _ => rfl) (fun _ _ => by kernel_rfl) (fun _ _ => by kernel_rfl) (fun r_13 x_14 => ?_))
    refine GoO.shape (env' := [(46, .pointer (some ⟨b_2, 0, none⟩)), (47, .tuple ⟨[]⟩)]) (H' := [⟨1, b_2, [.string (bs r_13.S_), .bool r_13.Bad]⟩]) (B' := []) (ks := [46, 47]) (by kernel_rfl) (by kernel_rfl) (by kernel_rfl) ?_
    refine GoO.regionEnd ?_
    refine GoO.seq' c61_16e ?_
    refine GoO.region' (is := [0]) c61_17e (by kernel_rfl) ?_
    refine GoO.exec (is := [0]) (hs := [.p]) (rest := []) (ks := [2]) (env' := [(2, .int .u64 0)]) (H' := [⟨1, b_2, [.string (bs r_13.S_), .bool r_13.Bad]⟩]) (ps := []) (by kernel_rfl) trivial ?_
    refine GoO.regionEnd ?_
    exact GoO.ret' (h := c61_18e) (hs := []) (ps := []) (hk := [0]) (bk := []) Try.func61 () (by kernel_rfl) trivial (by kernel_rfl) (by kernel_rfl)
  · refine GoO.skip' c61_19e ?_
    refine GoO.seq' c61_20e ?_
    refine GoO.region' (is := [0]) c61_21e (by kernel_rfl) ?_
    refine GoO.exec (is := [0]) (hs := [.p]) (rest := []) (ks := [0, 3, 4]) (env' := [(0, .pointer (some ⟨b_2, 0, none⟩)), (3, .int .i64 n_5), (4, .int .u64 0)]) (H' := [⟨1, b_2, [.string (bs r_1.S_), .bool r_1.Bad]⟩]) (ps := []) (by kernel_rfl) trivial ?_
    refine GoO.regionEnd ?_
    refine GoO.seq' c61_22e ?_
    refine GoO.seq' c61_23e ?_
    refine GoO.region' (is := [0]) c61_24e (by kernel_rfl) ?_
    refine GoO.exec (is := [0]) (hs := [.p]) (rest := []) (ks := [0, 3, 4, 5]) (env' := [(0, .pointer (some ⟨b_2, 0, none⟩)), (3, .int .i64 n_5), (4, .int .u64 0), (5, .int .i64 1)]) (H' := [⟨1, b_2, [.string (bs r_1.S_), .bool r_1.Bad]⟩]) (ps := []) (by kernel_rfl) trivial ?_
    refine GoO.regionEnd ?_
    refine GoO.block' c61_25e ?_
    refine GoO.loop' c61_26e ?_
    exact GoO.sub (ks := [0, 3, 4, 5]) (hk := [0]) (bk := []) (by kernel_rfl) (by kernel_rfl) (by kernel_rfl) (tontineref03_Reader_Num_l0_ok n r_1 n_5 b_2 w0 S0 n 0 1)
theorem tontineref03_Reader_Num_j0_ok (n : Nat) (r_1 : T_tontineref03_Reader) (b_2 : Nat) (w0 : World) (S0 : Fam) (n_5 : Int) :
    GoO (tontineref03_Reader_Num.cx b_2 w0 S0) [(0, .pointer (some ⟨b_2, 0, none⟩)), (3, .int .i64 n_5)] [⟨1, b_2, [.string (bs r_1.S_), .bool r_1.Bad]⟩] [] [.code c61_10] (tontineref03_Reader_Num.j0 n r_1 n_5) := by
  unfold tontineref03_Reader_Num.j0
  refine GoO.seq' c61_10e ?_
  refine GoO.seq' c61_11e ?_
  refine GoO.region' (is := [0, 1, 2, 3, 4, 5, 6, 7, 8, 9, 10, 11, 12, 13, 14, 15, 16, 17, 18, 19, 20, 21, 22, 23, 24, 25, 26, 27]) c61_12e (by kernel_rfl) ?_
  refine GoO.exec (is := [0, 1, 2]) (hs := [.p, .p, .p]) (rest := [3, 4, 5, 6, 7, 8, 9, 10, 11, 12, 13, 14, 15, 16, 17, 18, 19, 20, 21, 22, 23, 24, 25, 26, 27]) (ks := [0, 3, 20]) (env' := [(0, .pointer (some ⟨b_2, 0, none⟩)), (3, .int .i64 n_5), (20, .bool (decide (n_5 < 0)))]) (H' := [⟨1, b_2, [.string (bs r_1.S_), .bool r_1.Bad]⟩]) (ps := []) (by kernel_rfl) trivial ?_
  refine GoO.bsplit (t := 20) (by kernel_rfl) (fun h6 => ?_) (fun h6 => ?_)
  · refine GoO.exec (is := [3, 4, 5, 6, 7, 8, 9, 10, 11, 12, 13, 14, 15, 16, 17, 18, 19, 20, 21, 22, 23, 24, 25, 26, 27]) (hs := [.p, .p, .p, .p, .p, .p, .p, .p, .p, .p, .p, .p, .p, .p, .p, .p, .p, .p, .p, .p, .p, .p, .p, .p, .p]) (rest := []) (ks := [0, 3, 45]) (env' := [(0, .pointer (some ⟨b_2, 0, none⟩)), (3, .int .i64 n_5), (45, .bool true)]) (H' := [⟨1, b_2, [.string (bs r_1.S_), .bool r_1.Bad]⟩]) (ps := []) (by kernel_rfl) trivial ?_
    refine GoO.regionEnd ?_
    exact GoO.sub (ks := [0, 3, 45]) (hk := [0]) (bk := []) (by kernel_rfl) (by kernel_rfl) (by kernel_rfl) (tontineref03_Reader_Num_j1_ok n r_1 n_5 b_2 w0 S0 true)
  · refine GoO.exec (is := [3, 4, 5, 6]) (hs := [.p, .p, .p, .p]) (rest := [7, 8, 9, 10, 11, 12, 13, 14, 15, 16, 17, 18, 19, 20, 21, 22, 23, 24, 25, 26, 27]) (ks := [0, 3, 24]) (env' := [(0, .pointer (some ⟨b_2, 0, none⟩)), (3, .int .i64 n_5), (24, .bool (decide (n_5 > 8)))]) (H' := [⟨1, b_2, [.string (bs r_1.S_), .bool r_1.Bad]⟩]) (ps := []) (by kernel_rfl) trivial ?_
    refine GoO.bsplit (t := 24) (by kernel_rfl) (fun h7 => ?_) (fun h7 => ?_)
    · refine GoO.exec (is := [7, 8, 9, 10, 11, 12, 13, 14, 15, 16, 17, 18, 19, 20, 21, 22, 23, 24, 25, 26, 27]) (hs := [.p, .p, .p, .p, .p, .p, .p, .p, .p, .p, .p, .p, .p, .p, .p, .p, .p, .p, .p, .p, .p]) (rest := []) (ks := [0, 3, 45]) (env' := [(0, .pointer (some ⟨b_2, 0, none⟩)), (3, .int .i64 n_5), (45, .bool true)]) (H' := [⟨1, b_2, [.string (bs r_1.S_), .bool r_1.Bad]⟩]) (ps := []) (by kernel_rfl) trivial ?_
      refine GoO.regionEnd ?_
      exact GoO.sub (ks := [0, 3, 45]) (hk := [0]) (bk := []) (by kernel_rfl) (by kernel_rfl) (by kernel_rfl) (tontineref03_Reader_Num_j1_ok n r_1 n_5 b_2 w0 S0 true)
    · refine GoO.exec (is := [7, 8, 9, 10, 11, 12, 13, 14, 15, 16]) (hs := [.p, .p, .p, .b 0, .p, .p, .p, .p, .p, .p]) (rest := [17, 18, 19, 20, 21, 22, 23, 24, 25, 26, 27]) (ks := [0, 3, 34]) (env' := [(0, .pointer (some ⟨b_2, 0, none⟩)), (3, .int .i64 n_5), (34, .bool (decide ((r_1.S_.length : Int) < (wi64 (n_5 + 1)))))]) (H' := [⟨1, b_2, [.string (bs r_1.S_), .bool r_1.Bad]⟩]) (ps := [b_2 = b_2]) (by kernel_rfl) (And.intro rfl trivial) ?_
      refine GoO.bsplit (t := 34) (by kernel_rfl) (fun h8 => ?_) (fun h8 => ?_)
      · refine GoO.exec (is := [17, 18, 19, 20, 21, 22, 23, 24, 25, 26, 27]) (hs := [.p, .p, .p, .p, .p, .p, .p, .p, .p, .p, .p]) (rest := []) (ks := [0, 3, 45]) (env' := [(0, .pointer (some ⟨b_2, 0, none⟩)), (3, .int .i64 n_5), (45, .bool true)]) (H' := [⟨1, b_2, [.string (bs r_1.S_), .bool r_1.Bad]⟩]) (ps := []) (by kernel_rfl) trivial ?_
        refine GoO.regionEnd ?_
        exact GoO.sub (ks := [0, 3, 45]) (hk := [0]) (bk := []) (by kernel_rfl) (by kernel_rfl) (by kernel_rfl) (tontineref03_Reader_Num_j1_ok n r_1 n_5 b_2 w0 S0 true)
      · refine GoO.exec (is := [17, 18, 19]) (hs := [.p, .p, .p]) (rest := [20, 21, 22, 23, 24, 25, 26, 27]) (ks := [0, 3, 34, 37]) (env' := [(0, .pointer (some ⟨b_2, 0, none⟩)), (3, .int .i64 n_5), (34, .bool false), (37, .bool (decide (n_5 > 0)))]) (H' := [⟨1, b_2, [.string (bs r_1.S_), .bool r_1.Bad]⟩]) (ps := []) (by kernel_rfl) trivial ?_
        refine GoO.bsplit (t := 37) (by kernel_rfl) (fun h9 => ?_) (fun h9 => ?_)
        · refine GoO.guard (fun h10 => ?_)
          refine GoO.exec (is := [20, 21, 22, 23, 24, 25, 26, 27]) (hs := [.p, .p, .p, .b 0, .p, .p, .p, .p]) (rest := []) (ks := [0, 3, 45]) (env' := [(0, .pointer (some ⟨b_2, 0, none⟩)), (3, .int .i64 n_5), (45, .bool (((rdB r_1.S_ 1).toNat : Int) == 0))]) (H' := [⟨1, b_2, [.string (bs r_1.S_), .bool r_1.Bad]⟩]) (ps := [b_2 = b_2, (0 : Int) ≤ 1, 1 < (r_1.S_.length : Int)]) (by kernel_rfl) (And.intro rfl (And.intro h10.1 (And.intro h10.2 trivial))) ?_
          refine GoO.regionEnd ?_
          exact GoO.sub (ks := [0, 3, 45]) (hk := [0]) (bk := []) (by kernel_rfl) (by kernel_rfl) (by kernel_rfl) (tontineref03_Reader_Num_j1_ok n r_1 n_5 b_2 w0 S0 (((rdB r_1.S_ 1).toNat : Int) == 0))
        · refine GoO.exec (is := [20, 21, 22, 23, 24, 25, 26, 27]) (hs := [.p, .p, .p, .p, .p, .p, .p, .p]) (rest := []) (ks := [0, 3, 45]) (env' := [(0, .pointer (some ⟨b_2, 0, none⟩)), (3, .int .i64 n_5), (45, .bool false)]) (H' := [⟨1, b_2, [.string (bs r_1.S_), .bool r_1.Bad]⟩]) (ps := []) (by kernel_rfl) trivial ?_
          refine GoO.regionEnd ?_
          exact GoO.sub (ks := [0, 3, 45]) (hk := [0]) (bk := []) (by kernel_rfl) (by kernel_rfl) (by kernel_rfl) (tontineref03_Reader_Num_j1_ok n r_1 n_5 b_2 w0 S0 false)
theorem tontineref03_Reader_Num_ok (n : Nat) (r_1 : T_tontineref03_Reader) (b_2 : Nat) :
    Meets Try.prog 61 [.pointer (some ⟨b_2, 0, none⟩)] 1 [1] [⟨1, b_2, [.string (bs r_1.S_), .bool r_1.Bad]⟩] [] (tontineref03_Reader_Num.f n r_1) (tontineref03_Reader_Num.R b_2) := by
  refine Meets.of (c := c61_0) (n := 74) Try.func61 (by kernel_rfl) (by kernel_rfl) (by kernel_rfl) fun w0 S0 => ?_
  unfold tontineref03_Reader_Num.f
  show GoO (tontineref03_Reader_Num.cx b_2 w0 S0) [(0, .pointer (some ⟨b_2, 0, none⟩))] [⟨1, b_2, [.string (bs r_1.S_), .bool r_1.Bad]⟩] [] [.code c61_0] _
  refine GoO.seq' c61_0e ?_
  refine GoO.region' (is := [0]) c61_1e (by kernel_rfl) ?_
  refine GoO.exec (is := [0]) (hs := [.p]) (rest := []) (ks := [0]) (env' := [(0, .pointer (some ⟨b_2, 0, none⟩))]) (H' := [⟨1, b_2, [.string (bs r_1.S_), .bool r_1.Bad]⟩]) (ps := []) (by kernel_rfl) trivial ?_
  refine GoO.regionEnd ?_
  refine GoO.seq' c61_2e ?_
  refine GoO.region' (is := [0]) c61_3e (by kernel_rfl) ?_
  refine GoO.exec (is := [0]) (hs := [.p]) (rest := []) (ks := [0, 3]) (env' := [(0, .pointer (some ⟨b_2, 0, none⟩)), (3, .int .i64 (-1))]) (H' := [⟨1, b_2, [.string (bs r_1.S_), .bool r_1.Bad]⟩]) (ps := []) (by kernel_rfl) trivial ?_
  refine GoO.regionEnd ?_
  refine GoO.seq' c61_4e ?_
  refine GoO.seq' c61_5e ?_
  refine GoO.region' (is := [0, 1, 2, 3, 4, 5]) c61_6e (by kernel_rfl) ?_
  refine GoO.exec (is := [0, 1, 2, 3, 4, 5]) (hs := [.p, .p, .p, .b 0, .p, .p]) (rest := []) (ks := [0, 3, 11]) (env' := [(0, .pointer (some ⟨b_2, 0, none⟩)), (3, .int .i64 (-1)), (11, .bool (decide ((r_1.S_.length : Int) > 0)))]) (H' := [⟨1, b_2, [.string (bs r_1.S_), .bool r_1.Bad]⟩]) (ps := [b_2 = b_2]) (by kernel_rfl) (And.intro rfl trivial) ?_
  refine GoO.regionEnd ?_
  refine GoO.ite' c61_7e (by kernel_rfl) (fun h3 => ?_) (fun h3 => ?_)
  · refine GoO.region' (is := [0, 1, 2, 3, 4, 5, 6]) c61_8e (by kernel_rfl) ?_
    refine GoO.guard (fun h4 => ?_)
    refine GoO.exec (is := [0, 1, 2, 3, 4, 5, 6]) (hs := [.p, .p, .p, .b 0, .p, .p, .p]) (rest := []) (ks := [0, 3]) (env' := [(0, .pointer (some ⟨b_2, 0, none⟩)), (3, .int .i64 (wi64 ((rdB r_1.S_ 0).toNat : Int)))]) (H' := [⟨1, b_2, [.string (bs r_1.S_), .bool r_1.Bad]⟩]) (ps := [b_2 = b_2, (0 : Int) ≤ 0, 0 < (r_1.S_.length : Int)]) (by kernel_rfl) (And.intro rfl (And.intro h4.1 (And.intro h4.2 trivial))) ?_
    refine GoO.regionEnd ?_
    exact GoO.sub (ks := [0, 3]) (hk := [0]) (bk := []) (by kernel_rfl) (by kernel_rfl) (by kernel_rfl) (tontineref03_Reader_Num_j0_ok n r_1 b_2 w0 S0 (wi64 ((rdB r_1.S_ 0).toNat : Int)))
  · refine GoO.skip' c61_9e ?_
    exact GoO.sub (ks := [0, 3]) (hk := [0]) (bk := []) (by kernel_rfl) (by kernel_rfl) (by kernel_rfl) (tontineref03_Reader_Num_j0_ok n r_1 b_2 w0 S0 (-1))

/-! (*tontine/tontineref03.Reader).Up -/
noncomputable def c60_0 : Code := bodyOf Try.f60
noncomputable def c60_1 : Code := cdL c60_0
noncomputable def c60_2 : Code := cdR c60_0
noncomputable def c60_3 : Code := cdL c60_2
noncomputable def c60_4 : Code := cdR c60_2
noncomputable def c60_5 : Code := cdL c60_4
noncomputable def c60_6 : Code := cdL c60_5
noncomputable def c60_7 : Code := cdR c60_5
noncomputable def c60_8 : Code := cdL c60_7
noncomputable def c60_9 : Code := cdL c60_8
noncomputable def c60_10 : Code := cdR c60_8
noncomputable def c60_11 : Code := cdL c60_10
noncomputable def c60_12 : Code := cdR c60_10
noncomputable def c60_13 : Code := cdR c60_7
noncomputable def c60_14 : Code := cdR c60_4
noncomputable def c60_15 : Code := cdL c60_14
noncomputable def c60_16 : Code := cdR c60_14
noncomputable def r60_1 : Array Oper := cdO c60_1
noncomputable def r60_3 : Array Oper := cdO c60_3
noncomputable def r60_6 : Array Oper := cdO c60_6
noncomputable def r60_9 : Array Oper := cdO c60_9
noncomputable def r60_11 : Array Oper := cdO c60_11
noncomputable def r60_15 : Array Oper := cdO c60_15
theorem c60_0e : c60_0 = .seq c60_1 c60_2 := by kernel_rfl
theorem c60_1e : c60_1 = .region 0 r60_1 false := by kernel_rfl
theorem c60_2e : c60_2 = .seq c60_3 c60_4 := by kernel_rfl
theorem c60_3e : c60_3 = .region 1 r60_3 false := by kernel_rfl
theorem c60_4e : c60_4 = .seq c60_5 c60_14 := by kernel_rfl
theorem c60_5e : c60_5 = .seq c60_6 c60_7 := by kernel_rfl
theorem c60_6e : c60_6 = .region 2 r60_6 false := by kernel_rfl
theorem c60_7e : c60_7 = .cond (cdC c60_7) c60_8 c60_13 := by kernel_rfl
theorem c60_8e : c60_8 = .seq c60_9 c60_10 := by kernel_rfl
theorem c60_9e : c60_9 = .region 3 r60_9 false := by kernel_rfl
theorem c60_10e : c60_10 = .seq c60_11 c60_12 := by kernel_rfl
theorem c60_11e : c60_11 = .region 4 r60_11 false := by kernel_rfl
theorem c60_12e : c60_12 = .ret := by kernel_rfl
theorem c60_13e : c60_13 = .skip := by kernel_rfl
theorem c60_14e : c60_14 = .seq c60_15 c60_16 := by kernel_rfl
theorem c60_15e : c60_15 = .region 5 r60_15 false := by kernel_rfl
theorem c60_16e : c60_16 = .ret := by kernel_rfl
noncomputable def tontineref03_Reader_Up.R (b_2 : Nat) : Pst (Int × T_tontineref03_Reader) where
  ε := Unit
  v := fun r x => .int .i64 r.1
  H := fun r x => [⟨1, b_2, [.string (bs r.2.S_), .bool r.2.Bad]⟩]
  B := fun r x => []
noncomputable def tontineref03_Reader_Up.cx (b_2 : Nat) (w0 : World) (S0 : Fam) : Cx (Int × T_tontineref03_Reader) := ⟨Try.prog, 60, Try.f60, 20, w0, S0, [1], 1, tontineref03_Reader_Up.R b_2⟩
theorem tontineref03_Reader_Up_j0_ok (n : Nat) (r_4 : Int × T_tontineref03_Reader) (b_2 : Nat) (w0 : World) (S0 : Fam) (b_6 : Bool) :
    GoO (tontineref03_Reader_Up.cx b_2 w0 S0) [(0, .pointer (some ⟨b_2, 0, none⟩)), (5, .int .u64 r_4.1), (15, .bool b_6)] [⟨1, b_2, [.string (bs r_4.2.S_), .bool r_4.2.Bad]⟩] [] [.code c60_7, .code c60_14] (tontineref03_Reader_Up.j0 n r_4 b_6) := by
  unfold tontineref03_Reader_Up.j0
  refine GoO.ite' c60_7e (by kernel_rfl) (fun h7 => ?_) (fun h7 => ?_)
  · refine GoO.seq' c60_8e ?_
    refine GoO.region' (is := [0, 1]) c60_9e (by kernel_rfl) ?_
    refine GoO.exec (is := [0]) (hs := [.p]) (rest := [1]) (ks := [16]) (env' := [(16, .pointer (some ⟨b_2, 0, none⟩))]) (H' := [⟨1, b_2, [.string (bs r_4.2.S_), .bool r_4.2.Bad]⟩]) (ps := []) (by kernel_rfl) trivial ?_
    refine OpTo.go (GoO.call rfl (by kernel_rfl) (by kernel_rfl) (tontineref03_Reader_Fail_ok n r_4.2 b_2) [[0], [1]] [(1, 1)] [(1, 0)] [] (hks := []) (bks := []) (by kernel_rfl) (by kernel_rfl) (by kernel_rfl) (.inl rfl) rfl rfl (by kernel_rfl) (by kernel_rfl) _ (fun _ _ => rfl) _ _ (fun _ _ => rfl) (fun _ _ => rfl) (fun _ _ => by kernel_rfl) (fun _ _ => by kernel_rfl) (fun r_8 x_9 => ?_))
    refine GoO.shape (env' := [(16, .pointer (some ⟨b_2, 0, none⟩)), (17, .tuple ⟨[]⟩)]) (H' := [⟨1, b_2, [.string (bs r_8.S_), .bool r_8.Bad]⟩]) (B' := []) (ks := [16, 17]) (by kernel_rfl) (by kernel_rfl) (by kernel_rfl) ?_
    refine GoO.regionEnd ?_
    refine GoO.seq' c60_10e ?_
    refine GoO.region' (is := [0]) c60_11e (by kernel_rfl) ?_
    refine GoO.exec (is := [0]) (hs := [.p]) (rest := []) (ks := [4]) (env' := [(4, .int .i64 0)]) (H' := [⟨1, b_2, [.string (bs r_8.S_), .bool r_8.Bad]⟩]) (ps := []) (by kernel_rfl) trivial ?_
    refine GoO.regionEnd ?_
    exact GoO.ret' (h := c60_12e) (hs := []) (ps := []) (hk := [0]) (bk := []) Try.func60 () (by kernel_rfl) trivial (by kernel_rfl) (by kernel_rfl)
  · refine GoO.skip' c60_13e ?_
    refine GoO.seq' c60_14e ?_
    refine GoO.region' (is := [0, 1, 2]) c60_15e (by kernel_rfl) ?_
    refine GoO.exec (is := [0, 1, 2]) (hs := [.p, .p, .p]) (rest := []) (ks := [4]) (env' := [(4, .int .i64 (wi64 r_4.1))]) (H' := [⟨1, b_2, [.string (bs r_4.2.S_), .bool r_4.2.Bad]⟩]) (ps := []) (by kernel_rfl) trivial ?_
    refine GoO.regionEnd ?_
    exact GoO.ret' (h := c60_16e) (hs := []) (ps := []) (hk := [0]) (bk := []) Try.func60 () (by kernel_rfl) trivial (by kernel_rfl) (by kernel_rfl)
theorem tontineref03_Reader_Up_ok (n : Nat) (r_1 : T_tontineref03_Reader) (limit_3 : Int) (b_2 : Nat) :
    Meets Try.prog 60 [.pointer (some ⟨b_2, 0, none⟩), .int .i64 limit_3] 1 [1] [⟨1, b_2, [.string (bs r_1.S_), .bool r_1.Bad]⟩] [] (tontineref03_Reader_Up.f n r_1 limit_3) (tontineref03_Reader_Up.R b_2) := by
  refine Meets.of (c := c60_0) (n := 20) Try.func60 (by kernel_rfl) (by kernel_rfl) (by kernel_rfl) fun w0 S0 => ?_
  unfold tontineref03_Reader_Up.f
  show GoO (tontineref03_Reader_Up.cx b_2 w0 S0) [(0, .pointer (some ⟨b_2, 0, none⟩)), (1, .int .i64 limit_3)] [⟨1, b_2, [.string (bs r_1.S_), .bool r_1.Bad]⟩] [] [.code c60_0] _
  refine GoO.seq' c60_0e ?_
  refine GoO.region' (is := [0]) c60_1e (by kernel_rfl) ?_
  refine GoO.exec (is := [0]) (hs := [.p]) (rest := []) (ks := [0, 1]) (env' := [(0, .pointer (some ⟨b_2, 0, none⟩)), (1, .int .i64 limit_3)]) (H' := [⟨1, b_2, [.string (bs r_1.S_), .bool r_1.Bad]⟩]) (ps := []) (by kernel_rfl) trivial ?_
  refine GoO.regionEnd ?_
  refine GoO.seq' c60_2e ?_
  refine GoO.region' (is := [0, 1, 2]) c60_3e (by kernel_rfl) ?_
  refine GoO.exec (is := [0]) (hs := [.p]) (rest := [1, 2]) (ks := [0, 1, 6]) (env' := [(0, .pointer (some ⟨b_2, 0, none⟩)), (1, .int .i64 limit_3), (6, .pointer (some ⟨b_2, 0, none⟩))]) (H' := [⟨1, b_2, [.string (bs r_1.S_), .bool r_1.Bad]⟩]) (ps := []) (by kernel_rfl) trivial ?_
  refine OpTo.go (GoO.call rfl (by kernel_rfl) (by kernel_rfl) (tontineref03_Reader_Num_ok n r_1 b_2) [[0], [1]] [(1, 1)] [(1, 0)] [] (hks := []) (bks := []) (by kernel_rfl) (by kernel_rfl) (by kernel_rfl) (.inl rfl) rfl rfl (by kernel_rfl) (by kernel_rfl) _ (fun _ _ => rfl) _ _ (fun _ _ => rfl) (fun _ _ => rfl) (fun _ _ => by kernel_rfl) (fun _ _ => by kernel_rfl) (fun r_4 x_10 => ?_))
  refine GoO.shape (env' := [(0, .pointer (some ⟨b_2, 0, none⟩)), (1, .int .i64 limit_3), (6, .pointer (some ⟨b_2, 0, none⟩)), (7, .int .u64 r_4.1)]) (H' := [⟨1, b_2, [.string (bs r_4.2.S_), .bool r_4.2.Bad]⟩]) (B' := []) (ks := [0, 1, 6, 7]) (by kernel_rfl) (by kernel_rfl) (by kernel_rfl) ?_
  refine GoO.exec (is := [2]) (hs := [.p]) (rest := []) (ks := [0, 1, 5]) (env' := [(0, .pointer (some ⟨b_2, 0, none⟩)), (1, .int .i64 limit_3), (5, .int .u64 r_4.1)]) (H' := [⟨1, b_2, [.string (bs r_4.2.S_), .bool r_4.2.Bad]⟩]) (ps := []) (by kernel_rfl) trivial ?_
  refine GoO.regionEnd ?_
  refine GoO.seq' c60_4e ?_
  refine GoO.seq' c60_5e ?_
  refine GoO.region' (is := [0, 1, 2, 3, 4, 5, 6, 7]) c60_6e (by kernel_rfl) ?_
  refine GoO.exec (is := [0, 1, 2]) (hs := [.p, .p, .p]) (rest := [3, 4, 5, 6, 7]) (ks := [0, 1, 5, 10]) (env' := [(0, .pointer (some ⟨b_2, 0, none⟩)), (1, .int .i64 limit_3), (5, .int .u64 r_4.1), (10, .bool (decide (limit_3 < 0)))]) (H' := [⟨1, b_2, [.string (bs r_4.2.S_), .bool r_4.2.Bad]⟩]) (ps := []) (by kernel_rfl) trivial ?_
  refine GoO.bsplit (t := 10) (by kernel_rfl) (fun h5 => ?_) (fun h5 => ?_)
  · refine GoO.exec (is := [3, 4, 5, 6, 7]) (hs := [.p, .p, .p, .p, .p]) (rest := []) (ks := [0, 5, 15]) (env' := [(0, .pointer (some ⟨b_2, 0, none⟩)), (5, .int .u64 r_4.1), (15, .bool true)]) (H' := [⟨1, b_2, [.string (bs r_4.2.S_), .bool r_4.2.Bad]⟩]) (ps := []) (by kernel_rfl) trivial ?_
    refine GoO.regionEnd ?_
    exact GoO.sub (ks := [0, 5, 15]) (hk := [0]) (bk := []) (by kernel_rfl) (by kernel_rfl) (by kernel_rfl) (tontineref03_Reader_Up_j0_ok n r_4 b_2 w0 S0 true)
  · refine GoO.exec (is := [3, 4, 5, 6, 7]) (hs := [.p, .p, .p, .p, .p]) (rest := []) (ks := [0, 5, 15]) (env' := [(0, .pointer (some ⟨b_2, 0, none⟩)), (5, .int .u64 r_4.1), (15, .bool (decide (r_4.1 > (wu64 limit_3))))]) (H' := [⟨1, b_2, [.string (bs r_4.2.S_), .bool r_4.2.Bad]⟩]) (ps := []) (by kernel_rfl) trivial ?_
    refine GoO.regionEnd ?_
    exact GoO.sub (ks := [0, 5, 15]) (hk := [0]) (bk := []) (by kernel_rfl) (by kernel_rfl) (by kernel_rfl) (tontineref03_Reader_Up_j0_ok n r_4 b_2 w0 S0 (decide (r_4.1 > (wu64 limit_3))))

/-! (*tontine/tontineref03.Reader).Text -/
noncomputable def c71_0 : Code := bodyOf Try.f71
noncomputable def c71_1 : Code := cdL c71_0
noncomputable def c71_2 : Code := cdR c71_0
noncomputable def c71_3 : Code := cdL c71_2
noncomputable def c71_4 : Code := cdR c71_2
noncomputable def c71_5 : Code := cdL c71_4
noncomputable def c71_6 : Code := cdL c71_5
noncomputable def c71_7 : Code := cdR c71_5
noncomputable def c71_8 : Code := cdL c71_7
noncomputable def c71_9 : Code := cdL c71_8
noncomputable def c71_10 : Code := cdR c71_8
noncomputable def c71_11 : Code := cdL c71_10
noncomputable def c71_12 : Code := cdR c71_10
noncomputable def c71_13 : Code := cdR c71_7
noncomputable def c71_14 : Code := cdR c71_4
noncomputable def c71_15 : Code := cdL c71_14
noncomputable def c71_16 : Code := cdR c71_14
noncomputable def c71_17 : Code := cdL c71_16
noncomputable def c71_18 : Code := cdR c71_16
noncomputable def c71_19 : Code := cdL c71_18
noncomputable def c71_20 : Code := cdR c71_18
noncomputable def r71_1 : Array Oper := cdO c71_1
noncomputable def r71_3 : Array Oper := cdO c71_3
noncomputable def r71_6 : Array Oper := cdO c71_6
noncomputable def r71_9 : Array Oper := cdO c71_9
noncomputable def r71_11 : Array Oper := cdO c71_11
noncomputable def r71_15 : Array Oper := cdO c71_15
noncomputable def r71_17 : Array Oper := cdO c71_17
noncomputable def r71_19 : Array Oper := cdO c71_19
theorem c71_0e : c71_0 = .seq c71_1 c71_2 := by kernel_rfl
theorem c71_1e : c71_1 = .region 0 r71_1 false := by kernel_rfl
theorem c71_2e : c71_2 = .seq c71_3 c71_4 := by kernel_rfl
theorem c71_3e : c71_3 = .region 1 r71_3 false := by kernel_rfl
theorem c71_4e : c71_4 = .seq c71_5 c71_14 := by kernel_rfl
theorem c71_5e : c71_5 = .seq c71_6 c71_7 := by kernel_rfl
theorem c71_6e : c71_6 = .region 2 r71_6 false := by kernel_rfl
theorem c71_7e : c71_7 = .cond (cdC c71_7) c71_8 c71_13 := by kernel_rfl
theorem c71_8e : c71_8 = .seq c71_9 c71_10 := by kernel_rfl
theorem c71_9e : c71_9 = .region 3 r71_9 false := by kernel_rfl
theorem c71_10e : c71_10 = .seq c71_11 c71_12 := by kernel_rfl
theorem c71_11e : c71_11 = .region 4 r71_11 false := by kernel_rfl
theorem c71_12e : c71_12 = .ret := by kernel_rfl
theorem c71_13e : c71_13 = .skip := by kernel_rfl
theorem c71_14e : c71_14 = .seq c71_15 c71_16 := by kernel_rfl
theorem c71_15e : c71_15 = .region 5 r71_15 false := by kernel_rfl
theorem c71_16e : c71_16 = .seq c71_17 c71_18 := by kernel_rfl
theorem c71_17e : c71_17 = .region 6 r71_17 false := by kernel_rfl
theorem c71_18e : c71_18 = .seq c71_19 c71_20 := by kernel_rfl
theorem c71_19e : c71_19 = .region 7 r71_19 false := by kernel_rfl
theorem c71_20e : c71_20 = .ret := by kernel_rfl
noncomputable def tontineref03_Reader_Text.R (b_2 : Nat) : Pst ((List UInt8) × T_tontineref03_Reader) where
  ε := Unit
  v := fun r x => .string (bs r.1)
  H := fun r x => [⟨1, b_2, [.string (bs r.2.S_), .bool r.2.Bad]⟩]
  B := fun r x => []
noncomputable def tontineref03_Reader_Text.cx (b_2 : Nat) (w0 : World) (S0 : Fam) : Cx ((List UInt8) × T_tontineref03_Reader) := ⟨Try.prog, 71, Try.f71, 35, w0, S0, [1], 1, tontineref03_Reader_Text.R b_2⟩
theorem tontineref03_Reader_Text_ok (n : Nat) (r_1 : T_tontineref03_Reader) (limit_3 : Int) (b_2 : Nat) :
    Meets Try.prog 71 [.pointer (some ⟨b_2, 0, none⟩), .int .i64 limit_3] 1 [1] [⟨1, b_2, [.string (bs r_1.S_), .bool r_1.Bad]⟩] [] (tontineref03_Reader_Text.f n r_1 limit_3) (tontineref03_Reader_Text.R b_2) := by
  refine Meets.of (c := c71_0) (n := 35) Try.func71 (by kernel_rfl) (by kernel_rfl) (by kernel_rfl) fun w0 S0 => ?_
  unfold tontineref03_Reader_Text.f
  show GoO (tontineref03_Reader_Text.cx b_2 w0 S0) [(0, .pointer (some ⟨b_2, 0, none⟩)), (1, .int .i64 limit_3)] [⟨1, b_2, [.string (bs r_1.S_), .bool r_1.Bad]⟩] [] [.code c71_0] _
  refine GoO.seq' c71_0e ?_
  refine GoO.region' (is := [0]) c71_1e (by kernel_rfl) ?_
  refine GoO.exec (is := [0]) (hs := [.p]) (rest := []) (ks := [0, 1]) (env' := [(0, .pointer (some ⟨b_2, 0, none⟩)), (1, .int .i64 limit_3)]) (H' := [⟨1, b_2, [.string (bs r_1.S_), .bool r_1.Bad]⟩]) (ps := []) (by kernel_rfl) trivial ?_
  refine GoO.regionEnd ?_
  refine GoO.seq' c71_2e ?_
  refine GoO.region' (is := [0, 1, 2, 3]) c71_3e (by kernel_rfl) ?_
  refine GoO.exec (is := [0, 1]) (hs := [.p, .p]) (rest := [2, 3]) (ks := [0, 7, 8]) (env' := [(0, .pointer (some ⟨b_2, 0, none⟩)), (7, .pointer (some ⟨b_2, 0, none⟩)), (8, .int .i64 limit_3)]) (H' := [⟨1, b_2, [.string (bs r_1.S_), .bool r_1.Bad]⟩]) (ps := []) (by kernel_rfl) trivial ?_
  refine OpTo.go (GoO.call rfl (by kernel_rfl) (by kernel_rfl) (tontineref03_Reader_Up_ok n r_1 limit_3 b_2) [[0], [1]] [(1, 1)] [(1, 0)] [] (hks := []) (bks := []) (by kernel_rfl) (by kernel_rfl) (by kernel_rfl) (.inl rfl) rfl rfl (by kernel_rfl) (by kernel_rfl) _ (fun _ _ => rfl) _ _ (fun _ _ => rfl) (fun _ _ => rfl) (fun _ _ => by kernel_rfl) (fun _ _ => by kernel_rfl) (fun r_4 x_10 => ?_))
  refine GoO.shape (env' := [(0, .pointer (some ⟨b_2, 0, none⟩)), (7, .pointer (some ⟨b_2, 0, none⟩)), (8, .int .i64 limit_3), (9, .int .i64 r_4.1)]) (H' := [⟨1, b_2, [.string (bs r_4.2.S_), .bool r_4.2.Bad]⟩]) (B' := []) (ks := [0, 7, 8, 9]) (by kernel_rfl) (by kernel_rfl) (by kernel_rfl) ?_
  refine GoO.exec (is := [3]) (hs := [.p]) (rest := []) (ks := [0, 5]) (env' := [(0, .pointer (some ⟨b_2, 0, none⟩)), (5, .int .i64 r_4.1)]) (H' := [⟨1, b_2, [.string (bs r_4.2.S_), .bool r_4.2.Bad]⟩]) (ps := []) (by kernel_rfl) trivial ?_
  refine GoO.regionEnd ?_
  refine GoO.seq' c71_4e ?_
  refine GoO.seq' c71_5e ?_
  refine GoO.region' (is := [0, 1, 2, 3, 4, 5, 6]) c71_6e (by kernel_rfl) ?_
  refine GoO.exec (is := [0, 1, 2, 3, 4, 5, 6]) (hs := [.p, .p, .p, .p, .b 0, .p, .p]) (rest := []) (ks := [0, 5, 16]) (env' := [(0, .pointer (some ⟨b_2, 0, none⟩)), (5, .int .i64 r_4.1), (16, .bool (decide (r_4.1 > (r_4.2.S_.length : Int))))]) (H' := [⟨1, b_2, [.string (bs r_4.2.S_), .bool r_4.2.Bad]⟩]) (ps := [b_2 = b_2]) (by kernel_rfl) (And.intro rfl trivial) ?_
  refine GoO.regionEnd ?_
  refine GoO.ite' c71_7e (by kernel_rfl) (fun h5 => ?_) (fun h5 => ?_)
  · refine GoO.seq' c71_8e ?_
    refine GoO.region' (is := [0, 1]) c71_9e (by kernel_rfl) ?_
    refine GoO.exec (is := [0]) (hs := [.p]) (rest := [1]) (ks := [17]) (env' := [(17, .pointer (some ⟨b_2, 0, none⟩))]) (H' := [⟨1, b_2, [.string (bs r_4.2.S_), .bool r_4.2.Bad]⟩]) (ps := []) (by kernel_rfl) trivial ?_
    refine OpTo.go (GoO.call rfl (by kernel_rfl) (by kernel_rfl) (tontineref03_Reader_Fail_ok n r_4.2 b_2) [[0], [1]] [(1, 1)] [(1, 0)] [] (hks := []) (bks := []) (by kernel_rfl) (by kernel_rfl) (by kernel_rfl) (.inl rfl) rfl rfl (by kernel_rfl) (by kernel_rfl) _ (fun _ _ => rfl) _ _ (fun _ _ => rfl) (fun _ _ => rfl) (fun _ _ => by kernel_rfl) (fun _ _ => by kernel_rfl) (fun r_6 x_7 => ?_))
    refine GoO.shape (env' := [(17, .pointer (some ⟨b_2, 0, none⟩)), (18, .tuple ⟨[]⟩)]) (H' := [⟨1, b_2, [.string (bs r_6.S_), .bool r_6.Bad]⟩]) (B' := []) (ks := [17, 18]) (by kernel_rfl) (by kernel_rfl) (by kernel_rfl) ?_
    refine GoO.regionEnd ?_
    refine GoO.seq' c71_10e ?_
    refine GoO.region' (is := [0]) c71_11e (by kernel_rfl) ?_
    refine GoO.exec (is := [0]) (hs := [.p]) (rest := []) (ks := [4]) (env' := [(4, .string (bs []))]) (H' := [⟨1, b_2, [.string (bs r_6.S_), .bool r_6.Bad]⟩]) (ps := []) (by kernel_rfl) trivial ?_
    refine GoO.regionEnd ?_
    exact GoO.ret' (h := c71_12e) (hs := []) (ps := []) (hk := [0]) (bk := []) Try.func71 () (by kernel_rfl) trivial (by kernel_rfl) (by kernel_rfl)
  · refine GoO.skip' c71_13e ?_
    refine GoO.seq' c71_14e ?_
    refine GoO.region' (is := [0, 1, 2, 3, 4, 5, 6]) c71_15e (by kernel_rfl) ?_
    refine GoO.guard (fun h8 => ?_)
    refine GoO.exec (is := [0, 1, 2, 3, 4, 5, 6]) (hs := [.p, .p, .p, .b 0, .p, .p, .p]) (rest := []) (ks := [0, 5, 6]) (env' := [(0, .pointer (some ⟨b_2, 0, none⟩)), (5, .int .i64 r_4.1), (6, .string (bs (r_4.2.S_.take r_4.1.toNat)))]) (H' := [⟨1, b_2, [.string (bs r_4.2.S_), .bool r_4.2.Bad]⟩]) (ps := [b_2 = b_2, (0 : Int) ≤ r_4.1, r_4.1 ≤ (r_4.2.S_.length : Int)]) (by kernel_rfl) (And.intro rfl (And.intro h8.1 (And.intro h8.2 trivial))) ?_
    refine GoO.regionEnd ?_
    refine GoO.seq' c71_16e ?_
    refine GoO.region' (is := [0, 1, 2, 3, 4, 5, 6, 7, 8, 9]) c71_17e (by kernel_rfl) ?_
    refine GoO.guard (fun h9 => ?_)
    refine GoO.exec (is := [0, 1, 2, 3, 4, 5, 6, 7, 8, 9]) (hs := [.p, .p, .p, .p, .b 0, .p, .p, .p, .p, .b 0]) (rest := []) (ks := [6]) (env' := [(6, .string (bs (r_4.2.S_.take r_4.1.toNat)))]) (H' := [⟨1, b_2, [.string (bs (r_4.2.S_.drop r_4.1.toNat)), .bool r_4.2.Bad]⟩]) (ps := [b_2 = b_2, (0 : Int) ≤ r_4.1, r_4.1 ≤ (r_4.2.S_.length : Int), b_2 = b_2]) (by kernel_rfl) (And.intro rfl (And.intro h9.1 (And.intro h9.2 (And.intro rfl trivial)))) ?_
    refine GoO.regionEnd ?_
    refine GoO.seq' c71_18e ?_
    refine GoO.region' (is := [0, 1]) c71_19e (by kernel_rfl) ?_
    refine GoO.exec (is := [0, 1]) (hs := [.p, .p]) (rest := []) (ks := [4]) (env' := [(4, .string (bs (r_4.2.S_.take r_4.1.toNat)))]) (H' := [⟨1, b_2, [.string (bs (r_4.2.S_.drop r_4.1.toNat)), .bool r_4.2.Bad]⟩]) (ps := []) (by kernel_rfl) trivial ?_
    refine GoO.regionEnd ?_
    exact GoO.ret' (h := c71_20e) (hs := []) (ps := []) (hk := [0]) (bk := []) Try.func71 () (by kernel_rfl) trivial (by kernel_rfl) (by kernel_rfl)

/-! tontine/tontineref13.Read -/
noncomputable def c64_0 : Code := bodyOf Try.f64
noncomputable def c64_1 : Code := cdL c64_0
noncomputable def c64_2 : Code := cdR c64_0
noncomputable def c64_3 : Code := cdL c64_2
noncomputable def c64_4 : Code := cdR c64_2
noncomputable def c64_5 : Code := cdL c64_4
noncomputable def c64_6 : Code := cdR c64_4
noncomputable def c64_7 : Code := cdL c64_6
noncomputable def c64_8 : Code := cdL c64_7
noncomputable def c64_9 : Code := cdR c64_7
noncomputable def c64_10 : Code := cdL c64_9
noncomputable def c64_11 : Code := cdL c64_10
noncomputable def c64_12 : Code := cdL c64_11
noncomputable def c64_13 : Code := cdL c64_12
noncomputable def c64_14 : Code := cdR c64_12
noncomputable def c64_15 : Code := cdL c64_14
noncomputable def c64_16 : Code := cdR c64_14
noncomputable def c64_17 : Code := cdR c64_11
noncomputable def c64_18 : Code := cdL c64_17
noncomputable def c64_19 : Code := cdL c64_18
noncomputable def c64_20 : Code := cdL c64_19
noncomputable def c64_21 : Code := cdR c64_19
noncomputable def c64_22 : Code := cdL c64_21
noncomputable def c64_23 : Code := cdR c64_21
noncomputable def c64_24 : Code := cdL c64_23
noncomputable def c64_25 : Code := cdR c64_23
noncomputable def c64_26 : Code := cdR c64_17
noncomputable def c64_27 : Code := cdR c64_6
noncomputable def c64_28 : Code := cdL c64_27
noncomputable def c64_29 : Code := cdL c64_28
noncomputable def c64_30 : Code := cdR c64_28
noncomputable def c64_31 : Code := cdL c64_30
noncomputable def c64_32 : Code := cdL c64_31
noncomputable def c64_33 : Code := cdR c64_31
noncomputable def c64_34 : Code := cdR c64_30
noncomputable def c64_35 : Code := cdR c64_27
noncomputable def c64_36 : Code := cdL c64_35
noncomputable def c64_37 : Code := cdR c64_35
noncomputable def r64_1 : Array Oper := cdO c64_1
noncomputable def r64_3 : Array Oper := cdO c64_3
noncomputable def r64_5 : Array Oper := cdO c64_5
noncomputable def r64_8 : Array Oper := cdO c64_8
noncomputable def r64_13 : Array Oper := cdO c64_13
noncomputable def r64_20 : Array Oper := cdO c64_20
noncomputable def r64_22 : Array Oper := cdO c64_22
noncomputable def r64_24 : Array Oper := cdO c64_24
noncomputable def r64_25 : Array Oper := cdO c64_25
noncomputable def r64_26 : Array Oper := cdO c64_26
noncomputable def r64_29 : Array Oper := cdO c64_29
noncomputable def r64_32 : Array Oper := cdO c64_32
noncomputable def r64_36 : Array Oper := cdO c64_36
theorem c64_0e : c64_0 = .seq c64_1 c64_2 := by kernel_rfl
theorem c64_1e : c64_1 = .region 0 r64_1 false := by kernel_rfl
theorem c64_2e : c64_2 = .seq c64_3 c64_4 := by kernel_rfl
theorem c64_3e : c64_3 = .region 1 r64_3 false := by kernel_rfl
theorem c64_4e : c64_4 = .seq c64_5 c64_6 := by kernel_rfl
theorem c64_5e : c64_5 = .region 2 r64_5 false := by kernel_rfl
theorem c64_6e : c64_6 = .seq c64_7 c64_27 := by kernel_rfl
theorem c64_7e : c64_7 = .seq c64_8 c64_9 := by kernel_rfl
theorem c64_8e : c64_8 = .region 3 r64_8 false := by kernel_rfl
theorem c64_9e : c64_9 = .block 0 c64_10 := by kernel_rfl
theorem c64_10e : c64_10 = .loop c64_11 := by kernel_rfl
theorem c64_11e : c64_11 = .seq c64_12 c64_17 := by kernel_rfl
theorem c64_12e : c64_12 = .seq c64_13 c64_14 := by kernel_rfl
theorem c64_13e : c64_13 = .region 4 r64_13 false := by kernel_rfl
theorem c64_14e : c64_14 = .cond (cdC c64_14) c64_15 c64_16 := by kernel_rfl
theorem c64_15e : c64_15 = .skip := by kernel_rfl
theorem c64_16e : c64_16 = .exit 0 := by kernel_rfl
theorem c64_17e : c64_17 = .seq c64_18 c64_26 := by kernel_rfl
theorem c64_18e : c64_18 = .block 1 c64_19 := by kernel_rfl
theorem c64_19e : c64_19 = .seq c64_20 c64_21 := by kernel_rfl
theorem c64_20e : c64_20 = .region 6 r64_20 false := by kernel_rfl
theorem c64_21e : c64_21 = .seq c64_22 c64_23 := by kernel_rfl
theorem c64_22e : c64_22 = .region 7 r64_22 false := by kernel_rfl
theorem c64_23e : c64_23 = .seq c64_24 c64_25 := by kernel_rfl
theorem c64_24e : c64_24 = .region 8 r64_24 false := by kernel_rfl
theorem c64_25e : c64_25 = .region 9 r64_25 false := by kernel_rfl
theorem c64_26e : c64_26 = .region 5 r64_26 false := by kernel_rfl
theorem c64_27e : c64_27 = .seq c64_28 c64_35 := by kernel_rfl
theorem c64_28e : c64_28 = .seq c64_29 c64_30 := by kernel_rfl
theorem c64_29e : c64_29 = .region 10 r64_29 false := by kernel_rfl
theorem c64_30e : c64_30 = .cond (cdC c64_30) c64_31 c64_34 := by kernel_rfl
theorem c64_31e : c64_31 = .seq c64_32 c64_33 := by kernel_rfl
theorem c64_32e : c64_32 = .region 11 r64_32 false := by kernel_rfl
theorem c64_33e : c64_33 = .ret := by kernel_rfl
theorem c64_34e : c64_34 = .skip := by kernel_rfl
theorem c64_35e : c64_35 = .seq c64_36 c64_37 := by kernel_rfl
theorem c64_36e : c64_36 = .region 12 r64_36 false := by kernel_rfl
theorem c64_37e : c64_37 = .ret := by kernel_rfl
noncomputable def tontineref13_Read.R (b_2 : Nat) : Pst ((List T_api_Step) × T_tontineref03_Reader) where
  ε := Option Addr × Nat
  v := fun r x => .slice x.1 r.1.length x.2
  H := fun r x => [⟨1, b_2, [.string (bs r.2.S_), .bool r.2.Bad]⟩]
  B := fun r x => [Ow 2 kT_api_Step x.1 x.2 r.1]
noncomputable def tontineref13_Read.cx (b_2 : Nat) (w0 : World) (S0 : Fam) : Cx ((List T_api_Step) × T_tontineref03_Reader) := ⟨Try.prog, 64, Try.f64, 34, w0, S0, [1], 1, tontineref13_Read.R b_2⟩
theorem tontineref13_Read_l0_ok (n : Nat) (r_3 : Int × T_tontineref03_Reader) (b_2 : Nat) (w0 : World) (S0 : Fam) :
    ∀ (k : Nat) (f_4 : (List UInt8)) (f_5 : Bool) (l_6 : (List T_api_Step)) (i_9 : Int) (A_7 : Option Addr) (c_8 : Nat), GoO (tontineref13_Read.cx b_2 w0 S0) [(0, .pointer (some ⟨b_2, 0, none⟩)), (3, .slice A_7 l_6.length c_8), (4, .int .i64 r_3.1), (5, .int .i64 i_9)] [⟨1, b_2, [.string (bs f_4), .bool f_5]⟩] [Ow 41 kT_api_Step A_7 c_8 l_6] [.code c64_11, .inLoop c64_11, .inBlock 0, .code c64_27] (tontineref13_Read.l0 n r_3 k f_4 f_5 l_6 i_9) := by
  intro k
  induction k with
  | zero => intros; rw [tontineref13_Read.l0.eq_1]; exact GoO.stop
  | succ k ih0 =>
    intro f_4 f_5 l_6 i_9 A_7 c_8
    rw [tontineref13_Read.l0.eq_2]
    refine GoO.seq' c64_11e ?_
    refine GoO.seq' c64_12e ?_
    refine GoO.region' (is := [0, 1, 2]) c64_13e (by kernel_rfl) ?_
    refine GoO.exec (is := [0, 1, 2]) (hs := [.p, .p, .p]) (rest := []) (ks := [0, 3, 4, 5, 13]) (env' := [(0, .pointer (some ⟨b_2, 0, none⟩)), (3, .slice A_7 l_6.length c_8), (4, .int .i64 r_3.1), (5, .int .i64 i_9), (13, .bool (decide (i_9 < r_3.1)))]) (H' := [⟨1, b_2, [.string (bs f_4), .bool f_5]⟩]) (ps := []) (by kernel_rfl) trivial ?_
    refine GoO.regionEnd ?_
    refine GoO.ite' c64_14e (by kernel_rfl) (fun h10 => ?_) (fun h10 => ?_)
    · refine GoO.skip' c64_15e ?_
      refine GoO.seq' c64_17e ?_
      refine GoO.block' c64_18e ?_
      refine GoO.seq' c64_19e ?_
      refine GoO.region' (is := [0, 1, 2]) c64_20e (by kernel_rfl) ?_
      refine GoO.exec (is := [0]) (hs := [.p]) (rest := [1, 2]) (ks := [0, 3, 4, 5, 16]) (env' := [(0, .pointer (some ⟨b_2, 0, none⟩)), (3, .slice A_7 l_6.length c_8), (4, .int .i64 r_3.1), (5, .int .i64 i_9), (16, .pointer (some ⟨b_2, 0, none⟩))]) (H' := [⟨1, b_2, [.string (bs f_4), .bool f_5]⟩]) (ps := []) (by kernel_rfl) trivial ?_
      refine OpTo.go (GoO.call rfl (by kernel_rfl) (by kernel_rfl) (tontineref03_Reader_Up_ok n (⟨f_4, f_5⟩ : T_tontineref03_Reader) 3 b_2) [[0], [1]] [(1, 1)] [(1, 0)] [] (hks := []) (bks := [0]) (by kernel_rfl) (by kernel_rfl) (by kernel_rfl) (.inl rfl) rfl rfl (by kernel_rfl) (by kernel_rfl) _ (fun _ _ => rfl) _ _ (fun _ _ => rfl) (fun _ _ => rfl) (fun _ _ => by kernel_rfl) (fun _ _ => by kernel_rfl) (fun r_11 x_21 => ?_))
      refine GoO.shape (env' := [(0, .pointer (some ⟨b_2, 0, none⟩)), (3, .slice A_7 l_6.length c_8), (4, .int .i64 r_3.1), (5, .int .i64 i_9), (16, .pointer (some ⟨b_2, 0, none⟩)), (17, .int .i64 r_11.1)]) (H' := [⟨1, b_2, [.string (bs r_11.2.S_), .bool r_11.2.Bad]⟩]) (B' := [Ow 41 kT_api_Step A_7 c_8 l_6]) (ks := [0, 3, 4, 5, 16, 17]) (by kernel_rfl) (by kernel_rfl) (by kernel_rfl) ?_
      refine GoO.exec (is := [2]) (hs := [.p]) (rest := []) (ks := [0, 3, 4, 5, 6]) (env' := [(0, .pointer (some ⟨b_2, 0, none⟩)), (3, .slice A_7 l_6.length c_8), (4, .int .i64 r_3.1), (5, .int .i64 i_9), (6, .int .i64 r_11.1)]) (H' := [⟨1, b_2, [.string (bs r_11.2.S_), .bool r_11.2.Bad]⟩]) (ps := []) (by kernel_rfl) trivial ?_
      refine GoO.regionEnd ?_
      refine GoO.seq' c64_21e ?_
      refine GoO.region' (is := [0, 1, 2]) c64_22e (by kernel_rfl) ?_
      refine GoO.exec (is := [0]) (hs := [.p]) (rest := [1, 2]) (ks := [0, 3, 4, 5, 6, 18]) (env' := [(0, .pointer (some ⟨b_2, 0, none⟩)), (3, .slice A_7 l_6.length c_8), (4, .int .i64 r_3.1), (5, .int .i64 i_9), (6, .int .i64 r_11.1), (18, .pointer (some ⟨b_2, 0, none⟩))]) (H' := [⟨1, b_2, [.string (bs r_11.2.S_), .bool r_11.2.Bad]⟩]) (ps := []) (by kernel_rfl) trivial ?_
      refine OpTo.go (GoO.call rfl (by kernel_rfl) (by kernel_rfl) (tontineref03_Reader_Text_ok n r_11.2 16 b_2) [[0], [1]] [(1, 1)] [(1, 0)] [] (hks := []) (bks := [0]) (by kernel_rfl) (by kernel_rfl) (by kernel_rfl) (.inl rfl) rfl rfl (by kernel_rfl) (by kernel_rfl) _ (fun _ _ => rfl) _ _ (fun _ _ => rfl) (fun _ _ => rfl) (fun _ _ => by kernel_rfl) (fun _ _ => by kernel_rfl) (fun r_12 x_20 => ?_))
      refine GoO.shape (env' := [(0, .pointer (some ⟨b_2, 0, none⟩)), (3, .slice A_7 l_6.length c_8), (4, .int .i64 r_3.1), (5, .int .i64 i_9), (6, .int .i64 r_11.1), (18, .pointer (some ⟨b_2, 0, none⟩)), (19, .string (bs r_12.1))]) (H' := [⟨1, b_2, [.string (bs r_12.2.S_), .bool r_12.2.Bad]⟩]) (B' := [Ow 41 kT_api_Step A_7 c_8 l_6]) (ks := [0, 3, 4, 5, 6, 18, 19]) (by kernel_rfl) (by kernel_rfl) (by kernel_rfl) ?_
      refine GoO.exec (is := [2]) (hs := [.p]) (rest := []) (ks := [0, 3, 4, 5, 6, 7]) (env' := [(0, .pointer (some ⟨b_2, 0, none⟩)), (3, .slice A_7 l_6.length c_8), (4, .int .i64 r_3.1), (5, .int .i64 i_9), (6, .int .i64 r_11.1), (7, .string (bs r_12.1))]) (H' := [⟨1, b_2, [.string (bs r_12.2.S_), .bool r_12.2.Bad]⟩]) (ps := []) (by kernel_rfl) trivial ?_
      refine GoO.regionEnd ?_
      refine GoO.seq' c64_23e ?_
      refine GoO.region' (is := [0, 1, 2]) c64_24e (by kernel_rfl) ?_
      refine GoO.exec (is := [0]) (hs := [.p]) (rest := [1, 2]) (ks := [0, 3, 4, 5, 6, 7, 20]) (env' := [(0, .pointer (some ⟨b_2, 0, none⟩)), (3, .slice A_7 l_6.length c_8), (4, .int .i64 r_3.1), (5, .int .i64 i_9), (6, .int .i64 r_11.1), (7, .string (bs r_12.1)), (20, .pointer (some ⟨b_2, 0, none⟩))]) (H' := [⟨1, b_2, [.string (bs r_12.2.S_), .bool r_12.2.Bad]⟩]) (ps := []) (by kernel_rfl) trivial ?_
      refine OpTo.go (GoO.call rfl (by kernel_rfl) (by kernel_rfl) (tontineref03_Reader_Up_ok n r_12.2 9 b_2) [[0], [1]] [(1, 1)] [(1, 0)] [] (hks := []) (bks := [0]) (by kernel_rfl) (by kernel_rfl) (by kernel_rfl) (.inl rfl) rfl rfl (by kernel_rfl) (by kernel_rfl) _ (fun _ _ => rfl) _ _ (fun _ _ => rfl) (fun _ _ => rfl) (fun _ _ => by kernel_rfl) (fun _ _ => by kernel_rfl) (fun r_13 x_19 => ?_))
      refine GoO.shape (env' := [(0, .pointer (some ⟨b_2, 0, none⟩)), (3, .slice A_7 l_6.length c_8), (4, .int .i64 r_3.1), (5, .int .i64 i_9), (6, .int .i64 r_11.1), (7, .string (bs r_12.1)), (20, .pointer (some ⟨b_2, 0, none⟩)), (21, .int .i64 r_13.1)]) (H' := [⟨1, b_2, [.string (bs r_13.2.S_), .bool r_13.2.Bad]⟩]) (B' := [Ow 41 kT_api_Step A_7 c_8 l_6]) (ks := [0, 3, 4, 5, 6, 7, 20, 21]) (by kernel_rfl) (by kernel_rfl) (by kernel_rfl) ?_
      refine GoO.exec (is := [2]) (hs := [.p]) (rest := []) (ks := [0, 3, 4, 5, 6, 7, 8]) (env' := [(0, .pointer (some ⟨b_2, 0, none⟩)), (3, .slice A_7 l_6.length c_8), (4, .int .i64 r_3.1), (5, .int .i64 i_9), (6, .int .i64 r_11.1), (7, .string (bs r_12.1)), (8, .int .i64 r_13.1)]) (H' := [⟨1, b_2, [.string (bs r_13.2.S_), .bool r_13.2.Bad]⟩]) (ps := []) (by kernel_rfl) trivial ?_
      refine GoO.regionEnd ?_
      refine GoO.region' (is := [0, 1, 2, 3, 4, 5, 6, 7]) c64_25e (by kernel_rfl) ?_
      refine GoO.exec (is := [0, 1, 2, 3, 4]) (hs := [.p, .p, .p, .p, .p]) (rest := [5, 6, 7]) (ks := [0, 4, 5, 22, 26]) (env' := [(0, .pointer (some ⟨b_2, 0, none⟩)), (4, .int .i64 r_3.1), (5, .int .i64 i_9), (22, .slice A_7 l_6.length c_8), (26, .agg ⟨[.int .i64 r_11.1, .string (bs r_12.1), .int .i64 r_13.1]⟩)]) (H' := [⟨1, b_2, [.string (bs r_13.2.S_), .bool r_13.2.Bad]⟩]) (ps := []) (by kernel_rfl) trivial ?_
      refine OpTo.go (GoO.lit (e := 50) (K := kT_api_Step) rfl (by kernel_rfl) (by kernel_rfl) (cs := [.int .i64 r_11.1, .string (bs r_12.1), .int .i64 r_13.1]) (by kernel_rfl) [(⟨r_11.1, r_12.1, r_13.1⟩ : T_api_Step)] (by kernel_rfl) (by kernel_rfl) (fun w S hB => ⟨[.int .i64 r_11.1, .string (bs r_12.1), .int .i64 r_13.1], _, rfl, rfl, rfl⟩) 40 _ (fun _ _ => rfl) (fun A_14 c_15 => ?_))
      refine GoO.guard (fun h16 => ?_)
      refine OpTo.go (GoO.appW (e := 50) (K := kT_api_Step) (A := A_7) (c := c_8) (tg := 41) (bytes := 32) (zs := [.int .i64 0, .string (bs []), .int .i64 0]) (xs := l_6) (ys := [(⟨r_11.1, r_12.1, r_13.1⟩ : T_api_Step)]) (xv := .slice A_14 [(⟨r_11.1, r_12.1, r_13.1⟩ : T_api_Step)].length c_15) (j := 1) (bk := [0]) rfl (by kernel_rfl) (by kernel_rfl) (by kernel_rfl) (by kernel_rfl) rfl (by kernel_rfl) rfl (fun w S hB => SrcIs.row (Reads.own w S (hB _ (List.mem_of_getElem? (i := 0) rfl)))) h16 rfl rfl rfl rfl _ (fun _ _ => rfl) (fun A_17 c_18 => ?_))
      refine GoO.exec (is := [7]) (hs := [.p]) (rest := []) (ks := [0, 3, 4, 5]) (env' := [(0, .pointer (some ⟨b_2, 0, none⟩)), (3, .slice A_17 (l_6 ++ [(⟨r_11.1, r_12.1, r_13.1⟩ : T_api_Step)]).length c_18), (4, .int .i64 r_3.1), (5, .int .i64 i_9)]) (H' := [⟨1, b_2, [.string (bs r_13.2.S_), .bool r_13.2.Bad]⟩]) (ps := []) (by kernel_rfl) trivial ?_
      refine GoO.regionEnd ?_
      refine GoO.inBlock ?_
      refine GoO.region' (is := [0, 1, 2]) c64_26e (by kernel_rfl) ?_
      refine GoO.exec (is := [0, 1, 2]) (hs := [.p, .p, .p]) (rest := []) (ks := [0, 3, 4, 5]) (env' := [(0, .pointer (some ⟨b_2, 0, none⟩)), (3, .slice A_17 (l_6 ++ [(⟨r_11.1, r_12.1, r_13.1⟩ : T_api_Step)]).length c_18), (4, .int .i64 r_3.1), (5, .int .i64 (wi64 (i_9 + 1)))]) (H' := [⟨1, b_2, [.string (bs r_13.2.S_), .bool r_13.2.Bad]⟩]) (ps := []) (by kernel_rfl) trivial ?_
      refine GoO.regionEnd ?_
      refine GoO.inLoop ?_
      exact GoO.sub (ks := [0, 3, 4, 5]) (hk := [0]) (bk := [0]) (by kernel_rfl) (by kernel_rfl) (by kernel_rfl) (ih0 r_13.2.S_ r_13.2.Bad (l_6 ++ [(⟨r_11.1, r_12.1, r_13.1⟩ : T_api_Step)]) (wi64 (i_9 + 1)) A_17 c_18)
    · refine GoO.exit' c64_16e rfl ?_
      refine GoO.seq' c64_27e ?_
      refine GoO.seq' c64_28e ?_
      refine GoO.region' (is := [0, 1, 2, 3]) c64_29e (by kernel_rfl) ?_
      refine GoO.exec (is := [0, 1, 2, 3]) (hs := [.p, .p, .p, .b 0]) (rest := []) (ks := [3, 32]) (env' := [(3, .slice A_7 l_6.length c_8), (32, .bool f_5)]) (H' := [⟨1, b_2, [.string (bs f_4), .bool f_5]⟩]) (ps := [b_2 = b_2]) (by kernel_rfl) (And.intro rfl trivial) ?_
      refine GoO.regionEnd ?_
      refine GoO.ite' c64_30e (by kernel_rfl) (fun h22 => ?_) (fun h22 => ?_)
      · refine GoO.seq' c64_31e ?_
        refine GoO.region' (is := [0]) c64_32e (by kernel_rfl) ?_
        refine GoO.exec (is := [0]) (hs := [.p]) (rest := []) (ks := [2]) (env' := [(2, .slice none ([] : List T_api_Step).length 0)]) (H' := [⟨1, b_2, [.string (bs f_4), .bool f_5]⟩]) (ps := []) (by kernel_rfl) trivial ?_
        refine GoO.regionEnd ?_
        refine GoO.nilOwn kT_api_Step 2 ?_
        exact GoO.ret' (h := c64_33e) (hs := []) (ps := []) (hk := [0]) (bk := [0]) Try.func64 (⟨none, 0⟩ : Option Addr × Nat) (by kernel_rfl) trivial (by kernel_rfl) (by kernel_rfl)
      · refine GoO.skip' c64_34e ?_
        refine GoO.seq' c64_35e ?_
        refine GoO.region' (is := [0, 1]) c64_36e (by kernel_rfl) ?_
        refine GoO.exec (is := [0, 1]) (hs := [.p, .p]) (rest := []) (ks := [2]) (env' := [(2, .slice A_7 l_6.length c_8)]) (H' := [⟨1, b_2, [.string (bs f_4), .bool f_5]⟩]) (ps := []) (by kernel_rfl) trivial ?_
        refine GoO.regionEnd ?_
        refine GoO.retag (t := 41) (u := 2) (j := 0) (hk := [0]) (bk := []) rfl rfl rfl rfl rfl rfl (by kernel_rfl) (by kernel_rfl) ?_
        exact GoO.ret' (h := c64_37e) (hs := []) (ps := []) (hk := [0]) (bk := [0]) Try.func64 (⟨A_7, c_8⟩ : Option Addr × Nat) (by kernel_rfl) trivial (by kernel_rfl) (by kernel_rfl)
theorem tontineref13_Read_ok (n : Nat) (r_1 : T_tontineref03_Reader) (b_2 : Nat) :
    Meets Try.prog 64 [.pointer (some ⟨b_2, 0, none⟩)] 1 [1] [⟨1, b_2, [.string (bs r_1.S_), .bool r_1.Bad]⟩] [] (tontineref13_Read.f n r_1) (tontineref13_Read.R b_2) := by
  refine Meets.of (c := c64_0) (n := 34) Try.func64 (by kernel_rfl) (by kernel_rfl) (by kernel_rfl) fun w0 S0 => ?_
  unfold tontineref13_Read.f
  show GoO (tontineref13_Read.cx b_2 w0 S0) [(0, .pointer (some ⟨b_2, 0, none⟩))] [⟨1, b_2, [.string (bs r_1.S_), .bool r_1.Bad]⟩] [] [.code c64_0] _
  refine GoO.seq' c64_0e ?_
  refine GoO.region' (is := [0]) c64_1e (by kernel_rfl) ?_
  refine GoO.exec (is := [0]) (hs := [.p]) (rest := []) (ks := [0]) (env' := [(0, .pointer (some ⟨b_2, 0, none⟩))]) (H' := [⟨1, b_2, [.string (bs r_1.S_), .bool r_1.Bad]⟩]) (ps := []) (by kernel_rfl) trivial ?_
  refine GoO.regionEnd ?_
  refine GoO.seq' c64_2e ?_
  refine GoO.region' (is := [0]) c64_3e (by kernel_rfl) ?_
  refine GoO.exec (is := [0]) (hs := [.p]) (rest := []) (ks := [0, 3]) (env' := [(0, .pointer (some ⟨b_2, 0, none⟩)), (3, .slice none ([] : List T_api_Step).length 0)]) (H' := [⟨1, b_2, [.string (bs r_1.S_), .bool r_1.Bad]⟩]) (ps := []) (by kernel_rfl) trivial ?_
  refine GoO.regionEnd ?_
  refine GoO.seq' c64_4e ?_
  refine GoO.region' (is := [0, 1, 2]) c64_5e (by kernel_rfl) ?_
  refine GoO.exec (is := [0]) (hs := [.p]) (rest := [1, 2]) (ks := [0, 3, 9]) (env' := [(0, .pointer (some ⟨b_2, 0, none⟩)), (3, .slice none ([] : List T_api_Step).length 0), (9, .pointer (some ⟨b_2, 0, none⟩))]) (H' := [⟨1, b_2, [.string (bs r_1.S_), .bool r_1.Bad]⟩]) (ps := []) (by kernel_rfl) trivial ?_
  refine OpTo.go (GoO.call rfl (by kernel_rfl) (by kernel_rfl) (tontineref03_Reader_Up_ok n r_1 64 b_2) [[0], [1]] [(1, 1)] [(1, 0)] [] (hks := []) (bks := []) (by kernel_rfl) (by kernel_rfl) (by kernel_rfl) (.inl rfl) rfl rfl (by kernel_rfl) (by kernel_rfl) _ (fun _ _ => rfl) _ _ (fun _ _ => rfl) (fun _ _ => rfl) (fun _ _ => by kernel_rfl) (fun _ _ => by kernel_rfl) (fun r_3 x_23 => ?_))
  refine GoO.shape (env' := [(0, .pointer (some ⟨b_2, 0, none⟩)), (3, .slice none ([] : List T_api_Step).length 0), (9, .pointer (some ⟨b_2, 0, none⟩)), (10, .int .i64 r_3.1)]) (H' := [⟨1, b_2, [.string (bs r_3.2.S_), .bool r_3.2.Bad]⟩]) (B' := []) (ks := [0, 3, 9, 10]) (by kernel_rfl) (by kernel_rfl) (by kernel_rfl) ?_
  refine GoO.exec (is := [2]) (hs := [.p]) (rest := []) (ks := [0, 3, 4]) (env' := [(0, .pointer (some ⟨b_2, 0, none⟩)), (3, .slice none ([] : List T_api_Step).length 0), (4, .int .i64 r_3.1)]) (H' := [⟨1, b_2, [.string (bs r_3.2.S_), .bool r_3.2.Bad]⟩]) (ps := []) (by kernel_rfl) trivial ?_
  refine GoO.regionEnd ?_
  refine GoO.seq' c64_6e ?_
  refine GoO.seq' c64_7e ?_
  refine GoO.region' (is := [0]) c64_8e (by kernel_rfl) ?_
  refine GoO.exec (is := [0]) (hs := [.p]) (rest := []) (ks := [0, 3, 4, 5]) (env' := [(0, .pointer (some ⟨b_2, 0, none⟩)), (3, .slice none ([] : List T_api_Step).length 0), (4, .int .i64 r_3.1), (5, .int .i64 0)]) (H' := [⟨1, b_2, [.string (bs r_3.2.S_), .bool r_3.2.Bad]⟩]) (ps := []) (by kernel_rfl) trivial ?_
  refine GoO.regionEnd ?_
  refine GoO.block' c64_9e ?_
  refine GoO.loop' c64_10e ?_
  refine GoO.nilOwn kT_api_Step 41 ?_
  exact GoO.sub (ks := [0, 3, 4, 5]) (hk := [0]) (bk := [0]) (by kernel_rfl) (by kernel_rfl) (by kernel_rfl) (tontineref13_Read_l0_ok n r_3 b_2 w0 S0 n r_3.2.S_ r_3.2.Bad ([] : List T_api_Step) 0 none 0)

/-! tontine/tontineref13.Check -/
noncomputable def c31_0 : Code := bodyOf Try.f31
noncomputable def c31_1 : Code := cdL c31_0
noncomputable def c31_2 : Code := cdR c31_0
noncomputable def c31_3 : Code := cdL c31_2
noncomputable def c31_4 : Code := cdR c31_2
noncomputable def c31_5 : Code := cdL c31_4
noncomputable def c31_6 : Code := cdL c31_5
noncomputable def c31_7 : Code := cdR c31_5
noncomputable def c31_8 : Code := cdL c31_7
noncomputable def c31_9 : Code := cdL c31_8
noncomputable def c31_10 : Code := cdL c31_9
noncomputable def c31_11 : Code := cdL c31_10
noncomputable def c31_12 : Code := cdR c31_10
noncomputable def c31_13 : Code := cdL c31_12
noncomputable def c31_14 : Code := cdR c31_12
noncomputable def c31_15 : Code := cdR c31_9
noncomputable def c31_16 : Code := cdL c31_15
noncomputable def c31_17 : Code := cdL c31_16
noncomputable def c31_18 : Code := cdL c31_17
noncomputable def c31_19 : Code := cdR c31_17
noncomputable def c31_20 : Code := cdR c31_15
noncomputable def c31_21 : Code := cdR c31_4
noncomputable def c31_22 : Code := cdL c31_21
noncomputable def c31_23 : Code := cdL c31_22
noncomputable def c31_24 : Code := cdR c31_22
noncomputable def c31_25 : Code := cdL c31_24
noncomputable def c31_26 : Code := cdL c31_25
noncomputable def c31_27 : Code := cdR c31_25
noncomputable def c31_28 : Code := cdR c31_24
noncomputable def c31_29 : Code := cdR c31_21
noncomputable def c31_30 : Code := cdL c31_29
noncomputable def c31_31 : Code := cdR c31_29
noncomputable def r31_1 : Array Oper := cdO c31_1
noncomputable def r31_3 : Array Oper := cdO c31_3
noncomputable def r31_6 : Array Oper := cdO c31_6
noncomputable def r31_11 : Array Oper := cdO c31_11
noncomputable def r31_18 : Array Oper := cdO c31_18
noncomputable def r31_19 : Array Oper := cdO c31_19
noncomputable def r31_20 : Array Oper := cdO c31_20
noncomputable def r31_23 : Array Oper := cdO c31_23
noncomputable def r31_26 : Array Oper := cdO c31_26
noncomputable def r31_30 : Array Oper := cdO c31_30
theorem c31_0e : c31_0 = .seq c31_1 c31_2 := by kernel_rfl
theorem c31_1e : c31_1 = .region 0 r31_1 false := by kernel_rfl
theorem c31_2e : c31_2 = .seq c31_3 c31_4 := by kernel_rfl
theorem c31_3e : c31_3 = .region 1 r31_3 false := by kernel_rfl
theorem c31_4e : c31_4 = .seq c31_5 c31_21 := by kernel_rfl
theorem c31_5e : c31_5 = .seq c31_6 c31_7 := by kernel_rfl
theorem c31_6e : c31_6 = .region 2 r31_6 false := by kernel_rfl
theorem c31_7e : c31_7 = .block 0 c31_8 := by kernel_rfl
theorem c31_8e : c31_8 = .loop c31_9 := by kernel_rfl
theorem c31_9e : c31_9 = .seq c31_10 c31_15 := by kernel_rfl
theorem c31_10e : c31_10 = .seq c31_11 c31_12 := by kernel_rfl
theorem c31_11e : c31_11 = .region 3 r31_11 false := by kernel_rfl
theorem c31_12e : c31_12 = .cond (cdC c31_12) c31_13 c31_14 := by kernel_rfl
theorem c31_13e : c31_13 = .skip := by kernel_rfl
theorem c31_14e : c31_14 = .exit 0 := by kernel_rfl
theorem c31_15e : c31_15 = .seq c31_16 c31_20 := by kernel_rfl
theorem c31_16e : c31_16 = .block 1 c31_17 := by kernel_rfl
theorem c31_17e : c31_17 = .seq c31_18 c31_19 := by kernel_rfl
theorem c31_18e : c31_18 = .region 5 r31_18 false := by kernel_rfl
theorem c31_19e : c31_19 = .region 6 r31_19 false := by kernel_rfl
theorem c31_20e : c31_20 = .region 4 r31_20 false := by kernel_rfl
theorem c31_21e : c31_21 = .seq c31_22 c31_29 := by kernel_rfl
theorem c31_22e : c31_22 = .seq c31_23 c31_24 := by kernel_rfl
theorem c31_23e : c31_23 = .region 7 r31_23 false := by kernel_rfl
theorem c31_24e : c31_24 = .cond (cdC c31_24) c31_25 c31_28 := by kernel_rfl
theorem c31_25e : c31_25 = .seq c31_26 c31_27 := by kernel_rfl
theorem c31_26e : c31_26 = .region 8 r31_26 false := by kernel_rfl
theorem c31_27e : c31_27 = .ret := by kernel_rfl
theorem c31_28e : c31_28 = .skip := by kernel_rfl
theorem c31_29e : c31_29 = .seq c31_30 c31_31 := by kernel_rfl
theorem c31_30e : c31_30 = .region 9 r31_30 false := by kernel_rfl
theorem c31_31e : c31_31 = .ret := by kernel_rfl
noncomputable def tontineref13_Check.R (A_2 : Option Addr) (c_3 : Nat) : Pst Int where
  ε := Unit
  v := fun r x => .int .i64 r
  H := fun r x => []
  B := fun r x => []
noncomputable def tontineref13_Check.cx (A_2 : Option Addr) (c_3 : Nat) (w0 : World) (S0 : Fam) : Cx Int := ⟨Try.prog, 31, Try.f31, 59, w0, S0, [], 0, tontineref13_Check.R A_2 c_3⟩
theorem tontineref13_Check_j2_ok (n : Nat) (L0 : Bool → Int → Option Int) (l_1 : (List T_api_Step)) (bad_6 : Bool) (i_7 : Int) (A_2 : Option Addr) (c_3 : Nat) (w0 : World) (S0 : Fam) (ih0 : ∀ (bad_6 : Bool) (i_7 : Int), GoO (tontineref13_Check.cx A_2 c_3 w0 S0) [(0, .slice A_2 l_1.length c_3), (3, .bool bad_6), (4, .int .i64 i_7)] [] [Rd 0 kT_api_Step A_2 c_3 l_1] [.code c31_9, .inLoop c31_9, .inBlock 0, .code c31_21] (L0 bad_6 i_7)) (bad_18 : Bool) :
    GoO (tontineref13_Check.cx A_2 c_3 w0 S0) [(0, .slice A_2 l_1.length c_3), (3, .bool bad_18), (4, .int .i64 i_7)] [] [Rd 0 kT_api_Step A_2 c_3 l_1] [.inBlock 1, .code c31_20, .inLoop c31_9, .inBlock 0, .code c31_21] (tontineref13_Check.j2 n L0 i_7 bad_18) := by
  unfold tontineref13_Check.j2
  refine GoO.inBlock ?_
  refine GoO.region' (is := [0, 1, 2]) c31_20e (by kernel_rfl) ?_
  refine GoO.exec (is := [0, 1, 2]) (hs := [.p, .p, .p]) (rest := []) (ks := [0, 3, 4]) (env' := [(0, .slice A_2 l_1.length c_3), (3, .bool bad_18), (4, .int .i64 (wi64 (i_7 + 1)))]) (H' := []) (ps := []) (by kernel_rfl) trivial ?_
  refine GoO.regionEnd ?_
  refine GoO.inLoop ?_
  exact GoO.sub (ks := [0, 3, 4]) (hk := []) (bk := [0]) (by kernel_rfl) (by kernel_rfl) (by kernel_rfl) (ih0 bad_18 (wi64 (i_7 + 1)))
theorem tontineref13_Check_j1_ok (n : Nat) (L0 : Bool → Int → Option Int) (l_1 : (List T_api_Step)) (bad_6 : Bool) (i_7 : Int) (A_2 : Option Addr) (c_3 : Nat) (w0 : World) (S0 : Fam) (ih0 : ∀ (bad_6 : Bool) (i_7 : Int), GoO (tontineref13_Check.cx A_2 c_3 w0 S0) [(0, .slice A_2 l_1.length c_3), (3, .bool bad_6), (4, .int .i64 i_7)] [] [Rd 0 kT_api_Step A_2 c_3 l_1] [.code c31_9, .inLoop c31_9, .inBlock 0, .code c31_21] (L0 bad_6 i_7)) (b_9 : Bool) :
    GoO (tontineref13_Check.cx A_2 c_3 w0 S0) [(0, .slice A_2 l_1.length c_3), (3, .bool bad_6), (4, .int .i64 i_7), (21, .bool b_9)] [] [Rd 0 kT_api_Step A_2 c_3 l_1] [.code c31_12, .code c31_15, .inLoop c31_9, .inBlock 0, .code c31_21] (tontineref13_Check.j1 n L0 l_1 bad_6 i_7 b_9) := by
  unfold tontineref13_Check.j1
  refine GoO.ite' c31_12e (by kernel_rfl) (fun h10 => ?_) (fun h10 => ?_)
  · refine GoO.skip' c31_13e ?_
    refine GoO.seq' c31_15e ?_
    refine GoO.block' c31_16e ?_
    refine GoO.seq' c31_17e ?_
    refine GoO.region' (is := [0, 1, 2, 3, 4, 5]) c31_18e (by kernel_rfl) ?_
    refine GoO.exec (is := [0, 1]) (hs := [.p, .p]) (rest := [2, 3, 4, 5]) (ks := [0, 4, 24, 25]) (env' := [(0, .slice A_2 l_1.length c_3), (4, .int .i64 i_7), (24, .slice A_2 l_1.length c_3), (25, .int .i64 i_7)]) (H' := []) (ps := []) (by kernel_rfl) trivial ?_
    refine GoO.guard (fun h11 => ?_)
    refine OpTo.go (GoO.idx (kk := .i64) (e := 50) (K := kT_api_Step) (A := A_2) (c := c_3) (xs := l_1) (iv := i_7) (j := 0) rfl (by kernel_rfl) (by kernel_rfl) (by kernel_rfl) (by kernel_rfl) rfl Reads.rd rfl h11.1 h11.2 (by decide) rfl ?_)
    refine OpTo.go (GoO.ldE' (K := kT_api_Step) (A := A_2) (c := c_3) (xs := l_1) (iN := i_7.toNat) (off := 0) (j := 0) rfl (by kernel_rfl) rfl Reads.rd (idx_lt h11.1 h11.2) (by decide) (Opn.flat _ _ _ _ _) (v := fun _ => .agg ⟨[.int .i64 ((rdL l_1 i_7).Part), .string (bs ((rdL l_1 i_7).Name)), .int .i64 ((rdL l_1 i_7).Budget)]⟩) (fun _ => by kernel_rfl) _ (fun _ => rfl) (fun _ => ?_))
    refine OpTo.go (GoO.new rfl 40 (cs := [.int .i64 0, .string (bs []), .int .i64 0]) (by kernel_rfl) _ (fun _ => rfl) (fun b_12 => ?_))
    refine GoO.exec (is := [5]) (hs := [.b 0]) (rest := []) (ks := [0, 4, 5]) (env' := [(0, .slice A_2 l_1.length c_3), (4, .int .i64 i_7), (5, .pointer (some ⟨b_12, 0, none⟩))]) (H' := [⟨40, b_12, [.int .i64 ((rdL l_1 i_7).Part), .string (bs ((rdL l_1 i_7).Name)), .int .i64 ((rdL l_1 i_7).Budget)]⟩]) (ps := [b_12 = b_12]) (by kernel_rfl) (And.intro rfl trivial) ?_
    refine GoO.regionEnd ?_
    refine GoO.region' (is := [0, 1, 2, 3, 4, 5, 6, 7, 8, 9, 10, 11, 12, 13, 14, 15, 16, 17, 18, 19, 20, 21, 22, 23, 24, 25, 26, 27, 28, 29, 30]) c31_19e (by kernel_rfl) ?_
    refine GoO.exec (is := [0, 1, 2, 3]) (hs := [.p, .b 0, .p, .p]) (rest := [4, 5, 6, 7, 8, 9, 10, 11, 12, 13, 14, 15, 16, 17, 18, 19, 20, 21, 22, 23, 24, 25, 26, 27, 28, 29, 30]) (ks := [0, 4, 5, 31]) (env' := [(0, .slice A_2 l_1.length c_3), (4, .int .i64 i_7), (5, .pointer (some ⟨b_12, 0, none⟩)), (31, .bool (decide (((rdL l_1 i_7).Part) < 0)))]) (H' := [⟨40, b_12, [.int .i64 ((rdL l_1 i_7).Part), .string (bs ((rdL l_1 i_7).Name)), .int .i64 ((rdL l_1 i_7).Budget)]⟩]) (ps := [b_12 = b_12]) (by kernel_rfl) (And.intro rfl trivial) ?_
    refine GoO.bsplit (t := 31) (by kernel_rfl) (fun h13 => ?_) (fun h13 => ?_)
    · refine GoO.exec (is := [4, 5, 6, 7, 8, 9, 10, 11, 12, 13, 14, 15, 16, 17, 18, 19, 20, 21, 22, 23, 24, 25, 26, 27, 28, 29, 30]) (hs := [.p, .p, .p, .p, .p, .p, .p, .p, .p, .p, .p, .p, .p, .p, .p, .p, .p, .p, .p, .p, .p, .p, .p, .p, .p, .p, .p]) (rest := []) (ks := [0, 3, 4]) (env' := [(0, .slice A_2 l_1.length c_3), (3, .bool true), (4, .int .i64 i_7)]) (H' := [⟨40, b_12, [.int .i64 ((rdL l_1 i_7).Part), .string (bs ((rdL l_1 i_7).Name)), .int .i64 ((rdL l_1 i_7).Budget)]⟩]) (ps := []) (by kernel_rfl) trivial ?_
      refine GoO.regionEnd ?_
      exact GoO.sub (ks := [0, 3, 4]) (hk := []) (bk := [0]) (by kernel_rfl) (by kernel_rfl) (by kernel_rfl) (tontineref13_Check_j2_ok n L0 l_1 bad_6 i_7 A_2 c_3 w0 S0 ih0 true)
    · refine GoO.exec (is := [4, 5, 6, 7, 8]) (hs := [.p, .b 0, .p, .p, .p]) (rest := [9, 10, 11, 12, 13, 14, 15, 16, 17, 18, 19, 20, 21, 22, 23, 24, 25, 26, 27, 28, 29, 30]) (ks := [0, 4, 5, 36]) (env' := [(0, .slice A_2 l_1.length c_3), (4, .int .i64 i_7), (5, .pointer (some ⟨b_12, 0, none⟩)), (36, .bool (decide (((rdL l_1 i_7).Part) > 3)))]) (H' := [⟨40, b_12, [.int .i64 ((rdL l_1 i_7).Part), .string (bs ((rdL l_1 i_7).Name)), .int .i64 ((rdL l_1 i_7).Budget)]⟩]) (ps := [b_12 = b_12]) (by kernel_rfl) (And.intro rfl trivial) ?_
      refine GoO.bsplit (t := 36) (by kernel_rfl) (fun h14 => ?_) (fun h14 => ?_)
      · refine GoO.exec (is := [9, 10, 11, 12, 13, 14, 15, 16, 17, 18, 19, 20, 21, 22, 23, 24, 25, 26, 27, 28, 29, 30]) (hs := [.p, .p, .p, .p, .p, .p, .p, .p, .p, .p, .p, .p, .p, .p, .p, .p, .p, .p, .p, .p, .p, .p]) (rest := []) (ks := [0, 3, 4]) (env' := [(0, .slice A_2 l_1.length c_3), (3, .bool true), (4, .int .i64 i_7)]) (H' := [⟨40, b_12, [.int .i64 ((rdL l_1 i_7).Part), .string (bs ((rdL l_1 i_7).Name)), .int .i64 ((rdL l_1 i_7).Budget)]⟩]) (ps := []) (by kernel_rfl) trivial ?_
        refine GoO.regionEnd ?_
        exact GoO.sub (ks := [0, 3, 4]) (hk := []) (bk := [0]) (by kernel_rfl) (by kernel_rfl) (by kernel_rfl) (tontineref13_Check_j2_ok n L0 l_1 bad_6 i_7 A_2 c_3 w0 S0 ih0 true)
      · refine GoO.exec (is := [9, 10, 11, 12, 13, 14]) (hs := [.p, .b 0, .p, .p, .p, .p]) (rest := [15, 16, 17, 18, 19, 20, 21, 22, 23, 24, 25, 26, 27, 28, 29, 30]) (ks := [0, 4, 5, 42]) (env' := [(0, .slice A_2 l_1.length c_3), (4, .int .i64 i_7), (5, .pointer (some ⟨b_12, 0, none⟩)), (42, .bool (decide ((((rdL l_1 i_7).Name).length : Int) < 1)))]) (H' := [⟨40, b_12, [.int .i64 ((rdL l_1 i_7).Part), .string (bs ((rdL l_1 i_7).Name)), .int .i64 ((rdL l_1 i_7).Budget)]⟩]) (ps := [b_12 = b_12]) (by kernel_rfl) (And.intro rfl trivial) ?_
        refine GoO.bsplit (t := 42) (by kernel_rfl) (fun h15 => ?_) (fun h15 => ?_)
        · refine GoO.exec (is := [15, 16, 17, 18, 19, 20, 21, 22, 23, 24, 25, 26, 27, 28, 29, 30]) (hs := [.p, .p, .p, .p, .p, .p, .p, .p, .p, .p, .p, .p, .p, .p, .p, .p]) (rest := []) (ks := [0, 3, 4]) (env' := [(0, .slice A_2 l_1.length c_3), (3, .bool true), (4, .int .i64 i_7)]) (H' := [⟨40, b_12, [.int .i64 ((rdL l_1 i_7).Part), .string (bs ((rdL l_1 i_7).Name)), .int .i64 ((rdL l_1 i_7).Budget)]⟩]) (ps := []) (by kernel_rfl) trivial ?_
          refine GoO.regionEnd ?_
          exact GoO.sub (ks := [0, 3, 4]) (hk := []) (bk := [0]) (by kernel_rfl) (by kernel_rfl) (by kernel_rfl) (tontineref13_Check_j2_ok n L0 l_1 bad_6 i_7 A_2 c_3 w0 S0 ih0 true)
        · refine GoO.exec (is := [15, 16, 17, 18, 19, 20]) (hs := [.p, .b 0, .p, .p, .p, .p]) (rest := [21, 22, 23, 24, 25, 26, 27, 28, 29, 30]) (ks := [0, 4, 5, 48]) (env' := [(0, .slice A_2 l_1.length c_3), (4, .int .i64 i_7), (5, .pointer (some ⟨b_12, 0, none⟩)), (48, .bool (decide ((((rdL l_1 i_7).Name).length : Int) > 16)))]) (H' := [⟨40, b_12, [.int .i64 ((rdL l_1 i_7).Part), .string (bs ((rdL l_1 i_7).Name)), .int .i64 ((rdL l_1 i_7).Budget)]⟩]) (ps := [b_12 = b_12]) (by kernel_rfl) (And.intro rfl trivial) ?_
          refine GoO.bsplit (t := 48) (by kernel_rfl) (fun h16 => ?_) (fun h16 => ?_)
          · refine GoO.exec (is := [21, 22, 23, 24, 25, 26, 27, 28, 29, 30]) (hs := [.p, .p, .p, .p, .p, .p, .p, .p, .p, .p]) (rest := []) (ks := [0, 3, 4]) (env' := [(0, .slice A_2 l_1.length c_3), (3, .bool true), (4, .int .i64 i_7)]) (H' := [⟨40, b_12, [.int .i64 ((rdL l_1 i_7).Part), .string (bs ((rdL l_1 i_7).Name)), .int .i64 ((rdL l_1 i_7).Budget)]⟩]) (ps := []) (by kernel_rfl) trivial ?_
            refine GoO.regionEnd ?_
            exact GoO.sub (ks := [0, 3, 4]) (hk := []) (bk := [0]) (by kernel_rfl) (by kernel_rfl) (by kernel_rfl) (tontineref13_Check_j2_ok n L0 l_1 bad_6 i_7 A_2 c_3 w0 S0 ih0 true)
          · refine GoO.exec (is := [21, 22, 23, 24, 25]) (hs := [.p, .b 0, .p, .p, .p]) (rest := [26, 27, 28, 29, 30]) (ks := [0, 4, 5, 53]) (env' := [(0, .slice A_2 l_1.length c_3), (4, .int .i64 i_7), (5, .pointer (some ⟨b_12, 0, none⟩)), (53, .bool (decide (((rdL l_1 i_7).Budget) < 1)))]) (H' := [⟨40, b_12, [.int .i64 ((rdL l_1 i_7).Part), .string (bs ((rdL l_1 i_7).Name)), .int .i64 ((rdL l_1 i_7).Budget)]⟩]) (ps := [b_12 = b_12]) (by kernel_rfl) (And.intro rfl trivial) ?_
            refine GoO.bsplit (t := 53) (by kernel_rfl) (fun h17 => ?_) (fun h17 => ?_)
            · refine GoO.exec (is := [26, 27, 28, 29, 30]) (hs := [.p, .p, .p, .p, .p]) (rest := []) (ks := [0, 3, 4]) (env' := [(0, .slice A_2 l_1.length c_3), (3, .bool true), (4, .int .i64 i_7)]) (H' := [⟨40, b_12, [.int .i64 ((rdL l_1 i_7).Part), .string (bs ((rdL l_1 i_7).Name)), .int .i64 ((rdL l_1 i_7).Budget)]⟩]) (ps := []) (by kernel_rfl) trivial ?_
              refine GoO.regionEnd ?_
              exact GoO.sub (ks := [0, 3, 4]) (hk := []) (bk := [0]) (by kernel_rfl) (by kernel_rfl) (by kernel_rfl) (tontineref13_Check_j2_ok n L0 l_1 bad_6 i_7 A_2 c_3 w0 S0 ih0 true)
            · refine GoO.exec (is := [26, 27, 28, 29, 30]) (hs := [.p, .b 0, .p, .p, .p]) (rest := []) (ks := [0, 3, 4]) (env' := [(0, .slice A_2 l_1.length c_3), (3, .bool (decide (((rdL l_1 i_7).Budget) > 9))), (4, .int .i64 i_7)]) (H' := [⟨40, b_12, [.int .i64 ((rdL l_1 i_7).Part), .string (bs ((rdL l_1 i_7).Name)), .int .i64 ((rdL l_1 i_7).Budget)]⟩]) (ps := [b_12 = b_12]) (by kernel_rfl) (And.intro rfl trivial) ?_
              refine GoO.regionEnd ?_
              exact GoO.sub (ks := [0, 3, 4]) (hk := []) (bk := [0]) (by kernel_rfl) (by kernel_rfl) (by kernel_rfl) (tontineref13_Check_j2_ok n L0 l_1 bad_6 i_7 A_2 c_3 w0 S0 ih0 (decide (((rdL l_1 i_7).Budget) > 9)))
  · refine GoO.exit' c31_14e rfl ?_
    refine GoO.seq' c31_21e ?_
    refine GoO.seq' c31_22e ?_
    refine GoO.region' (is := [0]) c31_23e (by kernel_rfl) ?_
    refine GoO.exec (is := [0]) (hs := [.p]) (rest := []) (ks := [58]) (env' := [(58, .bool bad_6)]) (H' := []) (ps := []) (by kernel_rfl) trivial ?_
    refine GoO.regionEnd ?_
    refine GoO.ite' c31_24e (by kernel_rfl) (fun h19 => ?_) (fun h19 => ?_)
    · refine GoO.seq' c31_25e ?_
      refine GoO.region' (is := [0]) c31_26e (by kernel_rfl) ?_
      refine GoO.exec (is := [0]) (hs := [.p]) (rest := []) (ks := [2]) (env' := [(2, .int .i64 44)]) (H' := []) (ps := []) (by kernel_rfl) trivial ?_
      refine GoO.regionEnd ?_
      exact GoO.ret' (h := c31_27e) (hs := []) (ps := []) (hk := []) (bk := []) Try.func31 () (by kernel_rfl) trivial (by kernel_rfl) (by kernel_rfl)
    · refine GoO.skip' c31_28e ?_
      refine GoO.seq' c31_29e ?_
      refine GoO.region' (is := [0]) c31_30e (by kernel_rfl) ?_
      refine GoO.exec (is := [0]) (hs := [.p]) (rest := []) (ks := [2]) (env' := [(2, .int .i64 0)]) (H' := []) (ps := []) (by kernel_rfl) trivial ?_
      refine GoO.regionEnd ?_
      exact GoO.ret' (h := c31_31e) (hs := []) (ps := []) (hk := []) (bk := []) Try.func31 () (by kernel_rfl) trivial (by kernel_rfl) (by kernel_rfl)
theorem tontineref13_Check_l0_ok (n : Nat) (l_1 : (List T_api_Step)) (A_2 : Option Addr) (c_3 : Nat) (w0 : World) (S0 : Fam) :
    ∀ (k : Nat) (bad_6 : Bool) (i_7 : Int), GoO (tontineref13_Check.cx A_2 c_3 w0 S0) [(0, .slice A_2 l_1.length c_3), (3, .bool bad_6), (4, .int .i64 i_7)] [] [Rd 0 kT_api_Step A_2 c_3 l_1] [.code c31_9, .inLoop c31_9, .inBlock 0, .code c31_21] (tontineref13_Check.l0 n l_1 k bad_6 i_7) := by
  intro k
  induction k with
  | zero => intros; rw [tontineref13_Check.l0.eq_1]; exact GoO.stop
  | succ k ih0 =>
    intro bad_6 i_7
    rw [tontineref13_Check.l0.eq_2]
    refine GoO.seq' c31_9e ?_
    refine GoO.seq' c31_10e ?_
    refine GoO.region' (is := [0, 1, 2, 3, 4, 5, 6, 7]) c31_11e (by kernel_rfl) ?_
    refine GoO.exec (is := [0, 1, 2, 3, 4]) (hs := [.p, .p, .p, .p, .p]) (rest := [5, 6, 7]) (ks := [0, 3, 4, 18]) (env' := [(0, .slice A_2 l_1.length c_3), (3, .bool bad_6), (4, .int .i64 i_7), (18, .bool (decide (i_7 < (l_1.length : Int))))]) (H' := []) (ps := []) (by kernel_rfl) trivial ?_
    refine GoO.bsplit (t := 18) (by kernel_rfl) (fun h8 => ?_) (fun h8 => ?_)
    · refine GoO.exec (is := [5, 6, 7]) (hs := [.p, .p, .p]) (rest := []) (ks := [0, 3, 4, 21]) (env' := [(0, .slice A_2 l_1.length c_3), (3, .bool bad_6), (4, .int .i64 i_7), (21, .bool (!bad_6))]) (H' := []) (ps := []) (by kernel_rfl) trivial ?_
      refine GoO.regionEnd ?_
      exact GoO.sub (ks := [0, 3, 4, 21]) (hk := []) (bk := [0]) (by kernel_rfl) (by kernel_rfl) (by kernel_rfl) (tontineref13_Check_j1_ok n (tontineref13_Check.l0 n l_1 k) l_1 bad_6 i_7 A_2 c_3 w0 S0 ih0 (!bad_6))
    · refine GoO.exec (is := [5, 6, 7]) (hs := [.p, .p, .p]) (rest := []) (ks := [0, 3, 4, 21]) (env' := [(0, .slice A_2 l_1.length c_3), (3, .bool bad_6), (4, .int .i64 i_7), (21, .bool false)]) (H' := []) (ps := []) (by kernel_rfl) trivial ?_
      refine GoO.regionEnd ?_
      exact GoO.sub (ks := [0, 3, 4, 21]) (hk := []) (bk := [0]) (by kernel_rfl) (by kernel_rfl) (by kernel_rfl) (tontineref13_Check_j1_ok n (tontineref13_Check.l0 n l_1 k) l_1 bad_6 i_7 A_2 c_3 w0 S0 ih0 false)
theorem tontineref13_Check_j0_ok (n : Nat) (l_1 : (List T_api_Step)) (A_2 : Option Addr) (c_3 : Nat) (w0 : World) (S0 : Fam) (bad_5 : Bool) :
    GoO (tontineref13_Check.cx A_2 c_3 w0 S0) [(0, .slice A_2 l_1.length c_3), (3, .bool bad_5)] [] [Rd 0 kT_api_Step A_2 c_3 l_1] [.code c31_4] (tontineref13_Check.j0 n l_1 bad_5) := by
  unfold tontineref13_Check.j0
  refine GoO.seq' c31_4e ?_
  refine GoO.seq' c31_5e ?_
  refine GoO.region' (is := [0]) c31_6e (by kernel_rfl) ?_
  refine GoO.exec (is := [0]) (hs := [.p]) (rest := []) (ks := [0, 3, 4]) (env' := [(0, .slice A_2 l_1.length c_3), (3, .bool bad_5), (4, .int .i64 0)]) (H' := []) (ps := []) (by kernel_rfl) trivial ?_
  refine GoO.regionEnd ?_
  refine GoO.block' c31_7e ?_
  refine GoO.loop' c31_8e ?_
  exact GoO.sub (ks := [0, 3, 4]) (hk := []) (bk := [0]) (by kernel_rfl) (by kernel_rfl) (by kernel_rfl) (tontineref13_Check_l0_ok n l_1 A_2 c_3 w0 S0 n bad_5 0)
theorem tontineref13_Check_ok (n : Nat) (l_1 : (List T_api_Step)) (A_2 : Option Addr) (c_3 : Nat) :
    Meets Try.prog 31 [.slice A_2 l_1.length c_3] 0 [] [] [Rd 0 kT_api_Step A_2 c_3 l_1] (tontineref13_Check.f n l_1) (tontineref13_Check.R A_2 c_3) := by
  refine Meets.of (c := c31_0) (n := 59) Try.func31 (by kernel_rfl) (by kernel_rfl) (by kernel_rfl) fun w0 S0 => ?_
  unfold tontineref13_Check.f
  show GoO (tontineref13_Check.cx A_2 c_3 w0 S0) [(0, .slice A_2 l_1.length c_3)] [] [Rd 0 kT_api_Step A_2 c_3 l_1] [.code c31_0] _
  refine GoO.seq' c31_0e ?_
  refine GoO.region' (is := [0]) c31_1e (by kernel_rfl) ?_
  refine GoO.exec (is := [0]) (hs := [.p]) (rest := []) (ks := [0]) (env' := [(0, .slice A_2 l_1.length c_3)]) (H' := []) (ps := []) (by kernel_rfl) trivial ?_
  refine GoO.regionEnd ?_
  refine GoO.seq' c31_2e ?_
  refine GoO.region' (is := [0, 1, 2, 3, 4, 5, 6, 7, 8]) c31_3e (by kernel_rfl) ?_
  refine GoO.exec (is := [0, 1, 2, 3]) (hs := [.p, .p, .p, .p]) (rest := [4, 5, 6, 7, 8]) (ks := [0, 9]) (env' := [(0, .slice A_2 l_1.length c_3), (9, .bool ((l_1.length : Int) == 0))]) (H' := []) (ps := []) (by kernel_rfl) trivial ?_
  refine GoO.bsplit (t := 9) (by kernel_rfl) (fun h4 => ?_) (fun h4 => ?_)
  · refine GoO.exec (is := [4, 5, 6, 7, 8]) (hs := [.p, .p, .p, .p, .p]) (rest := []) (ks := [0, 3]) (env' := [(0, .slice A_2 l_1.length c_3), (3, .bool true)]) (H' := []) (ps := []) (by kernel_rfl) trivial ?_
    refine GoO.regionEnd ?_
    exact GoO.sub (ks := [0, 3]) (hk := []) (bk := [0]) (by kernel_rfl) (by kernel_rfl) (by kernel_rfl) (tontineref13_Check_j0_ok n l_1 A_2 c_3 w0 S0 true)
  · refine GoO.exec (is := [4, 5, 6, 7, 8]) (hs := [.p, .p, .p, .p, .p]) (rest := []) (ks := [0, 3]) (env' := [(0, .slice A_2 l_1.length c_3), (3, .bool (decide ((l_1.length : Int) > 64)))]) (H' := []) (ps := []) (by kernel_rfl) trivial ?_
    refine GoO.regionEnd ?_
    exact GoO.sub (ks := [0, 3]) (hk := []) (bk := [0]) (by kernel_rfl) (by kernel_rfl) (by kernel_rfl) (tontineref13_Check_j0_ok n l_1 A_2 c_3 w0 S0 (decide ((l_1.length : Int) > 64)))

/-! tontine/tontineref14.Sound -/
noncomputable def c26_0 : Code := bodyOf Try.f26
noncomputable def c26_1 : Code := cdL c26_0
noncomputable def c26_2 : Code := cdR c26_0
noncomputable def c26_3 : Code := cdL c26_2
noncomputable def c26_4 : Code := cdL c26_3
noncomputable def c26_5 : Code := cdR c26_3
noncomputable def c26_6 : Code := cdL c26_5
noncomputable def c26_7 : Code := cdL c26_6
noncomputable def c26_8 : Code := cdR c26_6
noncomputable def c26_9 : Code := cdR c26_5
noncomputable def c26_10 : Code := cdR c26_2
noncomputable def c26_11 : Code := cdL c26_10
noncomputable def c26_12 : Code := cdR c26_10
noncomputable def c26_13 : Code := cdL c26_12
noncomputable def c26_14 : Code := cdR c26_12
noncomputable def c26_15 : Code := cdL c26_14
noncomputable def c26_16 : Code := cdR c26_14
noncomputable def r26_1 : Array Oper := cdO c26_1
noncomputable def r26_4 : Array Oper := cdO c26_4
noncomputable def r26_7 : Array Oper := cdO c26_7
noncomputable def r26_11 : Array Oper := cdO c26_11
noncomputable def r26_13 : Array Oper := cdO c26_13
noncomputable def r26_15 : Array Oper := cdO c26_15
theorem c26_0e : c26_0 = .seq c26_1 c26_2 := by kernel_rfl
theorem c26_1e : c26_1 = .region 0 r26_1 false := by kernel_rfl
theorem c26_2e : c26_2 = .seq c26_3 c26_10 := by kernel_rfl
theorem c26_3e : c26_3 = .seq c26_4 c26_5 := by kernel_rfl
theorem c26_4e : c26_4 = .region 1 r26_4 false := by kernel_rfl
theorem c26_5e : c26_5 = .cond (cdC c26_5) c26_6 c26_9 := by kernel_rfl
theorem c26_6e : c26_6 = .seq c26_7 c26_8 := by kernel_rfl
theorem c26_7e : c26_7 = .region 2 r26_7 false := by kernel_rfl
theorem c26_8e : c26_8 = .ret := by kernel_rfl
theorem c26_9e : c26_9 = .skip := by kernel_rfl
theorem c26_10e : c26_10 = .seq c26_11 c26_12 := by kernel_rfl
theorem c26_11e : c26_11 = .region 3 r26_11 false := by kernel_rfl
theorem c26_12e : c26_12 = .seq c26_13 c26_14 := by kernel_rfl
theorem c26_13e : c26_13 = .region 4 r26_13 false := by kernel_rfl
theorem c26_14e : c26_14 = .seq c26_15 c26_16 := by kernel_rfl
theorem c26_15e : c26_15 = .region 5 r26_15 true := by kernel_rfl
theorem c26_16e : c26_16 = .ret := by kernel_rfl
noncomputable def tontineref14_Sound.R (A_2 : Option Addr) (c_3 : Nat) : Pst Bool where
  ε := Unit
  v := fun r x => .bool r
  H := fun r x => []
  B := fun r x => []
noncomputable def tontineref14_Sound.cx (A_2 : Option Addr) (c_3 : Nat) (w0 : World) (S0 : Fam) : Cx Bool := ⟨Try.prog, 26, Try.f26, 108, w0, S0, [], 0, tontineref14_Sound.R A_2 c_3⟩
theorem tontineref14_Sound_j6_ok (n : Nat) (s_1 : T_api_Saga) (A_2 : Option Addr) (c_3 : Nat) (b_4 : Nat) (w0 : World) (S0 : Fam) (b_36 : Bool) :
    GoF (tontineref14_Sound.cx A_2 c_3 w0 S0) r26_15 [87] [⟨40, b_4, [.slice A_2 s_1.Steps.length c_3, .int .i64 s_1.State, .int .i64 s_1.Cursor, .int .i64 s_1.Failed]⟩] [Rd 0 kT_api_Step A_2 c_3 s_1.Steps] [.code c26_16] 14 [true, true, true, true, true, true, true, true, true, true, true, true, true, true, true, true, true, true, true, true, true, true, true, true, true, true, true, true, true, true, true, true, true, true, true, true, true, true, true, true, true, true, true, true, true, true, true, true, true, true, true, true, true, true, true, true, true, true, true, true, true, true, true, true, true, true, true, true, true, true, true, true, true, true, false, false, false, false, false, false, false, false, false, false, false, false, false, false] [(1, .pointer (some ⟨b_4, 0, none⟩)), (88, .bool false), (94, .bool b_36)] [⟨40, b_4, [.slice A_2 s_1.Steps.length c_3, .int .i64 s_1.State, .int .i64 s_1.Cursor, .int .i64 s_1.Failed]⟩] [Rd 0 kT_api_Step A_2 c_3 s_1.Steps] (tontineref14_Sound.j6 n s_1 b_36) := by
  unfold tontineref14_Sound.j6
  refine GoF.take [74] [.p] (ks := [1, 88, 95]) (fu := 13) (li := [true, true, true, true, true, true, true, true, true, true, true, true, true, true, true, true, true, true, true, true, true, true, true, true, true, true, true, true, true, true, true, true, true, true, true, true, true, true, true, true, true, true, true, true, true, true, true, true, true, true, true, true, true, true, true, true, true, true, true, true, true, true, true, true, true, true, true, true, true, true, true, true, true, true, true, false, false, false, false, false, false, false, false, false, false, false, false, false]) (env' := [(1, .pointer (some ⟨b_4, 0, none⟩)), (88, .bool false), (95, .bool b_36)]) (ps := []) (hk := [0]) (bk := [0]) (by kernel_rfl) trivial rfl rfl ?_
  refine GoF.bsplit (t := 95) (by kernel_rfl) (fun h37 => ?_) (fun h37 => ?_)
  · refine GoF.take [75, 76, 77, 78, 79, 80] [.p, .b 0, .p, .b 0, .p, .b 0] (ks := [88, 95, 97, 99, 101]) (fu := 7) (li := [true, true, true, true, true, true, true, true, true, true, true, true, true, true, true, true, true, true, true, true, true, true, true, true, true, true, true, true, true, true, true, true, true, true, true, true, true, true, true, true, true, true, true, true, true, true, true, true, true, true, true, true, true, true, true, true, true, true, true, true, true, true, true, true, true, true, true, true, true, true, true, true, true, true, true, true, true, true, true, true, true, false, false, false, false, false, false, false]) (env' := [(88, .bool false), (95, .bool true), (97, .int .i64 s_1.Failed), (99, .slice A_2 s_1.Steps.length c_3), (101, .int .i64 s_1.Cursor)]) (ps := [b_4 = b_4, b_4 = b_4, b_4 = b_4]) (hk := [0]) (bk := [0]) (by kernel_rfl) (And.intro rfl (And.intro rfl (And.intro rfl trivial))) rfl rfl ?_
    refine GoF.guard (fun h38 => ?_)
    refine GoF.idx (i := 81) (hk := [0]) (bk := [0]) (kk := .i64) (e := 50) (K := kT_api_Step) (A := A_2) (c := c_3) (xs := s_1.Steps) (iv := s_1.Cursor) (j := 0) (by kernel_rfl) rfl rfl rfl (by kernel_rfl) (by kernel_rfl) (by kernel_rfl) (by kernel_rfl) rfl Reads.rd rfl h38.1 h38.2 (by decide) rfl ?_
    refine GoF.fldE (i := 82) (hk := [0]) (bk := [0]) (K := kT_api_Step) (A := A_2) (c := c_3) (xs := s_1.Steps) (iN := s_1.Cursor.toNat) (off := 0) (n := 2) (j := 0) (by kernel_rfl) rfl rfl rfl (by kernel_rfl) (by kernel_rfl) rfl Reads.rd (idx_lt h38.1 h38.2) (by decide) rfl ?_
    refine GoF.ldE (i := 83) (hk := [0]) (bk := [0]) (K := kT_api_Step) (A := A_2) (c := c_3) (xs := s_1.Steps) (iN := s_1.Cursor.toNat) (off := 2) (j := 0) (v := .int .i64 ((rdL s_1.Steps s_1.Cursor).Budget)) (by kernel_rfl) rfl rfl rfl (hK := rfl) (by kernel_rfl) rfl Reads.rd (idx_lt h38.1 h38.2) (by decide) (by kernel_rfl) rfl ?_
    refine GoF.take [84, 85, 86] [.p, .p, .p] (ks := [107]) (fu := 1) (li := [true, true, true, true, true, true, true, true, true, true, true, true, true, true, true, true, true, true, true, true, true, true, true, true, true, true, true, true, true, true, true, true, true, true, true, true, true, true, true, true, true, true, true, true, true, true, true, true, true, true, true, true, true, true, true, true, true, true, true, true, true, true, true, true, true, true, true, true, true, true, true, true, true, true, true, true, true, true, true, true, true, true, true, true, true, true, true, false]) (env' := [(107, .bool (s_1.Failed == ((rdL s_1.Steps s_1.Cursor).Budget)))]) (ps := []) (hk := [0]) (bk := [0]) (by kernel_rfl) trivial rfl rfl ?_
    refine GoF.fin1 (i := 87) (hint := .p) (ps := []) (hk := []) (bk := []) (by kernel_rfl) rfl trivial (.inl rfl) ?_
    refine GoF.done (by kernel_rfl) ?_
    exact GoO.ret' (h := c26_16e) (hs := []) (ps := []) (hk := []) (bk := []) Try.func26 () (by kernel_rfl) trivial (by kernel_rfl) (by kernel_rfl)
  · refine GoF.take [75, 76, 77, 78, 79, 80, 81, 82, 83, 84, 85, 86] [.p, .p, .p, .p, .p, .p, .p, .p, .p, .p, .p, .p] (ks := [107]) (fu := 1) (li := [true, true, true, true, true, true, true, true, true, true, true, true, true, true, true, true, true, true, true, true, true, true, true, true, true, true, true, true, true, true, true, true, true, true, true, true, true, true, true, true, true, true, true, true, true, true, true, true, true, true, true, true, true, true, true, true, true, true, true, true, true, true, true, true, true, true, true, true, true, true, true, true, true, true, true, true, true, true, true, true, true, true, true, true, true, true, true, false]) (env' := [(107, .bool false)]) (ps := []) (hk := [0]) (bk := [0]) (by kernel_rfl) trivial rfl rfl ?_
    refine GoF.fin1 (i := 87) (hint := .p) (ps := []) (hk := []) (bk := []) (by kernel_rfl) rfl trivial (.inl rfl) ?_
    refine GoF.done (by kernel_rfl) ?_
    exact GoO.ret' (h := c26_16e) (hs := []) (ps := []) (hk := []) (bk := []) Try.func26 () (by kernel_rfl) trivial (by kernel_rfl) (by kernel_rfl)
theorem tontineref14_Sound_j5_ok (n : Nat) (s_1 : T_api_Saga) (within_8 : Bool) (A_2 : Option Addr) (c_3 : Nat) (b_4 : Nat) (w0 : World) (S0 : Fam) (b_33 : Bool) :
    GoF (tontineref14_Sound.cx A_2 c_3 w0 S0) r26_15 [87] [⟨40, b_4, [.slice A_2 s_1.Steps.length c_3, .int .i64 s_1.State, .int .i64 s_1.Cursor, .int .i64 s_1.Failed]⟩] [Rd 0 kT_api_Step A_2 c_3 s_1.Steps] [.code c26_16] 21 [true, true, true, true, true, true, true, true, true, true, true, true, true, true, true, true, true, true, true, true, true, true, true, true, true, true, true, true, true, true, true, true, true, true, true, true, true, true, true, true, true, true, true, true, true, true, true, true, true, true, true, true, true, true, true, true, true, true, true, true, true, true, true, true, true, true, true, false, false, false, false, false, false, false, false, false, false, false, false, false, false, false, false, false, false, false, false, false] [(1, .pointer (some ⟨b_4, 0, none⟩)), (4, .bool within_8), (87, .bool b_33)] [⟨40, b_4, [.slice A_2 s_1.Steps.length c_3, .int .i64 s_1.State, .int .i64 s_1.Cursor, .int .i64 s_1.Failed]⟩] [Rd 0 kT_api_Step A_2 c_3 s_1.Steps] (tontineref14_Sound.j5 n s_1 within_8 b_33) := by
  unfold tontineref14_Sound.j5
  refine GoF.take [67] [.p] (ks := [1, 4, 88]) (fu := 20) (li := [true, true, true, true, true, true, true, true, true, true, true, true, true, true, true, true, true, true, true, true, true, true, true, true, true, true, true, true, true, true, true, true, true, true, true, true, true, true, true, true, true, true, true, true, true, true, true, true, true, true, true, true, true, true, true, true, true, true, true, true, true, true, true, true, true, true, true, true, false, false, false, false, false, false, false, false, false, false, false, false, false, false, false, false, false, false, false, false]) (env' := [(1, .pointer (some ⟨b_4, 0, none⟩)), (4, .bool within_8), (88, .bool b_33)]) (ps := []) (hk := [0]) (bk := [0]) (by kernel_rfl) trivial rfl rfl ?_
  refine GoF.bsplit (t := 88) (by kernel_rfl) (fun h34 => ?_) (fun h34 => ?_)
  · refine GoF.take [68, 69, 70, 71, 72, 73, 74, 75, 76, 77, 78, 79, 80, 81, 82, 83, 84, 85, 86] [.p, .p, .p, .p, .p, .p, .p, .p, .p, .p, .p, .p, .p, .p, .p, .p, .p, .p, .p] (ks := [107]) (fu := 1) (li := [true, true, true, true, true, true, true, true, true, true, true, true, true, true, true, true, true, true, true, true, true, true, true, true, true, true, true, true, true, true, true, true, true, true, true, true, true, true, true, true, true, true, true, true, true, true, true, true, true, true, true, true, true, true, true, true, true, true, true, true, true, true, true, true, true, true, true, true, true, true, true, true, true, true, true, true, true, true, true, true, true, true, true, true, true, true, true, false]) (env' := [(107, .bool true)]) (ps := []) (hk := [0]) (bk := [0]) (by kernel_rfl) trivial rfl rfl ?_
    refine GoF.fin1 (i := 87) (hint := .p) (ps := []) (hk := []) (bk := []) (by kernel_rfl) rfl trivial (.inl rfl) ?_
    refine GoF.done (by kernel_rfl) ?_
    exact GoO.ret' (h := c26_16e) (hs := []) (ps := []) (hk := []) (bk := []) Try.func26 () (by kernel_rfl) trivial (by kernel_rfl) (by kernel_rfl)
  · refine GoF.take [68, 69, 70, 71] [.p, .b 0, .p, .p] (ks := [1, 4, 88, 92]) (fu := 16) (li := [true, true, true, true, true, true, true, true, true, true, true, true, true, true, true, true, true, true, true, true, true, true, true, true, true, true, true, true, true, true, true, true, true, true, true, true, true, true, true, true, true, true, true, true, true, true, true, true, true, true, true, true, true, true, true, true, true, true, true, true, true, true, true, true, true, true, true, true, true, true, true, true, false, false, false, false, false, false, false, false, false, false, false, false, false, false, false, false]) (env' := [(1, .pointer (some ⟨b_4, 0, none⟩)), (4, .bool within_8), (88, .bool false), (92, .bool (s_1.State == 5))]) (ps := [b_4 = b_4]) (hk := [0]) (bk := [0]) (by kernel_rfl) (And.intro rfl trivial) rfl rfl ?_
    refine GoF.bsplit (t := 92) (by kernel_rfl) (fun h35 => ?_) (fun h35 => ?_)
    · refine GoF.take [72, 73] [.p, .p] (ks := [1, 88, 94]) (fu := 14) (li := [true, true, true, true, true, true, true, true, true, true, true, true, true, true, true, true, true, true, true, true, true, true, true, true, true, true, true, true, true, true, true, true, true, true, true, true, true, true, true, true, true, true, true, true, true, true, true, true, true, true, true, true, true, true, true, true, true, true, true, true, true, true, true, true, true, true, true, true, true, true, true, true, true, true, false, false, false, false, false, false, false, false, false, false, false, false, false, false]) (env' := [(1, .pointer (some ⟨b_4, 0, none⟩)), (88, .bool false), (94, .bool within_8)]) (ps := []) (hk := [0]) (bk := [0]) (by kernel_rfl) trivial rfl rfl ?_
      exact GoF.sub (ks := [1, 88, 94]) (hk := [0]) (bk := [0]) (by kernel_rfl) (by kernel_rfl) (by kernel_rfl) (tontineref14_Sound_j6_ok n s_1 A_2 c_3 b_4 w0 S0 within_8)
    · refine GoF.take [72, 73] [.p, .p] (ks := [1, 88, 94]) (fu := 14) (li := [true, true, true, true, true, true, true, true, true, true, true, true, true, true, true, true, true, true, true, true, true, true, true, true, true, true, true, true, true, true, true, true, true, true, true, true, true, true, true, true, true, true, true, true, true, true, true, true, true, true, true, true, true, true, true, true, true, true, true, true, true, true, true, true, true, true, true, true, true, true, true, true, true, true, false, false, false, false, false, false, false, false, false, false, false, false, false, false]) (env' := [(1, .pointer (some ⟨b_4, 0, none⟩)), (88, .bool false), (94, .bool false)]) (ps := []) (hk := [0]) (bk := [0]) (by kernel_rfl) trivial rfl rfl ?_
      exact GoF.sub (ks := [1, 88, 94]) (hk := [0]) (bk := [0]) (by kernel_rfl) (by kernel_rfl) (by kernel_rfl) (tontineref14_Sound_j6_ok n s_1 A_2 c_3 b_4 w0 S0 false)
theorem tontineref14_Sound_j8_ok (n : Nat) (s_1 : T_api_Saga) (within_8 : Bool) (A_2 : Option Addr) (c_3 : Nat) (b_4 : Nat) (w0 : World) (S0 : Fam) (b_32 : Bool) :
    GoF (tontineref14_Sound.cx A_2 c_3 w0 S0) r26_15 [87] [⟨40, b_4, [.slice A_2 s_1.Steps.length c_3, .int .i64 s_1.State, .int .i64 s_1.Cursor, .int .i64 s_1.Failed]⟩] [Rd 0 kT_api_Step A_2 c_3 s_1.Steps] [.code c26_16] 22 [true, true, true, true, true, true, true, true, true, true, true, true, true, true, true, true, true, true, true, true, true, true, true, true, true, true, true, true, true, true, true, true, true, true, true, true, true, true, true, true, true, true, true, true, true, true, true, true, true, true, true, true, true, true, true, true, true, true, true, true, true, true, true, true, true, true, false, false, false, false, false, false, false, false, false, false, false, false, false, false, false, false, false, false, false, false, false, false] [(1, .pointer (some ⟨b_4, 0, none⟩)), (4, .bool within_8), (73, .bool false), (86, .bool b_32)] [⟨40, b_4, [.slice A_2 s_1.Steps.length c_3, .int .i64 s_1.State, .int .i64 s_1.Cursor, .int .i64 s_1.Failed]⟩] [Rd 0 kT_api_Step A_2 c_3 s_1.Steps] (tontineref14_Sound.j8 n s_1 within_8 b_32) := by
  unfold tontineref14_Sound.j8
  refine GoF.take [66] [.p] (ks := [1, 4, 87]) (fu := 21) (li := [true, true, true, true, true, true, true, true, true, true, true, true, true, true, true, true, true, true, true, true, true, true, true, true, true, true, true, true, true, true, true, true, true, true, true, true, true, true, true, true, true, true, true, true, true, true, true, true, true, true, true, true, true, true, true, true, true, true, true, true, true, true, true, true, true, true, true, false, false, false, false, false, false, false, false, false, false, false, false, false, false, false, false, false, false, false, false, false]) (env' := [(1, .pointer (some ⟨b_4, 0, none⟩)), (4, .bool within_8), (87, .bool b_32)]) (ps := []) (hk := [0]) (bk := [0]) (by kernel_rfl) trivial rfl rfl ?_
  exact GoF.sub (ks := [1, 4, 87]) (hk := [0]) (bk := [0]) (by kernel_rfl) (by kernel_rfl) (by kernel_rfl) (tontineref14_Sound_j5_ok n s_1 within_8 A_2 c_3 b_4 w0 S0 b_32)
theorem tontineref14_Sound_j7_ok (n : Nat) (s_1 : T_api_Saga) (within_8 : Bool) (A_2 : Option Addr) (c_3 : Nat) (b_4 : Nat) (w0 : World) (S0 : Fam) (b_30 : Bool) :
    GoF (tontineref14_Sound.cx A_2 c_3 w0 S0) r26_15 [87] [⟨40, b_4, [.slice A_2 s_1.Steps.length c_3, .int .i64 s_1.State, .int .i64 s_1.Cursor, .int .i64 s_1.Failed]⟩] [Rd 0 kT_api_Step A_2 c_3 s_1.Steps] [.code c26_16] 27 [true, true, true, true, true, true, true, true, true, true, true, true, true, true, true, true, true, true, true, true, true, true, true, true, true, true, true, true, true, true, true, true, true, true, true, true, true, true, true, true, true, true, true, true, true, true, true, true, true, true, true, true, true, true, true, true, true, true, true, true, true, false, false, false, false, false, false, false, false, false, false, false, false, false, false, false, false, false, false, false, false, false, false, false, false, false, false, false] [(1, .pointer (some ⟨b_4, 0, none⟩)), (4, .bool within_8), (73, .bool false), (81, .bool b_30)] [⟨40, b_4, [.slice A_2 s_1.Steps.length c_3, .int .i64 s_1.State, .int .i64 s_1.Cursor, .int .i64 s_1.Failed]⟩] [Rd 0 kT_api_Step A_2 c_3 s_1.Steps] (tontineref14_Sound.j7 n s_1 within_8 b_30) := by
  unfold tontineref14_Sound.j7
  refine GoF.take [61] [.p] (ks := [1, 4, 73, 82]) (fu := 26) (li := [true, true, true, true, true, true, true, true, true, true, true, true, true, true, true, true, true, true, true, true, true, true, true, true, true, true, true, true, true, true, true, true, true, true, true, true, true, true, true, true, true, true, true, true, true, true, true, true, true, true, true, true, true, true, true, true, true, true, true, true, true, true, false, false, false, false, false, false, false, false, false, false, false, false, false, false, false, false, false, false, false, false, false, false, false, false, false, false]) (env' := [(1, .pointer (some ⟨b_4, 0, none⟩)), (4, .bool within_8), (73, .bool false), (82, .bool b_30)]) (ps := []) (hk := [0]) (bk := [0]) (by kernel_rfl) trivial rfl rfl ?_
  refine GoF.bsplit (t := 82) (by kernel_rfl) (fun h31 => ?_) (fun h31 => ?_)
  · refine GoF.take [62, 63, 64, 65] [.p, .b 0, .p, .p] (ks := [1, 4, 73, 86]) (fu := 22) (li := [true, true, true, true, true, true, true, true, true, true, true, true, true, true, true, true, true, true, true, true, true, true, true, true, true, true, true, true, true, true, true, true, true, true, true, true, true, true, true, true, true, true, true, true, true, true, true, true, true, true, true, true, true, true, true, true, true, true, true, true, true, true, true, true, true, true, false, false, false, false, false, false, false, false, false, false, false, false, false, false, false, false, false, false, false, false, false, false]) (env' := [(1, .pointer (some ⟨b_4, 0, none⟩)), (4, .bool within_8), (73, .bool false), (86, .bool (s_1.Failed == 0))]) (ps := [b_4 = b_4]) (hk := [0]) (bk := [0]) (by kernel_rfl) (And.intro rfl trivial) rfl rfl ?_
    exact GoF.sub (ks := [1, 4, 73, 86]) (hk := [0]) (bk := [0]) (by kernel_rfl) (by kernel_rfl) (by kernel_rfl) (tontineref14_Sound_j8_ok n s_1 within_8 A_2 c_3 b_4 w0 S0 (s_1.Failed == 0))
  · refine GoF.take [62, 63, 64, 65] [.p, .p, .p, .p] (ks := [1, 4, 73, 86]) (fu := 22) (li := [true, true, true, true, true, true, true, true, true, true, true, true, true, true, true, true, true, true, true, true, true, true, true, true, true, true, true, true, true, true, true, true, true, true, true, true, true, true, true, true, true, true, true, true, true, true, true, true, true, true, true, true, true, true, true, true, true, true, true, true, true, true, true, true, true, true, false, false, false, false, false, false, false, false, false, false, false, false, false, false, false, false, false, false, false, false, false, false]) (env' := [(1, .pointer (some ⟨b_4, 0, none⟩)), (4, .bool within_8), (73, .bool false), (86, .bool false)]) (ps := []) (hk := [0]) (bk := [0]) (by kernel_rfl) trivial rfl rfl ?_
    exact GoF.sub (ks := [1, 4, 73, 86]) (hk := [0]) (bk := [0]) (by kernel_rfl) (by kernel_rfl) (by kernel_rfl) (tontineref14_Sound_j8_ok n s_1 within_8 A_2 c_3 b_4 w0 S0 false)
theorem tontineref14_Sound_j4_ok (n : Nat) (s_1 : T_api_Saga) (within_8 : Bool) (A_2 : Option Addr) (c_3 : Nat) (b_4 : Nat) (w0 : World) (S0 : Fam) (b_27 : Bool) :
    GoF (tontineref14_Sound.cx A_2 c_3 w0 S0) r26_15 [87] [⟨40, b_4, [.slice A_2 s_1.Steps.length c_3, .int .i64 s_1.State, .int .i64 s_1.Cursor, .int .i64 s_1.Failed]⟩] [Rd 0 kT_api_Step A_2 c_3 s_1.Steps] [.code c26_16] 36 [true, true, true, true, true, true, true, true, true, true, true, true, true, true, true, true, true, true, true, true, true, true, true, true, true, true, true, true, true, true, true, true, true, true, true, true, true, true, true, true, true, true, true, true, true, true, true, true, true, true, true, true, false, false, false, false, false, false, false, false, false, false, false, false, false, false, false, false, false, false, false, false, false, false, false, false, false, false, false, false, false, false, false, false, false, false, false, false] [(1, .pointer (some ⟨b_4, 0, none⟩)), (4, .bool within_8), (72, .bool b_27)] [⟨40, b_4, [.slice A_2 s_1.Steps.length c_3, .int .i64 s_1.State, .int .i64 s_1.Cursor, .int .i64 s_1.Failed]⟩] [Rd 0 kT_api_Step A_2 c_3 s_1.Steps] (tontineref14_Sound.j4 n s_1 within_8 b_27) := by
  unfold tontineref14_Sound.j4
  refine GoF.take [52] [.p] (ks := [1, 4, 73]) (fu := 35) (li := [true, true, true, true, true, true, true, true, true, true, true, true, true, true, true, true, true, true, true, true, true, true, true, true, true, true, true, true, true, true, true, true, true, true, true, true, true, true, true, true, true, true, true, true, true, true, true, true, true, true, true, true, true, false, false, false, false, false, false, false, false, false, false, false, false, false, false, false, false, false, false, false, false, false, false, false, false, false, false, false, false, false, false, false, false, false, false, false]) (env' := [(1, .pointer (some ⟨b_4, 0, none⟩)), (4, .bool within_8), (73, .bool b_27)]) (ps := []) (hk := [0]) (bk := [0]) (by kernel_rfl) trivial rfl rfl ?_
  refine GoF.bsplit (t := 73) (by kernel_rfl) (fun h28 => ?_) (fun h28 => ?_)
  · refine GoF.take [53, 54, 55, 56, 57, 58, 59, 60, 61, 62, 63, 64, 65, 66] [.p, .p, .p, .p, .p, .p, .p, .p, .p, .p, .p, .p, .p, .p] (ks := [1, 4, 87]) (fu := 21) (li := [true, true, true, true, true, true, true, true, true, true, true, true, true, true, true, true, true, true, true, true, true, true, true, true, true, true, true, true, true, true, true, true, true, true, true, true, true, true, true, true, true, true, true, true, true, true, true, true, true, true, true, true, true, true, true, true, true, true, true, true, true, true, true, true, true, true, true, false, false, false, false, false, false, false, false, false, false, false, false, false, false, false, false, false, false, false, false, false]) (env' := [(1, .pointer (some ⟨b_4, 0, none⟩)), (4, .bool within_8), (87, .bool true)]) (ps := []) (hk := [0]) (bk := [0]) (by kernel_rfl) trivial rfl rfl ?_
    exact GoF.sub (ks := [1, 4, 87]) (hk := [0]) (bk := [0]) (by kernel_rfl) (by kernel_rfl) (by kernel_rfl) (tontineref14_Sound_j5_ok n s_1 within_8 A_2 c_3 b_4 w0 S0 true)
  · refine GoF.take [53, 54, 55, 56] [.p, .b 0, .p, .p] (ks := [1, 4, 73, 77]) (fu := 31) (li := [true, true, true, true, true, true, true, true, true, true, true, true, true, true, true, true, true, true, true, true, true, true, true, true, true, true, true, true, true, true, true, true, true, true, true, true, true, true, true, true, true, true, true, true, true, true, true, true, true, true, true, true, true, true, true, true, true, false, false, false, false, false, false, false, false, false, false, false, false, false, false, false, false, false, false, false, false, false, false, false, false, false, false, false, false, false, false, false]) (env' := [(1, .pointer (some ⟨b_4, 0, none⟩)), (4, .bool within_8), (73, .bool false), (77, .bool (s_1.State == 4))]) (ps := [b_4 = b_4]) (hk := [0]) (bk := [0]) (by kernel_rfl) (And.intro rfl trivial) rfl rfl ?_
    refine GoF.bsplit (t := 77) (by kernel_rfl) (fun h29 => ?_) (fun h29 => ?_)
    · refine GoF.take [57, 58, 59, 60] [.p, .b 0, .p, .p] (ks := [1, 4, 73, 81]) (fu := 27) (li := [true, true, true, true, true, true, true, true, true, true, true, true, true, true, true, true, true, true, true, true, true, true, true, true, true, true, true, true, true, true, true, true, true, true, true, true, true, true, true, true, true, true, true, true, true, true, true, true, true, true, true, true, true, true, true, true, true, true, true, true, true, false, false, false, false, false, false, false, false, false, false, false, false, false, false, false, false, false, false, false, false, false, false, false, false, false, false, false]) (env' := [(1, .pointer (some ⟨b_4, 0, none⟩)), (4, .bool within_8), (73, .bool false), (81, .bool (s_1.Cursor == 0))]) (ps := [b_4 = b_4]) (hk := [0]) (bk := [0]) (by kernel_rfl) (And.intro rfl trivial) rfl rfl ?_
      exact GoF.sub (ks := [1, 4, 73, 81]) (hk := [0]) (bk := [0]) (by kernel_rfl) (by kernel_rfl) (by kernel_rfl) (tontineref14_Sound_j7_ok n s_1 within_8 A_2 c_3 b_4 w0 S0 (s_1.Cursor == 0))
    · refine GoF.take [57, 58, 59, 60] [.p, .p, .p, .p] (ks := [1, 4, 73, 81]) (fu := 27) (li := [true, true, true, true, true, true, true, true, true, true, true, true, true, true, true, true, true, true, true, true, true, true, true, true, true, true, true, true, true, true, true, true, true, true, true, true, true, true, true, true, true, true, true, true, true, true, true, true, true, true, true, true, true, true, true, true, true, true, true, true, true, false, false, false, false, false, false, false, false, false, false, false, false, false, false, false, false, false, false, false, false, false, false, false, false, false, false, false]) (env' := [(1, .pointer (some ⟨b_4, 0, none⟩)), (4, .bool within_8), (73, .bool false), (81, .bool false)]) (ps := []) (hk := [0]) (bk := [0]) (by kernel_rfl) trivial rfl rfl ?_
      exact GoF.sub (ks := [1, 4, 73, 81]) (hk := [0]) (bk := [0]) (by kernel_rfl) (by kernel_rfl) (by kernel_rfl) (tontineref14_Sound_j7_ok n s_1 within_8 A_2 c_3 b_4 w0 S0 false)
theorem tontineref14_Sound_j10_ok (n : Nat) (s_1 : T_api_Saga) (within_8 : Bool) (A_2 : Option Addr) (c_3 : Nat) (b_4 : Nat) (w0 : World) (S0 : Fam) (b_26 : Bool) :
    GoF (tontineref14_Sound.cx A_2 c_3 w0 S0) r26_15 [87] [⟨40, b_4, [.slice A_2 s_1.Steps.length c_3, .int .i64 s_1.State, .int .i64 s_1.Cursor, .int .i64 s_1.Failed]⟩] [Rd 0 kT_api_Step A_2 c_3 s_1.Steps] [.code c26_16] 37 [true, true, true, true, true, true, true, true, true, true, true, true, true, true, true, true, true, true, true, true, true, true, true, true, true, true, true, true, true, true, true, true, true, true, true, true, true, true, true, true, true, true, true, true, true, true, true, true, true, true, true, false, false, false, false, false, false, false, false, false, false, false, false, false, false, false, false, false, false, false, false, false, false, false, false, false, false, false, false, false, false, false, false, false, false, false, false, false] [(1, .pointer (some ⟨b_4, 0, none⟩)), (4, .bool within_8), (57, .bool false), (71, .bool b_26)] [⟨40, b_4, [.slice A_2 s_1.Steps.length c_3, .int .i64 s_1.State, .int .i64 s_1.Cursor, .int .i64 s_1.Failed]⟩] [Rd 0 kT_api_Step A_2 c_3 s_1.Steps] (tontineref14_Sound.j10 n s_1 within_8 b_26) := by
  unfold tontineref14_Sound.j10
  refine GoF.take [51] [.p] (ks := [1, 4, 72]) (fu := 36) (li := [true, true, true, true, true, true, true, true, true, true, true, true, true, true, true, true, true, true, true, true, true, true, true, true, true, true, true, true, true, true, true, true, true, true, true, true, true, true, true, true, true, true, true, true, true, true, true, true, true, true, true, true, false, false, false, false, false, false, false, false, false, false, false, false, false, false, false, false, false, false, false, false, false, false, false, false, false, false, false, false, false, false, false, false, false, false, false, false]) (env' := [(1, .pointer (some ⟨b_4, 0, none⟩)), (4, .bool within_8), (72, .bool b_26)]) (ps := []) (hk := [0]) (bk := [0]) (by kernel_rfl) trivial rfl rfl ?_
  exact GoF.sub (ks := [1, 4, 72]) (hk := [0]) (bk := [0]) (by kernel_rfl) (by kernel_rfl) (by kernel_rfl) (tontineref14_Sound_j4_ok n s_1 within_8 A_2 c_3 b_4 w0 S0 b_26)
theorem tontineref14_Sound_j9_ok (n : Nat) (s_1 : T_api_Saga) (within_8 : Bool) (A_2 : Option Addr) (c_3 : Nat) (b_4 : Nat) (w0 : World) (S0 : Fam) (b_24 : Bool) :
    GoF (tontineref14_Sound.cx A_2 c_3 w0 S0) r26_15 [87] [⟨40, b_4, [.slice A_2 s_1.Steps.length c_3, .int .i64 s_1.State, .int .i64 s_1.Cursor, .int .i64 s_1.Failed]⟩] [Rd 0 kT_api_Step A_2 c_3 s_1.Steps] [.code c26_16] 42 [true, true, true, true, true, true, true, true, true, true, true, true, true, true, true, true, true, true, true, true, true, true, true, true, true, true, true, true, true, true, true, true, true, true, true, true, true, true, true, true, true, true, true, true, true, true, false, false, false, false, false, false, false, false, false, false, false, false, false, false, false, false, false, false, false, false, false, false, false, false, false, false, false, false, false, false, false, false, false, false, false, false, false, false, false, false, false, false] [(1, .pointer (some ⟨b_4, 0, none⟩)), (4, .bool within_8), (57, .bool false), (66, .bool b_24)] [⟨40, b_4, [.slice A_2 s_1.Steps.length c_3, .int .i64 s_1.State, .int .i64 s_1.Cursor, .int .i64 s_1.Failed]⟩] [Rd 0 kT_api_Step A_2 c_3 s_1.Steps] (tontineref14_Sound.j9 n s_1 within_8 b_24) := by
  unfold tontineref14_Sound.j9
  refine GoF.take [46] [.p] (ks := [1, 4, 57, 67]) (fu := 41) (li := [true, true, true, true, true, true, true, true, true, true, true, true, true, true, true, true, true, true, true, true, true, true, true, true, true, true, true, true, true, true, true, true, true, true, true, true, true, true, true, true, true, true, true, true, true, true, true, false, false, false, false, false, false, false, false, false, false, false, false, false, false, false, false, false, false, false, false, false, false, false, false, false, false, false, false, false, false, false, false, false, false, false, false, false, false, false, false, false]) (env' := [(1, .pointer (some ⟨b_4, 0, none⟩)), (4, .bool within_8), (57, .bool false), (67, .bool b_24)]) (ps := []) (hk := [0]) (bk := [0]) (by kernel_rfl) trivial rfl rfl ?_
  refine GoF.bsplit (t := 67) (by kernel_rfl) (fun h25 => ?_) (fun h25 => ?_)
  · refine GoF.take [47, 48, 49, 50] [.p, .b 0, .p, .p] (ks := [1, 4, 57, 71]) (fu := 37) (li := [true, true, true, true, true, true, true, true, true, true, true, true, true, true, true, true, true, true, true, true, true, true, true, true, true, true, true, true, true, true, true, true, true, true, true, true, true, true, true, true, true, true, true, true, true, true, true, true, true, true, true, false, false, false, false, false, false, false, false, false, false, false, false, false, false, false, false, false, false, false, false, false, false, false, false, false, false, false, false, false, false, false, false, false, false, false, false, false]) (env' := [(1, .pointer (some ⟨b_4, 0, none⟩)), (4, .bool within_8), (57, .bool false), (71, .bool (s_1.Failed == 0))]) (ps := [b_4 = b_4]) (hk := [0]) (bk := [0]) (by kernel_rfl) (And.intro rfl trivial) rfl rfl ?_
    exact GoF.sub (ks := [1, 4, 57, 71]) (hk := [0]) (bk := [0]) (by kernel_rfl) (by kernel_rfl) (by kernel_rfl) (tontineref14_Sound_j10_ok n s_1 within_8 A_2 c_3 b_4 w0 S0 (s_1.Failed == 0))
  · refine GoF.take [47, 48, 49, 50] [.p, .p, .p, .p] (ks := [1, 4, 57, 71]) (fu := 37) (li := [true, true, true, true, true, true, true, true, true, true, true, true, true, true, true, true, true, true, true, true, true, true, true, true, true, true, true, true, true, true, true, true, true, true, true, true, true, true, true, true, true, true, true, true, true, true, true, true, true, true, true, false, false, false, false, false, false, false, false, false, false, false, false, false, false, false, false, false, false, false, false, false, false, false, false, false, false, false, false, false, false, false, false, false, false, false, false, false]) (env' := [(1, .pointer (some ⟨b_4, 0, none⟩)), (4, .bool within_8), (57, .bool false), (71, .bool false)]) (ps := []) (hk := [0]) (bk := [0]) (by kernel_rfl) trivial rfl rfl ?_
    exact GoF.sub (ks := [1, 4, 57, 71]) (hk := [0]) (bk := [0]) (by kernel_rfl) (by kernel_rfl) (by kernel_rfl) (tontineref14_Sound_j10_ok n s_1 within_8 A_2 c_3 b_4 w0 S0 false)
theorem tontineref14_Sound_j3_ok (n : Nat) (s_1 : T_api_Saga) (within_8 : Bool) (A_2 : Option Addr) (c_3 : Nat) (b_4 : Nat) (w0 : World) (S0 : Fam) (b_21 : Bool) :
    GoF (tontineref14_Sound.cx A_2 c_3 w0 S0) r26_15 [87] [⟨40, b_4, [.slice A_2 s_1.Steps.length c_3, .int .i64 s_1.State, .int .i64 s_1.Cursor, .int .i64 s_1.Failed]⟩] [Rd 0 kT_api_Step A_2 c_3 s_1.Steps] [.code c26_16] 52 [true, true, true, true, true, true, true, true, true, true, true, true, true, true, true, true, true, true, true, true, true, true, true, true, true, true, true, true, true, true, true, true, true, true, true, true, false, false, false, false, false, false, false, false, false, false, false, false, false, false, false, false, false, false, false, false, false, false, false, false, false, false, false, false, false, false, false, false, false, false, false, false, false, false, false, false, false, false, false, false, false, false, false, false, false, false, false, false] [(1, .pointer (some ⟨b_4, 0, none⟩)), (3, .int .i64 (s_1.Steps.length : Int)), (4, .bool within_8), (56, .bool b_21)] [⟨40, b_4, [.slice A_2 s_1.Steps.length c_3, .int .i64 s_1.State, .int .i64 s_1.Cursor, .int .i64 s_1.Failed]⟩] [Rd 0 kT_api_Step A_2 c_3 s_1.Steps] (tontineref14_Sound.j3 n s_1 within_8 b_21) := by
  unfold tontineref14_Sound.j3
  refine GoF.take [36] [.p] (ks := [1, 3, 4, 57]) (fu := 51) (li := [true, true, true, true, true, true, true, true, true, true, true, true, true, true, true, true, true, true, true, true, true, true, true, true, true, true, true, true, true, true, true, true, true, true, true, true, true, false, false, false, false, false, false, false, false, false, false, false, false, false, false, false, false, false, false, false, false, false, false, false, false, false, false, false, false, false, false, false, false, false, false, false, false, false, false, false, false, false, false, false, false, false, false, false, false, false, false, false]) (env' := [(1, .pointer (some ⟨b_4, 0, none⟩)), (3, .int .i64 (s_1.Steps.length : Int)), (4, .bool within_8), (57, .bool b_21)]) (ps := []) (hk := [0]) (bk := [0]) (by kernel_rfl) trivial rfl rfl ?_
  refine GoF.bsplit (t := 57) (by kernel_rfl) (fun h22 => ?_) (fun h22 => ?_)
  · refine GoF.take [37, 38, 39, 40, 41, 42, 43, 44, 45, 46, 47, 48, 49, 50, 51] [.p, .p, .p, .p, .p, .p, .p, .p, .p, .p, .p, .p, .p, .p, .p] (ks := [1, 4, 72]) (fu := 36) (li := [true, true, true, true, true, true, true, true, true, true, true, true, true, true, true, true, true, true, true, true, true, true, true, true, true, true, true, true, true, true, true, true, true, true, true, true, true, true, true, true, true, true, true, true, true, true, true, true, true, true, true, true, false, false, false, false, false, false, false, false, false, false, false, false, false, false, false, false, false, false, false, false, false, false, false, false, false, false, false, false, false, false, false, false, false, false, false, false]) (env' := [(1, .pointer (some ⟨b_4, 0, none⟩)), (4, .bool within_8), (72, .bool true)]) (ps := []) (hk := [0]) (bk := [0]) (by kernel_rfl) trivial rfl rfl ?_
    exact GoF.sub (ks := [1, 4, 72]) (hk := [0]) (bk := [0]) (by kernel_rfl) (by kernel_rfl) (by kernel_rfl) (tontineref14_Sound_j4_ok n s_1 within_8 A_2 c_3 b_4 w0 S0 true)
  · refine GoF.take [37, 38, 39, 40] [.p, .b 0, .p, .p] (ks := [1, 3, 4, 57, 61]) (fu := 47) (li := [true, true, true, true, true, true, true, true, true, true, true, true, true, true, true, true, true, true, true, true, true, true, true, true, true, true, true, true, true, true, true, true, true, true, true, true, true, true, true, true, true, false, false, false, false, false, false, false, false, false, false, false, false, false, false, false, false, false, false, false, false, false, false, false, false, false, false, false, false, false, false, false, false, false, false, false, false, false, false, false, false, false, false, false, false, false, false, false]) (env' := [(1, .pointer (some ⟨b_4, 0, none⟩)), (3, .int .i64 (s_1.Steps.length : Int)), (4, .bool within_8), (57, .bool false), (61, .bool (s_1.State == 3))]) (ps := [b_4 = b_4]) (hk := [0]) (bk := [0]) (by kernel_rfl) (And.intro rfl trivial) rfl rfl ?_
    refine GoF.bsplit (t := 61) (by kernel_rfl) (fun h23 => ?_) (fun h23 => ?_)
    · refine GoF.take [41, 42, 43, 44, 45] [.p, .b 0, .p, .p, .p] (ks := [1, 4, 57, 66]) (fu := 42) (li := [true, true, true, true, true, true, true, true, true, true, true, true, true, true, true, true, true, true, true, true, true, true, true, true, true, true, true, true, true, true, true, true, true, true, true, true, true, true, true, true, true, true, true, true, true, true, false, false, false, false, false, false, false, false, false, false, false, false, false, false, false, false, false, false, false, false, false, false, false, false, false, false, false, false, false, false, false, false, false, false, false, false, false, false, false, false, false, false]) (env' := [(1, .pointer (some ⟨b_4, 0, none⟩)), (4, .bool within_8), (57, .bool false), (66, .bool (s_1.Cursor == (s_1.Steps.length : Int)))]) (ps := [b_4 = b_4]) (hk := [0]) (bk := [0]) (by kernel_rfl) (And.intro rfl trivial) rfl rfl ?_
      exact GoF.sub (ks := [1, 4, 57, 66]) (hk := [0]) (bk := [0]) (by kernel_rfl) (by kernel_rfl) (by kernel_rfl) (tontineref14_Sound_j9_ok n s_1 within_8 A_2 c_3 b_4 w0 S0 (s_1.Cursor == (s_1.Steps.length : Int)))
    · refine GoF.take [41, 42, 43, 44, 45] [.p, .p, .p, .p, .p] (ks := [1, 4, 57, 66]) (fu := 42) (li := [true, true, true, true, true, true, true, true, true, true, true, true, true, true, true, true, true, true, true, true, true, true, true, true, true, true, true, true, true, true, true, true, true, true, true, true, true, true, true, true, true, true, true, true, true, true, false, false, false, false, false, false, false, false, false, false, false, false, false, false, false, false, false, false, false, false, false, false, false, false, false, false, false, false, false, false, false, false, false, false, false, false, false, false, false, false, false, false]) (env' := [(1, .pointer (some ⟨b_4, 0, none⟩)), (4, .bool within_8), (57, .bool false), (66, .bool false)]) (ps := []) (hk := [0]) (bk := [0]) (by kernel_rfl) trivial rfl rfl ?_
      exact GoF.sub (ks := [1, 4, 57, 66]) (hk := [0]) (bk := [0]) (by kernel_rfl) (by kernel_rfl) (by kernel_rfl) (tontineref14_Sound_j9_ok n s_1 within_8 A_2 c_3 b_4 w0 S0 false)
theorem tontineref14_Sound_j13_ok (n : Nat) (s_1 : T_api_Saga) (within_8 : Bool) (A_2 : Option Addr) (c_3 : Nat) (b_4 : Nat) (w0 : World) (S0 : Fam) (b_20 : Bool) :
    GoF (tontineref14_Sound.cx A_2 c_3 w0 S0) r26_15 [87] [⟨40, b_4, [.slice A_2 s_1.Steps.length c_3, .int .i64 s_1.State, .int .i64 s_1.Cursor, .int .i64 s_1.Failed]⟩] [Rd 0 kT_api_Step A_2 c_3 s_1.Steps] [.code c26_16] 53 [true, true, true, true, true, true, true, true, true, true, true, true, true, true, true, true, true, true, true, true, true, true, true, true, true, true, true, true, true, true, true, true, true, true, true, false, false, false, false, false, false, false, false, false, false, false, false, false, false, false, false, false, false, false, false, false, false, false, false, false, false, false, false, false, false, false, false, false, false, false, false, false, false, false, false, false, false, false, false, false, false, false, false, false, false, false, false, false] [(1, .pointer (some ⟨b_4, 0, none⟩)), (3, .int .i64 (s_1.Steps.length : Int)), (4, .bool within_8), (32, .bool false), (55, .bool b_20)] [⟨40, b_4, [.slice A_2 s_1.Steps.length c_3, .int .i64 s_1.State, .int .i64 s_1.Cursor, .int .i64 s_1.Failed]⟩] [Rd 0 kT_api_Step A_2 c_3 s_1.Steps] (tontineref14_Sound.j13 n s_1 within_8 b_20) := by
  unfold tontineref14_Sound.j13
  refine GoF.take [35] [.p] (ks := [1, 3, 4, 56]) (fu := 52) (li := [true, true, true, true, true, true, true, true, true, true, true, true, true, true, true, true, true, true, true, true, true, true, true, true, true, true, true, true, true, true, true, true, true, true, true, true, false, false, false, false, false, false, false, false, false, false, false, false, false, false, false, false, false, false, false, false, false, false, false, false, false, false, false, false, false, false, false, false, false, false, false, false, false, false, false, false, false, false, false, false, false, false, false, false, false, false, false, false]) (env' := [(1, .pointer (some ⟨b_4, 0, none⟩)), (3, .int .i64 (s_1.Steps.length : Int)), (4, .bool within_8), (56, .bool b_20)]) (ps := []) (hk := [0]) (bk := [0]) (by kernel_rfl) trivial rfl rfl ?_
  exact GoF.sub (ks := [1, 3, 4, 56]) (hk := [0]) (bk := [0]) (by kernel_rfl) (by kernel_rfl) (by kernel_rfl) (tontineref14_Sound_j3_ok n s_1 within_8 A_2 c_3 b_4 w0 S0 b_20)
theorem tontineref14_Sound_j12_ok (n : Nat) (s_1 : T_api_Saga) (within_8 : Bool) (A_2 : Option Addr) (c_3 : Nat) (b_4 : Nat) (w0 : World) (S0 : Fam) (b_17 : Bool) :
    GoF (tontineref14_Sound.cx A_2 c_3 w0 S0) r26_15 [87] [⟨40, b_4, [.slice A_2 s_1.Steps.length c_3, .int .i64 s_1.State, .int .i64 s_1.Cursor, .int .i64 s_1.Failed]⟩] [Rd 0 kT_api_Step A_2 c_3 s_1.Steps] [.code c26_16] 65 [true, true, true, true, true, true, true, true, true, true, true, true, true, true, true, true, true, true, true, true, true, true, true, false, false, false, false, false, false, false, false, false, false, false, false, false, false, false, false, false, false, false, false, false, false, false, false, false, false, false, false, false, false, false, false, false, false, false, false, false, false, false, false, false, false, false, false, false, false, false, false, false, false, false, false, false, false, false, false, false, false, false, false, false, false, false, false, false] [(1, .pointer (some ⟨b_4, 0, none⟩)), (3, .int .i64 (s_1.Steps.length : Int)), (4, .bool within_8), (32, .bool false), (43, .bool b_17)] [⟨40, b_4, [.slice A_2 s_1.Steps.length c_3, .int .i64 s_1.State, .int .i64 s_1.Cursor, .int .i64 s_1.Failed]⟩] [Rd 0 kT_api_Step A_2 c_3 s_1.Steps] (tontineref14_Sound.j12 n s_1 within_8 b_17) := by
  unfold tontineref14_Sound.j12
  refine GoF.take [23] [.p] (ks := [1, 3, 4, 32, 44]) (fu := 64) (li := [true, true, true, true, true, true, true, true, true, true, true, true, true, true, true, true, true, true, true, true, true, true, true, true, false, false, false, false, false, false, false, false, false, false, false, false, false, false, false, false, false, false, false, false, false, false, false, false, false, false, false, false, false, false, false, false, false, false, false, false, false, false, false, false, false, false, false, false, false, false, false, false, false, false, false, false, false, false, false, false, false, false, false, false, false, false, false, false]) (env' := [(1, .pointer (some ⟨b_4, 0, none⟩)), (3, .int .i64 (s_1.Steps.length : Int)), (4, .bool within_8), (32, .bool false), (44, .bool b_17)]) (ps := []) (hk := [0]) (bk := [0]) (by kernel_rfl) trivial rfl rfl ?_
  refine GoF.bsplit (t := 44) (by kernel_rfl) (fun h18 => ?_) (fun h18 => ?_)
  · refine GoF.take [24, 25, 26, 27, 28, 29] [.p, .b 0, .p, .b 0, .p, .b 0] (ks := [1, 3, 4, 32, 44, 46, 48, 50]) (fu := 58) (li := [true, true, true, true, true, true, true, true, true, true, true, true, true, true, true, true, true, true, true, true, true, true, true, true, true, true, true, true, true, true, false, false, false, false, false, false, false, false, false, false, false, false, false, false, false, false, false, false, false, false, false, false, false, false, false, false, false, false, false, false, false, false, false, false, false, false, false, false, false, false, false, false, false, false, false, false, false, false, false, false, false, false, false, false, false, false, false, false]) (env' := [(1, .pointer (some ⟨b_4, 0, none⟩)), (3, .int .i64 (s_1.Steps.length : Int)), (4, .bool within_8), (32, .bool false), (44, .bool true), (46, .int .i64 s_1.Failed), (48, .slice A_2 s_1.Steps.length c_3), (50, .int .i64 s_1.Cursor)]) (ps := [b_4 = b_4, b_4 = b_4, b_4 = b_4]) (hk := [0]) (bk := [0]) (by kernel_rfl) (And.intro rfl (And.intro rfl (And.intro rfl trivial))) rfl rfl ?_
    refine GoF.guard (fun h19 => ?_)
    refine GoF.idx (i := 30) (hk := [0]) (bk := [0]) (kk := .i64) (e := 50) (K := kT_api_Step) (A := A_2) (c := c_3) (xs := s_1.Steps) (iv := s_1.Cursor) (j := 0) (by kernel_rfl) rfl rfl rfl (by kernel_rfl) (by kernel_rfl) (by kernel_rfl) (by kernel_rfl) rfl Reads.rd rfl h19.1 h19.2 (by decide) rfl ?_
    refine GoF.fldE (i := 31) (hk := [0]) (bk := [0]) (K := kT_api_Step) (A := A_2) (c := c_3) (xs := s_1.Steps) (iN := s_1.Cursor.toNat) (off := 0) (n := 2) (j := 0) (by kernel_rfl) rfl rfl rfl (by kernel_rfl) (by kernel_rfl) rfl Reads.rd (idx_lt h19.1 h19.2) (by decide) rfl ?_
    refine GoF.ldE (i := 32) (hk := [0]) (bk := [0]) (K := kT_api_Step) (A := A_2) (c := c_3) (xs := s_1.Steps) (iN := s_1.Cursor.toNat) (off := 2) (j := 0) (v := .int .i64 ((rdL s_1.Steps s_1.Cursor).Budget)) (by kernel_rfl) rfl rfl rfl (hK := rfl) (by kernel_rfl) rfl Reads.rd (idx_lt h19.1 h19.2) (by decide) (by kernel_rfl) rfl ?_
    refine GoF.take [33, 34] [.p, .p] (ks := [1, 3, 4, 32, 55]) (fu := 53) (li := [true, true, true, true, true, true, true, true, true, true, true, true, true, true, true, true, true, true, true, true, true, true, true, true, true, true, true, true, true, true, true, true, true, true, true, false, false, false, false, false, false, false, false, false, false, false, false, false, false, false, false, false, false, false, false, false, false, false, false, false, false, false, false, false, false, false, false, false, false, false, false, false, false, false, false, false, false, false, false, false, false, false, false, false, false, false, false, false]) (env' := [(1, .pointer (some ⟨b_4, 0, none⟩)), (3, .int .i64 (s_1.Steps.length : Int)), (4, .bool within_8), (32, .bool false), (55, .bool (decide (s_1.Failed < ((rdL s_1.Steps s_1.Cursor).Budget))))]) (ps := []) (hk := [0]) (bk := [0]) (by kernel_rfl) trivial rfl rfl ?_
    exact GoF.sub (ks := [1, 3, 4, 32, 55]) (hk := [0]) (bk := [0]) (by kernel_rfl) (by kernel_rfl) (by kernel_rfl) (tontineref14_Sound_j13_ok n s_1 within_8 A_2 c_3 b_4 w0 S0 (decide (s_1.Failed < ((rdL s_1.Steps s_1.Cursor).Budget))))
  · refine GoF.take [24, 25, 26, 27, 28, 29, 30, 31, 32, 33, 34] [.p, .p, .p, .p, .p, .p, .p, .p, .p, .p, .p] (ks := [1, 3, 4, 32, 55]) (fu := 53) (li := [true, true, true, true, true, true, true, true, true, true, true, true, true, true, true, true, true, true, true, true, true, true, true, true, true, true, true, true, true, true, true, true, true, true, true, false, false, false, false, false, false, false, false, false, false, false, false, false, false, false, false, false, false, false, false, false, false, false, false, false, false, false, false, false, false, false, false, false, false, false, false, false, false, false, false, false, false, false, false, false, false, false, false, false, false, false, false, false]) (env' := [(1, .pointer (some ⟨b_4, 0, none⟩)), (3, .int .i64 (s_1.Steps.length : Int)), (4, .bool within_8), (32, .bool false), (55, .bool false)]) (ps := []) (hk := [0]) (bk := [0]) (by kernel_rfl) trivial rfl rfl ?_
    exact GoF.sub (ks := [1, 3, 4, 32, 55]) (hk := [0]) (bk := [0]) (by kernel_rfl) (by kernel_rfl) (by kernel_rfl) (tontineref14_Sound_j13_ok n s_1 within_8 A_2 c_3 b_4 w0 S0 false)
theorem tontineref14_Sound_j11_ok (n : Nat) (s_1 : T_api_Saga) (within_8 : Bool) (A_2 : Option Addr) (c_3 : Nat) (b_4 : Nat) (w0 : World) (S0 : Fam) (b_15 : Bool) :
    GoF (tontineref14_Sound.cx A_2 c_3 w0 S0) r26_15 [87] [⟨40, b_4, [.slice A_2 s_1.Steps.length c_3, .int .i64 s_1.State, .int .i64 s_1.Cursor, .int .i64 s_1.Failed]⟩] [Rd 0 kT_api_Step A_2 c_3 s_1.Steps] [.code c26_16] 70 [true, true, true, true, true, true, true, true, true, true, true, true, true, true, true, true, true, true, false, false, false, false, false, false, false, false, false, false, false, false, false, false, false, false, false, false, false, false, false, false, false, false, false, false, false, false, false, false, false, false, false, false, false, false, false, false, false, false, false, false, false, false, false, false, false, false, false, false, false, false, false, false, false, false, false, false, false, false, false, false, false, false, false, false, false, false, false, false] [(1, .pointer (some ⟨b_4, 0, none⟩)), (3, .int .i64 (s_1.Steps.length : Int)), (4, .bool within_8), (32, .bool false), (38, .bool b_15)] [⟨40, b_4, [.slice A_2 s_1.Steps.length c_3, .int .i64 s_1.State, .int .i64 s_1.Cursor, .int .i64 s_1.Failed]⟩] [Rd 0 kT_api_Step A_2 c_3 s_1.Steps] (tontineref14_Sound.j11 n s_1 within_8 b_15) := by
  unfold tontineref14_Sound.j11
  refine GoF.take [18] [.p] (ks := [1, 3, 4, 32, 39]) (fu := 69) (li := [true, true, true, true, true, true, true, true, true, true, true, true, true, true, true, true, true, true, true, false, false, false, false, false, false, false, false, false, false, false, false, false, false, false, false, false, false, false, false, false, false, false, false, false, false, false, false, false, false, false, false, false, false, false, false, false, false, false, false, false, false, false, false, false, false, false, false, false, false, false, false, false, false, false, false, false, false, false, false, false, false, false, false, false, false, false, false, false]) (env' := [(1, .pointer (some ⟨b_4, 0, none⟩)), (3, .int .i64 (s_1.Steps.length : Int)), (4, .bool within_8), (32, .bool false), (39, .bool b_15)]) (ps := []) (hk := [0]) (bk := [0]) (by kernel_rfl) trivial rfl rfl ?_
  refine GoF.bsplit (t := 39) (by kernel_rfl) (fun h16 => ?_) (fun h16 => ?_)
  · refine GoF.take [19, 20, 21, 22] [.p, .b 0, .p, .p] (ks := [1, 3, 4, 32, 43]) (fu := 65) (li := [true, true, true, true, true, true, true, true, true, true, true, true, true, true, true, true, true, true, true, true, true, true, true, false, false, false, false, false, false, false, false, false, false, false, false, false, false, false, false, false, false, false, false, false, false, false, false, false, false, false, false, false, false, false, false, false, false, false, false, false, false, false, false, false, false, false, false, false, false, false, false, false, false, false, false, false, false, false, false, false, false, false, false, false, false, false, false, false]) (env' := [(1, .pointer (some ⟨b_4, 0, none⟩)), (3, .int .i64 (s_1.Steps.length : Int)), (4, .bool within_8), (32, .bool false), (43, .bool (decide (s_1.Failed ≥ 0)))]) (ps := [b_4 = b_4]) (hk := [0]) (bk := [0]) (by kernel_rfl) (And.intro rfl trivial) rfl rfl ?_
    exact GoF.sub (ks := [1, 3, 4, 32, 43]) (hk := [0]) (bk := [0]) (by kernel_rfl) (by kernel_rfl) (by kernel_rfl) (tontineref14_Sound_j12_ok n s_1 within_8 A_2 c_3 b_4 w0 S0 (decide (s_1.Failed ≥ 0)))
  · refine GoF.take [19, 20, 21, 22] [.p, .p, .p, .p] (ks := [1, 3, 4, 32, 43]) (fu := 65) (li := [true, true, true, true, true, true, true, true, true, true, true, true, true, true, true, true, true, true, true, true, true, true, true, false, false, false, false, false, false, false, false, false, false, false, false, false, false, false, false, false, false, false, false, false, false, false, false, false, false, false, false, false, false, false, false, false, false, false, false, false, false, false, false, false, false, false, false, false, false, false, false, false, false, false, false, false, false, false, false, false, false, false, false, false, false, false, false, false]) (env' := [(1, .pointer (some ⟨b_4, 0, none⟩)), (3, .int .i64 (s_1.Steps.length : Int)), (4, .bool within_8), (32, .bool false), (43, .bool false)]) (ps := []) (hk := [0]) (bk := [0]) (by kernel_rfl) trivial rfl rfl ?_
    exact GoF.sub (ks := [1, 3, 4, 32, 43]) (hk := [0]) (bk := [0]) (by kernel_rfl) (by kernel_rfl) (by kernel_rfl) (tontineref14_Sound_j12_ok n s_1 within_8 A_2 c_3 b_4 w0 S0 false)
theorem tontineref14_Sound_j2_ok (n : Nat) (s_1 : T_api_Saga) (within_8 : Bool) (A_2 : Option Addr) (c_3 : Nat) (b_4 : Nat) (w0 : World) (S0 : Fam) (b_12 : Bool) :
    GoF (tontineref14_Sound.cx A_2 c_3 w0 S0) r26_15 [87] [⟨40, b_4, [.slice A_2 s_1.Steps.length c_3, .int .i64 s_1.State, .int .i64 s_1.Cursor, .int .i64 s_1.Failed]⟩] [Rd 0 kT_api_Step A_2 c_3 s_1.Steps] [.code c26_16] 77 [true, true, true, true, true, true, true, true, true, true, true, false, false, false, false, false, false, false, false, false, false, false, false, false, false, false, false, false, false, false, false, false, false, false, false, false, false, false, false, false, false, false, false, false, false, false, false, false, false, false, false, false, false, false, false, false, false, false, false, false, false, false, false, false, false, false, false, false, false, false, false, false, false, false, false, false, false, false, false, false, false, false, false, false, false, false, false, false] [(1, .pointer (some ⟨b_4, 0, none⟩)), (3, .int .i64 (s_1.Steps.length : Int)), (4, .bool within_8), (31, .bool b_12)] [⟨40, b_4, [.slice A_2 s_1.Steps.length c_3, .int .i64 s_1.State, .int .i64 s_1.Cursor, .int .i64 s_1.Failed]⟩] [Rd 0 kT_api_Step A_2 c_3 s_1.Steps] (tontineref14_Sound.j2 n s_1 within_8 b_12) := by
  unfold tontineref14_Sound.j2
  refine GoF.take [11] [.p] (ks := [1, 3, 4, 32]) (fu := 76) (li := [true, true, true, true, true, true, true, true, true, true, true, true, false, false, false, false, false, false, false, false, false, false, false, false, false, false, false, false, false, false, false, false, false, false, false, false, false, false, false, false, false, false, false, false, false, false, false, false, false, false, false, false, false, false, false, false, false, false, false, false, false, false, false, false, false, false, false, false, false, false, false, false, false, false, false, false, false, false, false, false, false, false, false, false, false, false, false, false]) (env' := [(1, .pointer (some ⟨b_4, 0, none⟩)), (3, .int .i64 (s_1.Steps.length : Int)), (4, .bool within_8), (32, .bool b_12)]) (ps := []) (hk := [0]) (bk := [0]) (by kernel_rfl) trivial rfl rfl ?_
  refine GoF.bsplit (t := 32) (by kernel_rfl) (fun h13 => ?_) (fun h13 => ?_)
  · refine GoF.take [12, 13, 14, 15, 16, 17, 18, 19, 20, 21, 22, 23, 24, 25, 26, 27, 28, 29, 30, 31, 32, 33, 34, 35] [.p, .p, .p, .p, .p, .p, .p, .p, .p, .p, .p, .p, .p, .p, .p, .p, .p, .p, .p, .p, .p, .p, .p, .p] (ks := [1, 3, 4, 56]) (fu := 52) (li := [true, true, true, true, true, true, true, true, true, true, true, true, true, true, true, true, true, true, true, true, true, true, true, true, true, true, true, true, true, true, true, true, true, true, true, true, false, false, false, false, false, false, false, false, false, false, false, false, false, false, false, false, false, false, false, false, false, false, false, false, false, false, false, false, false, false, false, false, false, false, false, false, false, false, false, false, false, false, false, false, false, false, false, false, false, false, false, false]) (env' := [(1, .pointer (some ⟨b_4, 0, none⟩)), (3, .int .i64 (s_1.Steps.length : Int)), (4, .bool within_8), (56, .bool true)]) (ps := []) (hk := [0]) (bk := [0]) (by kernel_rfl) trivial rfl rfl ?_
    exact GoF.sub (ks := [1, 3, 4, 56]) (hk := [0]) (bk := [0]) (by kernel_rfl) (by kernel_rfl) (by kernel_rfl) (tontineref14_Sound_j3_ok n s_1 within_8 A_2 c_3 b_4 w0 S0 true)
  · refine GoF.take [12, 13, 14, 15] [.p, .b 0, .p, .p] (ks := [1, 3, 4, 32, 36]) (fu := 72) (li := [true, true, true, true, true, true, true, true, true, true, true, true, true, true, true, true, false, false, false, false, false, false, false, false, false, false, false, false, false, false, false, false, false, false, false, false, false, false, false, false, false, false, false, false, false, false, false, false, false, false, false, false, false, false, false, false, false, false, false, false, false, false, false, false, false, false, false, false, false, false, false, false, false, false, false, false, false, false, false, false, false, false, false, false, false, false, false, false]) (env' := [(1, .pointer (some ⟨b_4, 0, none⟩)), (3, .int .i64 (s_1.Steps.length : Int)), (4, .bool within_8), (32, .bool false), (36, .bool (s_1.State == 2))]) (ps := [b_4 = b_4]) (hk := [0]) (bk := [0]) (by kernel_rfl) (And.intro rfl trivial) rfl rfl ?_
    refine GoF.bsplit (t := 36) (by kernel_rfl) (fun h14 => ?_) (fun h14 => ?_)
    · refine GoF.take [16, 17] [.p, .p] (ks := [1, 3, 4, 32, 38]) (fu := 70) (li := [true, true, true, true, true, true, true, true, true, true, true, true, true, true, true, true, true, true, false, false, false, false, false, false, false, false, false, false, false, false, false, false, false, false, false, false, false, false, false, false, false, false, false, false, false, false, false, false, false, false, false, false, false, false, false, false, false, false, false, false, false, false, false, false, false, false, false, false, false, false, false, false, false, false, false, false, false, false, false, false, false, false, false, false, false, false, false, false]) (env' := [(1, .pointer (some ⟨b_4, 0, none⟩)), (3, .int .i64 (s_1.Steps.length : Int)), (4, .bool within_8), (32, .bool false), (38, .bool within_8)]) (ps := []) (hk := [0]) (bk := [0]) (by kernel_rfl) trivial rfl rfl ?_
      exact GoF.sub (ks := [1, 3, 4, 32, 38]) (hk := [0]) (bk := [0]) (by kernel_rfl) (by kernel_rfl) (by kernel_rfl) (tontineref14_Sound_j11_ok n s_1 within_8 A_2 c_3 b_4 w0 S0 within_8)
    · refine GoF.take [16, 17] [.p, .p] (ks := [1, 3, 4, 32, 38]) (fu := 70) (li := [true, true, true, true, true, true, true, true, true, true, true, true, true, true, true, true, true, true, false, false, false, false, false, false, false, false, false, false, false, false, false, false, false, false, false, false, false, false, false, false, false, false, false, false, false, false, false, false, false, false, false, false, false, false, false, false, false, false, false, false, false, false, false, false, false, false, false, false, false, false, false, false, false, false, false, false, false, false, false, false, false, false, false, false, false, false, false, false]) (env' := [(1, .pointer (some ⟨b_4, 0, none⟩)), (3, .int .i64 (s_1.Steps.length : Int)), (4, .bool within_8), (32, .bool false), (38, .bool false)]) (ps := []) (hk := [0]) (bk := [0]) (by kernel_rfl) trivial rfl rfl ?_
      exact GoF.sub (ks := [1, 3, 4, 32, 38]) (hk := [0]) (bk := [0]) (by kernel_rfl) (by kernel_rfl) (by kernel_rfl) (tontineref14_Sound_j11_ok n s_1 within_8 A_2 c_3 b_4 w0 S0 false)
theorem tontineref14_Sound_j1_ok (n : Nat) (s_1 : T_api_Saga) (within_8 : Bool) (A_2 : Option Addr) (c_3 : Nat) (b_4 : Nat) (w0 : World) (S0 : Fam) (b_10 : Bool) :
    GoF (tontineref14_Sound.cx A_2 c_3 w0 S0) r26_15 [87] [⟨40, b_4, [.slice A_2 s_1.Steps.length c_3, .int .i64 s_1.State, .int .i64 s_1.Cursor, .int .i64 s_1.Failed]⟩] [Rd 0 kT_api_Step A_2 c_3 s_1.Steps] [.code c26_16] 82 [true, true, true, true, true, true, false, false, false, false, false, false, false, false, false, false, false, false, false, false, false, false, false, false, false, false, false, false, false, false, false, false, false, false, false, false, false, false, false, false, false, false, false, false, false, false, false, false, false, false, false, false, false, false, false, false, false, false, false, false, false, false, false, false, false, false, false, false, false, false, false, false, false, false, false, false, false, false, false, false, false, false, false, false, false, false, false, false] [(1, .pointer (some ⟨b_4, 0, none⟩)), (3, .int .i64 (s_1.Steps.length : Int)), (4, .bool within_8), (26, .bool b_10)] [⟨40, b_4, [.slice A_2 s_1.Steps.length c_3, .int .i64 s_1.State, .int .i64 s_1.Cursor, .int .i64 s_1.Failed]⟩] [Rd 0 kT_api_Step A_2 c_3 s_1.Steps] (tontineref14_Sound.j1 n s_1 within_8 b_10) := by
  unfold tontineref14_Sound.j1
  refine GoF.take [6] [.p] (ks := [1, 3, 4, 27]) (fu := 81) (li := [true, true, true, true, true, true, true, false, false, false, false, false, false, false, false, false, false, false, false, false, false, false, false, false, false, false, false, false, false, false, false, false, false, false, false, false, false, false, false, false, false, false, false, false, false, false, false, false, false, false, false, false, false, false, false, false, false, false, false, false, false, false, false, false, false, false, false, false, false, false, false, false, false, false, false, false, false, false, false, false, false, false, false, false, false, false, false, false]) (env' := [(1, .pointer (some ⟨b_4, 0, none⟩)), (3, .int .i64 (s_1.Steps.length : Int)), (4, .bool within_8), (27, .bool b_10)]) (ps := []) (hk := [0]) (bk := [0]) (by kernel_rfl) trivial rfl rfl ?_
  refine GoF.bsplit (t := 27) (by kernel_rfl) (fun h11 => ?_) (fun h11 => ?_)
  · refine GoF.take [7, 8, 9, 10] [.p, .b 0, .p, .p] (ks := [1, 3, 4, 31]) (fu := 77) (li := [true, true, true, true, true, true, true, true, true, true, true, false, false, false, false, false, false, false, false, false, false, false, false, false, false, false, false, false, false, false, false, false, false, false, false, false, false, false, false, false, false, false, false, false, false, false, false, false, false, false, false, false, false, false, false, false, false, false, false, false, false, false, false, false, false, false, false, false, false, false, false, false, false, false, false, false, false, false, false, false, false, false, false, false, false, false, false, false]) (env' := [(1, .pointer (some ⟨b_4, 0, none⟩)), (3, .int .i64 (s_1.Steps.length : Int)), (4, .bool within_8), (31, .bool (s_1.Failed == 0))]) (ps := [b_4 = b_4]) (hk := [0]) (bk := [0]) (by kernel_rfl) (And.intro rfl trivial) rfl rfl ?_
    exact GoF.sub (ks := [1, 3, 4, 31]) (hk := [0]) (bk := [0]) (by kernel_rfl) (by kernel_rfl) (by kernel_rfl) (tontineref14_Sound_j2_ok n s_1 within_8 A_2 c_3 b_4 w0 S0 (s_1.Failed == 0))
  · refine GoF.take [7, 8, 9, 10] [.p, .p, .p, .p] (ks := [1, 3, 4, 31]) (fu := 77) (li := [true, true, true, true, true, true, true, true, true, true, true, false, false, false, false, false, false, false, false, false, false, false, false, false, false, false, false, false, false, false, false, false, false, false, false, false, false, false, false, false, false, false, false, false, false, false, false, false, false, false, false, false, false, false, false, false, false, false, false, false, false, false, false, false, false, false, false, false, false, false, false, false, false, false, false, false, false, false, false, false, false, false, false, false, false, false, false, false]) (env' := [(1, .pointer (some ⟨b_4, 0, none⟩)), (3, .int .i64 (s_1.Steps.length : Int)), (4, .bool within_8), (31, .bool false)]) (ps := []) (hk := [0]) (bk := [0]) (by kernel_rfl) trivial rfl rfl ?_
    exact GoF.sub (ks := [1, 3, 4, 31]) (hk := [0]) (bk := [0]) (by kernel_rfl) (by kernel_rfl) (by kernel_rfl) (tontineref14_Sound_j2_ok n s_1 within_8 A_2 c_3 b_4 w0 S0 false)
theorem tontineref14_Sound_j0_ok (n : Nat) (s_1 : T_api_Saga) (A_2 : Option Addr) (c_3 : Nat) (b_4 : Nat) (w0 : World) (S0 : Fam) (within_8 : Bool) :
    GoO (tontineref14_Sound.cx A_2 c_3 w0 S0) [(1, .pointer (some ⟨b_4, 0, none⟩)), (3, .int .i64 (s_1.Steps.length : Int)), (4, .bool within_8)] [⟨40, b_4, [.slice A_2 s_1.Steps.length c_3, .int .i64 s_1.State, .int .i64 s_1.Cursor, .int .i64 s_1.Failed]⟩] [Rd 0 kT_api_Step A_2 c_3 s_1.Steps] [.code c26_14] (tontineref14_Sound.j0 n s_1 within_8) := by
  unfold tontineref14_Sound.j0
  refine GoO.seq' c26_14e ?_
  refine GoO.draw c26_15e (by kernel_rfl) [87] [⟨40, b_4, [.slice A_2 s_1.Steps.length c_3, .int .i64 s_1.State, .int .i64 s_1.Cursor, .int .i64 s_1.Failed]⟩] [Rd 0 kT_api_Step A_2 c_3 s_1.Steps] (n := 88) (by kernel_rfl) ?_
  simp only [List.replicate]
  refine GoF.take [0, 1, 2, 3] [.p, .b 0, .p, .p] (ks := [1, 3, 4, 24]) (fu := 84) (li := [true, true, true, true, false, false, false, false, false, false, false, false, false, false, false, false, false, false, false, false, false, false, false, false, false, false, false, false, false, false, false, false, false, false, false, false, false, false, false, false, false, false, false, false, false, false, false, false, false, false, false, false, false, false, false, false, false, false, false, false, false, false, false, false, false, false, false, false, false, false, false, false, false, false, false, false, false, false, false, false, false, false, false, false, false, false, false, false]) (env' := [(1, .pointer (some ⟨b_4, 0, none⟩)), (3, .int .i64 (s_1.Steps.length : Int)), (4, .bool within_8), (24, .bool (s_1.State == 1))]) (ps := [b_4 = b_4]) (hk := [0]) (bk := [0]) (by kernel_rfl) (And.intro rfl trivial) rfl rfl ?_
  refine GoF.bsplit (t := 24) (by kernel_rfl) (fun h9 => ?_) (fun h9 => ?_)
  · refine GoF.take [4, 5] [.p, .p] (ks := [1, 3, 4, 26]) (fu := 82) (li := [true, true, true, true, true, true, false, false, false, false, false, false, false, false, false, false, false, false, false, false, false, false, false, false, false, false, false, false, false, false, false, false, false, false, false, false, false, false, false, false, false, false, false, false, false, false, false, false, false, false, false, false, false, false, false, false, false, false, false, false, false, false, false, false, false, false, false, false, false, false, false, false, false, false, false, false, false, false, false, false, false, false, false, false, false, false, false, false]) (env' := [(1, .pointer (some ⟨b_4, 0, none⟩)), (3, .int .i64 (s_1.Steps.length : Int)), (4, .bool within_8), (26, .bool within_8)]) (ps := []) (hk := [0]) (bk := [0]) (by kernel_rfl) trivial rfl rfl ?_
    exact GoF.sub (ks := [1, 3, 4, 26]) (hk := [0]) (bk := [0]) (by kernel_rfl) (by kernel_rfl) (by kernel_rfl) (tontineref14_Sound_j1_ok n s_1 within_8 A_2 c_3 b_4 w0 S0 within_8)
  · refine GoF.take [4, 5] [.p, .p] (ks := [1, 3, 4, 26]) (fu := 82) (li := [true, true, true, true, true, true, false, false, false, false, false, false, false, false, false, false, false, false, false, false, false, false, false, false, false, false, false, false, false, false, false, false, false, false, false, false, false, false, false, false, false, false, false, false, false, false, false, false, false, false, false, false, false, false, false, false, false, false, false, false, false, false, false, false, false, false, false, false, false, false, false, false, false, false, false, false, false, false, false, false, false, false, false, false, false, false, false, false]) (env' := [(1, .pointer (some ⟨b_4, 0, none⟩)), (3, .int .i64 (s_1.Steps.length : Int)), (4, .bool within_8), (26, .bool false)]) (ps := []) (hk := [0]) (bk := [0]) (by kernel_rfl) trivial rfl rfl ?_
    exact GoF.sub (ks := [1, 3, 4, 26]) (hk := [0]) (bk := [0]) (by kernel_rfl) (by kernel_rfl) (by kernel_rfl) (tontineref14_Sound_j1_ok n s_1 within_8 A_2 c_3 b_4 w0 S0 false)
theorem tontineref14_Sound_ok (n : Nat) (s_1 : T_api_Saga) (A_2 : Option Addr) (c_3 : Nat) :
    Meets Try.prog 26 [.agg ⟨[.slice A_2 s_1.Steps.length c_3, .int .i64 s_1.State, .int .i64 s_1.Cursor, .int .i64 s_1.Failed]⟩] 0 [] [] [Rd 0 kT_api_Step A_2 c_3 s_1.Steps] (tontineref14_Sound.f n s_1) (tontineref14_Sound.R A_2 c_3) := by
  refine Meets.of (c := c26_0) (n := 108) Try.func26 (by kernel_rfl) (by kernel_rfl) (by kernel_rfl) fun w0 S0 => ?_
  unfold tontineref14_Sound.f
  show GoO (tontineref14_Sound.cx A_2 c_3 w0 S0) [(0, .agg ⟨[.slice A_2 s_1.Steps.length c_3, .int .i64 s_1.State, .int .i64 s_1.Cursor, .int .i64 s_1.Failed]⟩)] [] [Rd 0 kT_api_Step A_2 c_3 s_1.Steps] [.code c26_0] _
  refine GoO.seq' c26_0e ?_
  refine GoO.region' (is := [0, 1]) c26_1e (by kernel_rfl) ?_
  refine OpTo.go (GoO.new rfl 40 (cs := [.slice A_2 s_1.Steps.length c_3, .int .i64 s_1.State, .int .i64 s_1.Cursor, .int .i64 s_1.Failed]) (by kernel_rfl) _ (fun _ => rfl) (fun b_4 => ?_))
  refine GoO.exec (is := [1]) (hs := [.p]) (rest := []) (ks := [1]) (env' := [(1, .pointer (some ⟨b_4, 0, none⟩))]) (H' := [⟨40, b_4, [.slice A_2 s_1.Steps.length c_3, .int .i64 s_1.State, .int .i64 s_1.Cursor, .int .i64 s_1.Failed]⟩]) (ps := []) (by kernel_rfl) trivial ?_
  refine GoO.regionEnd ?_
  refine GoO.seq' c26_2e ?_
  refine GoO.seq' c26_3e ?_
  refine GoO.region' (is := [0, 1, 2, 3]) c26_4e (by kernel_rfl) ?_
  refine GoO.exec (is := [0, 1]) (hs := [.p, .b 0]) (rest := [2, 3]) (ks := [1, 6]) (env' := [(1, .pointer (some ⟨b_4, 0, none⟩)), (6, .slice A_2 s_1.Steps.length c_3)]) (H' := [⟨40, b_4, [.slice A_2 s_1.Steps.length c_3, .int .i64 s_1.State, .int .i64 s_1.Cursor, .int .i64 s_1.Failed]⟩]) (ps := [b_4 = b_4]) (by kernel_rfl) (And.intro rfl trivial) ?_
  refine OpTo.go (GoO.call rfl (by kernel_rfl) (by kernel_rfl) (tontineref13_Check_ok n s_1.Steps A_2 c_3) [[0]] [] [] [(0, 0)] (hks := [0]) (bks := [0]) (by kernel_rfl) (by kernel_rfl) (by kernel_rfl) (.inl rfl) rfl rfl (by kernel_rfl) (by kernel_rfl) _ (fun _ _ => rfl) _ _ (fun _ _ => rfl) (fun _ _ => rfl) (fun _ _ => by kernel_rfl) (fun _ _ => by kernel_rfl) (fun r_5 x_39 => ?_))
  refine GoO.shape (env' := [(1, .pointer (some ⟨b_4, 0, none⟩)), (6, .slice A_2 s_1.Steps.length c_3), (7, .int .i64 r_5)]) (H' := [⟨40, b_4, [.slice A_2 s_1.Steps.length c_3, .int .i64 s_1.State, .int .i64 s_1.Cursor, .int .i64 s_1.Failed]⟩]) (B' := [Rd 0 kT_api_Step A_2 c_3 s_1.Steps]) (ks := [1, 6, 7]) (by kernel_rfl) (by kernel_rfl) (by kernel_rfl) ?_
  refine GoO.exec (is := [3]) (hs := [.p]) (rest := []) (ks := [1, 8]) (env' := [(1, .pointer (some ⟨b_4, 0, none⟩)), (8, .bool (r_5 != 0))]) (H' := [⟨40, b_4, [.slice A_2 s_1.Steps.length c_3, .int .i64 s_1.State, .int .i64 s_1.Cursor, .int .i64 s_1.Failed]⟩]) (ps := []) (by kernel_rfl) trivial ?_
  refine GoO.regionEnd ?_
  refine GoO.ite' c26_5e (by kernel_rfl) (fun h6 => ?_) (fun h6 => ?_)
  · refine GoO.seq' c26_6e ?_
    refine GoO.region' (is := [0]) c26_7e (by kernel_rfl) ?_
    refine GoO.exec (is := [0]) (hs := [.p]) (rest := []) (ks := [2]) (env' := [(2, .bool false)]) (H' := [⟨40, b_4, [.slice A_2 s_1.Steps.length c_3, .int .i64 s_1.State, .int .i64 s_1.Cursor, .int .i64 s_1.Failed]⟩]) (ps := []) (by kernel_rfl) trivial ?_
    refine GoO.regionEnd ?_
    exact GoO.ret' (h := c26_8e) (hs := []) (ps := []) (hk := []) (bk := []) Try.func26 () (by kernel_rfl) trivial (by kernel_rfl) (by kernel_rfl)
  · refine GoO.skip' c26_9e ?_
    refine GoO.seq' c26_10e ?_
    refine GoO.region' (is := [0, 1, 2, 3]) c26_11e (by kernel_rfl) ?_
    refine GoO.exec (is := [0, 1, 2, 3]) (hs := [.p, .b 0, .p, .p]) (rest := []) (ks := [1, 3]) (env' := [(1, .pointer (some ⟨b_4, 0, none⟩)), (3, .int .i64 (s_1.Steps.length : Int))]) (H' := [⟨40, b_4, [.slice A_2 s_1.Steps.length c_3, .int .i64 s_1.State, .int .i64 s_1.Cursor, .int .i64 s_1.Failed]⟩]) (ps := [b_4 = b_4]) (by kernel_rfl) (And.intro rfl trivial) ?_
    refine GoO.regionEnd ?_
    refine GoO.seq' c26_12e ?_
    refine GoO.region' (is := [0, 1, 2, 3, 4, 5, 6, 7, 8, 9]) c26_13e (by kernel_rfl) ?_
    refine GoO.exec (is := [0, 1, 2, 3]) (hs := [.p, .b 0, .p, .p]) (rest := [4, 5, 6, 7, 8, 9]) (ks := [1, 3, 15]) (env' := [(1, .pointer (some ⟨b_4, 0, none⟩)), (3, .int .i64 (s_1.Steps.length : Int)), (15, .bool (decide (s_1.Cursor ≥ 0)))]) (H' := [⟨40, b_4, [.slice A_2 s_1.Steps.length c_3, .int .i64 s_1.State, .int .i64 s_1.Cursor, .int .i64 s_1.Failed]⟩]) (ps := [b_4 = b_4]) (by kernel_rfl) (And.intro rfl trivial) ?_
    refine GoO.bsplit (t := 15) (by kernel_rfl) (fun h7 => ?_) (fun h7 => ?_)
    · refine GoO.exec (is := [4, 5, 6, 7, 8, 9]) (hs := [.p, .b 0, .p, .p, .p, .p]) (rest := []) (ks := [1, 3, 4]) (env' := [(1, .pointer (some ⟨b_4, 0, none⟩)), (3, .int .i64 (s_1.Steps.length : Int)), (4, .bool (decide (s_1.Cursor < (s_1.Steps.length : Int))))]) (H' := [⟨40, b_4, [.slice A_2 s_1.Steps.length c_3, .int .i64 s_1.State, .int .i64 s_1.Cursor, .int .i64 s_1.Failed]⟩]) (ps := [b_4 = b_4]) (by kernel_rfl) (And.intro rfl trivial) ?_
      refine GoO.regionEnd ?_
      exact GoO.sub (ks := [1, 3, 4]) (hk := [0]) (bk := [0]) (by kernel_rfl) (by kernel_rfl) (by kernel_rfl) (tontineref14_Sound_j0_ok n s_1 A_2 c_3 b_4 w0 S0 (decide (s_1.Cursor < (s_1.Steps.length : Int))))
    · refine GoO.exec (is := [4, 5, 6, 7, 8, 9]) (hs := [.p, .p, .p, .p, .p, .p]) (rest := []) (ks := [1, 3, 4]) (env' := [(1, .pointer (some ⟨b_4, 0, none⟩)), (3, .int .i64 (s_1.Steps.length : Int)), (4, .bool false)]) (H' := [⟨40, b_4, [.slice A_2 s_1.Steps.length c_3, .int .i64 s_1.State, .int .i64 s_1.Cursor, .int .i64 s_1.Failed]⟩]) (ps := []) (by kernel_rfl) trivial ?_
      refine GoO.regionEnd ?_
      exact GoO.sub (ks := [1, 3, 4]) (hk := [0]) (bk := [0]) (by kernel_rfl) (by kernel_rfl) (by kernel_rfl) (tontineref14_Sound_j0_ok n s_1 A_2 c_3 b_4 w0 S0 false)

/-! tontine/tontineref14.Read -/
noncomputable def c44_0 : Code := bodyOf Try.f44
noncomputable def c44_1 : Code := cdL c44_0
noncomputable def c44_2 : Code := cdR c44_0
noncomputable def c44_3 : Code := cdL c44_2
noncomputable def c44_4 : Code := cdR c44_2
noncomputable def c44_5 : Code := cdL c44_4
noncomputable def c44_6 : Code := cdR c44_4
noncomputable def c44_7 : Code := cdL c44_6
noncomputable def c44_8 : Code := cdR c44_6
noncomputable def c44_9 : Code := cdL c44_8
noncomputable def c44_10 : Code := cdR c44_8
noncomputable def c44_11 : Code := cdL c44_10
noncomputable def c44_12 : Code := cdL c44_11
noncomputable def c44_13 : Code := cdR c44_11
noncomputable def c44_14 : Code := cdL c44_13
noncomputable def c44_15 : Code := cdL c44_14
noncomputable def c44_16 : Code := cdR c44_14
noncomputable def c44_17 : Code := cdR c44_13
noncomputable def c44_18 : Code := cdR c44_10
noncomputable def c44_19 : Code := cdL c44_18
noncomputable def c44_20 : Code := cdR c44_18
noncomputable def r44_1 : Array Oper := cdO c44_1
noncomputable def r44_3 : Array Oper := cdO c44_3
noncomputable def r44_5 : Array Oper := cdO c44_5
noncomputable def r44_7 : Array Oper := cdO c44_7
noncomputable def r44_9 : Array Oper := cdO c44_9
noncomputable def r44_12 : Array Oper := cdO c44_12
noncomputable def r44_15 : Array Oper := cdO c44_15
noncomputable def r44_19 : Array Oper := cdO c44_19
theorem c44_0e : c44_0 = .seq c44_1 c44_2 := by kernel_rfl
theorem c44_1e : c44_1 = .region 0 r44_1 false := by kernel_rfl
theorem c44_2e : c44_2 = .seq c44_3 c44_4 := by kernel_rfl
theorem c44_3e : c44_3 = .region 1 r44_3 false := by kernel_rfl
theorem c44_4e : c44_4 = .seq c44_5 c44_6 := by kernel_rfl
theorem c44_5e : c44_5 = .region 2 r44_5 false := by kernel_rfl
theorem c44_6e : c44_6 = .seq c44_7 c44_8 := by kernel_rfl
theorem c44_7e : c44_7 = .region 3 r44_7 false := by kernel_rfl
theorem c44_8e : c44_8 = .seq c44_9 c44_10 := by kernel_rfl
theorem c44_9e : c44_9 = .region 4 r44_9 false := by kernel_rfl
theorem c44_10e : c44_10 = .seq c44_11 c44_18 := by kernel_rfl
theorem c44_11e : c44_11 = .seq c44_12 c44_13 := by kernel_rfl
theorem c44_12e : c44_12 = .region 5 r44_12 false := by kernel_rfl
theorem c44_13e : c44_13 = .cond (cdC c44_13) c44_14 c44_17 := by kernel_rfl
theorem c44_14e : c44_14 = .seq c44_15 c44_16 := by kernel_rfl
theorem c44_15e : c44_15 = .region 6 r44_15 false := by kernel_rfl
theorem c44_16e : c44_16 = .ret := by kernel_rfl
theorem c44_17e : c44_17 = .skip := by kernel_rfl
theorem c44_18e : c44_18 = .seq c44_19 c44_20 := by kernel_rfl
theorem c44_19e : c44_19 = .region 7 r44_19 false := by kernel_rfl
theorem c44_20e : c44_20 = .ret := by kernel_rfl
noncomputable def tontineref14_Read.R (b_2 : Nat) : Pst (T_api_Saga × Bool × T_tontineref03_Reader) where
  ε := Option Addr × Nat
  v := fun r x => .tuple ⟨[.agg ⟨[.slice x.1 r.1.Steps.length x.2, .int .i64 r.1.State, .int .i64 r.1.Cursor, .int .i64 r.1.Failed]⟩, .bool r.2.1]⟩
  H := fun r x => [⟨1, b_2, [.string (bs r.2.2.S_), .bool r.2.2.Bad]⟩]
  B := fun r x => [Rd 0 kT_api_Step x.1 x.2 r.1.Steps]
noncomputable def tontineref14_Read.cx (b_2 : Nat) (w0 : World) (S0 : Fam) : Cx (T_api_Saga × Bool × T_tontineref03_Reader) := ⟨Try.prog, 44, Try.f44, 28, w0, S0, [1], 1, tontineref14_Read.R b_2⟩
theorem tontineref14_Read_ok (n : Nat) (r_1 : T_tontineref03_Reader) (b_2 : Nat) :
    Meets Try.prog 44 [.pointer (some ⟨b_2, 0, none⟩)] 1 [1] [⟨1, b_2, [.string (bs r_1.S_), .bool r_1.Bad]⟩] [] (tontineref14_Read.f n r_1) (tontineref14_Read.R b_2) := by
  refine Meets.of (c := c44_0) (n := 28) Try.func44 (by kernel_rfl) (by kernel_rfl) (by kernel_rfl) fun w0 S0 => ?_
  unfold tontineref14_Read.f
  show GoO (tontineref14_Read.cx b_2 w0 S0) [(0, .pointer (some ⟨b_2, 0, none⟩))] [⟨1, b_2, [.string (bs r_1.S_), .bool r_1.Bad]⟩] [] [.code c44_0] _
  refine GoO.seq' c44_0e ?_
  refine GoO.region' (is := [0, 1]) c44_1e (by kernel_rfl) ?_
  refine OpTo.go (GoO.new rfl 40 (cs := [.slice none ([] : List T_api_Step).length 0, .int .i64 0, .int .i64 0, .int .i64 0]) (by kernel_rfl) _ (fun _ => rfl) (fun b_3 => ?_))
  refine GoO.exec (is := [1]) (hs := [.p]) (rest := []) (ks := [0, 2]) (env' := [(0, .pointer (some ⟨b_2, 0, none⟩)), (2, .pointer (some ⟨b_3, 0, none⟩))]) (H' := [⟨40, b_3, [.slice none ([] : List T_api_Step).length 0, .int .i64 0, .int .i64 0, .int .i64 0]⟩, ⟨1, b_2, [.string (bs r_1.S_), .bool r_1.Bad]⟩]) (ps := []) (by kernel_rfl) trivial ?_
  refine GoO.regionEnd ?_
  refine GoO.seq' c44_2e ?_
  refine GoO.region' (is := [0, 1, 2, 3, 4]) c44_3e (by kernel_rfl) ?_
  refine GoO.exec (is := [0]) (hs := [.p]) (rest := [1, 2, 3, 4]) (ks := [0, 2, 5]) (env' := [(0, .pointer (some ⟨b_2, 0, none⟩)), (2, .pointer (some ⟨b_3, 0, none⟩)), (5, .pointer (some ⟨b_2, 0, none⟩))]) (H' := [⟨40, b_3, [.slice none ([] : List T_api_Step).length 0, .int .i64 0, .int .i64 0, .int .i64 0]⟩, ⟨1, b_2, [.string (bs r_1.S_), .bool r_1.Bad]⟩]) (ps := []) (by kernel_rfl) trivial ?_
  refine OpTo.go (GoO.call rfl (by kernel_rfl) (by kernel_rfl) (tontineref13_Read_ok n r_1 b_2) [[0], [1]] [(1, 1), (41, 2)] [(1, 1)] [] (hks := [0]) (bks := []) (by kernel_rfl) (by kernel_rfl) (by kernel_rfl) (.inl rfl) rfl rfl (by kernel_rfl) (by kernel_rfl) _ (fun _ _ => rfl) _ _ (fun _ _ => rfl) (fun _ _ => rfl) (fun _ _ => by kernel_rfl) (fun _ _ => by kernel_rfl) (fun r_4 x_18 => ?_))
  obtain ⟨A_5, c_6⟩ := x_18
  refine GoO.shape (env' := [(0, .pointer (some ⟨b_2, 0, none⟩)), (2, .pointer (some ⟨b_3, 0, none⟩)), (5, .pointer (some ⟨b_2, 0, none⟩)), (6, .slice A_5 r_4.1.length c_6)]) (H' := [⟨1, b_2, [.string (bs r_4.2.S_), .bool r_4.2.Bad]⟩, ⟨40, b_3, [.slice none ([] : List T_api_Step).length 0, .int .i64 0, .int .i64 0, .int .i64 0]⟩]) (B' := [Ow 41 kT_api_Step A_5 c_6 r_4.1]) (ks := [0, 2, 5, 6]) (by kernel_rfl) (by kernel_rfl) (by kernel_rfl) ?_
  refine GoO.exec (is := [2]) (hs := [.p]) (rest := [3, 4]) (ks := [0, 2, 7]) (env' := [(0, .pointer (some ⟨b_2, 0, none⟩)), (2, .pointer (some ⟨b_3, 0, none⟩)), (7, .agg ⟨[.slice A_5 r_4.1.length c_6, .int .i64 0, .int .i64 0, .int .i64 0]⟩)]) (H' := [⟨1, b_2, [.string (bs r_4.2.S_), .bool r_4.2.Bad]⟩, ⟨40, b_3, [.slice none ([] : List T_api_Step).length 0, .int .i64 0, .int .i64 0, .int .i64 0]⟩]) (ps := []) (by kernel_rfl) trivial ?_
  refine OpTo.go (GoO.new rfl 42 (cs := [.slice none ([] : List T_api_Step).length 0, .int .i64 0, .int .i64 0, .int .i64 0]) (by kernel_rfl) _ (fun _ => rfl) (fun b_7 => ?_))
  refine GoO.exec (is := [4]) (hs := [.b 0]) (rest := []) (ks := [0, 2, 4]) (env' := [(0, .pointer (some ⟨b_2, 0, none⟩)), (2, .pointer (some ⟨b_3, 0, none⟩)), (4, .pointer (some ⟨b_7, 0, none⟩))]) (H' := [⟨42, b_7, [.slice A_5 r_4.1.length c_6, .int .i64 0, .int .i64 0, .int .i64 0]⟩, ⟨1, b_2, [.string (bs r_4.2.S_), .bool r_4.2.Bad]⟩, ⟨40, b_3, [.slice none ([] : List T_api_Step).length 0, .int .i64 0, .int .i64 0, .int .i64 0]⟩]) (ps := [b_7 = b_7]) (by kernel_rfl) (And.intro rfl trivial) ?_
  refine GoO.regionEnd ?_
  refine GoO.seq' c44_4e ?_
  refine GoO.region' (is := [0, 1, 2, 3]) c44_5e (by kernel_rfl) ?_
  refine GoO.exec (is := [0]) (hs := [.p]) (rest := [1, 2, 3]) (ks := [0, 2, 4, 8]) (env' := [(0, .pointer (some ⟨b_2, 0, none⟩)), (2, .pointer (some ⟨b_3, 0, none⟩)), (4, .pointer (some ⟨b_7, 0, none⟩)), (8, .pointer (some ⟨b_2, 0, none⟩))]) (H' := [⟨42, b_7, [.slice A_5 r_4.1.length c_6, .int .i64 0, .int .i64 0, .int .i64 0]⟩, ⟨1, b_2, [.string (bs r_4.2.S_), .bool r_4.2.Bad]⟩, ⟨40, b_3, [.slice none ([] : List T_api_Step).length 0, .int .i64 0, .int .i64 0, .int .i64 0]⟩]) (ps := []) (by kernel_rfl) trivial ?_
  refine OpTo.go (GoO.call rfl (by kernel_rfl) (by kernel_rfl) (tontineref03_Reader_Up_ok n r_4.2 5 b_2) [[0], [1]] [(1, 1)] [(1, 1)] [] (hks := [0, 2]) (bks := [0]) (by kernel_rfl) (by kernel_rfl) (by kernel_rfl) (.inl rfl) rfl rfl (by kernel_rfl) (by kernel_rfl) _ (fun _ _ => rfl) _ _ (fun _ _ => rfl) (fun _ _ => rfl) (fun _ _ => by kernel_rfl) (fun _ _ => by kernel_rfl) (fun r_8 x_17 => ?_))
  refine GoO.shape (env' := [(0, .pointer (some ⟨b_2, 0, none⟩)), (2, .pointer (some ⟨b_3, 0, none⟩)), (4, .pointer (some ⟨b_7, 0, none⟩)), (8, .pointer (some ⟨b_2, 0, none⟩)), (9, .int .i64 r_8.1)]) (H' := [⟨1, b_2, [.string (bs r_8.2.S_), .bool r_8.2.Bad]⟩, ⟨42, b_7, [.slice A_5 r_4.1.length c_6, .int .i64 0, .int .i64 0, .int .i64 0]⟩, ⟨40, b_3, [.slice none ([] : List T_api_Step).length 0, .int .i64 0, .int .i64 0, .int .i64 0]⟩]) (B' := [Ow 41 kT_api_Step A_5 c_6 r_4.1]) (ks := [0, 2, 4, 8, 9]) (by kernel_rfl) (by kernel_rfl) (by kernel_rfl) ?_
  refine GoO.exec (is := [2, 3]) (hs := [.p, .b 1]) (rest := []) (ks := [0, 2, 4]) (env' := [(0, .pointer (some ⟨b_2, 0, none⟩)), (2, .pointer (some ⟨b_3, 0, none⟩)), (4, .pointer (some ⟨b_7, 0, none⟩))]) (H' := [⟨1, b_2, [.string (bs r_8.2.S_), .bool r_8.2.Bad]⟩, ⟨42, b_7, [.slice A_5 r_4.1.length c_6, .int .i64 r_8.1, .int .i64 0, .int .i64 0]⟩, ⟨40, b_3, [.slice none ([] : List T_api_Step).length 0, .int .i64 0, .int .i64 0, .int .i64 0]⟩]) (ps := [b_7 = b_7]) (by kernel_rfl) (And.intro rfl trivial) ?_
  refine GoO.regionEnd ?_
  refine GoO.seq' c44_6e ?_
  refine GoO.region' (is := [0, 1, 2, 3]) c44_7e (by kernel_rfl) ?_
  refine GoO.exec (is := [0]) (hs := [.p]) (rest := [1, 2, 3]) (ks := [0, 2, 4, 11]) (env' := [(0, .pointer (some ⟨b_2, 0, none⟩)), (2, .pointer (some ⟨b_3, 0, none⟩)), (4, .pointer (some ⟨b_7, 0, none⟩)), (11, .pointer (some ⟨b_2, 0, none⟩))]) (H' := [⟨1, b_2, [.string (bs r_8.2.S_), .bool r_8.2.Bad]⟩, ⟨42, b_7, [.slice A_5 r_4.1.length c_6, .int .i64 r_8.1, .int .i64 0, .int .i64 0]⟩, ⟨40, b_3, [.slice none ([] : List T_api_Step).length 0, .int .i64 0, .int .i64 0, .int .i64 0]⟩]) (ps := []) (by kernel_rfl) trivial ?_
  refine OpTo.go (GoO.call rfl (by kernel_rfl) (by kernel_rfl) (tontineref03_Reader_Up_ok n r_8.2 64 b_2) [[0], [1]] [(1, 1)] [(1, 0)] [] (hks := [1, 2]) (bks := [0]) (by kernel_rfl) (by kernel_rfl) (by kernel_rfl) (.inl rfl) rfl rfl (by kernel_rfl) (by kernel_rfl) _ (fun _ _ => rfl) _ _ (fun _ _ => rfl) (fun _ _ => rfl) (fun _ _ => by kernel_rfl) (fun _ _ => by kernel_rfl) (fun r_9 x_16 => ?_))
  refine GoO.shape (env' := [(0, .pointer (some ⟨b_2, 0, none⟩)), (2, .pointer (some ⟨b_3, 0, none⟩)), (4, .pointer (some ⟨b_7, 0, none⟩)), (11, .pointer (some ⟨b_2, 0, none⟩)), (12, .int .i64 r_9.1)]) (H' := [⟨1, b_2, [.string (bs r_9.2.S_), .bool r_9.2.Bad]⟩, ⟨42, b_7, [.slice A_5 r_4.1.length c_6, .int .i64 r_8.1, .int .i64 0, .int .i64 0]⟩, ⟨40, b_3, [.slice none ([] : List T_api_Step).length 0, .int .i64 0, .int .i64 0, .int .i64 0]⟩]) (B' := [Ow 41 kT_api_Step A_5 c_6 r_4.1]) (ks := [0, 2, 4, 11, 12]) (by kernel_rfl) (by kernel_rfl) (by kernel_rfl) ?_
  refine GoO.exec (is := [2, 3]) (hs := [.p, .b 1]) (rest := []) (ks := [0, 2, 4]) (env' := [(0, .pointer (some ⟨b_2, 0, none⟩)), (2, .pointer (some ⟨b_3, 0, none⟩)), (4, .pointer (some ⟨b_7, 0, none⟩))]) (H' := [⟨1, b_2, [.string (bs r_9.2.S_), .bool r_9.2.Bad]⟩, ⟨42, b_7, [.slice A_5 r_4.1.length c_6, .int .i64 r_8.1, .int .i64 r_9.1, .int .i64 0]⟩, ⟨40, b_3, [.slice none ([] : List T_api_Step).length 0, .int .i64 0, .int .i64 0, .int .i64 0]⟩]) (ps := [b_7 = b_7]) (by kernel_rfl) (And.intro rfl trivial) ?_
  refine GoO.regionEnd ?_
  refine GoO.seq' c44_8e ?_
  refine GoO.region' (is := [0, 1, 2, 3]) c44_9e (by kernel_rfl) ?_
  refine GoO.exec (is := [0]) (hs := [.p]) (rest := [1, 2, 3]) (ks := [0, 2, 4, 14]) (env' := [(0, .pointer (some ⟨b_2, 0, none⟩)), (2, .pointer (some ⟨b_3, 0, none⟩)), (4, .pointer (some ⟨b_7, 0, none⟩)), (14, .pointer (some ⟨b_2, 0, none⟩))]) (H' := [⟨1, b_2, [.string (bs r_9.2.S_), .bool r_9.2.Bad]⟩, ⟨42, b_7, [.slice A_5 r_4.1.length c_6, .int .i64 r_8.1, .int .i64 r_9.1, .int .i64 0]⟩, ⟨40, b_3, [.slice none ([] : List T_api_Step).length 0, .int .i64 0, .int .i64 0, .int .i64 0]⟩]) (ps := []) (by kernel_rfl) trivial ?_
  refine OpTo.go (GoO.call rfl (by kernel_rfl) (by kernel_rfl) (tontineref03_Reader_Up_ok n r_9.2 9 b_2) [[0], [1]] [(1, 1)] [(1, 0)] [] (hks := [1, 2]) (bks := [0]) (by kernel_rfl) (by kernel_rfl) (by kernel_rfl) (.inl rfl) rfl rfl (by kernel_rfl) (by kernel_rfl) _ (fun _ _ => rfl) _ _ (fun _ _ => rfl) (fun _ _ => rfl) (fun _ _ => by kernel_rfl) (fun _ _ => by kernel_rfl) (fun r_10 x_15 => ?_))
  refine GoO.shape (env' := [(0, .pointer (some ⟨b_2, 0, none⟩)), (2, .pointer (some ⟨b_3, 0, none⟩)), (4, .pointer (some ⟨b_7, 0, none⟩)), (14, .pointer (some ⟨b_2, 0, none⟩)), (15, .int .i64 r_10.1)]) (H' := [⟨1, b_2, [.string (bs r_10.2.S_), .bool r_10.2.Bad]⟩, ⟨42, b_7, [.slice A_5 r_4.1.length c_6, .int .i64 r_8.1, .int .i64 r_9.1, .int .i64 0]⟩, ⟨40, b_3, [.slice none ([] : List T_api_Step).length 0, .int .i64 0, .int .i64 0, .int .i64 0]⟩]) (B' := [Ow 41 kT_api_Step A_5 c_6 r_4.1]) (ks := [0, 2, 4, 14, 15]) (by kernel_rfl) (by kernel_rfl) (by kernel_rfl) ?_
  refine GoO.exec (is := [2, 3]) (hs := [.p, .b 1]) (rest := []) (ks := [0, 2, 4]) (env' := [(0, .pointer (some ⟨b_2, 0, none⟩)), (2, .pointer (some ⟨b_3, 0, none⟩)), (4, .pointer (some ⟨b_7, 0, none⟩))]) (H' := [⟨1, b_2, [.string (bs r_10.2.S_), .bool r_10.2.Bad]⟩, ⟨42, b_7, [.slice A_5 r_4.1.length c_6, .int .i64 r_8.1, .int .i64 r_9.1, .int .i64 r_10.1]⟩, ⟨40, b_3, [.slice none ([] : List T_api_Step).length 0, .int .i64 0, .int .i64 0, .int .i64 0]⟩]) (ps := [b_7 = b_7]) (by kernel_rfl) (And.intro rfl trivial) ?_
  refine GoO.regionEnd ?_
  refine GoO.seq' c44_10e ?_
  refine GoO.seq' c44_11e ?_
  refine GoO.region' (is := [0, 1, 2, 3, 4, 5, 6, 7, 8]) c44_12e (by kernel_rfl) ?_
  refine GoO.exec (is := [0, 1, 2, 3, 4]) (hs := [.p, .p, .p, .b 0, .p]) (rest := [5, 6, 7, 8]) (ks := [2, 4, 21]) (env' := [(2, .pointer (some ⟨b_3, 0, none⟩)), (4, .pointer (some ⟨b_7, 0, none⟩)), (21, .bool r_10.2.Bad)]) (H' := [⟨1, b_2, [.string (bs r_10.2.S_), .bool r_10.2.Bad]⟩, ⟨42, b_7, [.slice A_5 r_4.1.length c_6, .int .i64 r_8.1, .int .i64 r_9.1, .int .i64 r_10.1]⟩, ⟨40, b_3, [.slice none ([] : List T_api_Step).length 0, .int .i64 0, .int .i64 0, .int .i64 0]⟩]) (ps := [b_2 = b_2]) (by kernel_rfl) (And.intro rfl trivial) ?_
  refine GoO.bsplit (t := 21) (by kernel_rfl) (fun h11 => ?_) (fun h11 => ?_)
  · refine GoO.exec (is := [5, 6, 7, 8]) (hs := [.p, .p, .p, .p]) (rest := []) (ks := [2, 4, 25]) (env' := [(2, .pointer (some ⟨b_3, 0, none⟩)), (4, .pointer (some ⟨b_7, 0, none⟩)), (25, .bool true)]) (H' := [⟨1, b_2, [.string (bs r_10.2.S_), .bool r_10.2.Bad]⟩, ⟨42, b_7, [.slice A_5 r_4.1.length c_6, .int .i64 r_8.1, .int .i64 r_9.1, .int .i64 r_10.1]⟩, ⟨40, b_3, [.slice none ([] : List T_api_Step).length 0, .int .i64 0, .int .i64 0, .int .i64 0]⟩]) (ps := []) (by kernel_rfl) trivial ?_
    refine GoO.regionEnd ?_
    refine GoO.condT c44_13e (by kernel_rfl) ?_
    refine GoO.seq' c44_14e ?_
    refine GoO.region' (is := [0, 1, 2]) c44_15e (by kernel_rfl) ?_
    refine GoO.exec (is := [0, 1, 2]) (hs := [.p, .b 2, .p]) (rest := []) (ks := [2, 3]) (env' := [(2, .pointer (some ⟨b_3, 0, none⟩)), (3, .bool false)]) (H' := [⟨1, b_2, [.string (bs r_10.2.S_), .bool r_10.2.Bad]⟩, ⟨42, b_7, [.slice A_5 r_4.1.length c_6, .int .i64 r_8.1, .int .i64 r_9.1, .int .i64 r_10.1]⟩, ⟨40, b_3, [.slice none ([] : List T_api_Step).length 0, .int .i64 0, .int .i64 0, .int .i64 0]⟩]) (ps := [b_3 = b_3]) (by kernel_rfl) (And.intro rfl trivial) ?_
    refine GoO.regionEnd ?_
    refine GoO.nilRd kT_api_Step ?_
    exact GoO.ret' (h := c44_16e) (hs := [2]) (ps := [b_3 = b_3]) (hk := [0]) (bk := [0]) Try.func44 (⟨none, 0⟩ : Option Addr × Nat) (by kernel_rfl) (And.intro rfl trivial) (by kernel_rfl) (by kernel_rfl)
  · refine GoO.exec (is := [5]) (hs := [.b 1]) (rest := [6, 7, 8]) (ks := [2, 4, 21, 22]) (env' := [(2, .pointer (some ⟨b_3, 0, none⟩)), (4, .pointer (some ⟨b_7, 0, none⟩)), (21, .bool false), (22, .agg ⟨[.slice A_5 r_4.1.length c_6, .int .i64 r_8.1, .int .i64 r_9.1, .int .i64 r_10.1]⟩)]) (H' := [⟨1, b_2, [.string (bs r_10.2.S_), .bool r_10.2.Bad]⟩, ⟨42, b_7, [.slice A_5 r_4.1.length c_6, .int .i64 r_8.1, .int .i64 r_9.1, .int .i64 r_10.1]⟩, ⟨40, b_3, [.slice none ([] : List T_api_Step).length 0, .int .i64 0, .int .i64 0, .int .i64 0]⟩]) (ps := [b_7 = b_7]) (by kernel_rfl) (And.intro rfl trivial) ?_
    refine GoO.view (j := 0) rfl ?_
    refine OpTo.go (GoO.call rfl (by kernel_rfl) (by kernel_rfl) (tontineref14_Sound_ok n (⟨r_4.1, r_8.1, r_9.1, r_10.1⟩ : T_api_Saga) A_5 c_6) [[0, 41]] [] [] [(0, 1)] (hks := [0, 1, 2]) (bks := [0]) (by kernel_rfl) (by kernel_rfl) (by kernel_rfl) (.inr (fun _ _ => by simp [tontineref14_Sound.R])) rfl rfl (by kernel_rfl) (by kernel_rfl) _ (fun _ _ => rfl) _ _ (fun _ _ => rfl) (fun _ _ => rfl) (fun _ _ => by kernel_rfl) (fun _ _ => by kernel_rfl) (fun r_12 x_14 => ?_))
    refine GoO.shape (env' := [(2, .pointer (some ⟨b_3, 0, none⟩)), (4, .pointer (some ⟨b_7, 0, none⟩)), (21, .bool false), (22, .agg ⟨[.slice A_5 r_4.1.length c_6, .int .i64 r_8.1, .int .i64 r_9.1, .int .i64 r_10.1]⟩), (23, .bool r_12)]) (H' := [⟨1, b_2, [.string (bs r_10.2.S_), .bool r_10.2.Bad]⟩, ⟨42, b_7, [.slice A_5 r_4.1.length c_6, .int .i64 r_8.1, .int .i64 r_9.1, .int .i64 r_10.1]⟩, ⟨40, b_3, [.slice none ([] : List T_api_Step).length 0, .int .i64 0, .int .i64 0, .int .i64 0]⟩]) (B' := [Ow 41 kT_api_Step A_5 c_6 r_4.1]) (ks := [2, 4, 21, 22, 23]) (by kernel_rfl) (by kernel_rfl) (by kernel_rfl) ?_
    refine GoO.exec (is := [7, 8]) (hs := [.p, .p]) (rest := []) (ks := [2, 4, 25]) (env' := [(2, .pointer (some ⟨b_3, 0, none⟩)), (4, .pointer (some ⟨b_7, 0, none⟩)), (25, .bool (!r_12))]) (H' := [⟨1, b_2, [.string (bs r_10.2.S_), .bool r_10.2.Bad]⟩, ⟨42, b_7, [.slice A_5 r_4.1.length c_6, .int .i64 r_8.1, .int .i64 r_9.1, .int .i64 r_10.1]⟩, ⟨40, b_3, [.slice none ([] : List T_api_Step).length 0, .int .i64 0, .int .i64 0, .int .i64 0]⟩]) (ps := []) (by kernel_rfl) trivial ?_
    refine GoO.regionEnd ?_
    refine GoO.ite' c44_13e (by kernel_rfl) (fun h13 => ?_) (fun h13 => ?_)
    · refine GoO.seq' c44_14e ?_
      refine GoO.region' (is := [0, 1, 2]) c44_15e (by kernel_rfl) ?_
      refine GoO.exec (is := [0, 1, 2]) (hs := [.p, .b 2, .p]) (rest := []) (ks := [2, 3]) (env' := [(2, .pointer (some ⟨b_3, 0, none⟩)), (3, .bool false)]) (H' := [⟨1, b_2, [.string (bs r_10.2.S_), .bool r_10.2.Bad]⟩, ⟨42, b_7, [.slice A_5 r_4.1.length c_6, .int .i64 r_8.1, .int .i64 r_9.1, .int .i64 r_10.1]⟩, ⟨40, b_3, [.slice none ([] : List T_api_Step).length 0, .int .i64 0, .int .i64 0, .int .i64 0]⟩]) (ps := [b_3 = b_3]) (by kernel_rfl) (And.intro rfl trivial) ?_
      refine GoO.regionEnd ?_
      refine GoO.nilRd kT_api_Step ?_
      exact GoO.ret' (h := c44_16e) (hs := [2]) (ps := [b_3 = b_3]) (hk := [0]) (bk := [0]) Try.func44 (⟨none, 0⟩ : Option Addr × Nat) (by kernel_rfl) (And.intro rfl trivial) (by kernel_rfl) (by kernel_rfl)
    · refine GoO.skip' c44_17e ?_
      refine GoO.seq' c44_18e ?_
      refine GoO.region' (is := [0, 1, 2]) c44_19e (by kernel_rfl) ?_
      refine GoO.exec (is := [0, 1, 2]) (hs := [.b 1, .b 2, .p]) (rest := []) (ks := [2, 3]) (env' := [(2, .pointer (some ⟨b_3, 0, none⟩)), (3, .bool true)]) (H' := [⟨1, b_2, [.string (bs r_10.2.S_), .bool r_10.2.Bad]⟩, ⟨42, b_7, [.slice A_5 r_4.1.length c_6, .int .i64 r_8.1, .int .i64 r_9.1, .int .i64 r_10.1]⟩, ⟨40, b_3, [.slice A_5 r_4.1.length c_6, .int .i64 r_8.1, .int .i64 r_9.1, .int .i64 r_10.1]⟩]) (ps := [b_7 = b_7, b_3 = b_3]) (by kernel_rfl) (And.intro rfl (And.intro rfl trivial)) ?_
      refine GoO.regionEnd ?_
      refine GoO.retag (t := 41) (u := 0) (j := 0) (hk := [0, 1, 2]) (bk := []) rfl rfl rfl rfl rfl rfl (by kernel_rfl) (by kernel_rfl) ?_
      refine GoO.own2rd (j := 0) rfl ?_
      exact GoO.ret' (h := c44_20e) (hs := [2]) (ps := [b_3 = b_3]) (hk := [0]) (bk := [0]) Try.func44 (⟨A_5, c_6⟩ : Option Addr × Nat) (by kernel_rfl) (And.intro rfl trivial) (by kernel_rfl) (by kernel_rfl)

/-! tontine/tontineref13.Same -/
noncomputable def c57_0 : Code := bodyOf Try.f57
noncomputable def c57_1 : Code := cdL c57_0
noncomputable def c57_2 : Code := cdR c57_0
noncomputable def c57_3 : Code := cdL c57_2
noncomputable def c57_4 : Code := cdL c57_3
noncomputable def c57_5 : Code := cdR c57_3
noncomputable def c57_6 : Code := cdL c57_5
noncomputable def c57_7 : Code := cdL c57_6
noncomputable def c57_8 : Code := cdR c57_6
noncomputable def c57_9 : Code := cdR c57_5
noncomputable def c57_10 : Code := cdR c57_2
noncomputable def c57_11 : Code := cdL c57_10
noncomputable def c57_12 : Code := cdL c57_11
noncomputable def c57_13 : Code := cdR c57_11
noncomputable def c57_14 : Code := cdL c57_13
noncomputable def c57_15 : Code := cdL c57_14
noncomputable def c57_16 : Code := cdL c57_15
noncomputable def c57_17 : Code := cdL c57_16
noncomputable def c57_18 : Code := cdR c57_16
noncomputable def c57_19 : Code := cdL c57_18
noncomputable def c57_20 : Code := cdR c57_18
noncomputable def c57_21 : Code := cdR c57_15
noncomputable def c57_22 : Code := cdL c57_21
noncomputable def c57_23 : Code := cdL c57_22
noncomputable def c57_24 : Code := cdL c57_23
noncomputable def c57_25 : Code := cdR c57_23
noncomputable def c57_26 : Code := cdL c57_25
noncomputable def c57_27 : Code := cdL c57_26
noncomputable def c57_28 : Code := cdR c57_26
noncomputable def c57_29 : Code := cdR c57_25
noncomputable def c57_30 : Code := cdR c57_21
noncomputable def c57_31 : Code := cdR c57_10
noncomputable def c57_32 : Code := cdL c57_31
noncomputable def c57_33 : Code := cdR c57_31
noncomputable def r57_1 : Array Oper := cdO c57_1
noncomputable def r57_4 : Array Oper := cdO c57_4
noncomputable def r57_7 : Array Oper := cdO c57_7
noncomputable def r57_12 : Array Oper := cdO c57_12
noncomputable def r57_17 : Array Oper := cdO c57_17
noncomputable def r57_24 : Array Oper := cdO c57_24
noncomputable def r57_27 : Array Oper := cdO c57_27
noncomputable def r57_30 : Array Oper := cdO c57_30
noncomputable def r57_32 : Array Oper := cdO c57_32
theorem c57_0e : c57_0 = .seq c57_1 c57_2 := by kernel_rfl
theorem c57_1e : c57_1 = .region 0 r57_1 false := by kernel_rfl
theorem c57_2e : c57_2 = .seq c57_3 c57_10 := by kernel_rfl
theorem c57_3e : c57_3 = .seq c57_4 c57_5 := by kernel_rfl
theorem c57_4e : c57_4 = .region 1 r57_4 false := by kernel_rfl
theorem c57_5e : c57_5 = .cond (cdC c57_5) c57_6 c57_9 := by kernel_rfl
theorem c57_6e : c57_6 = .seq c57_7 c57_8 := by kernel_rfl
theorem c57_7e : c57_7 = .region 2 r57_7 false := by kernel_rfl
theorem c57_8e : c57_8 = .ret := by kernel_rfl
theorem c57_9e : c57_9 = .skip := by kernel_rfl
theorem c57_10e : c57_10 = .seq c57_11 c57_31 := by kernel_rfl
theorem c57_11e : c57_11 = .seq c57_12 c57_13 := by kernel_rfl
theorem c57_12e : c57_12 = .region 3 r57_12 false := by kernel_rfl
theorem c57_13e : c57_13 = .block 0 c57_14 := by kernel_rfl
theorem c57_14e : c57_14 = .loop c57_15 := by kernel_rfl
theorem c57_15e : c57_15 = .seq c57_16 c57_21 := by kernel_rfl
theorem c57_16e : c57_16 = .seq c57_17 c57_18 := by kernel_rfl
theorem c57_17e : c57_17 = .region 4 r57_17 false := by kernel_rfl
theorem c57_18e : c57_18 = .cond (cdC c57_18) c57_19 c57_20 := by kernel_rfl
theorem c57_19e : c57_19 = .skip := by kernel_rfl
theorem c57_20e : c57_20 = .exit 0 := by kernel_rfl
theorem c57_21e : c57_21 = .seq c57_22 c57_30 := by kernel_rfl
theorem c57_22e : c57_22 = .block 1 c57_23 := by kernel_rfl
theorem c57_23e : c57_23 = .seq c57_24 c57_25 := by kernel_rfl
theorem c57_24e : c57_24 = .region 6 r57_24 true := by kernel_rfl
theorem c57_25e : c57_25 = .cond (cdC c57_25) c57_26 c57_29 := by kernel_rfl
theorem c57_26e : c57_26 = .seq c57_27 c57_28 := by kernel_rfl
theorem c57_27e : c57_27 = .region 7 r57_27 false := by kernel_rfl
theorem c57_28e : c57_28 = .ret := by kernel_rfl
theorem c57_29e : c57_29 = .skip := by kernel_rfl
theorem c57_30e : c57_30 = .region 5 r57_30 false := by kernel_rfl
theorem c57_31e : c57_31 = .seq c57_32 c57_33 := by kernel_rfl
theorem c57_32e : c57_32 = .region 8 r57_32 false := by kernel_rfl
theorem c57_33e : c57_33 = .ret := by kernel_rfl
noncomputable def tontineref13_Same.R (A_2 : Option Addr) (c_3 : Nat) (A_5 : Option Addr) (c_6 : Nat) : Pst Bool where
  ε := Unit
  v := fun r x => .bool r
  H := fun r x => []
  B := fun r x => []
noncomputable def tontineref13_Same.cx (A_2 : Option Addr) (c_3 : Nat) (A_5 : Option Addr) (c_6 : Nat) (w0 : World) (S0 : Fam) : Cx Bool := ⟨Try.prog, 57, Try.f57, 26, w0, S0, [], 0, tontineref13_Same.R A_2 c_3 A_5 c_6⟩
theorem tontineref13_Same_l0_ok (n : Nat) (a_1 : (List T_api_Step)) (b_4 : (List T_api_Step)) (A_2 : Option Addr) (c_3 : Nat) (A_5 : Option Addr) (c_6 : Nat) (w0 : World) (S0 : Fam) :
    ∀ (k : Nat) (i_8 : Int), GoO (tontineref13_Same.cx A_2 c_3 A_5 c_6 w0 S0) [(0, .slice A_2 a_1.length c_3), (1, .slice A_5 b_4.length c_6), (5, .int .i64 i_8)] [] [Rd 0 kT_api_Step A_2 c_3 a_1, Rd 0 kT_api_Step A_5 c_6 b_4] [.code c57_15, .inLoop c57_15, .inBlock 0, .code c57_31] (tontineref13_Same.l0 n a_1 b_4 k i_8) := by
  intro k
  induction k with
  | zero => intros; rw [tontineref13_Same.l0.eq_1]; exact GoO.stop
  | succ k ih0 =>
    intro i_8
    rw [tontineref13_Same.l0.eq_2]
    refine GoO.seq' c57_15e ?_
    refine GoO.seq' c57_16e ?_
    refine GoO.region' (is := [0, 1, 2, 3]) c57_17e (by kernel_rfl) ?_
    refine GoO.exec (is := [0, 1, 2, 3]) (hs := [.p, .p, .p, .p]) (rest := []) (ks := [0, 1, 5, 14]) (env' := [(0, .slice A_2 a_1.length c_3), (1, .slice A_5 b_4.length c_6), (5, .int .i64 i_8), (14, .bool (decide (i_8 < (a_1.length : Int))))]) (H' := []) (ps := []) (by kernel_rfl) trivial ?_
    refine GoO.regionEnd ?_
    refine GoO.ite' c57_18e (by kernel_rfl) (fun h9 => ?_) (fun h9 => ?_)
    · refine GoO.skip' c57_19e ?_
      refine GoO.seq' c57_21e ?_
      refine GoO.block' c57_22e ?_
      refine GoO.seq' c57_23e ?_
      refine GoO.draw c57_24e (by kernel_rfl) [] [] [Rd 0 kT_api_Step A_2 c_3 a_1, Rd 0 kT_api_Step A_5 c_6 b_4] (n := 9) (by kernel_rfl) ?_
      simp only [List.replicate]
      refine GoF.take [0, 1, 4, 5] [.p, .p, .p, .p] (ks := [0, 1, 5, 17, 18, 21, 22]) (fu := 5) (li := [true, true, false, false, true, true, false, false, false]) (env' := [(0, .slice A_2 a_1.length c_3), (1, .slice A_5 b_4.length c_6), (5, .int .i64 i_8), (17, .slice A_2 a_1.length c_3), (18, .int .i64 i_8), (21, .slice A_5 b_4.length c_6), (22, .int .i64 i_8)]) (ps := []) (hk := []) (bk := [0, 1]) (by kernel_rfl) trivial rfl rfl ?_
      refine GoF.guard (fun h10 => ?_)
      refine GoF.idx (i := 2) (hk := []) (bk := [0, 1]) (kk := .i64) (e := 50) (K := kT_api_Step) (A := A_2) (c := c_3) (xs := a_1) (iv := i_8) (j := 0) (by kernel_rfl) rfl rfl rfl (by kernel_rfl) (by kernel_rfl) (by kernel_rfl) (by kernel_rfl) rfl Reads.rd rfl h10.1 h10.2 (by decide) rfl ?_
      refine GoF.ldE (i := 3) (hk := []) (bk := [0, 1]) (K := kT_api_Step) (A := A_2) (c := c_3) (xs := a_1) (iN := i_8.toNat) (off := 0) (j := 0) (v := .agg ⟨[.int .i64 ((rdL a_1 i_8).Part), .string (bs ((rdL a_1 i_8).Name)), .int .i64 ((rdL a_1 i_8).Budget)]⟩) (by kernel_rfl) rfl rfl rfl (hK := rfl) (by kernel_rfl) rfl Reads.rd (idx_lt h10.1 h10.2) (by decide) (by kernel_rfl) rfl ?_
      refine GoF.guard (fun h11 => ?_)
      refine GoF.idx (i := 6) (hk := []) (bk := [0, 1]) (kk := .i64) (e := 50) (K := kT_api_Step) (A := A_5) (c := c_6) (xs := b_4) (iv := i_8) (j := 1) (by kernel_rfl) rfl rfl rfl (by kernel_rfl) (by kernel_rfl) (by kernel_rfl) (by kernel_rfl) rfl Reads.rd rfl h11.1 h11.2 (by decide) rfl ?_
      refine GoF.ldE (i := 7) (hk := []) (bk := [0, 1]) (K := kT_api_Step) (A := A_5) (c := c_6) (xs := b_4) (iN := i_8.toNat) (off := 0) (j := 1) (v := .agg ⟨[.int .i64 ((rdL b_4 i_8).Part), .string (bs ((rdL b_4 i_8).Name)), .int .i64 ((rdL b_4 i_8).Budget)]⟩) (by kernel_rfl) rfl rfl rfl (hK := rfl) (by kernel_rfl) rfl Reads.rd (idx_lt h11.1 h11.2) (by decide) (by kernel_rfl) rfl ?_
      refine GoF.take [8] [.p] (ks := [0, 1, 5, 25]) (fu := 0) (li := [true, true, true, true, true, true, true, true, true]) (env' := [(0, .slice A_2 a_1.length c_3), (1, .slice A_5 b_4.length c_6), (5, .int .i64 i_8), (25, .bool (!((((rdL a_1 i_8).Part) == ((rdL b_4 i_8).Part)) && ((((rdL a_1 i_8).Name) == ((rdL b_4 i_8).Name)) && ((((rdL a_1 i_8).Budget) == ((rdL b_4 i_8).Budget)) && true)))))]) (ps := []) (hk := []) (bk := [0, 1]) (by kernel_rfl) trivial rfl rfl ?_
      refine GoF.done (by kernel_rfl) ?_
      refine GoO.ite' c57_25e (by kernel_rfl) (fun h12 => ?_) (fun h12 => ?_)
      · refine GoO.seq' c57_26e ?_
        refine GoO.region' (is := [0]) c57_27e (by kernel_rfl) ?_
        refine GoO.exec (is := [0]) (hs := [.p]) (rest := []) (ks := [4]) (env' := [(4, .bool false)]) (H' := []) (ps := []) (by kernel_rfl) trivial ?_
        refine GoO.regionEnd ?_
        exact GoO.ret' (h := c57_28e) (hs := []) (ps := []) (hk := []) (bk := []) Try.func57 () (by kernel_rfl) trivial (by kernel_rfl) (by kernel_rfl)
      · refine GoO.skip' c57_29e ?_
        refine GoO.inBlock ?_
        refine GoO.region' (is := [0, 1, 2]) c57_30e (by kernel_rfl) ?_
        refine GoO.exec (is := [0, 1, 2]) (hs := [.p, .p, .p]) (rest := []) (ks := [0, 1, 5]) (env' := [(0, .slice A_2 a_1.length c_3), (1, .slice A_5 b_4.length c_6), (5, .int .i64 (wi64 (i_8 + 1)))]) (H' := []) (ps := []) (by kernel_rfl) trivial ?_
        refine GoO.regionEnd ?_
        refine GoO.inLoop ?_
        exact GoO.sub (ks := [0, 1, 5]) (hk := []) (bk := [0, 1]) (by kernel_rfl) (by kernel_rfl) (by kernel_rfl) (ih0 (wi64 (i_8 + 1)))
    · refine GoO.exit' c57_20e rfl ?_
      refine GoO.seq' c57_31e ?_
      refine GoO.region' (is := [0]) c57_32e (by kernel_rfl) ?_
      refine GoO.exec (is := [0]) (hs := [.p]) (rest := []) (ks := [4]) (env' := [(4, .bool true)]) (H' := []) (ps := []) (by kernel_rfl) trivial ?_
      refine GoO.regionEnd ?_
      exact GoO.ret' (h := c57_33e) (hs := []) (ps := []) (hk := []) (bk := []) Try.func57 () (by kernel_rfl) trivial (by kernel_rfl) (by kernel_rfl)
theorem tontineref13_Same_ok (n : Nat) (a_1 : (List T_api_Step)) (b_4 : (List T_api_Step)) (A_2 : Option Addr) (c_3 : Nat) (A_5 : Option Addr) (c_6 : Nat) :
    Meets Try.prog 57 [.slice A_2 a_1.length c_3, .slice A_5 b_4.length c_6] 0 [] [] [Rd 0 kT_api_Step A_2 c_3 a_1, Rd 0 kT_api_Step A_5 c_6 b_4] (tontineref13_Same.f n a_1 b_4) (tontineref13_Same.R A_2 c_3 A_5 c_6) := by
  refine Meets.of (c := c57_0) (n := 26) Try.func57 (by kernel_rfl) (by kernel_rfl) (by kernel_rfl) fun w0 S0 => ?_
  unfold tontineref13_Same.f
  show GoO (tontineref13_Same.cx A_2 c_3 A_5 c_6 w0 S0) [(0, .slice A_2 a_1.length c_3), (1, .slice A_5 b_4.length c_6)] [] [Rd 0 kT_api_Step A_2 c_3 a_1, Rd 0 kT_api_Step A_5 c_6 b_4] [.code c57_0] _
  refine GoO.seq' c57_0e ?_
  refine GoO.region' (is := [0]) c57_1e (by kernel_rfl) ?_
  refine GoO.exec (is := [0]) (hs := [.p]) (rest := []) (ks := [0, 1]) (env' := [(0, .slice A_2 a_1.length c_3), (1, .slice A_5 b_4.length c_6)]) (H' := []) (ps := []) (by kernel_rfl) trivial ?_
  refine GoO.regionEnd ?_
  refine GoO.seq' c57_2e ?_
  refine GoO.seq' c57_3e ?_
  refine GoO.region' (is := [0, 1, 2, 3, 4]) c57_4e (by kernel_rfl) ?_
  refine GoO.exec (is := [0, 1, 2, 3, 4]) (hs := [.p, .p, .p, .p, .p]) (rest := []) (ks := [0, 1, 10]) (env' := [(0, .slice A_2 a_1.length c_3), (1, .slice A_5 b_4.length c_6), (10, .bool ((a_1.length : Int) != (b_4.length : Int)))]) (H' := []) (ps := []) (by kernel_rfl) trivial ?_
  refine GoO.regionEnd ?_
  refine GoO.ite' c57_5e (by kernel_rfl) (fun h7 => ?_) (fun h7 => ?_)
  · refine GoO.seq' c57_6e ?_
    refine GoO.region' (is := [0]) c57_7e (by kernel_rfl) ?_
    refine GoO.exec (is := [0]) (hs := [.p]) (rest := []) (ks := [4]) (env' := [(4, .bool false)]) (H' := []) (ps := []) (by kernel_rfl) trivial ?_
    refine GoO.regionEnd ?_
    exact GoO.ret' (h := c57_8e) (hs := []) (ps := []) (hk := []) (bk := []) Try.func57 () (by kernel_rfl) trivial (by kernel_rfl) (by kernel_rfl)
  · refine GoO.skip' c57_9e ?_
    refine GoO.seq' c57_10e ?_
    refine GoO.seq' c57_11e ?_
    refine GoO.region' (is := [0]) c57_12e (by kernel_rfl) ?_
    refine GoO.exec (is := [0]) (hs := [.p]) (rest := []) (ks := [0, 1, 5]) (env' := [(0, .slice A_2 a_1.length c_3), (1, .slice A_5 b_4.length c_6), (5, .int .i64 0)]) (H' := []) (ps := []) (by kernel_rfl) trivial ?_
    refine GoO.regionEnd ?_
    refine GoO.block' c57_13e ?_
    refine GoO.loop' c57_14e ?_
    exact GoO.sub (ks := [0, 1, 5]) (hk := []) (bk := [0, 1]) (by kernel_rfl) (by kernel_rfl) (by kernel_rfl) (tontineref13_Same_l0_ok n a_1 b_4 A_2 c_3 A_5 c_6 w0 S0 n 0)

/-! tontine/tontineref14.Same -/
noncomputable def c27_0 : Code := bodyOf Try.f27
noncomputable def c27_1 : Code := cdL c27_0
noncomputable def c27_2 : Code := cdR c27_0
noncomputable def c27_3 : Code := cdL c27_2
noncomputable def c27_4 : Code := cdR c27_2
noncomputable def r27_1 : Array Oper := cdO c27_1
noncomputable def r27_3 : Array Oper := cdO c27_3
theorem c27_0e : c27_0 = .seq c27_1 c27_2 := by kernel_rfl
theorem c27_1e : c27_1 = .region 0 r27_1 false := by kernel_rfl
theorem c27_2e : c27_2 = .seq c27_3 c27_4 := by kernel_rfl
theorem c27_3e : c27_3 = .region 1 r27_3 false := by kernel_rfl
theorem c27_4e : c27_4 = .ret := by kernel_rfl
noncomputable def tontineref14_Same.R (A_2 : Option Addr) (c_3 : Nat) (A_5 : Option Addr) (c_6 : Nat) : Pst Bool where
  ε := Unit
  v := fun r x => .bool r
  H := fun r x => []
  B := fun r x => []
noncomputable def tontineref14_Same.cx (A_2 : Option Addr) (c_3 : Nat) (A_5 : Option Addr) (c_6 : Nat) (w0 : World) (S0 : Fam) : Cx Bool := ⟨Try.prog, 27, Try.f27, 31, w0, S0, [], 0, tontineref14_Same.R A_2 c_3 A_5 c_6⟩
theorem tontineref14_Same_ok (n : Nat) (a_1 : T_api_Saga) (b_4 : T_api_Saga) (A_2 : Option Addr) (c_3 : Nat) (A_5 : Option Addr) (c_6 : Nat) :
    Meets Try.prog 27 [.agg ⟨[.slice A_2 a_1.Steps.length c_3, .int .i64 a_1.State, .int .i64 a_1.Cursor, .int .i64 a_1.Failed]⟩, .agg ⟨[.slice A_5 b_4.Steps.length c_6, .int .i64 b_4.State, .int .i64 b_4.Cursor, .int .i64 b_4.Failed]⟩] 0 [] [] [Rd 0 kT_api_Step A_2 c_3 a_1.Steps, Rd 0 kT_api_Step A_5 c_6 b_4.Steps] (tontineref14_Same.f n a_1 b_4) (tontineref14_Same.R A_2 c_3 A_5 c_6) := by
  refine Meets.of (c := c27_0) (n := 31) Try.func27 (by kernel_rfl) (by kernel_rfl) (by kernel_rfl) fun w0 S0 => ?_
  unfold tontineref14_Same.f
  show GoO (tontineref14_Same.cx A_2 c_3 A_5 c_6 w0 S0) [(0, .agg ⟨[.slice A_2 a_1.Steps.length c_3, .int .i64 a_1.State, .int .i64 a_1.Cursor, .int .i64 a_1.Failed]⟩), (1, .agg ⟨[.slice A_5 b_4.Steps.length c_6, .int .i64 b_4.State, .int .i64 b_4.Cursor, .int .i64 b_4.Failed]⟩)] [] [Rd 0 kT_api_Step A_2 c_3 a_1.Steps, Rd 0 kT_api_Step A_5 c_6 b_4.Steps] [.code c27_0] _
  refine GoO.seq' c27_0e ?_
  refine GoO.region' (is := [0, 1, 2]) c27_1e (by kernel_rfl) ?_
  refine OpTo.go (GoO.new rfl 40 (cs := [.slice A_2 a_1.Steps.length c_3, .int .i64 a_1.State, .int .i64 a_1.Cursor, .int .i64 a_1.Failed]) (by kernel_rfl) _ (fun _ => rfl) (fun b_7 => ?_))
  refine OpTo.go (GoO.new rfl 41 (cs := [.slice A_5 b_4.Steps.length c_6, .int .i64 b_4.State, .int .i64 b_4.Cursor, .int .i64 b_4.Failed]) (by kernel_rfl) _ (fun _ => rfl) (fun b_8 => ?_))
  refine GoO.exec (is := [2]) (hs := [.p]) (rest := []) (ks := [2, 3]) (env' := [(2, .pointer (some ⟨b_7, 0, none⟩)), (3, .pointer (some ⟨b_8, 0, none⟩))]) (H' := [⟨41, b_8, [.slice A_5 b_4.Steps.length c_6, .int .i64 b_4.State, .int .i64 b_4.Cursor, .int .i64 b_4.Failed]⟩, ⟨40, b_7, [.slice A_2 a_1.Steps.length c_3, .int .i64 a_1.State, .int .i64 a_1.Cursor, .int .i64 a_1.Failed]⟩]) (ps := []) (by kernel_rfl) trivial ?_
  refine GoO.regionEnd ?_
  refine GoO.seq' c27_2e ?_
  refine GoO.region' (is := [0, 1, 2, 3, 4, 5, 6, 7, 8, 9, 10, 11, 12, 13, 14, 15, 16, 17, 18, 19, 20, 21, 22, 23, 24, 25, 26]) c27_3e (by kernel_rfl) ?_
  refine GoO.exec (is := [0, 1, 2, 3, 4, 5]) (hs := [.p, .b 1, .p, .b 0, .p, .p]) (rest := [6, 7, 8, 9, 10, 11, 12, 13, 14, 15, 16, 17, 18, 19, 20, 21, 22, 23, 24, 25, 26]) (ks := [2, 3, 10]) (env' := [(2, .pointer (some ⟨b_7, 0, none⟩)), (3, .pointer (some ⟨b_8, 0, none⟩)), (10, .bool (a_1.State == b_4.State))]) (H' := [⟨41, b_8, [.slice A_5 b_4.Steps.length c_6, .int .i64 b_4.State, .int .i64 b_4.Cursor, .int .i64 b_4.Failed]⟩, ⟨40, b_7, [.slice A_2 a_1.Steps.length c_3, .int .i64 a_1.State, .int .i64 a_1.Cursor, .int .i64 a_1.Failed]⟩]) (ps := [b_7 = b_7, b_8 = b_8]) (by kernel_rfl) (And.intro rfl (And.intro rfl trivial)) ?_
  refine GoO.bsplit (t := 10) (by kernel_rfl) (fun h9 => ?_) (fun h9 => ?_)
  · refine GoO.exec (is := [6, 7, 8, 9, 10, 11, 12]) (hs := [.p, .b 1, .p, .b 0, .p, .p, .p]) (rest := [13, 14, 15, 16, 17, 18, 19, 20, 21, 22, 23, 24, 25, 26]) (ks := [2, 3, 17]) (env' := [(2, .pointer (some ⟨b_7, 0, none⟩)), (3, .pointer (some ⟨b_8, 0, none⟩)), (17, .bool (a_1.Cursor == b_4.Cursor))]) (H' := [⟨41, b_8, [.slice A_5 b_4.Steps.length c_6, .int .i64 b_4.State, .int .i64 b_4.Cursor, .int .i64 b_4.Failed]⟩, ⟨40, b_7, [.slice A_2 a_1.Steps.length c_3, .int .i64 a_1.State, .int .i64 a_1.Cursor, .int .i64 a_1.Failed]⟩]) (ps := [b_7 = b_7, b_8 = b_8]) (by kernel_rfl) (And.intro rfl (And.intro rfl trivial)) ?_
    refine GoO.bsplit (t := 17) (by kernel_rfl) (fun h10 => ?_) (fun h10 => ?_)
    · refine GoO.exec (is := [13, 14, 15, 16, 17, 18, 19]) (hs := [.p, .b 1, .p, .b 0, .p, .p, .p]) (rest := [20, 21, 22, 23, 24, 25, 26]) (ks := [2, 3, 24]) (env' := [(2, .pointer (some ⟨b_7, 0, none⟩)), (3, .pointer (some ⟨b_8, 0, none⟩)), (24, .bool (a_1.Failed == b_4.Failed))]) (H' := [⟨41, b_8, [.slice A_5 b_4.Steps.length c_6, .int .i64 b_4.State, .int .i64 b_4.Cursor, .int .i64 b_4.Failed]⟩, ⟨40, b_7, [.slice A_2 a_1.Steps.length c_3, .int .i64 a_1.State, .int .i64 a_1.Cursor, .int .i64 a_1.Failed]⟩]) (ps := [b_7 = b_7, b_8 = b_8]) (by kernel_rfl) (And.intro rfl (And.intro rfl trivial)) ?_
      refine GoO.bsplit (t := 24) (by kernel_rfl) (fun h11 => ?_) (fun h11 => ?_)
      · refine GoO.exec (is := [20, 21, 22, 23]) (hs := [.p, .b 1, .p, .b 0]) (rest := [24, 25, 26]) (ks := [24, 26, 28]) (env' := [(24, .bool true), (26, .slice A_2 a_1.Steps.length c_3), (28, .slice A_5 b_4.Steps.length c_6)]) (H' := [⟨41, b_8, [.slice A_5 b_4.Steps.length c_6, .int .i64 b_4.State, .int .i64 b_4.Cursor, .int .i64 b_4.Failed]⟩, ⟨40, b_7, [.slice A_2 a_1.Steps.length c_3, .int .i64 a_1.State, .int .i64 a_1.Cursor, .int .i64 a_1.Failed]⟩]) (ps := [b_7 = b_7, b_8 = b_8]) (by kernel_rfl) (And.intro rfl (And.intro rfl trivial)) ?_
        refine OpTo.go (GoO.call rfl (by kernel_rfl) (by kernel_rfl) (tontineref13_Same_ok n a_1.Steps b_4.Steps A_2 c_3 A_5 c_6) [[0]] [] [] [(0, 0), (0, 1)] (hks := [0, 1]) (bks := [0, 1]) (by kernel_rfl) (by kernel_rfl) (by kernel_rfl) (.inl rfl) rfl rfl (by kernel_rfl) (by kernel_rfl) _ (fun _ _ => rfl) _ _ (fun _ _ => rfl) (fun _ _ => rfl) (fun _ _ => by kernel_rfl) (fun _ _ => by kernel_rfl) (fun r_12 x_13 => ?_))
        refine GoO.shape (env' := [(24, .bool true), (26, .slice A_2 a_1.Steps.length c_3), (28, .slice A_5 b_4.Steps.length c_6), (29, .bool r_12)]) (H' := [⟨41, b_8, [.slice A_5 b_4.Steps.length c_6, .int .i64 b_4.State, .int .i64 b_4.Cursor, .int .i64 b_4.Failed]⟩, ⟨40, b_7, [.slice A_2 a_1.Steps.length c_3, .int .i64 a_1.State, .int .i64 a_1.Cursor, .int .i64 a_1.Failed]⟩]) (B' := [Rd 0 kT_api_Step A_2 c_3 a_1.Steps, Rd 0 kT_api_Step A_5 c_6 b_4.Steps]) (ks := [24, 26, 28, 29]) (by kernel_rfl) (by kernel_rfl) (by kernel_rfl) ?_
        refine GoO.exec (is := [25, 26]) (hs := [.p, .p]) (rest := []) (ks := [4]) (env' := [(4, .bool r_12)]) (H' := [⟨41, b_8, [.slice A_5 b_4.Steps.length c_6, .int .i64 b_4.State, .int .i64 b_4.Cursor, .int .i64 b_4.Failed]⟩, ⟨40, b_7, [.slice A_2 a_1.Steps.length c_3, .int .i64 a_1.State, .int .i64 a_1.Cursor, .int .i64 a_1.Failed]⟩]) (ps := []) (by kernel_rfl) trivial ?_
        refine GoO.regionEnd ?_
        exact GoO.ret' (h := c27_4e) (hs := []) (ps := []) (hk := []) (bk := []) Try.func27 () (by kernel_rfl) trivial (by kernel_rfl) (by kernel_rfl)
      · refine GoO.exec (is := [20, 21, 22, 23, 24, 25, 26]) (hs := [.p, .p, .p, .p, .p, .p, .p]) (rest := []) (ks := [4]) (env' := [(4, .bool false)]) (H' := [⟨41, b_8, [.slice A_5 b_4.Steps.length c_6, .int .i64 b_4.State, .int .i64 b_4.Cursor, .int .i64 b_4.Failed]⟩, ⟨40, b_7, [.slice A_2 a_1.Steps.length c_3, .int .i64 a_1.State, .int .i64 a_1.Cursor, .int .i64 a_1.Failed]⟩]) (ps := []) (by kernel_rfl) trivial ?_
        refine GoO.regionEnd ?_
        exact GoO.ret' (h := c27_4e) (hs := []) (ps := []) (hk := []) (bk := []) Try.func27 () (by kernel_rfl) trivial (by kernel_rfl) (by kernel_rfl)
    · refine GoO.exec (is := [13, 14, 15, 16, 17, 18, 19, 20, 21, 22, 23, 24, 25, 26]) (hs := [.p, .p, .p, .p, .p, .p, .p, .p, .p, .p, .p, .p, .p, .p]) (rest := []) (ks := [4]) (env' := [(4, .bool false)]) (H' := [⟨41, b_8, [.slice A_5 b_4.Steps.length c_6, .int .i64 b_4.State, .int .i64 b_4.Cursor, .int .i64 b_4.Failed]⟩, ⟨40, b_7, [.slice A_2 a_1.Steps.length c_3, .int .i64 a_1.State, .int .i64 a_1.Cursor, .int .i64 a_1.Failed]⟩]) (ps := []) (by kernel_rfl) trivial ?_
      refine GoO.regionEnd ?_
      exact GoO.ret' (h := c27_4e) (hs := []) (ps := []) (hk := []) (bk := []) Try.func27 () (by kernel_rfl) trivial (by kernel_rfl) (by kernel_rfl)
  · refine GoO.exec (is := [6, 7, 8, 9, 10, 11, 12, 13, 14, 15, 16, 17, 18, 19, 20, 21, 22, 23, 24, 25, 26]) (hs := [.p, .p, .p, .p, .p, .p, .p, .p, .p, .p, .p, .p, .p, .p, .p, .p, .p, .p, .p, .p, .p]) (rest := []) (ks := [4]) (env' := [(4, .bool false)]) (H' := [⟨41, b_8, [.slice A_5 b_4.Steps.length c_6, .int .i64 b_4.State, .int .i64 b_4.Cursor, .int .i64 b_4.Failed]⟩, ⟨40, b_7, [.slice A_2 a_1.Steps.length c_3, .int .i64 a_1.State, .int .i64 a_1.Cursor, .int .i64 a_1.Failed]⟩]) (ps := []) (by kernel_rfl) trivial ?_
    refine GoO.regionEnd ?_
    exact GoO.ret' (h := c27_4e) (hs := []) (ps := []) (hk := []) (bk := []) Try.func27 () (by kernel_rfl) trivial (by kernel_rfl) (by kernel_rfl)

/-! (*tontine/pack.Reader).Done -/
noncomputable def c46_0 : Code := bodyOf Try.f46
noncomputable def c46_1 : Code := cdL c46_0
noncomputable def c46_2 : Code := cdR c46_0
noncomputable def c46_3 : Code := cdL c46_2
noncomputable def c46_4 : Code := cdR c46_2
noncomputable def c46_5 : Code := cdL c46_4
noncomputable def c46_6 : Code := cdR c46_4
noncomputable def r46_1 : Array Oper := cdO c46_1
noncomputable def r46_3 : Array Oper := cdO c46_3
noncomputable def r46_5 : Array Oper := cdO c46_5
theorem c46_0e : c46_0 = .seq c46_1 c46_2 := by kernel_rfl
theorem c46_1e : c46_1 = .region 0 r46_1 false := by kernel_rfl
theorem c46_2e : c46_2 = .seq c46_3 c46_4 := by kernel_rfl
theorem c46_3e : c46_3 = .region 1 r46_3 false := by kernel_rfl
theorem c46_4e : c46_4 = .seq c46_5 c46_6 := by kernel_rfl
theorem c46_5e : c46_5 = .region 2 r46_5 false := by kernel_rfl
theorem c46_6e : c46_6 = .ret := by kernel_rfl
noncomputable def pack_Reader_Done.R (b_2 : Nat) : Pst Bool where
  ε := Unit
  v := fun r x => .bool r
  H := fun r x => []
  B := fun r x => []
noncomputable def pack_Reader_Done.cx (b_2 : Nat) (w0 : World) (S0 : Fam) : Cx Bool := ⟨Try.prog, 46, Try.f46, 15, w0, S0, [], 1, pack_Reader_Done.R b_2⟩
theorem pack_Reader_Done_ok (n : Nat) (r_1 : T_pack_Reader) (b_2 : Nat) :
    Meets Try.prog 46 [.pointer (some ⟨b_2, 0, none⟩)] 1 [] [⟨1, b_2, [.string (bs r_1.s), .bool r_1.bad]⟩] [] (pack_Reader_Done.f n r_1) (pack_Reader_Done.R b_2) := by
  refine Meets.of (c := c46_0) (n := 15) Try.func46 (by kernel_rfl) (by kernel_rfl) (by kernel_rfl) fun w0 S0 => ?_
  unfold pack_Reader_Done.f
  show GoO (pack_Reader_Done.cx b_2 w0 S0) [(0, .pointer (some ⟨b_2, 0, none⟩))] [⟨1, b_2, [.string (bs r_1.s), .bool r_1.bad]⟩] [] [.code c46_0] _
  refine GoO.seq' c46_0e ?_
  refine GoO.region' (is := [0]) c46_1e (by kernel_rfl) ?_
  refine GoO.exec (is := [0]) (hs := [.p]) (rest := []) (ks := [0]) (env' := [(0, .pointer (some ⟨b_2, 0, none⟩))]) (H' := [⟨1, b_2, [.string (bs r_1.s), .bool r_1.bad]⟩]) (ps := []) (by kernel_rfl) trivial ?_
  refine GoO.regionEnd ?_
  refine GoO.seq' c46_2e ?_
  refine GoO.region' (is := [0, 1, 2, 3, 4, 5, 6]) c46_3e (by kernel_rfl) ?_
  refine GoO.exec (is := [0]) (hs := [.p]) (rest := [1, 2, 3, 4, 5, 6]) (ks := [6]) (env' := [(6, .pointer (some ⟨b_2, 0, none⟩))]) (H' := [⟨1, b_2, [.string (bs r_1.s), .bool r_1.bad]⟩]) (ps := []) (by kernel_rfl) trivial ?_
  refine OpTo.go (GoO.call rfl (by kernel_rfl) (by kernel_rfl) (pack_Reader_Left_ok n r_1 b_2) [[0], [1]] [] [(1, 0)] [] (hks := [0]) (bks := []) (by kernel_rfl) (by kernel_rfl) (by kernel_rfl) (.inl rfl) rfl rfl (by kernel_rfl) (by kernel_rfl) _ (fun _ _ => rfl) _ _ (fun _ _ => rfl) (fun _ _ => rfl) (fun _ _ => by kernel_rfl) (fun _ _ => by kernel_rfl) (fun r_3 x_5 => ?_))
  refine GoO.shape (env' := [(6, .pointer (some ⟨b_2, 0, none⟩)), (7, .tuple ⟨[.int .i64 r_3.1, .bool r_3.2]⟩)]) (H' := [⟨1, b_2, [.string (bs r_1.s), .bool r_1.bad]⟩]) (B' := []) (ks := [6, 7]) (by kernel_rfl) (by kernel_rfl) (by kernel_rfl) ?_
  refine GoO.exec (is := [2, 3, 4, 5, 6]) (hs := [.p, .p, .p, .p, .p]) (rest := []) (ks := [3, 4]) (env' := [(3, .int .i64 r_3.1), (4, .bool r_3.2)]) (H' := [⟨1, b_2, [.string (bs r_1.s), .bool r_1.bad]⟩]) (ps := []) (by kernel_rfl) trivial ?_
  refine GoO.regionEnd ?_
  refine GoO.seq' c46_4e ?_
  refine GoO.region' (is := [0, 1, 2, 3, 4, 5]) c46_5e (by kernel_rfl) ?_
  refine GoO.exec (is := [0, 1, 2]) (hs := [.p, .p, .p]) (rest := [3, 4, 5]) (ks := [4, 12]) (env' := [(4, .bool r_3.2), (12, .bool (r_3.1 == 0))]) (H' := [⟨1, b_2, [.string (bs r_1.s), .bool r_1.bad]⟩]) (ps := []) (by kernel_rfl) trivial ?_
  refine GoO.bsplit (t := 12) (by kernel_rfl) (fun h4 => ?_) (fun h4 => ?_)
  · refine GoO.exec (is := [3, 4, 5]) (hs := [.p, .p, .p]) (rest := []) (ks := [2]) (env' := [(2, .bool r_3.2)]) (H' := [⟨1, b_2, [.string (bs r_1.s), .bool r_1.bad]⟩]) (ps := []) (by kernel_rfl) trivial ?_
    refine GoO.regionEnd ?_
    exact GoO.ret' (h := c46_6e) (hs := []) (ps := []) (hk := []) (bk := []) Try.func46 () (by kernel_rfl) trivial (by kernel_rfl) (by kernel_rfl)
  · refine GoO.exec (is := [3, 4, 5]) (hs := [.p, .p, .p]) (rest := []) (ks := [2]) (env' := [(2, .bool false)]) (H' := [⟨1, b_2, [.string (bs r_1.s), .bool r_1.bad]⟩]) (ps := []) (by kernel_rfl) trivial ?_
    refine GoO.regionEnd ?_
    exact GoO.ret' (h := c46_6e) (hs := []) (ps := []) (hk := []) (bk := []) Try.func46 () (by kernel_rfl) trivial (by kernel_rfl) (by kernel_rfl)

/-! tontine/tontinelaw14.SagaBytes -/
noncomputable def c14_0 : Code := bodyOf Try.f14
noncomputable def c14_1 : Code := cdL c14_0
noncomputable def c14_2 : Code := cdR c14_0
noncomputable def c14_3 : Code := cdL c14_2
noncomputable def c14_4 : Code := cdL c14_3
noncomputable def c14_5 : Code := cdR c14_3
noncomputable def c14_6 : Code := cdL c14_5
end Go.GL
