import Derived.Test.YtfeddlhkiomdaaaWalkCommandDecodesP2
import Derived.Test.YtfeddlhkiomdaaaKindsT1
import Derived.Test.YtfeddlhkiomdaaaProg
set_option linter.unusedVariables false
set_option linter.unusedSimpArgs false
set_option maxRecDepth 100000
namespace Go.GL
open Go Go.Proofs
theorem tontineref16_Decode_ok (n : Nat) (s_1 : (List UInt8)) :
    Meets Try.prog 37 [.string (bs s_1)] 0 [] [] [] (tontineref16_Decode.f n s_1) (tontineref16_Decode.R) := by
  refine Meets.of (c := c37_0) (n := 76) Try.func37 (by kernel_rfl) (by kernel_rfl) (by kernel_rfl) fun w0 S0 => ?_
  unfold tontineref16_Decode.f
  show GoO (tontineref16_Decode.cx w0 S0) [(0, .string (bs s_1))] [] [] [.code c37_0] _
  refine GoO.seq' c37_0e ?_
  refine GoO.region' (is := [0, 1]) c37_1e (by kernel_rfl) ?_
  refine OpTo.go (GoO.new rfl 40 (cs := [.int .i64 0, .int .u64 0, .int .u64 0, .int .u64 0, .slice none ([] : List T_api_Step).length 0, .int .i64 0, .bool false, .int .i64 0, .bool false, .int .u64 0]) (by kernel_rfl) _ (fun _ => rfl) (fun b_2 => ?_))
  refine GoO.exec (is := [1]) (hs := [.p]) (rest := []) (ks := [0, 2]) (env' := [(0, .string (bs s_1)), (2, .pointer (some ⟨b_2, 0, none⟩))]) (H' := [⟨40, b_2, [.int .i64 0, .int .u64 0, .int .u64 0, .int .u64 0, .slice none ([] : List T_api_Step).length 0, .int .i64 0, .bool false, .int .i64 0, .bool false, .int .u64 0]⟩]) (ps := []) (by kernel_rfl) trivial ?_
  refine GoO.regionEnd ?_
  refine GoO.seq' c37_2e ?_
  refine GoO.region' (is := [0, 1, 2, 3]) c37_3e (by kernel_rfl) ?_
  refine GoO.exec (is := [0, 1]) (hs := [.p, .p]) (rest := [2, 3]) (ks := [0, 2, 9]) (env' := [(0, .string (bs s_1)), (2, .pointer (some ⟨b_2, 0, none⟩)), (9, .agg ⟨[.string (bs s_1), .bool false]⟩)]) (H' := [⟨40, b_2, [.int .i64 0, .int .u64 0, .int .u64 0, .int .u64 0, .slice none ([] : List T_api_Step).length 0, .int .i64 0, .bool false, .int .i64 0, .bool false, .int .u64 0]⟩]) (ps := []) (by kernel_rfl) trivial ?_
  refine OpTo.go (GoO.new rfl 41 (cs := [.string (bs s_1), .bool false]) (by kernel_rfl) _ (fun _ => rfl) (fun b_3 => ?_))
  refine GoO.exec (is := [3]) (hs := [.p]) (rest := []) (ks := [0, 2, 4]) (env' := [(0, .string (bs s_1)), (2, .pointer (some ⟨b_2, 0, none⟩)), (4, .pointer (some ⟨b_3, 0, none⟩))]) (H' := [⟨41, b_3, [.string (bs s_1), .bool false]⟩, ⟨40, b_2, [.int .i64 0, .int .u64 0, .int .u64 0, .int .u64 0, .slice none ([] : List T_api_Step).length 0, .int .i64 0, .bool false, .int .i64 0, .bool false, .int .u64 0]⟩]) (ps := []) (by kernel_rfl) trivial ?_
  refine GoO.regionEnd ?_
  refine GoO.seq' c37_4e ?_
  refine GoO.region' (is := [0, 1, 2, 3, 4]) c37_5e (by kernel_rfl) ?_
  refine GoO.exec (is := [0]) (hs := [.p]) (rest := [1, 2, 3, 4]) (ks := [0, 2, 4, 11]) (env' := [(0, .string (bs s_1)), (2, .pointer (some ⟨b_2, 0, none⟩)), (4, .pointer (some ⟨b_3, 0, none⟩)), (11, .pointer (some ⟨b_3, 0, none⟩))]) (H' := [⟨41, b_3, [.string (bs s_1), .bool false]⟩, ⟨40, b_2, [.int .i64 0, .int .u64 0, .int .u64 0, .int .u64 0, .slice none ([] : List T_api_Step).length 0, .int .i64 0, .bool false, .int .i64 0, .bool false, .int .u64 0]⟩]) (ps := []) (by kernel_rfl) trivial ?_
  refine OpTo.go (GoO.call rfl (by kernel_rfl) (by kernel_rfl) (tontineref03_Reader_Up_ok n (⟨s_1, false⟩ : T_tontineref03_Reader) 5 b_3) [[0], [41]] [(41, 1)] [(1, 0)] [] (hks := [1]) (bks := []) (by kernel_rfl) (by kernel_rfl) (by kernel_rfl) (.inl rfl) rfl rfl (by kernel_rfl) (by kernel_rfl) _ (fun _ _ => rfl) _ _ (fun _ _ => rfl) (fun _ _ => rfl) (fun _ _ => by kernel_rfl) (fun _ _ => by kernel_rfl) (fun r_4 x_41 => ?_))
  refine GoO.shape (env' := [(0, .string (bs s_1)), (2, .pointer (some ⟨b_2, 0, none⟩)), (4, .pointer (some ⟨b_3, 0, none⟩)), (11, .pointer (some ⟨b_3, 0, none⟩)), (12, .int .i64 r_4.1)]) (H' := [⟨41, b_3, [.string (bs r_4.2.S_), .bool r_4.2.Bad]⟩, ⟨40, b_2, [.int .i64 0, .int .u64 0, .int .u64 0, .int .u64 0, .slice none ([] : List T_api_Step).length 0, .int .i64 0, .bool false, .int .i64 0, .bool false, .int .u64 0]⟩]) (B' := []) (ks := [0, 2, 4, 11, 12]) (by kernel_rfl) (by kernel_rfl) (by kernel_rfl) ?_
  refine GoO.exec (is := [2]) (hs := [.p]) (rest := [3, 4]) (ks := [0, 2, 4, 13]) (env' := [(0, .string (bs s_1)), (2, .pointer (some ⟨b_2, 0, none⟩)), (4, .pointer (some ⟨b_3, 0, none⟩)), (13, .agg ⟨[.int .i64 r_4.1, .int .u64 0, .int .u64 0, .int .u64 0, .slice none ([] : List T_api_Step).length 0, .int .i64 0, .bool false, .int .i64 0, .bool false, .int .u64 0]⟩)]) (H' := [⟨41, b_3, [.string (bs r_4.2.S_), .bool r_4.2.Bad]⟩, ⟨40, b_2, [.int .i64 0, .int .u64 0, .int .u64 0, .int .u64 0, .slice none ([] : List T_api_Step).length 0, .int .i64 0, .bool false, .int .i64 0, .bool false, .int .u64 0]⟩]) (ps := []) (by kernel_rfl) trivial ?_
  refine OpTo.go (GoO.new rfl 42 (cs := [.int .i64 0, .int .u64 0, .int .u64 0, .int .u64 0, .slice none ([] : List T_api_Step).length 0, .int .i64 0, .bool false, .int .i64 0, .bool false, .int .u64 0]) (by kernel_rfl) _ (fun _ => rfl) (fun b_5 => ?_))
  refine GoO.exec (is := [4]) (hs := [.b 0]) (rest := []) (ks := [0, 2, 4, 5]) (env' := [(0, .string (bs s_1)), (2, .pointer (some ⟨b_2, 0, none⟩)), (4, .pointer (some ⟨b_3, 0, none⟩)), (5, .pointer (some ⟨b_5, 0, none⟩))]) (H' := [⟨42, b_5, [.int .i64 r_4.1, .int .u64 0, .int .u64 0, .int .u64 0, .slice none ([] : List T_api_Step).length 0, .int .i64 0, .bool false, .int .i64 0, .bool false, .int .u64 0]⟩, ⟨41, b_3, [.string (bs r_4.2.S_), .bool r_4.2.Bad]⟩, ⟨40, b_2, [.int .i64 0, .int .u64 0, .int .u64 0, .int .u64 0, .slice none ([] : List T_api_Step).length 0, .int .i64 0, .bool false, .int .i64 0, .bool false, .int .u64 0]⟩]) (ps := [b_5 = b_5]) (by kernel_rfl) (And.intro rfl trivial) ?_
  refine GoO.regionEnd ?_
  refine GoO.seq' c37_6e ?_
  refine GoO.region' (is := [0, 1, 2, 3]) c37_7e (by kernel_rfl) ?_
  refine GoO.exec (is := [0]) (hs := [.p]) (rest := [1, 2, 3]) (ks := [0, 2, 4, 5, 14]) (env' := [(0, .string (bs s_1)), (2, .pointer (some ⟨b_2, 0, none⟩)), (4, .pointer (some ⟨b_3, 0, none⟩)), (5, .pointer (some ⟨b_5, 0, none⟩)), (14, .pointer (some ⟨b_3, 0, none⟩))]) (H' := [⟨42, b_5, [.int .i64 r_4.1, .int .u64 0, .int .u64 0, .int .u64 0, .slice none ([] : List T_api_Step).length 0, .int .i64 0, .bool false, .int .i64 0, .bool false, .int .u64 0]⟩, ⟨41, b_3, [.string (bs r_4.2.S_), .bool r_4.2.Bad]⟩, ⟨40, b_2, [.int .i64 0, .int .u64 0, .int .u64 0, .int .u64 0, .slice none ([] : List T_api_Step).length 0, .int .i64 0, .bool false, .int .i64 0, .bool false, .int .u64 0]⟩]) (ps := []) (by kernel_rfl) trivial ?_
  refine OpTo.go (GoO.call rfl (by kernel_rfl) (by kernel_rfl) (tontineref03_Reader_Num_ok n r_4.2 b_3) [[0], [41]] [(41, 1)] [(1, 1)] [] (hks := [0, 2]) (bks := []) (by kernel_rfl) (by kernel_rfl) (by kernel_rfl) (.inl rfl) rfl rfl (by kernel_rfl) (by kernel_rfl) _ (fun _ _ => rfl) _ _ (fun _ _ => rfl) (fun _ _ => rfl) (fun _ _ => by kernel_rfl) (fun _ _ => by kernel_rfl) (fun r_6 x_40 => ?_))
  refine GoO.shape (env' := [(0, .string (bs s_1)), (2, .pointer (some ⟨b_2, 0, none⟩)), (4, .pointer (some ⟨b_3, 0, none⟩)), (5, .pointer (some ⟨b_5, 0, none⟩)), (14, .pointer (some ⟨b_3, 0, none⟩)), (15, .int .u64 r_6.1)]) (H' := [⟨41, b_3, [.string (bs r_6.2.S_), .bool r_6.2.Bad]⟩, ⟨42, b_5, [.int .i64 r_4.1, .int .u64 0, .int .u64 0, .int .u64 0, .slice none ([] : List T_api_Step).length 0, .int .i64 0, .bool false, .int .i64 0, .bool false, .int .u64 0]⟩, ⟨40, b_2, [.int .i64 0, .int .u64 0, .int .u64 0, .int .u64 0, .slice none ([] : List T_api_Step).length 0, .int .i64 0, .bool false, .int .i64 0, .bool false, .int .u64 0]⟩]) (B' := []) (ks := [0, 2, 4, 5, 14, 15]) (by kernel_rfl) (by kernel_rfl) (by kernel_rfl) ?_
  refine GoO.exec (is := [2, 3]) (hs := [.p, .b 1]) (rest := []) (ks := [0, 2, 4, 5]) (env' := [(0, .string (bs s_1)), (2, .pointer (some ⟨b_2, 0, none⟩)), (4, .pointer (some ⟨b_3, 0, none⟩)), (5, .pointer (some ⟨b_5, 0, none⟩))]) (H' := [⟨41, b_3, [.string (bs r_6.2.S_), .bool r_6.2.Bad]⟩, ⟨42, b_5, [.int .i64 r_4.1, .int .u64 r_6.1, .int .u64 0, .int .u64 0, .slice none ([] : List T_api_Step).length 0, .int .i64 0, .bool false, .int .i64 0, .bool false, .int .u64 0]⟩, ⟨40, b_2, [.int .i64 0, .int .u64 0, .int .u64 0, .int .u64 0, .slice none ([] : List T_api_Step).length 0, .int .i64 0, .bool false, .int .i64 0, .bool false, .int .u64 0]⟩]) (ps := [b_5 = b_5]) (by kernel_rfl) (And.intro rfl trivial) ?_
  refine GoO.regionEnd ?_
  refine GoO.seq' c37_8e ?_
  refine GoO.region' (is := [0, 1, 2, 3]) c37_9e (by kernel_rfl) ?_
  refine GoO.exec (is := [0]) (hs := [.p]) (rest := [1, 2, 3]) (ks := [0, 2, 4, 5, 17]) (env' := [(0, .string (bs s_1)), (2, .pointer (some ⟨b_2, 0, none⟩)), (4, .pointer (some ⟨b_3, 0, none⟩)), (5, .pointer (some ⟨b_5, 0, none⟩)), (17, .pointer (some ⟨b_3, 0, none⟩))]) (H' := [⟨41, b_3, [.string (bs r_6.2.S_), .bool r_6.2.Bad]⟩, ⟨42, b_5, [.int .i64 r_4.1, .int .u64 r_6.1, .int .u64 0, .int .u64 0, .slice none ([] : List T_api_Step).length 0, .int .i64 0, .bool false, .int .i64 0, .bool false, .int .u64 0]⟩, ⟨40, b_2, [.int .i64 0, .int .u64 0, .int .u64 0, .int .u64 0, .slice none ([] : List T_api_Step).length 0, .int .i64 0, .bool false, .int .i64 0, .bool false, .int .u64 0]⟩]) (ps := []) (by kernel_rfl) trivial ?_
  refine OpTo.go (GoO.call rfl (by kernel_rfl) (by kernel_rfl) (tontineref03_Reader_Num_ok n r_6.2 b_3) [[0], [41]] [(41, 1)] [(1, 0)] [] (hks := [1, 2]) (bks := []) (by kernel_rfl) (by kernel_rfl) (by kernel_rfl) (.inl rfl) rfl rfl (by kernel_rfl) (by kernel_rfl) _ (fun _ _ => rfl) _ _ (fun _ _ => rfl) (fun _ _ => rfl) (fun _ _ => by kernel_rfl) (fun _ _ => by kernel_rfl) (fun r_7 x_39 => ?_))
  refine GoO.shape (env' := [(0, .string (bs s_1)), (2, .pointer (some ⟨b_2, 0, none⟩)), (4, .pointer (some ⟨b_3, 0, none⟩)), (5, .pointer (some ⟨b_5, 0, none⟩)), (17, .pointer (some ⟨b_3, 0, none⟩)), (18, .int .u64 r_7.1)]) (H' := [⟨41, b_3, [.string (bs r_7.2.S_), .bool r_7.2.Bad]⟩, ⟨42, b_5, [.int .i64 r_4.1, .int .u64 r_6.1, .int .u64 0, .int .u64 0, .slice none ([] : List T_api_Step).length 0, .int .i64 0, .bool false, .int .i64 0, .bool false, .int .u64 0]⟩, ⟨40, b_2, [.int .i64 0, .int .u64 0, .int .u64 0, .int .u64 0, .slice none ([] : List T_api_Step).length 0, .int .i64 0, .bool false, .int .i64 0, .bool false, .int .u64 0]⟩]) (B' := []) (ks := [0, 2, 4, 5, 17, 18]) (by kernel_rfl) (by kernel_rfl) (by kernel_rfl) ?_
  refine GoO.exec (is := [2, 3]) (hs := [.p, .b 1]) (rest := []) (ks := [0, 2, 4, 5]) (env' := [(0, .string (bs s_1)), (2, .pointer (some ⟨b_2, 0, none⟩)), (4, .pointer (some ⟨b_3, 0, none⟩)), (5, .pointer (some ⟨b_5, 0, none⟩))]) (H' := [⟨41, b_3, [.string (bs r_7.2.S_), .bool r_7.2.Bad]⟩, ⟨42, b_5, [.int .i64 r_4.1, .int .u64 r_6.1, .int .u64 r_7.1, .int .u64 0, .slice none ([] : List T_api_Step).length 0, .int .i64 0, .bool false, .int .i64 0, .bool false, .int .u64 0]⟩, ⟨40, b_2, [.int .i64 0, .int .u64 0, .int .u64 0, .int .u64 0, .slice none ([] : List T_api_Step).length 0, .int .i64 0, .bool false, .int .i64 0, .bool false, .int .u64 0]⟩]) (ps := [b_5 = b_5]) (by kernel_rfl) (And.intro rfl trivial) ?_
  refine GoO.regionEnd ?_
  refine GoO.seq' c37_10e ?_
  refine GoO.region' (is := [0, 1, 2, 3]) c37_11e (by kernel_rfl) ?_
  refine GoO.exec (is := [0]) (hs := [.p]) (rest := [1, 2, 3]) (ks := [0, 2, 4, 5, 20]) (env' := [(0, .string (bs s_1)), (2, .pointer (some ⟨b_2, 0, none⟩)), (4, .pointer (some ⟨b_3, 0, none⟩)), (5, .pointer (some ⟨b_5, 0, none⟩)), (20, .pointer (some ⟨b_3, 0, none⟩))]) (H' := [⟨41, b_3, [.string (bs r_7.2.S_), .bool r_7.2.Bad]⟩, ⟨42, b_5, [.int .i64 r_4.1, .int .u64 r_6.1, .int .u64 r_7.1, .int .u64 0, .slice none ([] : List T_api_Step).length 0, .int .i64 0, .bool false, .int .i64 0, .bool false, .int .u64 0]⟩, ⟨40, b_2, [.int .i64 0, .int .u64 0, .int .u64 0, .int .u64 0, .slice none ([] : List T_api_Step).length 0, .int .i64 0, .bool false, .int .i64 0, .bool false, .int .u64 0]⟩]) (ps := []) (by kernel_rfl) trivial ?_
  refine OpTo.go (GoO.call rfl (by kernel_rfl) (by kernel_rfl) (tontineref03_Reader_Num_ok n r_7.2 b_3) [[0], [41]] [(41, 1)] [(1, 0)] [] (hks := [1, 2]) (bks := []) (by kernel_rfl) (by kernel_rfl) (by kernel_rfl) (.inl rfl) rfl rfl (by kernel_rfl) (by kernel_rfl) _ (fun _ _ => rfl) _ _ (fun _ _ => rfl) (fun _ _ => rfl) (fun _ _ => by kernel_rfl) (fun _ _ => by kernel_rfl) (fun r_8 x_38 => ?_))
  refine GoO.shape (env' := [(0, .string (bs s_1)), (2, .pointer (some ⟨b_2, 0, none⟩)), (4, .pointer (some ⟨b_3, 0, none⟩)), (5, .pointer (some ⟨b_5, 0, none⟩)), (20, .pointer (some ⟨b_3, 0, none⟩)), (21, .int .u64 r_8.1)]) (H' := [⟨41, b_3, [.string (bs r_8.2.S_), .bool r_8.2.Bad]⟩, ⟨42, b_5, [.int .i64 r_4.1, .int .u64 r_6.1, .int .u64 r_7.1, .int .u64 0, .slice none ([] : List T_api_Step).length 0, .int .i64 0, .bool false, .int .i64 0, .bool false, .int .u64 0]⟩, ⟨40, b_2, [.int .i64 0, .int .u64 0, .int .u64 0, .int .u64 0, .slice none ([] : List T_api_Step).length 0, .int .i64 0, .bool false, .int .i64 0, .bool false, .int .u64 0]⟩]) (B' := []) (ks := [0, 2, 4, 5, 20, 21]) (by kernel_rfl) (by kernel_rfl) (by kernel_rfl) ?_
  refine GoO.exec (is := [2, 3]) (hs := [.p, .b 1]) (rest := []) (ks := [0, 2, 4, 5]) (env' := [(0, .string (bs s_1)), (2, .pointer (some ⟨b_2, 0, none⟩)), (4, .pointer (some ⟨b_3, 0, none⟩)), (5, .pointer (some ⟨b_5, 0, none⟩))]) (H' := [⟨41, b_3, [.string (bs r_8.2.S_), .bool r_8.2.Bad]⟩, ⟨42, b_5, [.int .i64 r_4.1, .int .u64 r_6.1, .int .u64 r_7.1, .int .u64 r_8.1, .slice none ([] : List T_api_Step).length 0, .int .i64 0, .bool false, .int .i64 0, .bool false, .int .u64 0]⟩, ⟨40, b_2, [.int .i64 0, .int .u64 0, .int .u64 0, .int .u64 0, .slice none ([] : List T_api_Step).length 0, .int .i64 0, .bool false, .int .i64 0, .bool false, .int .u64 0]⟩]) (ps := [b_5 = b_5]) (by kernel_rfl) (And.intro rfl trivial) ?_
  refine GoO.regionEnd ?_
  refine GoO.seq' c37_12e ?_
  refine GoO.region' (is := [0, 1, 2, 3]) c37_13e (by kernel_rfl) ?_
  refine GoO.exec (is := [0]) (hs := [.p]) (rest := [1, 2, 3]) (ks := [0, 2, 4, 5, 23]) (env' := [(0, .string (bs s_1)), (2, .pointer (some ⟨b_2, 0, none⟩)), (4, .pointer (some ⟨b_3, 0, none⟩)), (5, .pointer (some ⟨b_5, 0, none⟩)), (23, .pointer (some ⟨b_3, 0, none⟩))]) (H' := [⟨41, b_3, [.string (bs r_8.2.S_), .bool r_8.2.Bad]⟩, ⟨42, b_5, [.int .i64 r_4.1, .int .u64 r_6.1, .int .u64 r_7.1, .int .u64 r_8.1, .slice none ([] : List T_api_Step).length 0, .int .i64 0, .bool false, .int .i64 0, .bool false, .int .u64 0]⟩, ⟨40, b_2, [.int .i64 0, .int .u64 0, .int .u64 0, .int .u64 0, .slice none ([] : List T_api_Step).length 0, .int .i64 0, .bool false, .int .i64 0, .bool false, .int .u64 0]⟩]) (ps := []) (by kernel_rfl) trivial ?_
  refine OpTo.go (GoO.call rfl (by kernel_rfl) (by kernel_rfl) (tontineref03_Reader_Num_ok n r_8.2 b_3) [[0], [41]] [(41, 1)] [(1, 0)] [] (hks := [1, 2]) (bks := []) (by kernel_rfl) (by kernel_rfl) (by kernel_rfl) (.inl rfl) rfl rfl (by kernel_rfl) (by kernel_rfl) _ (fun _ _ => rfl) _ _ (fun _ _ => rfl) (fun _ _ => rfl) (fun _ _ => by kernel_rfl) (fun _ _ => by kernel_rfl) (fun r_9 x_37 => ?_))
  refine GoO.shape (env' := [(0, .string (bs s_1)), (2, .pointer (some ⟨b_2, 0, none⟩)), (4, .pointer (some ⟨b_3, 0, none⟩)), (5, .pointer (some ⟨b_5, 0, none⟩)), (23, .pointer (some ⟨b_3, 0, none⟩)), (24, .int .u64 r_9.1)]) (H' := [⟨41, b_3, [.string (bs r_9.2.S_), .bool r_9.2.Bad]⟩, ⟨42, b_5, [.int .i64 r_4.1, .int .u64 r_6.1, .int .u64 r_7.1, .int .u64 r_8.1, .slice none ([] : List T_api_Step).length 0, .int .i64 0, .bool false, .int .i64 0, .bool false, .int .u64 0]⟩, ⟨40, b_2, [.int .i64 0, .int .u64 0, .int .u64 0, .int .u64 0, .slice none ([] : List T_api_Step).length 0, .int .i64 0, .bool false, .int .i64 0, .bool false, .int .u64 0]⟩]) (B' := []) (ks := [0, 2, 4, 5, 23, 24]) (by kernel_rfl) (by kernel_rfl) (by kernel_rfl) ?_
  refine GoO.exec (is := [2, 3]) (hs := [.p, .b 1]) (rest := []) (ks := [0, 2, 4, 5]) (env' := [(0, .string (bs s_1)), (2, .pointer (some ⟨b_2, 0, none⟩)), (4, .pointer (some ⟨b_3, 0, none⟩)), (5, .pointer (some ⟨b_5, 0, none⟩))]) (H' := [⟨41, b_3, [.string (bs r_9.2.S_), .bool r_9.2.Bad]⟩, ⟨42, b_5, [.int .i64 r_4.1, .int .u64 r_6.1, .int .u64 r_7.1, .int .u64 r_8.1, .slice none ([] : List T_api_Step).length 0, .int .i64 0, .bool false, .int .i64 0, .bool false, .int .u64 r_9.1]⟩, ⟨40, b_2, [.int .i64 0, .int .u64 0, .int .u64 0, .int .u64 0, .slice none ([] : List T_api_Step).length 0, .int .i64 0, .bool false, .int .i64 0, .bool false, .int .u64 0]⟩]) (ps := [b_5 = b_5]) (by kernel_rfl) (And.intro rfl trivial) ?_
  refine GoO.regionEnd ?_
  refine GoO.seq' c37_14e ?_
  refine GoO.seq' c37_15e ?_
  refine GoO.region' (is := [0, 1, 2]) c37_16e (by kernel_rfl) ?_
  refine GoO.exec (is := [0, 1, 2]) (hs := [.p, .b 1, .p]) (rest := []) (ks := [0, 2, 4, 5, 28]) (env' := [(0, .string (bs s_1)), (2, .pointer (some ⟨b_2, 0, none⟩)), (4, .pointer (some ⟨b_3, 0, none⟩)), (5, .pointer (some ⟨b_5, 0, none⟩)), (28, .bool (r_4.1 == 2))]) (H' := [⟨41, b_3, [.string (bs r_9.2.S_), .bool r_9.2.Bad]⟩, ⟨42, b_5, [.int .i64 r_4.1, .int .u64 r_6.1, .int .u64 r_7.1, .int .u64 r_8.1, .slice none ([] : List T_api_Step).length 0, .int .i64 0, .bool false, .int .i64 0, .bool false, .int .u64 r_9.1]⟩, ⟨40, b_2, [.int .i64 0, .int .u64 0, .int .u64 0, .int .u64 0, .slice none ([] : List T_api_Step).length 0, .int .i64 0, .bool false, .int .i64 0, .bool false, .int .u64 0]⟩]) (ps := [b_5 = b_5]) (by kernel_rfl) (And.intro rfl trivial) ?_
  refine GoO.regionEnd ?_
  refine GoO.ite' c37_17e (by kernel_rfl) (fun h10 => ?_) (fun h10 => ?_)
  · refine GoO.region' (is := [0, 1, 2, 3]) c37_18e (by kernel_rfl) ?_
    refine GoO.exec (is := [0]) (hs := [.p]) (rest := [1, 2, 3]) (ks := [0, 2, 4, 5, 29]) (env' := [(0, .string (bs s_1)), (2, .pointer (some ⟨b_2, 0, none⟩)), (4, .pointer (some ⟨b_3, 0, none⟩)), (5, .pointer (some ⟨b_5, 0, none⟩)), (29, .pointer (some ⟨b_3, 0, none⟩))]) (H' := [⟨41, b_3, [.string (bs r_9.2.S_), .bool r_9.2.Bad]⟩, ⟨42, b_5, [.int .i64 r_4.1, .int .u64 r_6.1, .int .u64 r_7.1, .int .u64 r_8.1, .slice none ([] : List T_api_Step).length 0, .int .i64 0, .bool false, .int .i64 0, .bool false, .int .u64 r_9.1]⟩, ⟨40, b_2, [.int .i64 0, .int .u64 0, .int .u64 0, .int .u64 0, .slice none ([] : List T_api_Step).length 0, .int .i64 0, .bool false, .int .i64 0, .bool false, .int .u64 0]⟩]) (ps := []) (by kernel_rfl) trivial ?_
    refine OpTo.go (GoO.call rfl (by kernel_rfl) (by kernel_rfl) (tontineref13_Read_ok n r_9.2 b_3) [[0], [41]] [(41, 1), (43, 2)] [(1, 0)] [] (hks := [1, 2]) (bks := []) (by kernel_rfl) (by kernel_rfl) (by kernel_rfl) (.inl rfl) rfl rfl (by kernel_rfl) (by kernel_rfl) _ (fun _ _ => rfl) _ _ (fun _ _ => rfl) (fun _ _ => rfl) (fun _ _ => by kernel_rfl) (fun _ _ => by kernel_rfl) (fun r_11 x_14 => ?_))
    obtain ⟨A_12, c_13⟩ := x_14
    refine GoO.shape (env' := [(0, .string (bs s_1)), (2, .pointer (some ⟨b_2, 0, none⟩)), (4, .pointer (some ⟨b_3, 0, none⟩)), (5, .pointer (some ⟨b_5, 0, none⟩)), (29, .pointer (some ⟨b_3, 0, none⟩)), (30, .slice A_12 r_11.1.length c_13)]) (H' := [⟨41, b_3, [.string (bs r_11.2.S_), .bool r_11.2.Bad]⟩, ⟨42, b_5, [.int .i64 r_4.1, .int .u64 r_6.1, .int .u64 r_7.1, .int .u64 r_8.1, .slice none ([] : List T_api_Step).length 0, .int .i64 0, .bool false, .int .i64 0, .bool false, .int .u64 r_9.1]⟩, ⟨40, b_2, [.int .i64 0, .int .u64 0, .int .u64 0, .int .u64 0, .slice none ([] : List T_api_Step).length 0, .int .i64 0, .bool false, .int .i64 0, .bool false, .int .u64 0]⟩]) (B' := [Ow 43 kT_api_Step A_12 c_13 r_11.1]) (ks := [0, 2, 4, 5, 29, 30]) (by kernel_rfl) (by kernel_rfl) (by kernel_rfl) ?_
    refine GoO.exec (is := [2, 3]) (hs := [.p, .b 1]) (rest := []) (ks := [0, 2, 4, 5]) (env' := [(0, .string (bs s_1)), (2, .pointer (some ⟨b_2, 0, none⟩)), (4, .pointer (some ⟨b_3, 0, none⟩)), (5, .pointer (some ⟨b_5, 0, none⟩))]) (H' := [⟨41, b_3, [.string (bs r_11.2.S_), .bool r_11.2.Bad]⟩, ⟨42, b_5, [.int .i64 r_4.1, .int .u64 r_6.1, .int .u64 r_7.1, .int .u64 r_8.1, .slice A_12 r_11.1.length c_13, .int .i64 0, .bool false, .int .i64 0, .bool false, .int .u64 r_9.1]⟩, ⟨40, b_2, [.int .i64 0, .int .u64 0, .int .u64 0, .int .u64 0, .slice none ([] : List T_api_Step).length 0, .int .i64 0, .bool false, .int .i64 0, .bool false, .int .u64 0]⟩]) (ps := [b_5 = b_5]) (by kernel_rfl) (And.intro rfl trivial) ?_
    refine GoO.regionEnd ?_
    exact GoO.sub (ks := [0, 2, 4, 5]) (hk := [2, 0, 1]) (bk := [0]) (by kernel_rfl) (by kernel_rfl) (by kernel_rfl) (tontineref16_Decode_j0_ok n s_1 r_4 r_6 r_7 r_8 r_9 b_2 b_3 b_5 w0 S0 r_11.2.S_ r_11.2.Bad r_11.1 A_12 c_13)
  · refine GoO.skip' c37_19e ?_
    refine GoO.nilOwn kT_api_Step 43 ?_
    exact GoO.sub (ks := [0, 2, 4, 5]) (hk := [2, 0, 1]) (bk := [0]) (by kernel_rfl) (by kernel_rfl) (by kernel_rfl) (tontineref16_Decode_j0_ok n s_1 r_4 r_6 r_7 r_8 r_9 b_2 b_3 b_5 w0 S0 r_9.2.S_ r_9.2.Bad ([] : List T_api_Step) none 0)

/-! tontine/tontineref13.Same -/
noncomputable def c57_0 : Code := bodyOf Try.f57
noncomputable def c57_1 : Code := cdL c57_0
noncomputable def c57_2 : Code := cdR c57_0
noncomputable def c57_3 : Code := cdL c57_2
noncomputable def c57_4 : Code := cdL c57_3
noncomputable def c57_5 : Code := cdR c57_3
noncomputable def c57_6 : Code := cdL c57_5
noncomputable def c57_7 : Code := cdL c57_6
noncomputable def c57_8 : Code := cdR c57_6
noncomputable def c57_9 : Code := cdR c57_5
noncomputable def c57_10 : Code := cdR c57_2
noncomputable def c57_11 : Code := cdL c57_10
noncomputable def c57_12 : Code := cdL c57_11
noncomputable def c57_13 : Code := cdR c57_11
noncomputable def c57_14 : Code := cdL c57_13
noncomputable def c57_15 : Code := cdL c57_14
noncomputable def c57_16 : Code := cdL c57_15
noncomputable def c57_17 : Code := cdL c57_16
noncomputable def c57_18 : Code := cdR c57_16
noncomputable def c57_19 : Code := cdL c57_18
noncomputable def c57_20 : Code := cdR c57_18
noncomputable def c57_21 : Code := cdR c57_15
noncomputable def c57_22 : Code := cdL c57_21
noncomputable def c57_23 : Code := cdL c57_22
noncomputable def c57_24 : Code := cdL c57_23
noncomputable def c57_25 : Code := cdR c57_23
noncomputable def c57_26 : Code := cdL c57_25
noncomputable def c57_27 : Code := cdL c57_26
noncomputable def c57_28 : Code := cdR c57_26
noncomputable def c57_29 : Code := cdR c57_25
noncomputable def c57_30 : Code := cdR c57_21
noncomputable def c57_31 : Code := cdR c57_10
noncomputable def c57_32 : Code := cdL c57_31
noncomputable def c57_33 : Code := cdR c57_31
noncomputable def r57_1 : Array Oper := cdO c57_1
noncomputable def r57_4 : Array Oper := cdO c57_4
noncomputable def r57_7 : Array Oper := cdO c57_7
noncomputable def r57_12 : Array Oper := cdO c57_12
noncomputable def r57_17 : Array Oper := cdO c57_17
noncomputable def r57_24 : Array Oper := cdO c57_24
noncomputable def r57_27 : Array Oper := cdO c57_27
noncomputable def r57_30 : Array Oper := cdO c57_30
noncomputable def r57_32 : Array Oper := cdO c57_32
theorem c57_0e : c57_0 = .seq c57_1 c57_2 := by kernel_rfl
theorem c57_1e : c57_1 = .region 0 r57_1 false := by kernel_rfl
theorem c57_2e : c57_2 = .seq c57_3 c57_10 := by kernel_rfl
theorem c57_3e : c57_3 = .seq c57_4 c57_5 := by kernel_rfl
theorem c57_4e : c57_4 = .region 1 r57_4 false := by kernel_rfl
theorem c57_5e : c57_5 = .cond (cdC c57_5) c57_6 c57_9 := by kernel_rfl
theorem c57_6e : c57_6 = .seq c57_7 c57_8 := by kernel_rfl
theorem c57_7e : c57_7 = .region 2 r57_7 false := by kernel_rfl
theorem c57_8e : c57_8 = .ret := by kernel_rfl
theorem c57_9e : c57_9 = .skip := by kernel_rfl
theorem c57_10e : c57_10 = .seq c57_11 c57_31 := by kernel_rfl
theorem c57_11e : c57_11 = .seq c57_12 c57_13 := by kernel_rfl
theorem c57_12e : c57_12 = .region 3 r57_12 false := by kernel_rfl
theorem c57_13e : c57_13 = .block 0 c57_14 := by kernel_rfl
theorem c57_14e : c57_14 = .loop c57_15 := by kernel_rfl
theorem c57_15e : c57_15 = .seq c57_16 c57_21 := by kernel_rfl
theorem c57_16e : c57_16 = .seq c57_17 c57_18 := by kernel_rfl
theorem c57_17e : c57_17 = .region 4 r57_17 false := by kernel_rfl
theorem c57_18e : c57_18 = .cond (cdC c57_18) c57_19 c57_20 := by kernel_rfl
theorem c57_19e : c57_19 = .skip := by kernel_rfl
theorem c57_20e : c57_20 = .exit 0 := by kernel_rfl
theorem c57_21e : c57_21 = .seq c57_22 c57_30 := by kernel_rfl
theorem c57_22e : c57_22 = .block 1 c57_23 := by kernel_rfl
theorem c57_23e : c57_23 = .seq c57_24 c57_25 := by kernel_rfl
theorem c57_24e : c57_24 = .region 6 r57_24 true := by kernel_rfl
theorem c57_25e : c57_25 = .cond (cdC c57_25) c57_26 c57_29 := by kernel_rfl
theorem c57_26e : c57_26 = .seq c57_27 c57_28 := by kernel_rfl
theorem c57_27e : c57_27 = .region 7 r57_27 false := by kernel_rfl
theorem c57_28e : c57_28 = .ret := by kernel_rfl
theorem c57_29e : c57_29 = .skip := by kernel_rfl
theorem c57_30e : c57_30 = .region 5 r57_30 false := by kernel_rfl
theorem c57_31e : c57_31 = .seq c57_32 c57_33 := by kernel_rfl
theorem c57_32e : c57_32 = .region 8 r57_32 false := by kernel_rfl
theorem c57_33e : c57_33 = .ret := by kernel_rfl
noncomputable def tontineref13_Same.R (A_2 : Option Addr) (c_3 : Nat) (A_5 : Option Addr) (c_6 : Nat) : Pst Bool where
  ε := Unit
  v := fun r x => .bool r
  H := fun r x => []
  B := fun r x => []
noncomputable def tontineref13_Same.cx (A_2 : Option Addr) (c_3 : Nat) (A_5 : Option Addr) (c_6 : Nat) (w0 : World) (S0 : Fam) : Cx Bool := ⟨Try.prog, 57, Try.f57, 26, w0, S0, [], 0, tontineref13_Same.R A_2 c_3 A_5 c_6⟩
theorem tontineref13_Same_l0_ok (n : Nat) (a_1 : (List T_api_Step)) (b_4 : (List T_api_Step)) (A_2 : Option Addr) (c_3 : Nat) (A_5 : Option Addr) (c_6 : Nat) (w0 : World) (S0 : Fam) :
    ∀ (k : Nat) (i_8 : Int), GoO (tontineref13_Same.cx A_2 c_3 A_5 c_6 w0 S0) [(0, .slice A_2 a_1.length c_3), (1, .slice A_5 b_4.length c_6), (5, .int .i64 i_8)] [] [Rd 0 kT_api_Step A_2 c_3 a_1, Rd 0 kT_api_Step A_5 c_6 b_4] [.code c57_15, .inLoop c57_15, .inBlock 0, .code c57_31] (tontineref13_Same.l0 n a_1 b_4 k i_8) := by
  intro k
  induction k with
  | zero => intros; rw [tontineref13_Same.l0.eq_1]; exact GoO.stop
  | succ k ih0 =>
    intro i_8
    rw [tontineref13_Same.l0.eq_2]
    refine GoO.seq' c57_15e ?_
    refine GoO.seq' c57_16e ?_
    refine GoO.region' (is := [0, 1, 2, 3]) c57_17e (by kernel_rfl) ?_
    refine GoO.exec (is := [0, 1, 2, 3]) (hs := [.p, .p, .p, .p]) (rest := []) (ks := [0, 1, 5, 14]) (env' := [(0, .slice A_2 a_1.length c_3), (1, .slice A_5 b_4.length c_6), (5, .int .i64 i_8), (14, .bool (decide (i_8 < (a_1.length : Int))))]) (H' := []) (ps := []) (by kernel_rfl) trivial ?_
    refine GoO.regionEnd ?_
    refine GoO.ite' c57_18e (by kernel_rfl) (fun h9 => ?_) (fun h9 => ?_)
    · refine GoO.skip' c57_19e ?_
      refine GoO.seq' c57_21e ?_
      refine GoO.block' c57_22e ?_
      refine GoO.seq' c57_23e ?_
      refine GoO.draw c57_24e (by kernel_rfl) [] [] [Rd 0 kT_api_Step A_2 c_3 a_1, Rd 0 kT_api_Step A_5 c_6 b_4] (n := 9) (by kernel_rfl) ?_
      simp only [List.replicate]
      refine GoF.take [0, 1, 4, 5] [.p, .p, .p, .p] (ks := [0, 1, 5, 17, 18, 21, 22]) (fu := 5) (li := [true, true, false, false, true, true, false, false, false]) (env' := [(0, .slice A_2 a_1.length c_3), (1, .slice A_5 b_4.length c_6), (5, .int .i64 i_8), (17, .slice A_2 a_1.length c_3), (18, .int .i64 i_8), (21, .slice A_5 b_4.length c_6), (22, .int .i64 i_8)]) (ps := []) (hk := []) (bk := [0, 1]) (by kernel_rfl) trivial rfl rfl ?_
      refine GoF.guard (fun h10 => ?_)
      refine GoF.idx (i := 2) (hk := []) (bk := [0, 1]) (kk := .i64) (e := 50) (K := kT_api_Step) (A := A_2) (c := c_3) (xs := a_1) (iv := i_8) (j := 0) (by kernel_rfl) rfl rfl rfl (by kernel_rfl) (by kernel_rfl) (by kernel_rfl) (by kernel_rfl) rfl Reads.rd rfl h10.1 h10.2 (by decide) rfl ?_
      refine GoF.ldE (i := 3) (hk := []) (bk := [0, 1]) (K := kT_api_Step) (A := A_2) (c := c_3) (xs := a_1) (iN := i_8.toNat) (off := 0) (j := 0) (v := .agg ⟨[.int .i64 ((rdL a_1 i_8).Part), .string (bs ((rdL a_1 i_8).Name)), .int .i64 ((rdL a_1 i_8).Budget)]⟩) (by kernel_rfl) rfl rfl rfl (hK := rfl) (by kernel_rfl) rfl Reads.rd (idx_lt h10.1 h10.2) (by decide) (by kernel_rfl) rfl ?_
      refine GoF.guard (fun h11 => ?_)
      refine GoF.idx (i := 6) (hk := []) (bk := [0, 1]) (kk := .i64) (e := 50) (K := kT_api_Step) (A := A_5) (c := c_6) (xs := b_4) (iv := i_8) (j := 1) (by kernel_rfl) rfl rfl rfl (by kernel_rfl) (by kernel_rfl) (by kernel_rfl) (by kernel_rfl) rfl Reads.rd rfl h11.1 h11.2 (by decide) rfl ?_
      refine GoF.ldE (i := 7) (hk := []) (bk := [0, 1]) (K := kT_api_Step) (A := A_5) (c := c_6) (xs := b_4) (iN := i_8.toNat) (off := 0) (j := 1) (v := .agg ⟨[.int .i64 ((rdL b_4 i_8).Part), .string (bs ((rdL b_4 i_8).Name)), .int .i64 ((rdL b_4 i_8).Budget)]⟩) (by kernel_rfl) rfl rfl rfl (hK := rfl) (by kernel_rfl) rfl Reads.rd (idx_lt h11.1 h11.2) (by decide) (by kernel_rfl) rfl ?_
      refine GoF.take [8] [.p] (ks := [0, 1, 5, 25]) (fu := 0) (li := [true, true, true, true, true, true, true, true, true]) (env' := [(0, .slice A_2 a_1.length c_3), (1, .slice A_5 b_4.length c_6), (5, .int .i64 i_8), (25, .bool (!((((rdL a_1 i_8).Part) == ((rdL b_4 i_8).Part)) && ((((rdL a_1 i_8).Name) == ((rdL b_4 i_8).Name)) && ((((rdL a_1 i_8).Budget) == ((rdL b_4 i_8).Budget)) && true)))))]) (ps := []) (hk := []) (bk := [0, 1]) (by kernel_rfl) trivial rfl rfl ?_
      refine GoF.done (by kernel_rfl) ?_
      refine GoO.ite' c57_25e (by kernel_rfl) (fun h12 => ?_) (fun h12 => ?_)
      · refine GoO.seq' c57_26e ?_
        refine GoO.region' (is := [0]) c57_27e (by kernel_rfl) ?_
        refine GoO.exec (is := [0]) (hs := [.p]) (rest := []) (ks := [4]) (env' := [(4, .bool false)]) (H' := []) (ps := []) (by kernel_rfl) trivial ?_
        refine GoO.regionEnd ?_
        exact GoO.ret' (h := c57_28e) (hs := []) (ps := []) (hk := []) (bk := []) Try.func57 () (by kernel_rfl) trivial (by kernel_rfl) (by kernel_rfl)
      · refine GoO.skip' c57_29e ?_
        refine GoO.inBlock ?_
        refine GoO.region' (is := [0, 1, 2]) c57_30e (by kernel_rfl) ?_
        refine GoO.exec (is := [0, 1, 2]) (hs := [.p, .p, .p]) (rest := []) (ks := [0, 1, 5]) (env' := [(0, .slice A_2 a_1.length c_3), (1, .slice A_5 b_4.length c_6), (5, .int .i64 (wi64 (i_8 + 1)))]) (H' := []) (ps := []) (by kernel_rfl) trivial ?_
        refine GoO.regionEnd ?_
        refine GoO.inLoop ?_
        exact GoO.sub (ks := [0, 1, 5]) (hk := []) (bk := [0, 1]) (by kernel_rfl) (by kernel_rfl) (by kernel_rfl) (ih0 (wi64 (i_8 + 1)))
    · refine GoO.exit' c57_20e rfl ?_
      refine GoO.seq' c57_31e ?_
      refine GoO.region' (is := [0]) c57_32e (by kernel_rfl) ?_
      refine GoO.exec (is := [0]) (hs := [.p]) (rest := []) (ks := [4]) (env' := [(4, .bool true)]) (H' := []) (ps := []) (by kernel_rfl) trivial ?_
      refine GoO.regionEnd ?_
      exact GoO.ret' (h := c57_33e) (hs := []) (ps := []) (hk := []) (bk := []) Try.func57 () (by kernel_rfl) trivial (by kernel_rfl) (by kernel_rfl)
theorem tontineref13_Same_ok (n : Nat) (a_1 : (List T_api_Step)) (b_4 : (List T_api_Step)) (A_2 : Option Addr) (c_3 : Nat) (A_5 : Option Addr) (c_6 : Nat) :
    Meets Try.prog 57 [.slice A_2 a_1.length c_3, .slice A_5 b_4.length c_6] 0 [] [] [Rd 0 kT_api_Step A_2 c_3 a_1, Rd 0 kT_api_Step A_5 c_6 b_4] (tontineref13_Same.f n a_1 b_4) (tontineref13_Same.R A_2 c_3 A_5 c_6) := by
  refine Meets.of (c := c57_0) (n := 26) Try.func57 (by kernel_rfl) (by kernel_rfl) (by kernel_rfl) fun w0 S0 => ?_
  unfold tontineref13_Same.f
  show GoO (tontineref13_Same.cx A_2 c_3 A_5 c_6 w0 S0) [(0, .slice A_2 a_1.length c_3), (1, .slice A_5 b_4.length c_6)] [] [Rd 0 kT_api_Step A_2 c_3 a_1, Rd 0 kT_api_Step A_5 c_6 b_4] [.code c57_0] _
  refine GoO.seq' c57_0e ?_
  refine GoO.region' (is := [0]) c57_1e (by kernel_rfl) ?_
  refine GoO.exec (is := [0]) (hs := [.p]) (rest := []) (ks := [0, 1]) (env' := [(0, .slice A_2 a_1.length c_3), (1, .slice A_5 b_4.length c_6)]) (H' := []) (ps := []) (by kernel_rfl) trivial ?_
  refine GoO.regionEnd ?_
  refine GoO.seq' c57_2e ?_
  refine GoO.seq' c57_3e ?_
  refine GoO.region' (is := [0, 1, 2, 3, 4]) c57_4e (by kernel_rfl) ?_
  refine GoO.exec (is := [0, 1, 2, 3, 4]) (hs := [.p, .p, .p, .p, .p]) (rest := []) (ks := [0, 1, 10]) (env' := [(0, .slice A_2 a_1.length c_3), (1, .slice A_5 b_4.length c_6), (10, .bool ((a_1.length : Int) != (b_4.length : Int)))]) (H' := []) (ps := []) (by kernel_rfl) trivial ?_
  refine GoO.regionEnd ?_
  refine GoO.ite' c57_5e (by kernel_rfl) (fun h7 => ?_) (fun h7 => ?_)
  · refine GoO.seq' c57_6e ?_
    refine GoO.region' (is := [0]) c57_7e (by kernel_rfl) ?_
    refine GoO.exec (is := [0]) (hs := [.p]) (rest := []) (ks := [4]) (env' := [(4, .bool false)]) (H' := []) (ps := []) (by kernel_rfl) trivial ?_
    refine GoO.regionEnd ?_
    exact GoO.ret' (h := c57_8e) (hs := []) (ps := []) (hk := []) (bk := []) Try.func57 () (by kernel_rfl) trivial (by kernel_rfl) (by kernel_rfl)
  · refine GoO.skip' c57_9e ?_
    refine GoO.seq' c57_10e ?_
    refine GoO.seq' c57_11e ?_
    refine GoO.region' (is := [0]) c57_12e (by kernel_rfl) ?_
    refine GoO.exec (is := [0]) (hs := [.p]) (rest := []) (ks := [0, 1, 5]) (env' := [(0, .slice A_2 a_1.length c_3), (1, .slice A_5 b_4.length c_6), (5, .int .i64 0)]) (H' := []) (ps := []) (by kernel_rfl) trivial ?_
    refine GoO.regionEnd ?_
    refine GoO.block' c57_13e ?_
    refine GoO.loop' c57_14e ?_
    exact GoO.sub (ks := [0, 1, 5]) (hk := []) (bk := [0, 1]) (by kernel_rfl) (by kernel_rfl) (by kernel_rfl) (tontineref13_Same_l0_ok n a_1 b_4 A_2 c_3 A_5 c_6 w0 S0 n 0)

/-! tontine/tontineref16.Same -/
noncomputable def c38_0 : Code := bodyOf Try.f38
noncomputable def c38_1 : Code := cdL c38_0
noncomputable def c38_2 : Code := cdR c38_0
noncomputable def c38_3 : Code := cdL c38_2
noncomputable def c38_4 : Code := cdR c38_2
noncomputable def r38_1 : Array Oper := cdO c38_1
noncomputable def r38_3 : Array Oper := cdO c38_3
theorem c38_0e : c38_0 = .seq c38_1 c38_2 := by kernel_rfl
theorem c38_1e : c38_1 = .region 0 r38_1 false := by kernel_rfl
theorem c38_2e : c38_2 = .seq c38_3 c38_4 := by kernel_rfl
theorem c38_3e : c38_3 = .region 1 r38_3 false := by kernel_rfl
theorem c38_4e : c38_4 = .ret := by kernel_rfl
noncomputable def tontineref16_Same.R (A_2 : Option Addr) (c_3 : Nat) (A_5 : Option Addr) (c_6 : Nat) : Pst Bool where
  ε := Unit
  v := fun r x => .bool r
  H := fun r x => []
  B := fun r x => []
noncomputable def tontineref16_Same.cx (A_2 : Option Addr) (c_3 : Nat) (A_5 : Option Addr) (c_6 : Nat) (w0 : World) (S0 : Fam) : Cx Bool := ⟨Try.prog, 38, Try.f38, 73, w0, S0, [], 0, tontineref16_Same.R A_2 c_3 A_5 c_6⟩
theorem tontineref16_Same_ok (n : Nat) (a_1 : T_api_Command) (b_4 : T_api_Command) (A_2 : Option Addr) (c_3 : Nat) (A_5 : Option Addr) (c_6 : Nat) :
    Meets Try.prog 38 [.agg ⟨[.int .i64 a_1.Kind, .int .u64 a_1.Session, .int .u64 a_1.Seq, .int .u64 a_1.Saga, .slice A_2 a_1.Steps.length c_3, .int .i64 a_1.Step, .bool a_1.Back, .int .i64 a_1.Try, .bool a_1.Ok, .int .u64 a_1.Now]⟩, .agg ⟨[.int .i64 b_4.Kind, .int .u64 b_4.Session, .int .u64 b_4.Seq, .int .u64 b_4.Saga, .slice A_5 b_4.Steps.length c_6, .int .i64 b_4.Step, .bool b_4.Back, .int .i64 b_4.Try, .bool b_4.Ok, .int .u64 b_4.Now]⟩] 0 [] [] [Rd 0 kT_api_Step A_2 c_3 a_1.Steps, Rd 0 kT_api_Step A_5 c_6 b_4.Steps] (tontineref16_Same.f n a_1 b_4) (tontineref16_Same.R A_2 c_3 A_5 c_6) := by
  refine Meets.of (c := c38_0) (n := 73) Try.func38 (by kernel_rfl) (by kernel_rfl) (by kernel_rfl) fun w0 S0 => ?_
  unfold tontineref16_Same.f
  show GoO (tontineref16_Same.cx A_2 c_3 A_5 c_6 w0 S0) [(0, .agg ⟨[.int .i64 a_1.Kind, .int .u64 a_1.Session, .int .u64 a_1.Seq, .int .u64 a_1.Saga, .slice A_2 a_1.Steps.length c_3, .int .i64 a_1.Step, .bool a_1.Back, .int .i64 a_1.Try, .bool a_1.Ok, .int .u64 a_1.Now]⟩), (1, .agg ⟨[.int .i64 b_4.Kind, .int .u64 b_4.Session, .int .u64 b_4.Seq, .int .u64 b_4.Saga, .slice A_5 b_4.Steps.length c_6, .int .i64 b_4.Step, .bool b_4.Back, .int .i64 b_4.Try, .bool b_4.Ok, .int .u64 b_4.Now]⟩)] [] [Rd 0 kT_api_Step A_2 c_3 a_1.Steps, Rd 0 kT_api_Step A_5 c_6 b_4.Steps] [.code c38_0] _
  refine GoO.seq' c38_0e ?_
  refine GoO.region' (is := [0, 1, 2]) c38_1e (by kernel_rfl) ?_
  refine OpTo.go (GoO.new rfl 40 (cs := [.int .i64 a_1.Kind, .int .u64 a_1.Session, .int .u64 a_1.Seq, .int .u64 a_1.Saga, .slice A_2 a_1.Steps.length c_3, .int .i64 a_1.Step, .bool a_1.Back, .int .i64 a_1.Try, .bool a_1.Ok, .int .u64 a_1.Now]) (by kernel_rfl) _ (fun _ => rfl) (fun b_7 => ?_))
  refine OpTo.go (GoO.new rfl 41 (cs := [.int .i64 b_4.Kind, .int .u64 b_4.Session, .int .u64 b_4.Seq, .int .u64 b_4.Saga, .slice A_5 b_4.Steps.length c_6, .int .i64 b_4.Step, .bool b_4.Back, .int .i64 b_4.Try, .bool b_4.Ok, .int .u64 b_4.Now]) (by kernel_rfl) _ (fun _ => rfl) (fun b_8 => ?_))
  refine GoO.exec (is := [2]) (hs := [.p]) (rest := []) (ks := [2, 3]) (env' := [(2, .pointer (some ⟨b_7, 0, none⟩)), (3, .pointer (some ⟨b_8, 0, none⟩))]) (H' := [⟨41, b_8, [.int .i64 b_4.Kind, .int .u64 b_4.Session, .int .u64 b_4.Seq, .int .u64 b_4.Saga, .slice A_5 b_4.Steps.length c_6, .int .i64 b_4.Step, .bool b_4.Back, .int .i64 b_4.Try, .bool b_4.Ok, .int .u64 b_4.Now]⟩, ⟨40, b_7, [.int .i64 a_1.Kind, .int .u64 a_1.Session, .int .u64 a_1.Seq, .int .u64 a_1.Saga, .slice A_2 a_1.Steps.length c_3, .int .i64 a_1.Step, .bool a_1.Back, .int .i64 a_1.Try, .bool a_1.Ok, .int .u64 a_1.Now]⟩]) (ps := []) (by kernel_rfl) trivial ?_
  refine GoO.regionEnd ?_
  refine GoO.seq' c38_2e ?_
  refine GoO.region' (is := [0, 1, 2, 3, 4, 5, 6, 7, 8, 9, 10, 11, 12, 13, 14, 15, 16, 17, 18, 19, 20, 21, 22, 23, 24, 25, 26, 27, 28, 29, 30, 31, 32, 33, 34, 35, 36, 37, 38, 39, 40, 41, 42, 43, 44, 45, 46, 47, 48, 49, 50, 51, 52, 53, 54, 55, 56, 57, 58, 59, 60, 61, 62, 63, 64, 65, 66, 67, 68]) c38_3e (by kernel_rfl) ?_
  refine GoO.exec (is := [0, 1, 2, 3, 4, 5]) (hs := [.p, .b 1, .p, .b 0, .p, .p]) (rest := [6, 7, 8, 9, 10, 11, 12, 13, 14, 15, 16, 17, 18, 19, 20, 21, 22, 23, 24, 25, 26, 27, 28, 29, 30, 31, 32, 33, 34, 35, 36, 37, 38, 39, 40, 41, 42, 43, 44, 45, 46, 47, 48, 49, 50, 51, 52, 53, 54, 55, 56, 57, 58, 59, 60, 61, 62, 63, 64, 65, 66, 67, 68]) (ks := [2, 3, 10]) (env' := [(2, .pointer (some ⟨b_7, 0, none⟩)), (3, .pointer (some ⟨b_8, 0, none⟩)), (10, .bool (a_1.Kind == b_4.Kind))]) (H' := [⟨41, b_8, [.int .i64 b_4.Kind, .int .u64 b_4.Session, .int .u64 b_4.Seq, .int .u64 b_4.Saga, .slice A_5 b_4.Steps.length c_6, .int .i64 b_4.Step, .bool b_4.Back, .int .i64 b_4.Try, .bool b_4.Ok, .int .u64 b_4.Now]⟩, ⟨40, b_7, [.int .i64 a_1.Kind, .int .u64 a_1.Session, .int .u64 a_1.Seq, .int .u64 a_1.Saga, .slice A_2 a_1.Steps.length c_3, .int .i64 a_1.Step, .bool a_1.Back, .int .i64 a_1.Try, .bool a_1.Ok, .int .u64 a_1.Now]⟩]) (ps := [b_7 = b_7, b_8 = b_8]) (by kernel_rfl) (And.intro rfl (And.intro rfl trivial)) ?_
  refine GoO.bsplit (t := 10) (by kernel_rfl) (fun h9 => ?_) (fun h9 => ?_)
  · refine GoO.exec (is := [6, 7, 8, 9, 10, 11, 12]) (hs := [.p, .b 1, .p, .b 0, .p, .p, .p]) (rest := [13, 14, 15, 16, 17, 18, 19, 20, 21, 22, 23, 24, 25, 26, 27, 28, 29, 30, 31, 32, 33, 34, 35, 36, 37, 38, 39, 40, 41, 42, 43, 44, 45, 46, 47, 48, 49, 50, 51, 52, 53, 54, 55, 56, 57, 58, 59, 60, 61, 62, 63, 64, 65, 66, 67, 68]) (ks := [2, 3, 17]) (env' := [(2, .pointer (some ⟨b_7, 0, none⟩)), (3, .pointer (some ⟨b_8, 0, none⟩)), (17, .bool (a_1.Session == b_4.Session))]) (H' := [⟨41, b_8, [.int .i64 b_4.Kind, .int .u64 b_4.Session, .int .u64 b_4.Seq, .int .u64 b_4.Saga, .slice A_5 b_4.Steps.length c_6, .int .i64 b_4.Step, .bool b_4.Back, .int .i64 b_4.Try, .bool b_4.Ok, .int .u64 b_4.Now]⟩, ⟨40, b_7, [.int .i64 a_1.Kind, .int .u64 a_1.Session, .int .u64 a_1.Seq, .int .u64 a_1.Saga, .slice A_2 a_1.Steps.length c_3, .int .i64 a_1.Step, .bool a_1.Back, .int .i64 a_1.Try, .bool a_1.Ok, .int .u64 a_1.Now]⟩]) (ps := [b_7 = b_7, b_8 = b_8]) (by kernel_rfl) (And.intro rfl (And.intro rfl trivial)) ?_
    refine GoO.bsplit (t := 17) (by kernel_rfl) (fun h10 => ?_) (fun h10 => ?_)
    · refine GoO.exec (is := [13, 14, 15, 16, 17, 18, 19]) (hs := [.p, .b 1, .p, .b 0, .p, .p, .p]) (rest := [20, 21, 22, 23, 24, 25, 26, 27, 28, 29, 30, 31, 32, 33, 34, 35, 36, 37, 38, 39, 40, 41, 42, 43, 44, 45, 46, 47, 48, 49, 50, 51, 52, 53, 54, 55, 56, 57, 58, 59, 60, 61, 62, 63, 64, 65, 66, 67, 68]) (ks := [2, 3, 24]) (env' := [(2, .pointer (some ⟨b_7, 0, none⟩)), (3, .pointer (some ⟨b_8, 0, none⟩)), (24, .bool (a_1.Seq == b_4.Seq))]) (H' := [⟨41, b_8, [.int .i64 b_4.Kind, .int .u64 b_4.Session, .int .u64 b_4.Seq, .int .u64 b_4.Saga, .slice A_5 b_4.Steps.length c_6, .int .i64 b_4.Step, .bool b_4.Back, .int .i64 b_4.Try, .bool b_4.Ok, .int .u64 b_4.Now]⟩, ⟨40, b_7, [.int .i64 a_1.Kind, .int .u64 a_1.Session, .int .u64 a_1.Seq, .int .u64 a_1.Saga, .slice A_2 a_1.Steps.length c_3, .int .i64 a_1.Step, .bool a_1.Back, .int .i64 a_1.Try, .bool a_1.Ok, .int .u64 a_1.Now]⟩]) (ps := [b_7 = b_7, b_8 = b_8]) (by kernel_rfl) (And.intro rfl (And.intro rfl trivial)) ?_
      refine GoO.bsplit (t := 24) (by kernel_rfl) (fun h11 => ?_) (fun h11 => ?_)
      · refine GoO.exec (is := [20, 21, 22, 23, 24, 25, 26]) (hs := [.p, .b 1, .p, .b 0, .p, .p, .p]) (rest := [27, 28, 29, 30, 31, 32, 33, 34, 35, 36, 37, 38, 39, 40, 41, 42, 43, 44, 45, 46, 47, 48, 49, 50, 51, 52, 53, 54, 55, 56, 57, 58, 59, 60, 61, 62, 63, 64, 65, 66, 67, 68]) (ks := [2, 3, 31]) (env' := [(2, .pointer (some ⟨b_7, 0, none⟩)), (3, .pointer (some ⟨b_8, 0, none⟩)), (31, .bool (a_1.Saga == b_4.Saga))]) (H' := [⟨41, b_8, [.int .i64 b_4.Kind, .int .u64 b_4.Session, .int .u64 b_4.Seq, .int .u64 b_4.Saga, .slice A_5 b_4.Steps.length c_6, .int .i64 b_4.Step, .bool b_4.Back, .int .i64 b_4.Try, .bool b_4.Ok, .int .u64 b_4.Now]⟩, ⟨40, b_7, [.int .i64 a_1.Kind, .int .u64 a_1.Session, .int .u64 a_1.Seq, .int .u64 a_1.Saga, .slice A_2 a_1.Steps.length c_3, .int .i64 a_1.Step, .bool a_1.Back, .int .i64 a_1.Try, .bool a_1.Ok, .int .u64 a_1.Now]⟩]) (ps := [b_7 = b_7, b_8 = b_8]) (by kernel_rfl) (And.intro rfl (And.intro rfl trivial)) ?_
        refine GoO.bsplit (t := 31) (by kernel_rfl) (fun h12 => ?_) (fun h12 => ?_)
        · refine GoO.exec (is := [27, 28, 29, 30, 31, 32, 33]) (hs := [.p, .b 1, .p, .b 0, .p, .p, .p]) (rest := [34, 35, 36, 37, 38, 39, 40, 41, 42, 43, 44, 45, 46, 47, 48, 49, 50, 51, 52, 53, 54, 55, 56, 57, 58, 59, 60, 61, 62, 63, 64, 65, 66, 67, 68]) (ks := [2, 3, 38]) (env' := [(2, .pointer (some ⟨b_7, 0, none⟩)), (3, .pointer (some ⟨b_8, 0, none⟩)), (38, .bool (a_1.Step == b_4.Step))]) (H' := [⟨41, b_8, [.int .i64 b_4.Kind, .int .u64 b_4.Session, .int .u64 b_4.Seq, .int .u64 b_4.Saga, .slice A_5 b_4.Steps.length c_6, .int .i64 b_4.Step, .bool b_4.Back, .int .i64 b_4.Try, .bool b_4.Ok, .int .u64 b_4.Now]⟩, ⟨40, b_7, [.int .i64 a_1.Kind, .int .u64 a_1.Session, .int .u64 a_1.Seq, .int .u64 a_1.Saga, .slice A_2 a_1.Steps.length c_3, .int .i64 a_1.Step, .bool a_1.Back, .int .i64 a_1.Try, .bool a_1.Ok, .int .u64 a_1.Now]⟩]) (ps := [b_7 = b_7, b_8 = b_8]) (by kernel_rfl) (And.intro rfl (And.intro rfl trivial)) ?_
          refine GoO.bsplit (t := 38) (by kernel_rfl) (fun h13 => ?_) (fun h13 => ?_)
          · refine GoO.exec (is := [34, 35, 36, 37, 38, 39, 40]) (hs := [.p, .b 1, .p, .b 0, .p, .p, .p]) (rest := [41, 42, 43, 44, 45, 46, 47, 48, 49, 50, 51, 52, 53, 54, 55, 56, 57, 58, 59, 60, 61, 62, 63, 64, 65, 66, 67, 68]) (ks := [2, 3, 45]) (env' := [(2, .pointer (some ⟨b_7, 0, none⟩)), (3, .pointer (some ⟨b_8, 0, none⟩)), (45, .bool (a_1.Back == b_4.Back))]) (H' := [⟨41, b_8, [.int .i64 b_4.Kind, .int .u64 b_4.Session, .int .u64 b_4.Seq, .int .u64 b_4.Saga, .slice A_5 b_4.Steps.length c_6, .int .i64 b_4.Step, .bool b_4.Back, .int .i64 b_4.Try, .bool b_4.Ok, .int .u64 b_4.Now]⟩, ⟨40, b_7, [.int .i64 a_1.Kind, .int .u64 a_1.Session, .int .u64 a_1.Seq, .int .u64 a_1.Saga, .slice A_2 a_1.Steps.length c_3, .int .i64 a_1.Step, .bool a_1.Back, .int .i64 a_1.Try, .bool a_1.Ok, .int .u64 a_1.Now]⟩]) (ps := [b_7 = b_7, b_8 = b_8]) (by kernel_rfl) (And.intro rfl (And.intro rfl trivial)) ?_
            refine GoO.bsplit (t := 45) (by kernel_rfl) (fun h14 => ?_) (fun h14 => ?_)
            · refine GoO.exec (is := [41, 42, 43, 44, 45, 46, 47]) (hs := [.p, .b 1, .p, .b 0, .p, .p, .p]) (rest := [48, 49, 50, 51, 52, 53, 54, 55, 56, 57, 58, 59, 60, 61, 62, 63, 64, 65, 66, 67, 68]) (ks := [2, 3, 52]) (env' := [(2, .pointer (some ⟨b_7, 0, none⟩)), (3, .pointer (some ⟨b_8, 0, none⟩)), (52, .bool (a_1.Try == b_4.Try))]) (H' := [⟨41, b_8, [.int .i64 b_4.Kind, .int .u64 b_4.Session, .int .u64 b_4.Seq, .int .u64 b_4.Saga, .slice A_5 b_4.Steps.length c_6, .int .i64 b_4.Step, .bool b_4.Back, .int .i64 b_4.Try, .bool b_4.Ok, .int .u64 b_4.Now]⟩, ⟨40, b_7, [.int .i64 a_1.Kind, .int .u64 a_1.Session, .int .u64 a_1.Seq, .int .u64 a_1.Saga, .slice A_2 a_1.Steps.length c_3, .int .i64 a_1.Step, .bool a_1.Back, .int .i64 a_1.Try, .bool a_1.Ok, .int .u64 a_1.Now]⟩]) (ps := [b_7 = b_7, b_8 = b_8]) (by kernel_rfl) (And.intro rfl (And.intro rfl trivial)) ?_
              refine GoO.bsplit (t := 52) (by kernel_rfl) (fun h15 => ?_) (fun h15 => ?_)
              · refine GoO.exec (is := [48, 49, 50, 51, 52, 53, 54]) (hs := [.p, .b 1, .p, .b 0, .p, .p, .p]) (rest := [55, 56, 57, 58, 59, 60, 61, 62, 63, 64, 65, 66, 67, 68]) (ks := [2, 3, 59]) (env' := [(2, .pointer (some ⟨b_7, 0, none⟩)), (3, .pointer (some ⟨b_8, 0, none⟩)), (59, .bool (a_1.Ok == b_4.Ok))]) (H' := [⟨41, b_8, [.int .i64 b_4.Kind, .int .u64 b_4.Session, .int .u64 b_4.Seq, .int .u64 b_4.Saga, .slice A_5 b_4.Steps.length c_6, .int .i64 b_4.Step, .bool b_4.Back, .int .i64 b_4.Try, .bool b_4.Ok, .int .u64 b_4.Now]⟩, ⟨40, b_7, [.int .i64 a_1.Kind, .int .u64 a_1.Session, .int .u64 a_1.Seq, .int .u64 a_1.Saga, .slice A_2 a_1.Steps.length c_3, .int .i64 a_1.Step, .bool a_1.Back, .int .i64 a_1.Try, .bool a_1.Ok, .int .u64 a_1.Now]⟩]) (ps := [b_7 = b_7, b_8 = b_8]) (by kernel_rfl) (And.intro rfl (And.intro rfl trivial)) ?_
                refine GoO.bsplit (t := 59) (by kernel_rfl) (fun h16 => ?_) (fun h16 => ?_)
                · refine GoO.exec (is := [55, 56, 57, 58, 59, 60, 61]) (hs := [.p, .b 1, .p, .b 0, .p, .p, .p]) (rest := [62, 63, 64, 65, 66, 67, 68]) (ks := [2, 3, 66]) (env' := [(2, .pointer (some ⟨b_7, 0, none⟩)), (3, .pointer (some ⟨b_8, 0, none⟩)), (66, .bool (a_1.Now == b_4.Now))]) (H' := [⟨41, b_8, [.int .i64 b_4.Kind, .int .u64 b_4.Session, .int .u64 b_4.Seq, .int .u64 b_4.Saga, .slice A_5 b_4.Steps.length c_6, .int .i64 b_4.Step, .bool b_4.Back, .int .i64 b_4.Try, .bool b_4.Ok, .int .u64 b_4.Now]⟩, ⟨40, b_7, [.int .i64 a_1.Kind, .int .u64 a_1.Session, .int .u64 a_1.Seq, .int .u64 a_1.Saga, .slice A_2 a_1.Steps.length c_3, .int .i64 a_1.Step, .bool a_1.Back, .int .i64 a_1.Try, .bool a_1.Ok, .int .u64 a_1.Now]⟩]) (ps := [b_7 = b_7, b_8 = b_8]) (by kernel_rfl) (And.intro rfl (And.intro rfl trivial)) ?_
                  refine GoO.bsplit (t := 66) (by kernel_rfl) (fun h17 => ?_) (fun h17 => ?_)
                  · refine GoO.exec (is := [62, 63, 64, 65]) (hs := [.p, .b 1, .p, .b 0]) (rest := [66, 67, 68]) (ks := [66, 68, 70]) (env' := [(66, .bool true), (68, .slice A_2 a_1.Steps.length c_3), (70, .slice A_5 b_4.Steps.length c_6)]) (H' := [⟨41, b_8, [.int .i64 b_4.Kind, .int .u64 b_4.Session, .int .u64 b_4.Seq, .int .u64 b_4.Saga, .slice A_5 b_4.Steps.length c_6, .int .i64 b_4.Step, .bool b_4.Back, .int .i64 b_4.Try, .bool b_4.Ok, .int .u64 b_4.Now]⟩, ⟨40, b_7, [.int .i64 a_1.Kind, .int .u64 a_1.Session, .int .u64 a_1.Seq, .int .u64 a_1.Saga, .slice A_2 a_1.Steps.length c_3, .int .i64 a_1.Step, .bool a_1.Back, .int .i64 a_1.Try, .bool a_1.Ok, .int .u64 a_1.Now]⟩]) (ps := [b_7 = b_7, b_8 = b_8]) (by kernel_rfl) (And.intro rfl (And.intro rfl trivial)) ?_
                    refine OpTo.go (GoO.call rfl (by kernel_rfl) (by kernel_rfl) (tontineref13_Same_ok n a_1.Steps b_4.Steps A_2 c_3 A_5 c_6) [[0]] [] [] [(0, 0), (0, 1)] (hks := [0, 1]) (bks := [0, 1]) (by kernel_rfl) (by kernel_rfl) (by kernel_rfl) (.inl rfl) rfl rfl (by kernel_rfl) (by kernel_rfl) _ (fun _ _ => rfl) _ _ (fun _ _ => rfl) (fun _ _ => rfl) (fun _ _ => by kernel_rfl) (fun _ _ => by kernel_rfl) (fun r_18 x_19 => ?_))
                    refine GoO.shape (env' := [(66, .bool true), (68, .slice A_2 a_1.Steps.length c_3), (70, .slice A_5 b_4.Steps.length c_6), (71, .bool r_18)]) (H' := [⟨41, b_8, [.int .i64 b_4.Kind, .int .u64 b_4.Session, .int .u64 b_4.Seq, .int .u64 b_4.Saga, .slice A_5 b_4.Steps.length c_6, .int .i64 b_4.Step, .bool b_4.Back, .int .i64 b_4.Try, .bool b_4.Ok, .int .u64 b_4.Now]⟩, ⟨40, b_7, [.int .i64 a_1.Kind, .int .u64 a_1.Session, .int .u64 a_1.Seq, .int .u64 a_1.Saga, .slice A_2 a_1.Steps.length c_3, .int .i64 a_1.Step, .bool a_1.Back, .int .i64 a_1.Try, .bool a_1.Ok, .int .u64 a_1.Now]⟩]) (B' := [Rd 0 kT_api_Step A_2 c_3 a_1.Steps, Rd 0 kT_api_Step A_5 c_6 b_4.Steps]) (ks := [66, 68, 70, 71]) (by kernel_rfl) (by kernel_rfl) (by kernel_rfl) ?_
                    refine GoO.exec (is := [67, 68]) (hs := [.p, .p]) (rest := []) (ks := [4]) (env' := [(4, .bool r_18)]) (H' := [⟨41, b_8, [.int .i64 b_4.Kind, .int .u64 b_4.Session, .int .u64 b_4.Seq, .int .u64 b_4.Saga, .slice A_5 b_4.Steps.length c_6, .int .i64 b_4.Step, .bool b_4.Back, .int .i64 b_4.Try, .bool b_4.Ok, .int .u64 b_4.Now]⟩, ⟨40, b_7, [.int .i64 a_1.Kind, .int .u64 a_1.Session, .int .u64 a_1.Seq, .int .u64 a_1.Saga, .slice A_2 a_1.Steps.length c_3, .int .i64 a_1.Step, .bool a_1.Back, .int .i64 a_1.Try, .bool a_1.Ok, .int .u64 a_1.Now]⟩]) (ps := []) (by kernel_rfl) trivial ?_
                    refine GoO.regionEnd ?_
                    exact GoO.ret' (h := c38_4e) (hs := []) (ps := []) (hk := []) (bk := []) Try.func38 () (by kernel_rfl) trivial (by kernel_rfl) (by kernel_rfl)
                  · refine GoO.exec (is := [62, 63, 64, 65, 66, 67, 68]) (hs := [.p, .p, .p, .p, .p, .p, .p]) (rest := []) (ks := [4]) (env' := [(4, .bool false)]) (H' := [⟨41, b_8, [.int .i64 b_4.Kind, .int .u64 b_4.Session, .int .u64 b_4.Seq, .int .u64 b_4.Saga, .slice A_5 b_4.Steps.length c_6, .int .i64 b_4.Step, .bool b_4.Back, .int .i64 b_4.Try, .bool b_4.Ok, .int .u64 b_4.Now]⟩, ⟨40, b_7, [.int .i64 a_1.Kind, .int .u64 a_1.Session, .int .u64 a_1.Seq, .int .u64 a_1.Saga, .slice A_2 a_1.Steps.length c_3, .int .i64 a_1.Step, .bool a_1.Back, .int .i64 a_1.Try, .bool a_1.Ok, .int .u64 a_1.Now]⟩]) (ps := []) (by kernel_rfl) trivial ?_
                    refine GoO.regionEnd ?_
                    exact GoO.ret' (h := c38_4e) (hs := []) (ps := []) (hk := []) (bk := []) Try.func38 () (by kernel_rfl) trivial (by kernel_rfl) (by kernel_rfl)
                · refine GoO.exec (is := [55, 56, 57, 58, 59, 60, 61, 62, 63, 64, 65, 66, 67, 68]) (hs := [.p, .p, .p, .p, .p, .p, .p, .p, .p, .p, .p, .p, .p, .p]) (rest := []) (ks := [4]) (env' := [(4, .bool false)]) (H' := [⟨41, b_8, [.int .i64 b_4.Kind, .int .u64 b_4.Session, .int .u64 b_4.Seq, .int .u64 b_4.Saga, .slice A_5 b_4.Steps.length c_6, .int .i64 b_4.Step, .bool b_4.Back, .int .i64 b_4.Try, .bool b_4.Ok, .int .u64 b_4.Now]⟩, ⟨40, b_7, [.int .i64 a_1.Kind, .int .u64 a_1.Session, .int .u64 a_1.Seq, .int .u64 a_1.Saga, .slice A_2 a_1.Steps.length c_3, .int .i64 a_1.Step, .bool a_1.Back, .int .i64 a_1.Try, .bool a_1.Ok, .int .u64 a_1.Now]⟩]) (ps := []) (by kernel_rfl) trivial ?_
                  refine GoO.regionEnd ?_
                  exact GoO.ret' (h := c38_4e) (hs := []) (ps := []) (hk := []) (bk := []) Try.func38 () (by kernel_rfl) trivial (by kernel_rfl) (by kernel_rfl)
              · refine GoO.exec (is := [48, 49, 50, 51, 52, 53, 54, 55, 56, 57, 58, 59, 60, 61, 62, 63, 64, 65, 66, 67, 68]) (hs := [.p, .p, .p, .p, .p, .p, .p, .p, .p, .p, .p, .p, .p, .p, .p, .p, .p, .p, .p, .p, .p]) (rest := []) (ks := [4]) (env' := [(4, .bool false)]) (H' := [⟨41, b_8, [.int .i64 b_4.Kind, .int .u64 b_4.Session, .int .u64 b_4.Seq, .int .u64 b_4.Saga, .slice A_5 b_4.Steps.length c_6, .int .i64 b_4.Step, .bool b_4.Back, .int .i64 b_4.Try, .bool b_4.Ok, .int .u64 b_4.Now]⟩, ⟨40, b_7, [.int .i64 a_1.Kind, .int .u64 a_1.Session, .int .u64 a_1.Seq, .int .u64 a_1.Saga, .slice A_2 a_1.Steps.length c_3, .int .i64 a_1.Step, .bool a_1.Back, .int .i64 a_1.Try, .bool a_1.Ok, .int .u64 a_1.Now]⟩]) (ps := []) (by kernel_rfl) trivial ?_
                refine GoO.regionEnd ?_
                exact GoO.ret' (h := c38_4e) (hs := []) (ps := []) (hk := []) (bk := []) Try.func38 () (by kernel_rfl) trivial (by kernel_rfl) (by kernel_rfl)
            · refine GoO.exec (is := [41, 42, 43, 44, 45, 46, 47, 48, 49, 50, 51, 52, 53, 54, 55, 56, 57, 58, 59, 60, 61, 62, 63, 64, 65, 66, 67, 68]) (hs := [.p, .p, .p, .p, .p, .p, .p, .p, .p, .p, .p, .p, .p, .p, .p, .p, .p, .p, .p, .p, .p, .p, .p, .p, .p, .p, .p, .p]) (rest := []) (ks := [4]) (env' := [(4, .bool false)]) (H' := [⟨41, b_8, [.int .i64 b_4.Kind, .int .u64 b_4.Session, .int .u64 b_4.Seq, .int .u64 b_4.Saga, .slice A_5 b_4.Steps.length c_6, .int .i64 b_4.Step, .bool b_4.Back, .int .i64 b_4.Try, .bool b_4.Ok, .int .u64 b_4.Now]⟩, ⟨40, b_7, [.int .i64 a_1.Kind, .int .u64 a_1.Session, .int .u64 a_1.Seq, .int .u64 a_1.Saga, .slice A_2 a_1.Steps.length c_3, .int .i64 a_1.Step, .bool a_1.Back, .int .i64 a_1.Try, .bool a_1.Ok, .int .u64 a_1.Now]⟩]) (ps := []) (by kernel_rfl) trivial ?_
              refine GoO.regionEnd ?_
              exact GoO.ret' (h := c38_4e) (hs := []) (ps := []) (hk := []) (bk := []) Try.func38 () (by kernel_rfl) trivial (by kernel_rfl) (by kernel_rfl)
          · refine GoO.exec (is := [34, 35, 36, 37, 38, 39, 40, 41, 42, 43, 44, 45, 46, 47, 48, 49, 50, 51, 52, 53, 54, 55, 56, 57, 58, 59, 60, 61, 62, 63, 64, 65, 66, 67, 68]) (hs := [.p, .p, .p, .p, .p, .p, .p, .p, .p, .p, .p, .p, .p, .p, .p, .p, .p, .p, .p, .p, .p, .p, .p, .p, .p, .p, .p, .p, .p, .p, .p, .p, .p, .p, .p]) (rest := []) (ks := [4]) (env' := [(4, .bool false)]) (H' := [⟨41, b_8, [.int .i64 b_4.Kind, .int .u64 b_4.Session, .int .u64 b_4.Seq, .int .u64 b_4.Saga, .slice A_5 b_4.Steps.length c_6, .int .i64 b_4.Step, .bool b_4.Back, .int .i64 b_4.Try, .bool b_4.Ok, .int .u64 b_4.Now]⟩, ⟨40, b_7, [.int .i64 a_1.Kind, .int .u64 a_1.Session, .int .u64 a_1.Seq, .int .u64 a_1.Saga, .slice A_2 a_1.Steps.length c_3, .int .i64 a_1.Step, .bool a_1.Back, .int .i64 a_1.Try, .bool a_1.Ok, .int .u64 a_1.Now]⟩]) (ps := []) (by kernel_rfl) trivial ?_
            refine GoO.regionEnd ?_
            exact GoO.ret' (h := c38_4e) (hs := []) (ps := []) (hk := []) (bk := []) Try.func38 () (by kernel_rfl) trivial (by kernel_rfl) (by kernel_rfl)
        · refine GoO.exec (is := [27, 28, 29, 30, 31, 32, 33, 34, 35, 36, 37, 38, 39, 40, 41, 42, 43, 44, 45, 46, 47, 48, 49, 50, 51, 52, 53, 54, 55, 56, 57, 58, 59, 60, 61, 62, 63, 64, 65, 66, 67, 68]) (hs := [.p, .p, .p, .p, .p, .p, .p, .p, .p, .p, .p, .p, .p, .p, .p, .p, .p, .p, .p, .p, .p, .p, .p, .p, .p, .p, .p, .p, .p, .p, .p, .p, .p, .p, .p, .p, .p, .p, .p, .p, .p, .p]) (rest := []) (ks := [4]) (env' := [(4, .bool false)]) (H' := [⟨41, b_8, [.int .i64 b_4.Kind, .int .u64 b_4.Session, .int .u64 b_4.Seq, .int .u64 b_4.Saga, .slice A_5 b_4.Steps.length c_6, .int .i64 b_4.Step, .bool b_4.Back, .int .i64 b_4.Try, .bool b_4.Ok, .int .u64 b_4.Now]⟩, ⟨40, b_7, [.int .i64 a_1.Kind, .int .u64 a_1.Session, .int .u64 a_1.Seq, .int .u64 a_1.Saga, .slice A_2 a_1.Steps.length c_3, .int .i64 a_1.Step, .bool a_1.Back, .int .i64 a_1.Try, .bool a_1.Ok, .int .u64 a_1.Now]⟩]) (ps := []) (by kernel_rfl) trivial ?_
          refine GoO.regionEnd ?_
          exact GoO.ret' (h := c38_4e) (hs := []) (ps := []) (hk := []) (bk := []) Try.func38 () (by kernel_rfl) trivial (by kernel_rfl) (by kernel_rfl)
      · refine GoO.exec (is := [20, 21, 22, 23, 24, 25, 26, 27, 28, 29, 30, 31, 32, 33, 34, 35, 36, 37, 38, 39, 40, 41, 42, 43, 44, 45, 46, 47, 48, 49, 50, 51, 52, 53, 54, 55, 56, 57, 58, 59, 60, 61, 62, 63, 64, 65, 66, 67, 68]) (hs := [.p, .p, .p, .p, .p, .p, .p, .p, .p, .p, .p, .p, .p, .p, .p, .p, .p, .p, .p, .p, .p, .p, .p, .p, .p, .p, .p, .p, .p, .p, .p, .p, .p, .p, .p, .p, .p, .p, .p, .p, .p, .p, .p, .p, .p, .p, .p, .p, .p]) (rest := []) (ks := [4]) (env' := [(4, .bool false)]) (H' := [⟨41, b_8, [.int .i64 b_4.Kind, .int .u64 b_4.Session, .int .u64 b_4.Seq, .int .u64 b_4.Saga, .slice A_5 b_4.Steps.length c_6, .int .i64 b_4.Step, .bool b_4.Back, .int .i64 b_4.Try, .bool b_4.Ok, .int .u64 b_4.Now]⟩, ⟨40, b_7, [.int .i64 a_1.Kind, .int .u64 a_1.Session, .int .u64 a_1.Seq, .int .u64 a_1.Saga, .slice A_2 a_1.Steps.length c_3, .int .i64 a_1.Step, .bool a_1.Back, .int .i64 a_1.Try, .bool a_1.Ok, .int .u64 a_1.Now]⟩]) (ps := []) (by kernel_rfl) trivial ?_
        refine GoO.regionEnd ?_
        exact GoO.ret' (h := c38_4e) (hs := []) (ps := []) (hk := []) (bk := []) Try.func38 () (by kernel_rfl) trivial (by kernel_rfl) (by kernel_rfl)
    · refine GoO.exec (is := [13, 14, 15, 16, 17, 18, 19, 20, 21, 22, 23, 24, 25, 26, 27, 28, 29, 30, 31, 32, 33, 34, 35, 36, 37, 38, 39, 40, 41, 42, 43, 44, 45, 46, 47, 48, 49, 50, 51, 52, 53, 54, 55, 56, 57, 58, 59, 60, 61, 62, 63, 64, 65, 66, 67, 68]) (hs := [.p, .p, .p, .p, .p, .p, .p, .p, .p, .p, .p, .p, .p, .p, .p, .p, .p, .p, .p, .p, .p, .p, .p, .p, .p, .p, .p, .p, .p, .p, .p, .p, .p, .p, .p, .p, .p, .p, .p, .p, .p, .p, .p, .p, .p, .p, .p, .p, .p, .p, .p, .p, .p, .p, .p, .p]) (rest := []) (ks := [4]) (env' := [(4, .bool false)]) (H' := [⟨41, b_8, [.int .i64 b_4.Kind, .int .u64 b_4.Session, .int .u64 b_4.Seq, .int .u64 b_4.Saga, .slice A_5 b_4.Steps.length c_6, .int .i64 b_4.Step, .bool b_4.Back, .int .i64 b_4.Try, .bool b_4.Ok, .int .u64 b_4.Now]⟩, ⟨40, b_7, [.int .i64 a_1.Kind, .int .u64 a_1.Session, .int .u64 a_1.Seq, .int .u64 a_1.Saga, .slice A_2 a_1.Steps.length c_3, .int .i64 a_1.Step, .bool a_1.Back, .int .i64 a_1.Try, .bool a_1.Ok, .int .u64 a_1.Now]⟩]) (ps := []) (by kernel_rfl) trivial ?_
      refine GoO.regionEnd ?_
      exact GoO.ret' (h := c38_4e) (hs := []) (ps := []) (hk := []) (bk := []) Try.func38 () (by kernel_rfl) trivial (by kernel_rfl) (by kernel_rfl)
  · refine GoO.exec (is := [6, 7, 8, 9, 10, 11, 12, 13, 14, 15, 16, 17, 18, 19, 20, 21, 22, 23, 24, 25, 26, 27, 28, 29, 30, 31, 32, 33, 34, 35, 36, 37, 38, 39, 40, 41, 42, 43, 44, 45, 46, 47, 48, 49, 50, 51, 52, 53, 54, 55, 56, 57, 58, 59, 60, 61, 62, 63, 64, 65, 66, 67, 68]) (hs := [.p, .p, .p, .p, .p, .p, .p, .p, .p, .p, .p, .p, .p, .p, .p, .p, .p, .p, .p, .p, .p, .p, .p, .p, .p, .p, .p, .p, .p, .p, .p, .p, .p, .p, .p, .p, .p, .p, .p, .p, .p, .p, .p, .p, .p, .p, .p, .p, .p, .p, .p, .p, .p, .p, .p, .p, .p, .p, .p, .p, .p, .p, .p]) (rest := []) (ks := [4]) (env' := [(4, .bool false)]) (H' := [⟨41, b_8, [.int .i64 b_4.Kind, .int .u64 b_4.Session, .int .u64 b_4.Seq, .int .u64 b_4.Saga, .slice A_5 b_4.Steps.length c_6, .int .i64 b_4.Step, .bool b_4.Back, .int .i64 b_4.Try, .bool b_4.Ok, .int .u64 b_4.Now]⟩, ⟨40, b_7, [.int .i64 a_1.Kind, .int .u64 a_1.Session, .int .u64 a_1.Seq, .int .u64 a_1.Saga, .slice A_2 a_1.Steps.length c_3, .int .i64 a_1.Step, .bool a_1.Back, .int .i64 a_1.Try, .bool a_1.Ok, .int .u64 a_1.Now]⟩]) (ps := []) (by kernel_rfl) trivial ?_
    refine GoO.regionEnd ?_
    exact GoO.ret' (h := c38_4e) (hs := []) (ps := []) (hk := []) (bk := []) Try.func38 () (by kernel_rfl) trivial (by kernel_rfl) (by kernel_rfl)

/-! tontine/tontinelaw16.CommandDecodes -/
noncomputable def c10_0 : Code := bodyOf Try.f10
noncomputable def c10_1 : Code := cdL c10_0
noncomputable def c10_2 : Code := cdR c10_0
noncomputable def c10_3 : Code := cdL c10_2
noncomputable def c10_4 : Code := cdL c10_3
noncomputable def c10_5 : Code := cdR c10_3
noncomputable def c10_6 : Code := cdL c10_5
noncomputable def c10_7 : Code := cdL c10_6
noncomputable def c10_8 : Code := cdR c10_6
noncomputable def c10_9 : Code := cdR c10_5
noncomputable def c10_10 : Code := cdR c10_2
noncomputable def c10_11 : Code := cdL c10_10
noncomputable def c10_12 : Code := cdR c10_10
noncomputable def c10_13 : Code := cdL c10_12
noncomputable def c10_14 : Code := cdR c10_12
noncomputable def c10_15 : Code := cdL c10_14
noncomputable def c10_16 : Code := cdR c10_14
noncomputable def r10_1 : Array Oper := cdO c10_1
noncomputable def r10_4 : Array Oper := cdO c10_4
noncomputable def r10_7 : Array Oper := cdO c10_7
noncomputable def r10_11 : Array Oper := cdO c10_11
noncomputable def r10_13 : Array Oper := cdO c10_13
noncomputable def r10_15 : Array Oper := cdO c10_15
theorem c10_0e : c10_0 = .seq c10_1 c10_2 := by kernel_rfl
theorem c10_1e : c10_1 = .region 0 r10_1 false := by kernel_rfl
theorem c10_2e : c10_2 = .seq c10_3 c10_10 := by kernel_rfl
theorem c10_3e : c10_3 = .seq c10_4 c10_5 := by kernel_rfl
theorem c10_4e : c10_4 = .region 1 r10_4 false := by kernel_rfl
theorem c10_5e : c10_5 = .cond (cdC c10_5) c10_6 c10_9 := by kernel_rfl
theorem c10_6e : c10_6 = .seq c10_7 c10_8 := by kernel_rfl
theorem c10_7e : c10_7 = .region 2 r10_7 false := by kernel_rfl
theorem c10_8e : c10_8 = .ret := by kernel_rfl
theorem c10_9e : c10_9 = .skip := by kernel_rfl
theorem c10_10e : c10_10 = .seq c10_11 c10_12 := by kernel_rfl
theorem c10_11e : c10_11 = .region 3 r10_11 false := by kernel_rfl
theorem c10_12e : c10_12 = .seq c10_13 c10_14 := by kernel_rfl
theorem c10_13e : c10_13 = .region 4 r10_13 false := by kernel_rfl
theorem c10_14e : c10_14 = .seq c10_15 c10_16 := by kernel_rfl
theorem c10_15e : c10_15 = .region 5 r10_15 false := by kernel_rfl
theorem c10_16e : c10_16 = .ret := by kernel_rfl
noncomputable def tontinelaw16_CommandDecodes.R : Pst Bool where
  ε := Unit
  v := fun r x => .bool r
  H := fun r x => []
  B := fun r x => []
noncomputable def tontinelaw16_CommandDecodes.cx (w0 : World) (S0 : Fam) : Cx Bool := ⟨Try.prog, 10, Try.f10, 27, w0, S0, [], 0, tontinelaw16_CommandDecodes.R⟩
theorem tontinelaw16_CommandDecodes_ok (n : Nat) (s_1 : (List UInt8)) :
    Meets Try.prog 10 [.string (bs s_1)] 0 [] [] [] (tontinelaw16_CommandDecodes.f n s_1) (tontinelaw16_CommandDecodes.R) := by
  refine Meets.of (c := c10_0) (n := 27) Try.func10 (by kernel_rfl) (by kernel_rfl) (by kernel_rfl) fun w0 S0 => ?_
  unfold tontinelaw16_CommandDecodes.f
  show GoO (tontinelaw16_CommandDecodes.cx w0 S0) [(0, .string (bs s_1))] [] [] [.code c10_0] _
  refine GoO.seq' c10_0e ?_
  refine GoO.region' (is := [0]) c10_1e (by kernel_rfl) ?_
  refine GoO.exec (is := [0]) (hs := [.p]) (rest := []) (ks := [0]) (env' := [(0, .string (bs s_1))]) (H' := []) (ps := []) (by kernel_rfl) trivial ?_
  refine GoO.regionEnd ?_
  refine GoO.seq' c10_2e ?_
  refine GoO.seq' c10_3e ?_
  refine GoO.region' (is := [0, 1]) c10_4e (by kernel_rfl) ?_
  refine OpTo.go (GoO.call rfl (by kernel_rfl) (by kernel_rfl) (tontinelaw16_begun_ok n) [[0]] [] [] [] (hks := []) (bks := []) (by kernel_rfl) (by kernel_rfl) (by kernel_rfl) (.inl rfl) rfl rfl (by kernel_rfl) (by kernel_rfl) _ (fun _ _ => rfl) _ _ (fun _ _ => rfl) (fun _ _ => rfl) (fun _ _ => by kernel_rfl) (fun _ _ => by kernel_rfl) (fun r_2 x_17 => ?_))
  refine GoO.shape (env' := [(0, .string (bs s_1)), (7, .bool r_2)]) (H' := []) (B' := []) (ks := [0, 7]) (by kernel_rfl) (by kernel_rfl) (by kernel_rfl) ?_
  refine GoO.exec (is := [1]) (hs := [.p]) (rest := []) (ks := [0, 8]) (env' := [(0, .string (bs s_1)), (8, .bool (!r_2))]) (H' := []) (ps := []) (by kernel_rfl) trivial ?_
  refine GoO.regionEnd ?_
  refine GoO.ite' c10_5e (by kernel_rfl) (fun h3 => ?_) (fun h3 => ?_)
  · refine GoO.seq' c10_6e ?_
    refine GoO.region' (is := [0]) c10_7e (by kernel_rfl) ?_
    refine GoO.exec (is := [0]) (hs := [.p]) (rest := []) (ks := [2]) (env' := [(2, .bool false)]) (H' := []) (ps := []) (by kernel_rfl) trivial ?_
    refine GoO.regionEnd ?_
    exact GoO.ret' (h := c10_8e) (hs := []) (ps := []) (hk := []) (bk := []) Try.func10 () (by kernel_rfl) trivial (by kernel_rfl) (by kernel_rfl)
  · refine GoO.skip' c10_9e ?_
    refine GoO.seq' c10_10e ?_
    refine GoO.region' (is := [0, 1, 2, 3, 4, 5, 6, 7]) c10_11e (by kernel_rfl) ?_
    refine GoO.exec (is := [0]) (hs := [.p]) (rest := [1, 2, 3, 4, 5, 6, 7]) (ks := [0, 10]) (env' := [(0, .string (bs s_1)), (10, .string (bs s_1))]) (H' := []) (ps := []) (by kernel_rfl) trivial ?_
    refine OpTo.go (GoO.call rfl (by kernel_rfl) (by kernel_rfl) (command_Decode_ok n s_1) [[0]] [] [] [] (hks := []) (bks := []) (by kernel_rfl) (by kernel_rfl) (by kernel_rfl) (.inl rfl) rfl rfl (by kernel_rfl) (by kernel_rfl) _ (fun _ _ => rfl) _ _ (fun _ _ => rfl) (fun _ _ => rfl) (fun _ _ => by kernel_rfl) (fun _ _ => by kernel_rfl) (fun r_4 x_16 => ?_))
    obtain ⟨A_5, c_6⟩ := x_16
    refine GoO.shape (env' := [(0, .string (bs s_1)), (10, .string (bs s_1)), (11, .tuple ⟨[.agg ⟨[.int .i64 r_4.1.Kind, .int .u64 r_4.1.Session, .int .u64 r_4.1.Seq, .int .u64 r_4.1.Saga, .slice A_5 r_4.1.Steps.length c_6, .int .i64 r_4.1.Step, .bool r_4.1.Back, .int .i64 r_4.1.Try, .bool r_4.1.Ok, .int .u64 r_4.1.Now]⟩, .int .i64 r_4.2]⟩)]) (H' := []) (B' := [Rd 0 kT_api_Step A_5 c_6 r_4.1.Steps]) (ks := [0, 10, 11]) (by kernel_rfl) (by kernel_rfl) (by kernel_rfl) ?_
    refine GoO.exec (is := [2, 3, 4]) (hs := [.p, .p, .p]) (rest := [5, 6, 7]) (ks := [0, 12, 13]) (env' := [(0, .string (bs s_1)), (12, .agg ⟨[.int .i64 r_4.1.Kind, .int .u64 r_4.1.Session, .int .u64 r_4.1.Seq, .int .u64 r_4.1.Saga, .slice A_5 r_4.1.Steps.length c_6, .int .i64 r_4.1.Step, .bool r_4.1.Back, .int .i64 r_4.1.Try, .bool r_4.1.Ok, .int .u64 r_4.1.Now]⟩), (13, .int .i64 r_4.2)]) (H' := []) (ps := []) (by kernel_rfl) trivial ?_
    refine OpTo.go (GoO.new rfl 40 (cs := [.int .i64 0, .int .u64 0, .int .u64 0, .int .u64 0, .slice none ([] : List T_api_Step).length 0, .int .i64 0, .bool false, .int .i64 0, .bool false, .int .u64 0]) (by kernel_rfl) _ (fun _ => rfl) (fun b_7 => ?_))
    refine GoO.exec (is := [6, 7]) (hs := [.b 0, .p]) (rest := []) (ks := [0, 3, 4]) (env' := [(0, .string (bs s_1)), (3, .pointer (some ⟨b_7, 0, none⟩)), (4, .int .i64 r_4.2)]) (H' := [⟨40, b_7, [.int .i64 r_4.1.Kind, .int .u64 r_4.1.Session, .int .u64 r_4.1.Seq, .int .u64 r_4.1.Saga, .slice A_5 r_4.1.Steps.length c_6, .int .i64 r_4.1.Step, .bool r_4.1.Back, .int .i64 r_4.1.Try, .bool r_4.1.Ok, .int .u64 r_4.1.Now]⟩]) (ps := [b_7 = b_7]) (by kernel_rfl) (And.intro rfl trivial) ?_
    refine GoO.regionEnd ?_
    refine GoO.seq' c10_12e ?_
    refine GoO.region' (is := [0, 1, 2, 3, 4, 5, 6, 7]) c10_13e (by kernel_rfl) ?_
    refine GoO.exec (is := [0]) (hs := [.p]) (rest := [1, 2, 3, 4, 5, 6, 7]) (ks := [3, 4, 15]) (env' := [(3, .pointer (some ⟨b_7, 0, none⟩)), (4, .int .i64 r_4.2), (15, .string (bs s_1))]) (H' := [⟨40, b_7, [.int .i64 r_4.1.Kind, .int .u64 r_4.1.Session, .int .u64 r_4.1.Seq, .int .u64 r_4.1.Saga, .slice A_5 r_4.1.Steps.length c_6, .int .i64 r_4.1.Step, .bool r_4.1.Back, .int .i64 r_4.1.Try, .bool r_4.1.Ok, .int .u64 r_4.1.Now]⟩]) (ps := []) (by kernel_rfl) trivial ?_
    refine OpTo.go (GoO.call rfl (by kernel_rfl) (by kernel_rfl) (tontineref16_Decode_ok n s_1) [[0]] [] [] [] (hks := [0]) (bks := [0]) (by kernel_rfl) (by kernel_rfl) (by kernel_rfl) (.inl rfl) rfl rfl (by kernel_rfl) (by kernel_rfl) _ (fun _ _ => rfl) _ _ (fun _ _ => rfl) (fun _ _ => rfl) (fun _ _ => by kernel_rfl) (fun _ _ => by kernel_rfl) (fun r_8 x_15 => ?_))
    obtain ⟨A_9, c_10⟩ := x_15
    refine GoO.shape (env' := [(3, .pointer (some ⟨b_7, 0, none⟩)), (4, .int .i64 r_4.2), (15, .string (bs s_1)), (16, .tuple ⟨[.agg ⟨[.int .i64 r_8.1.Kind, .int .u64 r_8.1.Session, .int .u64 r_8.1.Seq, .int .u64 r_8.1.Saga, .slice A_9 r_8.1.Steps.length c_10, .int .i64 r_8.1.Step, .bool r_8.1.Back, .int .i64 r_8.1.Try, .bool r_8.1.Ok, .int .u64 r_8.1.Now]⟩, .int .i64 r_8.2]⟩)]) (H' := [⟨40, b_7, [.int .i64 r_4.1.Kind, .int .u64 r_4.1.Session, .int .u64 r_4.1.Seq, .int .u64 r_4.1.Saga, .slice A_5 r_4.1.Steps.length c_6, .int .i64 r_4.1.Step, .bool r_4.1.Back, .int .i64 r_4.1.Try, .bool r_4.1.Ok, .int .u64 r_4.1.Now]⟩]) (B' := [Rd 0 kT_api_Step A_9 c_10 r_8.1.Steps, Rd 0 kT_api_Step A_5 c_6 r_4.1.Steps]) (ks := [3, 4, 15, 16]) (by kernel_rfl) (by kernel_rfl) (by kernel_rfl) ?_
    refine GoO.exec (is := [2, 3, 4]) (hs := [.p, .p, .p]) (rest := [5, 6, 7]) (ks := [3, 4, 17, 18]) (env' := [(3, .pointer (some ⟨b_7, 0, none⟩)), (4, .int .i64 r_4.2), (17, .agg ⟨[.int .i64 r_8.1.Kind, .int .u64 r_8.1.Session, .int .u64 r_8.1.Seq, .int .u64 r_8.1.Saga, .slice A_9 r_8.1.Steps.length c_10, .int .i64 r_8.1.Step, .bool r_8.1.Back, .int .i64 r_8.1.Try, .bool r_8.1.Ok, .int .u64 r_8.1.Now]⟩), (18, .int .i64 r_8.2)]) (H' := [⟨40, b_7, [.int .i64 r_4.1.Kind, .int .u64 r_4.1.Session, .int .u64 r_4.1.Seq, .int .u64 r_4.1.Saga, .slice A_5 r_4.1.Steps.length c_6, .int .i64 r_4.1.Step, .bool r_4.1.Back, .int .i64 r_4.1.Try, .bool r_4.1.Ok, .int .u64 r_4.1.Now]⟩]) (ps := []) (by kernel_rfl) trivial ?_
    refine OpTo.go (GoO.new rfl 41 (cs := [.int .i64 0, .int .u64 0, .int .u64 0, .int .u64 0, .slice none ([] : List T_api_Step).length 0, .int .i64 0, .bool false, .int .i64 0, .bool false, .int .u64 0]) (by kernel_rfl) _ (fun _ => rfl) (fun b_11 => ?_))
    refine GoO.exec (is := [6, 7]) (hs := [.b 0, .p]) (rest := []) (ks := [3, 4, 5, 6]) (env' := [(3, .pointer (some ⟨b_7, 0, none⟩)), (4, .int .i64 r_4.2), (5, .pointer (some ⟨b_11, 0, none⟩)), (6, .int .i64 r_8.2)]) (H' := [⟨41, b_11, [.int .i64 r_8.1.Kind, .int .u64 r_8.1.Session, .int .u64 r_8.1.Seq, .int .u64 r_8.1.Saga, .slice A_9 r_8.1.Steps.length c_10, .int .i64 r_8.1.Step, .bool r_8.1.Back, .int .i64 r_8.1.Try, .bool r_8.1.Ok, .int .u64 r_8.1.Now]⟩, ⟨40, b_7, [.int .i64 r_4.1.Kind, .int .u64 r_4.1.Session, .int .u64 r_4.1.Seq, .int .u64 r_4.1.Saga, .slice A_5 r_4.1.Steps.length c_6, .int .i64 r_4.1.Step, .bool r_4.1.Back, .int .i64 r_4.1.Try, .bool r_4.1.Ok, .int .u64 r_4.1.Now]⟩]) (ps := [b_11 = b_11]) (by kernel_rfl) (And.intro rfl trivial) ?_
    refine GoO.regionEnd ?_
    refine GoO.seq' c10_14e ?_
    refine GoO.region' (is := [0, 1, 2, 3, 4, 5, 6, 7, 8]) c10_15e (by kernel_rfl) ?_
    refine GoO.exec (is := [0, 1, 2, 3]) (hs := [.p, .p, .p, .p]) (rest := [4, 5, 6, 7, 8]) (ks := [3, 5, 22]) (env' := [(3, .pointer (some ⟨b_7, 0, none⟩)), (5, .pointer (some ⟨b_11, 0, none⟩)), (22, .bool (r_4.2 == r_8.2))]) (H' := [⟨41, b_11, [.int .i64 r_8.1.Kind, .int .u64 r_8.1.Session, .int .u64 r_8.1.Seq, .int .u64 r_8.1.Saga, .slice A_9 r_8.1.Steps.length c_10, .int .i64 r_8.1.Step, .bool r_8.1.Back, .int .i64 r_8.1.Try, .bool r_8.1.Ok, .int .u64 r_8.1.Now]⟩, ⟨40, b_7, [.int .i64 r_4.1.Kind, .int .u64 r_4.1.Session, .int .u64 r_4.1.Seq, .int .u64 r_4.1.Saga, .slice A_5 r_4.1.Steps.length c_6, .int .i64 r_4.1.Step, .bool r_4.1.Back, .int .i64 r_4.1.Try, .bool r_4.1.Ok, .int .u64 r_4.1.Now]⟩]) (ps := []) (by kernel_rfl) trivial ?_
    refine GoO.bsplit (t := 22) (by kernel_rfl) (fun h12 => ?_) (fun h12 => ?_)
    · refine GoO.exec (is := [4, 5]) (hs := [.b 1, .b 0]) (rest := [6, 7, 8]) (ks := [22, 23, 24]) (env' := [(22, .bool true), (23, .agg ⟨[.int .i64 r_4.1.Kind, .int .u64 r_4.1.Session, .int .u64 r_4.1.Seq, .int .u64 r_4.1.Saga, .slice A_5 r_4.1.Steps.length c_6, .int .i64 r_4.1.Step, .bool r_4.1.Back, .int .i64 r_4.1.Try, .bool r_4.1.Ok, .int .u64 r_4.1.Now]⟩), (24, .agg ⟨[.int .i64 r_8.1.Kind, .int .u64 r_8.1.Session, .int .u64 r_8.1.Seq, .int .u64 r_8.1.Saga, .slice A_9 r_8.1.Steps.length c_10, .int .i64 r_8.1.Step, .bool r_8.1.Back, .int .i64 r_8.1.Try, .bool r_8.1.Ok, .int .u64 r_8.1.Now]⟩)]) (H' := [⟨41, b_11, [.int .i64 r_8.1.Kind, .int .u64 r_8.1.Session, .int .u64 r_8.1.Seq, .int .u64 r_8.1.Saga, .slice A_9 r_8.1.Steps.length c_10, .int .i64 r_8.1.Step, .bool r_8.1.Back, .int .i64 r_8.1.Try, .bool r_8.1.Ok, .int .u64 r_8.1.Now]⟩, ⟨40, b_7, [.int .i64 r_4.1.Kind, .int .u64 r_4.1.Session, .int .u64 r_4.1.Seq, .int .u64 r_4.1.Saga, .slice A_5 r_4.1.Steps.length c_6, .int .i64 r_4.1.Step, .bool r_4.1.Back, .int .i64 r_4.1.Try, .bool r_4.1.Ok, .int .u64 r_4.1.Now]⟩]) (ps := [b_7 = b_7, b_11 = b_11]) (by kernel_rfl) (And.intro rfl (And.intro rfl trivial)) ?_
      refine OpTo.go (GoO.call rfl (by kernel_rfl) (by kernel_rfl) (tontineref16_Same_ok n r_4.1 r_8.1 A_5 c_6 A_9 c_10) [[0]] [] [] [(0, 1), (0, 0)] (hks := [0, 1]) (bks := [0, 1]) (by kernel_rfl) (by kernel_rfl) (by kernel_rfl) (.inl rfl) rfl rfl (by kernel_rfl) (by kernel_rfl) _ (fun _ _ => rfl) _ _ (fun _ _ => rfl) (fun _ _ => rfl) (fun _ _ => by kernel_rfl) (fun _ _ => by kernel_rfl) (fun r_13 x_14 => ?_))
      refine GoO.shape (env' := [(22, .bool true), (23, .agg ⟨[.int .i64 r_4.1.Kind, .int .u64 r_4.1.Session, .int .u64 r_4.1.Seq, .int .u64 r_4.1.Saga, .slice A_5 r_4.1.Steps.length c_6, .int .i64 r_4.1.Step, .bool r_4.1.Back, .int .i64 r_4.1.Try, .bool r_4.1.Ok, .int .u64 r_4.1.Now]⟩), (24, .agg ⟨[.int .i64 r_8.1.Kind, .int .u64 r_8.1.Session, .int .u64 r_8.1.Seq, .int .u64 r_8.1.Saga, .slice A_9 r_8.1.Steps.length c_10, .int .i64 r_8.1.Step, .bool r_8.1.Back, .int .i64 r_8.1.Try, .bool r_8.1.Ok, .int .u64 r_8.1.Now]⟩), (25, .bool r_13)]) (H' := [⟨41, b_11, [.int .i64 r_8.1.Kind, .int .u64 r_8.1.Session, .int .u64 r_8.1.Seq, .int .u64 r_8.1.Saga, .slice A_9 r_8.1.Steps.length c_10, .int .i64 r_8.1.Step, .bool r_8.1.Back, .int .i64 r_8.1.Try, .bool r_8.1.Ok, .int .u64 r_8.1.Now]⟩, ⟨40, b_7, [.int .i64 r_4.1.Kind, .int .u64 r_4.1.Session, .int .u64 r_4.1.Seq, .int .u64 r_4.1.Saga, .slice A_5 r_4.1.Steps.length c_6, .int .i64 r_4.1.Step, .bool r_4.1.Back, .int .i64 r_4.1.Try, .bool r_4.1.Ok, .int .u64 r_4.1.Now]⟩]) (B' := [Rd 0 kT_api_Step A_9 c_10 r_8.1.Steps, Rd 0 kT_api_Step A_5 c_6 r_4.1.Steps]) (ks := [22, 23, 24, 25]) (by kernel_rfl) (by kernel_rfl) (by kernel_rfl) ?_
      refine GoO.exec (is := [7, 8]) (hs := [.p, .p]) (rest := []) (ks := [2]) (env' := [(2, .bool r_13)]) (H' := [⟨41, b_11, [.int .i64 r_8.1.Kind, .int .u64 r_8.1.Session, .int .u64 r_8.1.Seq, .int .u64 r_8.1.Saga, .slice A_9 r_8.1.Steps.length c_10, .int .i64 r_8.1.Step, .bool r_8.1.Back, .int .i64 r_8.1.Try, .bool r_8.1.Ok, .int .u64 r_8.1.Now]⟩, ⟨40, b_7, [.int .i64 r_4.1.Kind, .int .u64 r_4.1.Session, .int .u64 r_4.1.Seq, .int .u64 r_4.1.Saga, .slice A_5 r_4.1.Steps.length c_6, .int .i64 r_4.1.Step, .bool r_4.1.Back, .int .i64 r_4.1.Try, .bool r_4.1.Ok, .int .u64 r_4.1.Now]⟩]) (ps := []) (by kernel_rfl) trivial ?_
      refine GoO.regionEnd ?_
      exact GoO.ret' (h := c10_16e) (hs := []) (ps := []) (hk := []) (bk := []) Try.func10 () (by kernel_rfl) trivial (by kernel_rfl) (by kernel_rfl)
    · refine GoO.exec (is := [4, 5, 6, 7, 8]) (hs := [.p, .p, .p, .p, .p]) (rest := []) (ks := [2]) (env' := [(2, .bool false)]) (H' := [⟨41, b_11, [.int .i64 r_8.1.Kind, .int .u64 r_8.1.Session, .int .u64 r_8.1.Seq, .int .u64 r_8.1.Saga, .slice A_9 r_8.1.Steps.length c_10, .int .i64 r_8.1.Step, .bool r_8.1.Back, .int .i64 r_8.1.Try, .bool r_8.1.Ok, .int .u64 r_8.1.Now]⟩, ⟨40, b_7, [.int .i64 r_4.1.Kind, .int .u64 r_4.1.Session, .int .u64 r_4.1.Seq, .int .u64 r_4.1.Saga, .slice A_5 r_4.1.Steps.length c_6, .int .i64 r_4.1.Step, .bool r_4.1.Back, .int .i64 r_4.1.Try, .bool r_4.1.Ok, .int .u64 r_4.1.Now]⟩]) (ps := []) (by kernel_rfl) trivial ?_
      refine GoO.regionEnd ?_
      exact GoO.ret' (h := c10_16e) (hs := []) (ps := []) (hk := []) (bk := []) Try.func10 () (by kernel_rfl) trivial (by kernel_rfl) (by kernel_rfl)
end Go.GL
