import Derived.Test.YtfeddlhkiomdaaaWalkCommandDecodesP1
import Derived.Test.YtfeddlhkiomdaaaKindsT1
import Derived.Test.YtfeddlhkiomdaaaProg
set_option linter.unusedVariables false
set_option linter.unusedSimpArgs false
set_option maxRecDepth 100000
namespace Go.GL
open Go Go.Proofs
theorem command_Decode_ok (n : Nat) (s_1 : (List UInt8)) :
    Meets Try.prog 36 [.string (bs s_1)] 0 [] [] [] (command_Decode.f n s_1) (command_Decode.R) := by
  refine Meets.of (c := c36_0) (n := 54) Try.func36 (by kernel_rfl) (by kernel_rfl) (by kernel_rfl) fun w0 S0 => ?_
  unfold command_Decode.f
  show GoO (command_Decode.cx w0 S0) [(0, .string (bs s_1))] [] [] [.code c36_0] _
  refine GoO.seq' c36_0e ?_
  refine GoO.region' (is := [0, 1]) c36_1e (by kernel_rfl) ?_
  refine OpTo.go (GoO.new rfl 40 (cs := [.int .i64 0, .int .u64 0, .int .u64 0, .int .u64 0, .slice none ([] : List T_api_Step).length 0, .int .i64 0, .bool false, .int .i64 0, .bool false, .int .u64 0]) (by kernel_rfl) _ (fun _ => rfl) (fun b_2 => ?_))
  refine GoO.exec (is := [1]) (hs := [.p]) (rest := []) (ks := [0, 2]) (env' := [(0, .string (bs s_1)), (2, .pointer (some ⟨b_2, 0, none⟩))]) (H' := [⟨40, b_2, [.int .i64 0, .int .u64 0, .int .u64 0, .int .u64 0, .slice none ([] : List T_api_Step).length 0, .int .i64 0, .bool false, .int .i64 0, .bool false, .int .u64 0]⟩]) (ps := []) (by kernel_rfl) trivial ?_
  refine GoO.regionEnd ?_
  refine GoO.seq' c36_2e ?_
  refine GoO.region' (is := [0, 1, 2]) c36_3e (by kernel_rfl) ?_
  refine GoO.exec (is := [0]) (hs := [.p]) (rest := [1, 2]) (ks := [2, 6]) (env' := [(2, .pointer (some ⟨b_2, 0, none⟩)), (6, .string (bs s_1))]) (H' := [⟨40, b_2, [.int .i64 0, .int .u64 0, .int .u64 0, .int .u64 0, .slice none ([] : List T_api_Step).length 0, .int .i64 0, .bool false, .int .i64 0, .bool false, .int .u64 0]⟩]) (ps := []) (by kernel_rfl) trivial ?_
  refine OpTo.go (GoO.call rfl (by kernel_rfl) (by kernel_rfl) (pack_From_ok n s_1) [[0]] [(41, 1)] [] [] (hks := [0]) (bks := []) (by kernel_rfl) (by kernel_rfl) (by kernel_rfl) (.inl rfl) rfl rfl (by kernel_rfl) (by kernel_rfl) _ (fun _ _ => rfl) _ _ (fun _ _ => rfl) (fun _ _ => rfl) (fun _ _ => by kernel_rfl) (fun _ _ => by kernel_rfl) (fun r_3 b_4 => ?_))
  refine GoO.shape (env' := [(2, .pointer (some ⟨b_2, 0, none⟩)), (6, .string (bs s_1)), (7, .pointer (some ⟨b_4, 0, none⟩))]) (H' := [⟨41, b_4, [.string (bs r_3.s), .bool r_3.bad]⟩, ⟨40, b_2, [.int .i64 0, .int .u64 0, .int .u64 0, .int .u64 0, .slice none ([] : List T_api_Step).length 0, .int .i64 0, .bool false, .int .i64 0, .bool false, .int .u64 0]⟩]) (B' := []) (ks := [2, 6, 7]) (by kernel_rfl) (by kernel_rfl) (by kernel_rfl) ?_
  refine GoO.exec (is := [2]) (hs := [.p]) (rest := []) (ks := [2, 4]) (env' := [(2, .pointer (some ⟨b_2, 0, none⟩)), (4, .pointer (some ⟨b_4, 0, none⟩))]) (H' := [⟨41, b_4, [.string (bs r_3.s), .bool r_3.bad]⟩, ⟨40, b_2, [.int .i64 0, .int .u64 0, .int .u64 0, .int .u64 0, .slice none ([] : List T_api_Step).length 0, .int .i64 0, .bool false, .int .i64 0, .bool false, .int .u64 0]⟩]) (ps := []) (by kernel_rfl) trivial ?_
  refine GoO.regionEnd ?_
  refine GoO.seq' c36_4e ?_
  refine GoO.region' (is := [0, 1, 2, 3, 4]) c36_5e (by kernel_rfl) ?_
  refine GoO.exec (is := [0]) (hs := [.p]) (rest := [1, 2, 3, 4]) (ks := [2, 4, 8]) (env' := [(2, .pointer (some ⟨b_2, 0, none⟩)), (4, .pointer (some ⟨b_4, 0, none⟩)), (8, .pointer (some ⟨b_4, 0, none⟩))]) (H' := [⟨41, b_4, [.string (bs r_3.s), .bool r_3.bad]⟩, ⟨40, b_2, [.int .i64 0, .int .u64 0, .int .u64 0, .int .u64 0, .slice none ([] : List T_api_Step).length 0, .int .i64 0, .bool false, .int .i64 0, .bool false, .int .u64 0]⟩]) (ps := []) (by kernel_rfl) trivial ?_
  refine OpTo.go (GoO.call rfl (by kernel_rfl) (by kernel_rfl) (pack_Reader_Up_ok n r_3 5 b_4) [[0], [41]] [(41, 1)] [(1, 0)] [] (hks := [1]) (bks := []) (by kernel_rfl) (by kernel_rfl) (by kernel_rfl) (.inl rfl) rfl rfl (by kernel_rfl) (by kernel_rfl) _ (fun _ _ => rfl) _ _ (fun _ _ => rfl) (fun _ _ => rfl) (fun _ _ => by kernel_rfl) (fun _ _ => by kernel_rfl) (fun r_5 x_39 => ?_))
  refine GoO.shape (env' := [(2, .pointer (some ⟨b_2, 0, none⟩)), (4, .pointer (some ⟨b_4, 0, none⟩)), (8, .pointer (some ⟨b_4, 0, none⟩)), (9, .int .i64 r_5.1)]) (H' := [⟨41, b_4, [.string (bs r_5.2.s), .bool r_5.2.bad]⟩, ⟨40, b_2, [.int .i64 0, .int .u64 0, .int .u64 0, .int .u64 0, .slice none ([] : List T_api_Step).length 0, .int .i64 0, .bool false, .int .i64 0, .bool false, .int .u64 0]⟩]) (B' := []) (ks := [2, 4, 8, 9]) (by kernel_rfl) (by kernel_rfl) (by kernel_rfl) ?_
  refine GoO.exec (is := [2]) (hs := [.p]) (rest := [3, 4]) (ks := [2, 4, 10]) (env' := [(2, .pointer (some ⟨b_2, 0, none⟩)), (4, .pointer (some ⟨b_4, 0, none⟩)), (10, .agg ⟨[.int .i64 r_5.1, .int .u64 0, .int .u64 0, .int .u64 0, .slice none ([] : List T_api_Step).length 0, .int .i64 0, .bool false, .int .i64 0, .bool false, .int .u64 0]⟩)]) (H' := [⟨41, b_4, [.string (bs r_5.2.s), .bool r_5.2.bad]⟩, ⟨40, b_2, [.int .i64 0, .int .u64 0, .int .u64 0, .int .u64 0, .slice none ([] : List T_api_Step).length 0, .int .i64 0, .bool false, .int .i64 0, .bool false, .int .u64 0]⟩]) (ps := []) (by kernel_rfl) trivial ?_
  refine OpTo.go (GoO.new rfl 42 (cs := [.int .i64 0, .int .u64 0, .int .u64 0, .int .u64 0, .slice none ([] : List T_api_Step).length 0, .int .i64 0, .bool false, .int .i64 0, .bool false, .int .u64 0]) (by kernel_rfl) _ (fun _ => rfl) (fun b_6 => ?_))
  refine GoO.exec (is := [4]) (hs := [.b 0]) (rest := []) (ks := [2, 4, 5]) (env' := [(2, .pointer (some ⟨b_2, 0, none⟩)), (4, .pointer (some ⟨b_4, 0, none⟩)), (5, .pointer (some ⟨b_6, 0, none⟩))]) (H' := [⟨42, b_6, [.int .i64 r_5.1, .int .u64 0, .int .u64 0, .int .u64 0, .slice none ([] : List T_api_Step).length 0, .int .i64 0, .bool false, .int .i64 0, .bool false, .int .u64 0]⟩, ⟨41, b_4, [.string (bs r_5.2.s), .bool r_5.2.bad]⟩, ⟨40, b_2, [.int .i64 0, .int .u64 0, .int .u64 0, .int .u64 0, .slice none ([] : List T_api_Step).length 0, .int .i64 0, .bool false, .int .i64 0, .bool false, .int .u64 0]⟩]) (ps := [b_6 = b_6]) (by kernel_rfl) (And.intro rfl trivial) ?_
  refine GoO.regionEnd ?_
  refine GoO.seq' c36_6e ?_
  refine GoO.region' (is := [0, 1, 2, 3]) c36_7e (by kernel_rfl) ?_
  refine GoO.exec (is := [0]) (hs := [.p]) (rest := [1, 2, 3]) (ks := [2, 4, 5, 11]) (env' := [(2, .pointer (some ⟨b_2, 0, none⟩)), (4, .pointer (some ⟨b_4, 0, none⟩)), (5, .pointer (some ⟨b_6, 0, none⟩)), (11, .pointer (some ⟨b_4, 0, none⟩))]) (H' := [⟨42, b_6, [.int .i64 r_5.1, .int .u64 0, .int .u64 0, .int .u64 0, .slice none ([] : List T_api_Step).length 0, .int .i64 0, .bool false, .int .i64 0, .bool false, .int .u64 0]⟩, ⟨41, b_4, [.string (bs r_5.2.s), .bool r_5.2.bad]⟩, ⟨40, b_2, [.int .i64 0, .int .u64 0, .int .u64 0, .int .u64 0, .slice none ([] : List T_api_Step).length 0, .int .i64 0, .bool false, .int .i64 0, .bool false, .int .u64 0]⟩]) (ps := []) (by kernel_rfl) trivial ?_
  refine OpTo.go (GoO.call rfl (by kernel_rfl) (by kernel_rfl) (pack_Reader_Num_ok n r_5.2 b_4) [[0], [41]] [(41, 1)] [(1, 1)] [] (hks := [0, 2]) (bks := []) (by kernel_rfl) (by kernel_rfl) (by kernel_rfl) (.inl rfl) rfl rfl (by kernel_rfl) (by kernel_rfl) _ (fun _ _ => rfl) _ _ (fun _ _ => rfl) (fun _ _ => rfl) (fun _ _ => by kernel_rfl) (fun _ _ => by kernel_rfl) (fun r_7 x_38 => ?_))
  refine GoO.shape (env' := [(2, .pointer (some ⟨b_2, 0, none⟩)), (4, .pointer (some ⟨b_4, 0, none⟩)), (5, .pointer (some ⟨b_6, 0, none⟩)), (11, .pointer (some ⟨b_4, 0, none⟩)), (12, .int .u64 r_7.1)]) (H' := [⟨41, b_4, [.string (bs r_7.2.s), .bool r_7.2.bad]⟩, ⟨42, b_6, [.int .i64 r_5.1, .int .u64 0, .int .u64 0, .int .u64 0, .slice none ([] : List T_api_Step).length 0, .int .i64 0, .bool false, .int .i64 0, .bool false, .int .u64 0]⟩, ⟨40, b_2, [.int .i64 0, .int .u64 0, .int .u64 0, .int .u64 0, .slice none ([] : List T_api_Step).length 0, .int .i64 0, .bool false, .int .i64 0, .bool false, .int .u64 0]⟩]) (B' := []) (ks := [2, 4, 5, 11, 12]) (by kernel_rfl) (by kernel_rfl) (by kernel_rfl) ?_
  refine GoO.exec (is := [2, 3]) (hs := [.p, .b 1]) (rest := []) (ks := [2, 4, 5]) (env' := [(2, .pointer (some ⟨b_2, 0, none⟩)), (4, .pointer (some ⟨b_4, 0, none⟩)), (5, .pointer (some ⟨b_6, 0, none⟩))]) (H' := [⟨41, b_4, [.string (bs r_7.2.s), .bool r_7.2.bad]⟩, ⟨42, b_6, [.int .i64 r_5.1, .int .u64 r_7.1, .int .u64 0, .int .u64 0, .slice none ([] : List T_api_Step).length 0, .int .i64 0, .bool false, .int .i64 0, .bool false, .int .u64 0]⟩, ⟨40, b_2, [.int .i64 0, .int .u64 0, .int .u64 0, .int .u64 0, .slice none ([] : List T_api_Step).length 0, .int .i64 0, .bool false, .int .i64 0, .bool false, .int .u64 0]⟩]) (ps := [b_6 = b_6]) (by kernel_rfl) (And.intro rfl trivial) ?_
  refine GoO.regionEnd ?_
  refine GoO.seq' c36_8e ?_
  refine GoO.region' (is := [0, 1, 2, 3]) c36_9e (by kernel_rfl) ?_
  refine GoO.exec (is := [0]) (hs := [.p]) (rest := [1, 2, 3]) (ks := [2, 4, 5, 14]) (env' := [(2, .pointer (some ⟨b_2, 0, none⟩)), (4, .pointer (some ⟨b_4, 0, none⟩)), (5, .pointer (some ⟨b_6, 0, none⟩)), (14, .pointer (some ⟨b_4, 0, none⟩))]) (H' := [⟨41, b_4, [.string (bs r_7.2.s), .bool r_7.2.bad]⟩, ⟨42, b_6, [.int .i64 r_5.1, .int .u64 r_7.1, .int .u64 0, .int .u64 0, .slice none ([] : List T_api_Step).length 0, .int .i64 0, .bool false, .int .i64 0, .bool false, .int .u64 0]⟩, ⟨40, b_2, [.int .i64 0, .int .u64 0, .int .u64 0, .int .u64 0, .slice none ([] : List T_api_Step).length 0, .int .i64 0, .bool false, .int .i64 0, .bool false, .int .u64 0]⟩]) (ps := []) (by kernel_rfl) trivial ?_
  refine OpTo.go (GoO.call rfl (by kernel_rfl) (by kernel_rfl) (pack_Reader_Num_ok n r_7.2 b_4) [[0], [41]] [(41, 1)] [(1, 0)] [] (hks := [1, 2]) (bks := []) (by kernel_rfl) (by kernel_rfl) (by kernel_rfl) (.inl rfl) rfl rfl (by kernel_rfl) (by kernel_rfl) _ (fun _ _ => rfl) _ _ (fun _ _ => rfl) (fun _ _ => rfl) (fun _ _ => by kernel_rfl) (fun _ _ => by kernel_rfl) (fun r_8 x_37 => ?_))
  refine GoO.shape (env' := [(2, .pointer (some ⟨b_2, 0, none⟩)), (4, .pointer (some ⟨b_4, 0, none⟩)), (5, .pointer (some ⟨b_6, 0, none⟩)), (14, .pointer (some ⟨b_4, 0, none⟩)), (15, .int .u64 r_8.1)]) (H' := [⟨41, b_4, [.string (bs r_8.2.s), .bool r_8.2.bad]⟩, ⟨42, b_6, [.int .i64 r_5.1, .int .u64 r_7.1, .int .u64 0, .int .u64 0, .slice none ([] : List T_api_Step).length 0, .int .i64 0, .bool false, .int .i64 0, .bool false, .int .u64 0]⟩, ⟨40, b_2, [.int .i64 0, .int .u64 0, .int .u64 0, .int .u64 0, .slice none ([] : List T_api_Step).length 0, .int .i64 0, .bool false, .int .i64 0, .bool false, .int .u64 0]⟩]) (B' := []) (ks := [2, 4, 5, 14, 15]) (by kernel_rfl) (by kernel_rfl) (by kernel_rfl) ?_
  refine GoO.exec (is := [2, 3]) (hs := [.p, .b 1]) (rest := []) (ks := [2, 4, 5]) (env' := [(2, .pointer (some ⟨b_2, 0, none⟩)), (4, .pointer (some ⟨b_4, 0, none⟩)), (5, .pointer (some ⟨b_6, 0, none⟩))]) (H' := [⟨41, b_4, [.string (bs r_8.2.s), .bool r_8.2.bad]⟩, ⟨42, b_6, [.int .i64 r_5.1, .int .u64 r_7.1, .int .u64 r_8.1, .int .u64 0, .slice none ([] : List T_api_Step).length 0, .int .i64 0, .bool false, .int .i64 0, .bool false, .int .u64 0]⟩, ⟨40, b_2, [.int .i64 0, .int .u64 0, .int .u64 0, .int .u64 0, .slice none ([] : List T_api_Step).length 0, .int .i64 0, .bool false, .int .i64 0, .bool false, .int .u64 0]⟩]) (ps := [b_6 = b_6]) (by kernel_rfl) (And.intro rfl trivial) ?_
  refine GoO.regionEnd ?_
  refine GoO.seq' c36_10e ?_
  refine GoO.region' (is := [0, 1, 2, 3]) c36_11e (by kernel_rfl) ?_
  refine GoO.exec (is := [0]) (hs := [.p]) (rest := [1, 2, 3]) (ks := [2, 4, 5, 17]) (env' := [(2, .pointer (some ⟨b_2, 0, none⟩)), (4, .pointer (some ⟨b_4, 0, none⟩)), (5, .pointer (some ⟨b_6, 0, none⟩)), (17, .pointer (some ⟨b_4, 0, none⟩))]) (H' := [⟨41, b_4, [.string (bs r_8.2.s), .bool r_8.2.bad]⟩, ⟨42, b_6, [.int .i64 r_5.1, .int .u64 r_7.1, .int .u64 r_8.1, .int .u64 0, .slice none ([] : List T_api_Step).length 0, .int .i64 0, .bool false, .int .i64 0, .bool false, .int .u64 0]⟩, ⟨40, b_2, [.int .i64 0, .int .u64 0, .int .u64 0, .int .u64 0, .slice none ([] : List T_api_Step).length 0, .int .i64 0, .bool false, .int .i64 0, .bool false, .int .u64 0]⟩]) (ps := []) (by kernel_rfl) trivial ?_
  refine OpTo.go (GoO.call rfl (by kernel_rfl) (by kernel_rfl) (pack_Reader_Num_ok n r_8.2 b_4) [[0], [41]] [(41, 1)] [(1, 0)] [] (hks := [1, 2]) (bks := []) (by kernel_rfl) (by kernel_rfl) (by kernel_rfl) (.inl rfl) rfl rfl (by kernel_rfl) (by kernel_rfl) _ (fun _ _ => rfl) _ _ (fun _ _ => rfl) (fun _ _ => rfl) (fun _ _ => by kernel_rfl) (fun _ _ => by kernel_rfl) (fun r_9 x_36 => ?_))
  refine GoO.shape (env' := [(2, .pointer (some ⟨b_2, 0, none⟩)), (4, .pointer (some ⟨b_4, 0, none⟩)), (5, .pointer (some ⟨b_6, 0, none⟩)), (17, .pointer (some ⟨b_4, 0, none⟩)), (18, .int .u64 r_9.1)]) (H' := [⟨41, b_4, [.string (bs r_9.2.s), .bool r_9.2.bad]⟩, ⟨42, b_6, [.int .i64 r_5.1, .int .u64 r_7.1, .int .u64 r_8.1, .int .u64 0, .slice none ([] : List T_api_Step).length 0, .int .i64 0, .bool false, .int .i64 0, .bool false, .int .u64 0]⟩, ⟨40, b_2, [.int .i64 0, .int .u64 0, .int .u64 0, .int .u64 0, .slice none ([] : List T_api_Step).length 0, .int .i64 0, .bool false, .int .i64 0, .bool false, .int .u64 0]⟩]) (B' := []) (ks := [2, 4, 5, 17, 18]) (by kernel_rfl) (by kernel_rfl) (by kernel_rfl) ?_
  refine GoO.exec (is := [2, 3]) (hs := [.p, .b 1]) (rest := []) (ks := [2, 4, 5]) (env' := [(2, .pointer (some ⟨b_2, 0, none⟩)), (4, .pointer (some ⟨b_4, 0, none⟩)), (5, .pointer (some ⟨b_6, 0, none⟩))]) (H' := [⟨41, b_4, [.string (bs r_9.2.s), .bool r_9.2.bad]⟩, ⟨42, b_6, [.int .i64 r_5.1, .int .u64 r_7.1, .int .u64 r_8.1, .int .u64 r_9.1, .slice none ([] : List T_api_Step).length 0, .int .i64 0, .bool false, .int .i64 0, .bool false, .int .u64 0]⟩, ⟨40, b_2, [.int .i64 0, .int .u64 0, .int .u64 0, .int .u64 0, .slice none ([] : List T_api_Step).length 0, .int .i64 0, .bool false, .int .i64 0, .bool false, .int .u64 0]⟩]) (ps := [b_6 = b_6]) (by kernel_rfl) (And.intro rfl trivial) ?_
  refine GoO.regionEnd ?_
  refine GoO.seq' c36_12e ?_
  refine GoO.region' (is := [0, 1, 2, 3]) c36_13e (by kernel_rfl) ?_
  refine GoO.exec (is := [0]) (hs := [.p]) (rest := [1, 2, 3]) (ks := [2, 4, 5, 20]) (env' := [(2, .pointer (some ⟨b_2, 0, none⟩)), (4, .pointer (some ⟨b_4, 0, none⟩)), (5, .pointer (some ⟨b_6, 0, none⟩)), (20, .pointer (some ⟨b_4, 0, none⟩))]) (H' := [⟨41, b_4, [.string (bs r_9.2.s), .bool r_9.2.bad]⟩, ⟨42, b_6, [.int .i64 r_5.1, .int .u64 r_7.1, .int .u64 r_8.1, .int .u64 r_9.1, .slice none ([] : List T_api_Step).length 0, .int .i64 0, .bool false, .int .i64 0, .bool false, .int .u64 0]⟩, ⟨40, b_2, [.int .i64 0, .int .u64 0, .int .u64 0, .int .u64 0, .slice none ([] : List T_api_Step).length 0, .int .i64 0, .bool false, .int .i64 0, .bool false, .int .u64 0]⟩]) (ps := []) (by kernel_rfl) trivial ?_
  refine OpTo.go (GoO.call rfl (by kernel_rfl) (by kernel_rfl) (pack_Reader_Num_ok n r_9.2 b_4) [[0], [41]] [(41, 1)] [(1, 0)] [] (hks := [1, 2]) (bks := []) (by kernel_rfl) (by kernel_rfl) (by kernel_rfl) (.inl rfl) rfl rfl (by kernel_rfl) (by kernel_rfl) _ (fun _ _ => rfl) _ _ (fun _ _ => rfl) (fun _ _ => rfl) (fun _ _ => by kernel_rfl) (fun _ _ => by kernel_rfl) (fun r_10 x_35 => ?_))
  refine GoO.shape (env' := [(2, .pointer (some ⟨b_2, 0, none⟩)), (4, .pointer (some ⟨b_4, 0, none⟩)), (5, .pointer (some ⟨b_6, 0, none⟩)), (20, .pointer (some ⟨b_4, 0, none⟩)), (21, .int .u64 r_10.1)]) (H' := [⟨41, b_4, [.string (bs r_10.2.s), .bool r_10.2.bad]⟩, ⟨42, b_6, [.int .i64 r_5.1, .int .u64 r_7.1, .int .u64 r_8.1, .int .u64 r_9.1, .slice none ([] : List T_api_Step).length 0, .int .i64 0, .bool false, .int .i64 0, .bool false, .int .u64 0]⟩, ⟨40, b_2, [.int .i64 0, .int .u64 0, .int .u64 0, .int .u64 0, .slice none ([] : List T_api_Step).length 0, .int .i64 0, .bool false, .int .i64 0, .bool false, .int .u64 0]⟩]) (B' := []) (ks := [2, 4, 5, 20, 21]) (by kernel_rfl) (by kernel_rfl) (by kernel_rfl) ?_
  refine GoO.exec (is := [2, 3]) (hs := [.p, .b 1]) (rest := []) (ks := [2, 4, 5]) (env' := [(2, .pointer (some ⟨b_2, 0, none⟩)), (4, .pointer (some ⟨b_4, 0, none⟩)), (5, .pointer (some ⟨b_6, 0, none⟩))]) (H' := [⟨41, b_4, [.string (bs r_10.2.s), .bool r_10.2.bad]⟩, ⟨42, b_6, [.int .i64 r_5.1, .int .u64 r_7.1, .int .u64 r_8.1, .int .u64 r_9.1, .slice none ([] : List T_api_Step).length 0, .int .i64 0, .bool false, .int .i64 0, .bool false, .int .u64 r_10.1]⟩, ⟨40, b_2, [.int .i64 0, .int .u64 0, .int .u64 0, .int .u64 0, .slice none ([] : List T_api_Step).length 0, .int .i64 0, .bool false, .int .i64 0, .bool false, .int .u64 0]⟩]) (ps := [b_6 = b_6]) (by kernel_rfl) (And.intro rfl trivial) ?_
  refine GoO.regionEnd ?_
  refine GoO.seq' c36_14e ?_
  refine GoO.seq' c36_15e ?_
  refine GoO.region' (is := [0, 1]) c36_16e (by kernel_rfl) ?_
  refine GoO.exec (is := [0, 1]) (hs := [.p, .b 1]) (rest := []) (ks := [2, 4, 5, 24]) (env' := [(2, .pointer (some ⟨b_2, 0, none⟩)), (4, .pointer (some ⟨b_4, 0, none⟩)), (5, .pointer (some ⟨b_6, 0, none⟩)), (24, .int .i64 r_5.1)]) (H' := [⟨41, b_4, [.string (bs r_10.2.s), .bool r_10.2.bad]⟩, ⟨42, b_6, [.int .i64 r_5.1, .int .u64 r_7.1, .int .u64 r_8.1, .int .u64 r_9.1, .slice none ([] : List T_api_Step).length 0, .int .i64 0, .bool false, .int .i64 0, .bool false, .int .u64 r_10.1]⟩, ⟨40, b_2, [.int .i64 0, .int .u64 0, .int .u64 0, .int .u64 0, .slice none ([] : List T_api_Step).length 0, .int .i64 0, .bool false, .int .i64 0, .bool false, .int .u64 0]⟩]) (ps := [b_6 = b_6]) (by kernel_rfl) (And.intro rfl trivial) ?_
  refine GoO.regionEnd ?_
  refine GoO.block' c36_17e ?_
  refine GoO.seq' c36_18e ?_
  refine GoO.region' (is := [0, 1]) c36_19e (by kernel_rfl) ?_
  refine GoO.exec (is := [0, 1]) (hs := [.p, .p]) (rest := []) (ks := [2, 4, 5, 24, 25]) (env' := [(2, .pointer (some ⟨b_2, 0, none⟩)), (4, .pointer (some ⟨b_4, 0, none⟩)), (5, .pointer (some ⟨b_6, 0, none⟩)), (24, .int .i64 r_5.1), (25, .bool (r_5.1 == 2))]) (H' := [⟨41, b_4, [.string (bs r_10.2.s), .bool r_10.2.bad]⟩, ⟨42, b_6, [.int .i64 r_5.1, .int .u64 r_7.1, .int .u64 r_8.1, .int .u64 r_9.1, .slice none ([] : List T_api_Step).length 0, .int .i64 0, .bool false, .int .i64 0, .bool false, .int .u64 r_10.1]⟩, ⟨40, b_2, [.int .i64 0, .int .u64 0, .int .u64 0, .int .u64 0, .slice none ([] : List T_api_Step).length 0, .int .i64 0, .bool false, .int .i64 0, .bool false, .int .u64 0]⟩]) (ps := []) (by kernel_rfl) trivial ?_
  refine GoO.regionEnd ?_
  refine GoO.ite' c36_20e (by kernel_rfl) (fun h11 => ?_) (fun h11 => ?_)
  · refine GoO.region' (is := [0, 1, 2, 3]) c36_21e (by kernel_rfl) ?_
    refine GoO.exec (is := [0]) (hs := [.p]) (rest := [1, 2, 3]) (ks := [2, 4, 5, 27]) (env' := [(2, .pointer (some ⟨b_2, 0, none⟩)), (4, .pointer (some ⟨b_4, 0, none⟩)), (5, .pointer (some ⟨b_6, 0, none⟩)), (27, .pointer (some ⟨b_4, 0, none⟩))]) (H' := [⟨41, b_4, [.string (bs r_10.2.s), .bool r_10.2.bad]⟩, ⟨42, b_6, [.int .i64 r_5.1, .int .u64 r_7.1, .int .u64 r_8.1, .int .u64 r_9.1, .slice none ([] : List T_api_Step).length 0, .int .i64 0, .bool false, .int .i64 0, .bool false, .int .u64 r_10.1]⟩, ⟨40, b_2, [.int .i64 0, .int .u64 0, .int .u64 0, .int .u64 0, .slice none ([] : List T_api_Step).length 0, .int .i64 0, .bool false, .int .i64 0, .bool false, .int .u64 0]⟩]) (ps := []) (by kernel_rfl) trivial ?_
    refine OpTo.go (GoO.call rfl (by kernel_rfl) (by kernel_rfl) (plan_Read_ok n r_10.2 b_4) [[0], [41]] [(41, 1), (43, 2)] [(1, 0)] [] (hks := [1, 2]) (bks := []) (by kernel_rfl) (by kernel_rfl) (by kernel_rfl) (.inl rfl) rfl rfl (by kernel_rfl) (by kernel_rfl) _ (fun _ _ => rfl) _ _ (fun _ _ => rfl) (fun _ _ => rfl) (fun _ _ => by kernel_rfl) (fun _ _ => by kernel_rfl) (fun r_12 x_15 => ?_))
    obtain ⟨A_13, c_14⟩ := x_15
    refine GoO.shape (env' := [(2, .pointer (some ⟨b_2, 0, none⟩)), (4, .pointer (some ⟨b_4, 0, none⟩)), (5, .pointer (some ⟨b_6, 0, none⟩)), (27, .pointer (some ⟨b_4, 0, none⟩)), (28, .slice A_13 r_12.1.length c_14)]) (H' := [⟨41, b_4, [.string (bs r_12.2.s), .bool r_12.2.bad]⟩, ⟨42, b_6, [.int .i64 r_5.1, .int .u64 r_7.1, .int .u64 r_8.1, .int .u64 r_9.1, .slice none ([] : List T_api_Step).length 0, .int .i64 0, .bool false, .int .i64 0, .bool false, .int .u64 r_10.1]⟩, ⟨40, b_2, [.int .i64 0, .int .u64 0, .int .u64 0, .int .u64 0, .slice none ([] : List T_api_Step).length 0, .int .i64 0, .bool false, .int .i64 0, .bool false, .int .u64 0]⟩]) (B' := [Ow 43 kT_api_Step A_13 c_14 r_12.1]) (ks := [2, 4, 5, 27, 28]) (by kernel_rfl) (by kernel_rfl) (by kernel_rfl) ?_
    refine GoO.exec (is := [2, 3]) (hs := [.p, .b 1]) (rest := []) (ks := [2, 4, 5]) (env' := [(2, .pointer (some ⟨b_2, 0, none⟩)), (4, .pointer (some ⟨b_4, 0, none⟩)), (5, .pointer (some ⟨b_6, 0, none⟩))]) (H' := [⟨41, b_4, [.string (bs r_12.2.s), .bool r_12.2.bad]⟩, ⟨42, b_6, [.int .i64 r_5.1, .int .u64 r_7.1, .int .u64 r_8.1, .int .u64 r_9.1, .slice A_13 r_12.1.length c_14, .int .i64 0, .bool false, .int .i64 0, .bool false, .int .u64 r_10.1]⟩, ⟨40, b_2, [.int .i64 0, .int .u64 0, .int .u64 0, .int .u64 0, .slice none ([] : List T_api_Step).length 0, .int .i64 0, .bool false, .int .i64 0, .bool false, .int .u64 0]⟩]) (ps := [b_6 = b_6]) (by kernel_rfl) (And.intro rfl trivial) ?_
    refine GoO.regionEnd ?_
    exact GoO.sub (ks := [2, 4, 5]) (hk := [2, 0, 1]) (bk := [0]) (by kernel_rfl) (by kernel_rfl) (by kernel_rfl) (command_Decode_j0_ok n r_5 r_7 r_8 r_9 r_10 b_2 b_4 b_6 w0 S0 r_12.2.s r_12.2.bad r_12.1 0 false 0 false A_13 c_14)
  · refine GoO.seq' c36_22e ?_
    refine GoO.region' (is := [0, 1]) c36_23e (by kernel_rfl) ?_
    refine GoO.exec (is := [0, 1]) (hs := [.p, .p]) (rest := []) (ks := [2, 4, 5, 30]) (env' := [(2, .pointer (some ⟨b_2, 0, none⟩)), (4, .pointer (some ⟨b_4, 0, none⟩)), (5, .pointer (some ⟨b_6, 0, none⟩)), (30, .bool (r_5.1 == 4))]) (H' := [⟨41, b_4, [.string (bs r_10.2.s), .bool r_10.2.bad]⟩, ⟨42, b_6, [.int .i64 r_5.1, .int .u64 r_7.1, .int .u64 r_8.1, .int .u64 r_9.1, .slice none ([] : List T_api_Step).length 0, .int .i64 0, .bool false, .int .i64 0, .bool false, .int .u64 r_10.1]⟩, ⟨40, b_2, [.int .i64 0, .int .u64 0, .int .u64 0, .int .u64 0, .slice none ([] : List T_api_Step).length 0, .int .i64 0, .bool false, .int .i64 0, .bool false, .int .u64 0]⟩]) (ps := []) (by kernel_rfl) trivial ?_
    refine GoO.regionEnd ?_
    refine GoO.ite' c36_24e (by kernel_rfl) (fun h16 => ?_) (fun h16 => ?_)
    · refine GoO.seq' c36_25e ?_
      refine GoO.region' (is := [0, 1, 2, 3]) c36_26e (by kernel_rfl) ?_
      refine GoO.exec (is := [0]) (hs := [.p]) (rest := [1, 2, 3]) (ks := [2, 4, 5, 32]) (env' := [(2, .pointer (some ⟨b_2, 0, none⟩)), (4, .pointer (some ⟨b_4, 0, none⟩)), (5, .pointer (some ⟨b_6, 0, none⟩)), (32, .pointer (some ⟨b_4, 0, none⟩))]) (H' := [⟨41, b_4, [.string (bs r_10.2.s), .bool r_10.2.bad]⟩, ⟨42, b_6, [.int .i64 r_5.1, .int .u64 r_7.1, .int .u64 r_8.1, .int .u64 r_9.1, .slice none ([] : List T_api_Step).length 0, .int .i64 0, .bool false, .int .i64 0, .bool false, .int .u64 r_10.1]⟩, ⟨40, b_2, [.int .i64 0, .int .u64 0, .int .u64 0, .int .u64 0, .slice none ([] : List T_api_Step).length 0, .int .i64 0, .bool false, .int .i64 0, .bool false, .int .u64 0]⟩]) (ps := []) (by kernel_rfl) trivial ?_
      refine OpTo.go (GoO.call rfl (by kernel_rfl) (by kernel_rfl) (pack_Reader_Up_ok n r_10.2 64 b_4) [[0], [41]] [(41, 1)] [(1, 0)] [] (hks := [1, 2]) (bks := []) (by kernel_rfl) (by kernel_rfl) (by kernel_rfl) (.inl rfl) rfl rfl (by kernel_rfl) (by kernel_rfl) _ (fun _ _ => rfl) _ _ (fun _ _ => rfl) (fun _ _ => rfl) (fun _ _ => by kernel_rfl) (fun _ _ => by kernel_rfl) (fun r_17 x_24 => ?_))
      refine GoO.shape (env' := [(2, .pointer (some ⟨b_2, 0, none⟩)), (4, .pointer (some ⟨b_4, 0, none⟩)), (5, .pointer (some ⟨b_6, 0, none⟩)), (32, .pointer (some ⟨b_4, 0, none⟩)), (33, .int .i64 r_17.1)]) (H' := [⟨41, b_4, [.string (bs r_17.2.s), .bool r_17.2.bad]⟩, ⟨42, b_6, [.int .i64 r_5.1, .int .u64 r_7.1, .int .u64 r_8.1, .int .u64 r_9.1, .slice none ([] : List T_api_Step).length 0, .int .i64 0, .bool false, .int .i64 0, .bool false, .int .u64 r_10.1]⟩, ⟨40, b_2, [.int .i64 0, .int .u64 0, .int .u64 0, .int .u64 0, .slice none ([] : List T_api_Step).length 0, .int .i64 0, .bool false, .int .i64 0, .bool false, .int .u64 0]⟩]) (B' := []) (ks := [2, 4, 5, 32, 33]) (by kernel_rfl) (by kernel_rfl) (by kernel_rfl) ?_
      refine GoO.exec (is := [2, 3]) (hs := [.p, .b 1]) (rest := []) (ks := [2, 4, 5]) (env' := [(2, .pointer (some ⟨b_2, 0, none⟩)), (4, .pointer (some ⟨b_4, 0, none⟩)), (5, .pointer (some ⟨b_6, 0, none⟩))]) (H' := [⟨41, b_4, [.string (bs r_17.2.s), .bool r_17.2.bad]⟩, ⟨42, b_6, [.int .i64 r_5.1, .int .u64 r_7.1, .int .u64 r_8.1, .int .u64 r_9.1, .slice none ([] : List T_api_Step).length 0, .int .i64 r_17.1, .bool false, .int .i64 0, .bool false, .int .u64 r_10.1]⟩, ⟨40, b_2, [.int .i64 0, .int .u64 0, .int .u64 0, .int .u64 0, .slice none ([] : List T_api_Step).length 0, .int .i64 0, .bool false, .int .i64 0, .bool false, .int .u64 0]⟩]) (ps := [b_6 = b_6]) (by kernel_rfl) (And.intro rfl trivial) ?_
      refine GoO.regionEnd ?_
      refine GoO.seq' c36_27e ?_
      refine GoO.region' (is := [0, 1, 2, 3]) c36_28e (by kernel_rfl) ?_
      refine GoO.exec (is := [0]) (hs := [.p]) (rest := [1, 2, 3]) (ks := [2, 4, 5, 35]) (env' := [(2, .pointer (some ⟨b_2, 0, none⟩)), (4, .pointer (some ⟨b_4, 0, none⟩)), (5, .pointer (some ⟨b_6, 0, none⟩)), (35, .pointer (some ⟨b_4, 0, none⟩))]) (H' := [⟨41, b_4, [.string (bs r_17.2.s), .bool r_17.2.bad]⟩, ⟨42, b_6, [.int .i64 r_5.1, .int .u64 r_7.1, .int .u64 r_8.1, .int .u64 r_9.1, .slice none ([] : List T_api_Step).length 0, .int .i64 r_17.1, .bool false, .int .i64 0, .bool false, .int .u64 r_10.1]⟩, ⟨40, b_2, [.int .i64 0, .int .u64 0, .int .u64 0, .int .u64 0, .slice none ([] : List T_api_Step).length 0, .int .i64 0, .bool false, .int .i64 0, .bool false, .int .u64 0]⟩]) (ps := []) (by kernel_rfl) trivial ?_
      refine OpTo.go (GoO.call rfl (by kernel_rfl) (by kernel_rfl) (pack_Reader_Bool_ok n r_17.2 b_4) [[0], [41]] [(41, 1)] [(1, 0)] [] (hks := [1, 2]) (bks := []) (by kernel_rfl) (by kernel_rfl) (by kernel_rfl) (.inl rfl) rfl rfl (by kernel_rfl) (by kernel_rfl) _ (fun _ _ => rfl) _ _ (fun _ _ => rfl) (fun _ _ => rfl) (fun _ _ => by kernel_rfl) (fun _ _ => by kernel_rfl) (fun r_18 x_23 => ?_))
      refine GoO.shape (env' := [(2, .pointer (some ⟨b_2, 0, none⟩)), (4, .pointer (some ⟨b_4, 0, none⟩)), (5, .pointer (some ⟨b_6, 0, none⟩)), (35, .pointer (some ⟨b_4, 0, none⟩)), (36, .bool r_18.1)]) (H' := [⟨41, b_4, [.string (bs r_18.2.s), .bool r_18.2.bad]⟩, ⟨42, b_6, [.int .i64 r_5.1, .int .u64 r_7.1, .int .u64 r_8.1, .int .u64 r_9.1, .slice none ([] : List T_api_Step).length 0, .int .i64 r_17.1, .bool false, .int .i64 0, .bool false, .int .u64 r_10.1]⟩, ⟨40, b_2, [.int .i64 0, .int .u64 0, .int .u64 0, .int .u64 0, .slice none ([] : List T_api_Step).length 0, .int .i64 0, .bool false, .int .i64 0, .bool false, .int .u64 0]⟩]) (B' := []) (ks := [2, 4, 5, 35, 36]) (by kernel_rfl) (by kernel_rfl) (by kernel_rfl) ?_
      refine GoO.exec (is := [2, 3]) (hs := [.p, .b 1]) (rest := []) (ks := [2, 4, 5]) (env' := [(2, .pointer (some ⟨b_2, 0, none⟩)), (4, .pointer (some ⟨b_4, 0, none⟩)), (5, .pointer (some ⟨b_6, 0, none⟩))]) (H' := [⟨41, b_4, [.string (bs r_18.2.s), .bool r_18.2.bad]⟩, ⟨42, b_6, [.int .i64 r_5.1, .int .u64 r_7.1, .int .u64 r_8.1, .int .u64 r_9.1, .slice none ([] : List T_api_Step).length 0, .int .i64 r_17.1, .bool r_18.1, .int .i64 0, .bool false, .int .u64 r_10.1]⟩, ⟨40, b_2, [.int .i64 0, .int .u64 0, .int .u64 0, .int .u64 0, .slice none ([] : List T_api_Step).length 0, .int .i64 0, .bool false, .int .i64 0, .bool false, .int .u64 0]⟩]) (ps := [b_6 = b_6]) (by kernel_rfl) (And.intro rfl trivial) ?_
      refine GoO.regionEnd ?_
      refine GoO.seq' c36_29e ?_
      refine GoO.region' (is := [0, 1, 2, 3]) c36_30e (by kernel_rfl) ?_
      refine GoO.exec (is := [0]) (hs := [.p]) (rest := [1, 2, 3]) (ks := [2, 4, 5, 38]) (env' := [(2, .pointer (some ⟨b_2, 0, none⟩)), (4, .pointer (some ⟨b_4, 0, none⟩)), (5, .pointer (some ⟨b_6, 0, none⟩)), (38, .pointer (some ⟨b_4, 0, none⟩))]) (H' := [⟨41, b_4, [.string (bs r_18.2.s), .bool r_18.2.bad]⟩, ⟨42, b_6, [.int .i64 r_5.1, .int .u64 r_7.1, .int .u64 r_8.1, .int .u64 r_9.1, .slice none ([] : List T_api_Step).length 0, .int .i64 r_17.1, .bool r_18.1, .int .i64 0, .bool false, .int .u64 r_10.1]⟩, ⟨40, b_2, [.int .i64 0, .int .u64 0, .int .u64 0, .int .u64 0, .slice none ([] : List T_api_Step).length 0, .int .i64 0, .bool false, .int .i64 0, .bool false, .int .u64 0]⟩]) (ps := []) (by kernel_rfl) trivial ?_
      refine OpTo.go (GoO.call rfl (by kernel_rfl) (by kernel_rfl) (pack_Reader_Up_ok n r_18.2 9 b_4) [[0], [41]] [(41, 1)] [(1, 0)] [] (hks := [1, 2]) (bks := []) (by kernel_rfl) (by kernel_rfl) (by kernel_rfl) (.inl rfl) rfl rfl (by kernel_rfl) (by kernel_rfl) _ (fun _ _ => rfl) _ _ (fun _ _ => rfl) (fun _ _ => rfl) (fun _ _ => by kernel_rfl) (fun _ _ => by kernel_rfl) (fun r_19 x_22 => ?_))
      refine GoO.shape (env' := [(2, .pointer (some ⟨b_2, 0, none⟩)), (4, .pointer (some ⟨b_4, 0, none⟩)), (5, .pointer (some ⟨b_6, 0, none⟩)), (38, .pointer (some ⟨b_4, 0, none⟩)), (39, .int .i64 r_19.1)]) (H' := [⟨41, b_4, [.string (bs r_19.2.s), .bool r_19.2.bad]⟩, ⟨42, b_6, [.int .i64 r_5.1, .int .u64 r_7.1, .int .u64 r_8.1, .int .u64 r_9.1, .slice none ([] : List T_api_Step).length 0, .int .i64 r_17.1, .bool r_18.1, .int .i64 0, .bool false, .int .u64 r_10.1]⟩, ⟨40, b_2, [.int .i64 0, .int .u64 0, .int .u64 0, .int .u64 0, .slice none ([] : List T_api_Step).length 0, .int .i64 0, .bool false, .int .i64 0, .bool false, .int .u64 0]⟩]) (B' := []) (ks := [2, 4, 5, 38, 39]) (by kernel_rfl) (by kernel_rfl) (by kernel_rfl) ?_
      refine GoO.exec (is := [2, 3]) (hs := [.p, .b 1]) (rest := []) (ks := [2, 4, 5]) (env' := [(2, .pointer (some ⟨b_2, 0, none⟩)), (4, .pointer (some ⟨b_4, 0, none⟩)), (5, .pointer (some ⟨b_6, 0, none⟩))]) (H' := [⟨41, b_4, [.string (bs r_19.2.s), .bool r_19.2.bad]⟩, ⟨42, b_6, [.int .i64 r_5.1, .int .u64 r_7.1, .int .u64 r_8.1, .int .u64 r_9.1, .slice none ([] : List T_api_Step).length 0, .int .i64 r_17.1, .bool r_18.1, .int .i64 r_19.1, .bool false, .int .u64 r_10.1]⟩, ⟨40, b_2, [.int .i64 0, .int .u64 0, .int .u64 0, .int .u64 0, .slice none ([] : List T_api_Step).length 0, .int .i64 0, .bool false, .int .i64 0, .bool false, .int .u64 0]⟩]) (ps := [b_6 = b_6]) (by kernel_rfl) (And.intro rfl trivial) ?_
      refine GoO.regionEnd ?_
      refine GoO.region' (is := [0, 1, 2, 3]) c36_31e (by kernel_rfl) ?_
      refine GoO.exec (is := [0]) (hs := [.p]) (rest := [1, 2, 3]) (ks := [2, 4, 5, 41]) (env' := [(2, .pointer (some ⟨b_2, 0, none⟩)), (4, .pointer (some ⟨b_4, 0, none⟩)), (5, .pointer (some ⟨b_6, 0, none⟩)), (41, .pointer (some ⟨b_4, 0, none⟩))]) (H' := [⟨41, b_4, [.string (bs r_19.2.s), .bool r_19.2.bad]⟩, ⟨42, b_6, [.int .i64 r_5.1, .int .u64 r_7.1, .int .u64 r_8.1, .int .u64 r_9.1, .slice none ([] : List T_api_Step).length 0, .int .i64 r_17.1, .bool r_18.1, .int .i64 r_19.1, .bool false, .int .u64 r_10.1]⟩, ⟨40, b_2, [.int .i64 0, .int .u64 0, .int .u64 0, .int .u64 0, .slice none ([] : List T_api_Step).length 0, .int .i64 0, .bool false, .int .i64 0, .bool false, .int .u64 0]⟩]) (ps := []) (by kernel_rfl) trivial ?_
      refine OpTo.go (GoO.call rfl (by kernel_rfl) (by kernel_rfl) (pack_Reader_Bool_ok n r_19.2 b_4) [[0], [41]] [(41, 1)] [(1, 0)] [] (hks := [1, 2]) (bks := []) (by kernel_rfl) (by kernel_rfl) (by kernel_rfl) (.inl rfl) rfl rfl (by kernel_rfl) (by kernel_rfl) _ (fun _ _ => rfl) _ _ (fun _ _ => rfl) (fun _ _ => rfl) (fun _ _ => by kernel_rfl) (fun _ _ => by kernel_rfl) (fun r_20 x_21 => ?_))
      refine GoO.shape (env' := [(2, .pointer (some ⟨b_2, 0, none⟩)), (4, .pointer (some ⟨b_4, 0, none⟩)), (5, .pointer (some ⟨b_6, 0, none⟩)), (41, .pointer (some ⟨b_4, 0, none⟩)), (42, .bool r_20.1)]) (H' := [⟨41, b_4, [.string (bs r_20.2.s), .bool r_20.2.bad]⟩, ⟨42, b_6, [.int .i64 r_5.1, .int .u64 r_7.1, .int .u64 r_8.1, .int .u64 r_9.1, .slice none ([] : List T_api_Step).length 0, .int .i64 r_17.1, .bool r_18.1, .int .i64 r_19.1, .bool false, .int .u64 r_10.1]⟩, ⟨40, b_2, [.int .i64 0, .int .u64 0, .int .u64 0, .int .u64 0, .slice none ([] : List T_api_Step).length 0, .int .i64 0, .bool false, .int .i64 0, .bool false, .int .u64 0]⟩]) (B' := []) (ks := [2, 4, 5, 41, 42]) (by kernel_rfl) (by kernel_rfl) (by kernel_rfl) ?_
      refine GoO.exec (is := [2, 3]) (hs := [.p, .b 1]) (rest := []) (ks := [2, 4, 5]) (env' := [(2, .pointer (some ⟨b_2, 0, none⟩)), (4, .pointer (some ⟨b_4, 0, none⟩)), (5, .pointer (some ⟨b_6, 0, none⟩))]) (H' := [⟨41, b_4, [.string (bs r_20.2.s), .bool r_20.2.bad]⟩, ⟨42, b_6, [.int .i64 r_5.1, .int .u64 r_7.1, .int .u64 r_8.1, .int .u64 r_9.1, .slice none ([] : List T_api_Step).length 0, .int .i64 r_17.1, .bool r_18.1, .int .i64 r_19.1, .bool r_20.1, .int .u64 r_10.1]⟩, ⟨40, b_2, [.int .i64 0, .int .u64 0, .int .u64 0, .int .u64 0, .slice none ([] : List T_api_Step).length 0, .int .i64 0, .bool false, .int .i64 0, .bool false, .int .u64 0]⟩]) (ps := [b_6 = b_6]) (by kernel_rfl) (And.intro rfl trivial) ?_
      refine GoO.regionEnd ?_
      refine GoO.nilOwn kT_api_Step 43 ?_
      exact GoO.sub (ks := [2, 4, 5]) (hk := [2, 0, 1]) (bk := [0]) (by kernel_rfl) (by kernel_rfl) (by kernel_rfl) (command_Decode_j0_ok n r_5 r_7 r_8 r_9 r_10 b_2 b_4 b_6 w0 S0 r_20.2.s r_20.2.bad ([] : List T_api_Step) r_17.1 r_18.1 r_19.1 r_20.1 none 0)
    · refine GoO.skip' c36_32e ?_
      refine GoO.nilOwn kT_api_Step 43 ?_
      exact GoO.sub (ks := [2, 4, 5]) (hk := [2, 0, 1]) (bk := [0]) (by kernel_rfl) (by kernel_rfl) (by kernel_rfl) (command_Decode_j0_ok n r_5 r_7 r_8 r_9 r_10 b_2 b_4 b_6 w0 S0 r_10.2.s r_10.2.bad ([] : List T_api_Step) 0 false 0 false none 0)

/-! (*tontine/tontineref03.Reader).Fail -/
noncomputable def c69_0 : Code := bodyOf Try.f69
noncomputable def c69_1 : Code := cdL c69_0
noncomputable def c69_2 : Code := cdR c69_0
noncomputable def r69_1 : Array Oper := cdO c69_1
noncomputable def r69_2 : Array Oper := cdO c69_2
theorem c69_0e : c69_0 = .seq c69_1 c69_2 := by kernel_rfl
theorem c69_1e : c69_1 = .region 0 r69_1 false := by kernel_rfl
theorem c69_2e : c69_2 = .region 1 r69_2 false := by kernel_rfl
noncomputable def tontineref03_Reader_Fail.R (b_2 : Nat) : Pst T_tontineref03_Reader where
  ε := Unit
  v := fun r x => .tuple ⟨[]⟩
  H := fun r x => [⟨1, b_2, [.string (bs r.S_), .bool r.Bad]⟩]
  B := fun r x => []
noncomputable def tontineref03_Reader_Fail.cx (b_2 : Nat) (w0 : World) (S0 : Fam) : Cx T_tontineref03_Reader := ⟨Try.prog, 69, Try.f69, 8, w0, S0, [1], 1, tontineref03_Reader_Fail.R b_2⟩
theorem tontineref03_Reader_Fail_ok (n : Nat) (r_1 : T_tontineref03_Reader) (b_2 : Nat) :
    Meets Try.prog 69 [.pointer (some ⟨b_2, 0, none⟩)] 1 [1] [⟨1, b_2, [.string (bs r_1.S_), .bool r_1.Bad]⟩] [] (tontineref03_Reader_Fail.f n r_1) (tontineref03_Reader_Fail.R b_2) := by
  refine Meets.of (c := c69_0) (n := 8) Try.func69 (by kernel_rfl) (by kernel_rfl) (by kernel_rfl) fun w0 S0 => ?_
  unfold tontineref03_Reader_Fail.f
  show GoO (tontineref03_Reader_Fail.cx b_2 w0 S0) [(0, .pointer (some ⟨b_2, 0, none⟩))] [⟨1, b_2, [.string (bs r_1.S_), .bool r_1.Bad]⟩] [] [.code c69_0] _
  refine GoO.seq' c69_0e ?_
  refine GoO.region' (is := [0, 1, 2, 3]) c69_1e (by kernel_rfl) ?_
  refine GoO.exec (is := [0, 1, 2, 3]) (hs := [.p, .p, .p, .b 0]) (rest := []) (ks := [0]) (env' := [(0, .pointer (some ⟨b_2, 0, none⟩))]) (H' := [⟨1, b_2, [.string (bs []), .bool r_1.Bad]⟩]) (ps := [b_2 = b_2]) (by kernel_rfl) (And.intro rfl trivial) ?_
  refine GoO.regionEnd ?_
  refine GoO.region' (is := [0, 1, 2, 3]) c69_2e (by kernel_rfl) ?_
  refine GoO.exec (is := [0, 1, 2, 3]) (hs := [.p, .p, .p, .b 0]) (rest := []) (ks := []) (env' := []) (H' := [⟨1, b_2, [.string (bs []), .bool true]⟩]) (ps := [b_2 = b_2]) (by kernel_rfl) (And.intro rfl trivial) ?_
  refine GoO.regionEnd ?_
  exact GoO.fin (hs := []) (ps := []) (hk := [0]) (bk := []) Try.func69 () (by kernel_rfl) trivial (by kernel_rfl) (by kernel_rfl)

/-! (*tontine/tontineref03.Reader).Num -/
noncomputable def c61_0 : Code := bodyOf Try.f61
noncomputable def c61_1 : Code := cdL c61_0
noncomputable def c61_2 : Code := cdR c61_0
noncomputable def c61_3 : Code := cdL c61_2
noncomputable def c61_4 : Code := cdR c61_2
noncomputable def c61_5 : Code := cdL c61_4
noncomputable def c61_6 : Code := cdL c61_5
noncomputable def c61_7 : Code := cdR c61_5
noncomputable def c61_8 : Code := cdL c61_7
noncomputable def c61_9 : Code := cdR c61_7
noncomputable def c61_10 : Code := cdR c61_4
noncomputable def c61_11 : Code := cdL c61_10
noncomputable def c61_12 : Code := cdL c61_11
noncomputable def c61_13 : Code := cdR c61_11
noncomputable def c61_14 : Code := cdL c61_13
noncomputable def c61_15 : Code := cdL c61_14
noncomputable def c61_16 : Code := cdR c61_14
noncomputable def c61_17 : Code := cdL c61_16
noncomputable def c61_18 : Code := cdR c61_16
noncomputable def c61_19 : Code := cdR c61_13
noncomputable def c61_20 : Code := cdR c61_10
noncomputable def c61_21 : Code := cdL c61_20
noncomputable def c61_22 : Code := cdR c61_20
noncomputable def c61_23 : Code := cdL c61_22
noncomputable def c61_24 : Code := cdL c61_23
noncomputable def c61_25 : Code := cdR c61_23
noncomputable def c61_26 : Code := cdL c61_25
noncomputable def c61_27 : Code := cdL c61_26
noncomputable def c61_28 : Code := cdL c61_27
noncomputable def c61_29 : Code := cdL c61_28
noncomputable def c61_30 : Code := cdR c61_28
noncomputable def c61_31 : Code := cdL c61_30
noncomputable def c61_32 : Code := cdR c61_30
noncomputable def c61_33 : Code := cdR c61_27
noncomputable def c61_34 : Code := cdL c61_33
noncomputable def c61_35 : Code := cdL c61_34
noncomputable def c61_36 : Code := cdR c61_33
noncomputable def c61_37 : Code := cdR c61_22
noncomputable def c61_38 : Code := cdL c61_37
noncomputable def c61_39 : Code := cdR c61_37
noncomputable def c61_40 : Code := cdL c61_39
noncomputable def c61_41 : Code := cdR c61_39
noncomputable def r61_1 : Array Oper := cdO c61_1
noncomputable def r61_3 : Array Oper := cdO c61_3
noncomputable def r61_6 : Array Oper := cdO c61_6
noncomputable def r61_8 : Array Oper := cdO c61_8
noncomputable def r61_12 : Array Oper := cdO c61_12
noncomputable def r61_15 : Array Oper := cdO c61_15
noncomputable def r61_17 : Array Oper := cdO c61_17
noncomputable def r61_21 : Array Oper := cdO c61_21
noncomputable def r61_24 : Array Oper := cdO c61_24
noncomputable def r61_29 : Array Oper := cdO c61_29
noncomputable def r61_35 : Array Oper := cdO c61_35
noncomputable def r61_36 : Array Oper := cdO c61_36
noncomputable def r61_38 : Array Oper := cdO c61_38
noncomputable def r61_40 : Array Oper := cdO c61_40
theorem c61_0e : c61_0 = .seq c61_1 c61_2 := by kernel_rfl
theorem c61_1e : c61_1 = .region 0 r61_1 false := by kernel_rfl
theorem c61_2e : c61_2 = .seq c61_3 c61_4 := by kernel_rfl
theorem c61_3e : c61_3 = .region 1 r61_3 false := by kernel_rfl
theorem c61_4e : c61_4 = .seq c61_5 c61_10 := by kernel_rfl
theorem c61_5e : c61_5 = .seq c61_6 c61_7 := by kernel_rfl
theorem c61_6e : c61_6 = .region 2 r61_6 false := by kernel_rfl
theorem c61_7e : c61_7 = .cond (cdC c61_7) c61_8 c61_9 := by kernel_rfl
theorem c61_8e : c61_8 = .region 3 r61_8 false := by kernel_rfl
theorem c61_9e : c61_9 = .skip := by kernel_rfl
theorem c61_10e : c61_10 = .seq c61_11 c61_20 := by kernel_rfl
theorem c61_11e : c61_11 = .seq c61_12 c61_13 := by kernel_rfl
theorem c61_12e : c61_12 = .region 4 r61_12 false := by kernel_rfl
theorem c61_13e : c61_13 = .cond (cdC c61_13) c61_14 c61_19 := by kernel_rfl
theorem c61_14e : c61_14 = .seq c61_15 c61_16 := by kernel_rfl
theorem c61_15e : c61_15 = .region 5 r61_15 false := by kernel_rfl
theorem c61_16e : c61_16 = .seq c61_17 c61_18 := by kernel_rfl
theorem c61_17e : c61_17 = .region 6 r61_17 false := by kernel_rfl
theorem c61_18e : c61_18 = .ret := by kernel_rfl
theorem c61_19e : c61_19 = .skip := by kernel_rfl
theorem c61_20e : c61_20 = .seq c61_21 c61_22 := by kernel_rfl
theorem c61_21e : c61_21 = .region 7 r61_21 false := by kernel_rfl
theorem c61_22e : c61_22 = .seq c61_23 c61_37 := by kernel_rfl
theorem c61_23e : c61_23 = .seq c61_24 c61_25 := by kernel_rfl
theorem c61_24e : c61_24 = .region 8 r61_24 false := by kernel_rfl
theorem c61_25e : c61_25 = .block 0 c61_26 := by kernel_rfl
theorem c61_26e : c61_26 = .loop c61_27 := by kernel_rfl
theorem c61_27e : c61_27 = .seq c61_28 c61_33 := by kernel_rfl
theorem c61_28e : c61_28 = .seq c61_29 c61_30 := by kernel_rfl
theorem c61_29e : c61_29 = .region 9 r61_29 false := by kernel_rfl
theorem c61_30e : c61_30 = .cond (cdC c61_30) c61_31 c61_32 := by kernel_rfl
theorem c61_31e : c61_31 = .skip := by kernel_rfl
theorem c61_32e : c61_32 = .exit 0 := by kernel_rfl
theorem c61_33e : c61_33 = .seq c61_34 c61_36 := by kernel_rfl
theorem c61_34e : c61_34 = .block 1 c61_35 := by kernel_rfl
theorem c61_35e : c61_35 = .region 11 r61_35 false := by kernel_rfl
theorem c61_36e : c61_36 = .region 10 r61_36 false := by kernel_rfl
theorem c61_37e : c61_37 = .seq c61_38 c61_39 := by kernel_rfl
theorem c61_38e : c61_38 = .region 12 r61_38 false := by kernel_rfl
theorem c61_39e : c61_39 = .seq c61_40 c61_41 := by kernel_rfl
theorem c61_40e : c61_40 = .region 13 r61_40 false := by kernel_rfl
theorem c61_41e : c61_41 = .ret := by kernel_rfl
noncomputable def tontineref03_Reader_Num.R (b_2 : Nat) : Pst (Int × T_tontineref03_Reader) where
  ε := Unit
  v := fun r x => .int .u64 r.1
  H := fun r x => [⟨1, b_2, [.string (bs r.2.S_), .bool r.2.Bad]⟩]
  B := fun r x => []
noncomputable def tontineref03_Reader_Num.cx (b_2 : Nat) (w0 : World) (S0 : Fam) : Cx (Int × T_tontineref03_Reader) := ⟨Try.prog, 61, Try.f61, 74, w0, S0, [1], 1, tontineref03_Reader_Num.R b_2⟩
theorem tontineref03_Reader_Num_l0_ok (n : Nat) (r_1 : T_tontineref03_Reader) (n_5 : Int) (b_2 : Nat) (w0 : World) (S0 : Fam) :
    ∀ (k : Nat) (x_15 : Int) (i_16 : Int), GoO (tontineref03_Reader_Num.cx b_2 w0 S0) [(0, .pointer (some ⟨b_2, 0, none⟩)), (3, .int .i64 n_5), (4, .int .u64 x_15), (5, .int .i64 i_16)] [⟨1, b_2, [.string (bs r_1.S_), .bool r_1.Bad]⟩] [] [.code c61_27, .inLoop c61_27, .inBlock 0, .code c61_37] (tontineref03_Reader_Num.l0 n r_1 n_5 k x_15 i_16) := by
  intro k
  induction k with
  | zero => intros; rw [tontineref03_Reader_Num.l0.eq_1]; exact GoO.stop
  | succ k ih0 =>
    intro x_15 i_16
    rw [tontineref03_Reader_Num.l0.eq_2]
    refine GoO.seq' c61_27e ?_
    refine GoO.seq' c61_28e ?_
    refine GoO.region' (is := [0, 1, 2]) c61_29e (by kernel_rfl) ?_
    refine GoO.exec (is := [0, 1, 2]) (hs := [.p, .p, .p]) (rest := []) (ks := [0, 3, 4, 5, 50]) (env' := [(0, .pointer (some ⟨b_2, 0, none⟩)), (3, .int .i64 n_5), (4, .int .u64 x_15), (5, .int .i64 i_16), (50, .bool (decide (i_16 ≤ n_5)))]) (H' := [⟨1, b_2, [.string (bs r_1.S_), .bool r_1.Bad]⟩]) (ps := []) (by kernel_rfl) trivial ?_
    refine GoO.regionEnd ?_
    refine GoO.ite' c61_30e (by kernel_rfl) (fun h17 => ?_) (fun h17 => ?_)
    · refine GoO.skip' c61_31e ?_
      refine GoO.seq' c61_33e ?_
      refine GoO.block' c61_34e ?_
      refine GoO.region' (is := [0, 1, 2, 3, 4, 5, 6, 7, 8, 9, 10]) c61_35e (by kernel_rfl) ?_
      refine GoO.guard (fun h18 => ?_)
      refine GoO.exec (is := [0, 1, 2, 3, 4, 5, 6, 7, 8, 9, 10]) (hs := [.p, .p, .p, .p, .p, .b 0, .p, .p, .p, .p, .p]) (rest := []) (ks := [0, 3, 4, 5]) (env' := [(0, .pointer (some ⟨b_2, 0, none⟩)), (3, .int .i64 n_5), (4, .int .u64 (wu64 ((wu64 (256 * x_15)) + (wu64 ((rdB r_1.S_ i_16).toNat : Int))))), (5, .int .i64 i_16)]) (H' := [⟨1, b_2, [.string (bs r_1.S_), .bool r_1.Bad]⟩]) (ps := [b_2 = b_2, (0 : Int) ≤ i_16, i_16 < (r_1.S_.length : Int)]) (by kernel_rfl) (And.intro rfl (And.intro h18.1 (And.intro h18.2 trivial))) ?_
      refine GoO.regionEnd ?_
      refine GoO.inBlock ?_
      refine GoO.region' (is := [0, 1, 2]) c61_36e (by kernel_rfl) ?_
      refine GoO.exec (is := [0, 1, 2]) (hs := [.p, .p, .p]) (rest := []) (ks := [0, 3, 4, 5]) (env' := [(0, .pointer (some ⟨b_2, 0, none⟩)), (3, .int .i64 n_5), (4, .int .u64 (wu64 ((wu64 (256 * x_15)) + (wu64 ((rdB r_1.S_ i_16).toNat : Int))))), (5, .int .i64 (wi64 (i_16 + 1)))]) (H' := [⟨1, b_2, [.string (bs r_1.S_), .bool r_1.Bad]⟩]) (ps := []) (by kernel_rfl) trivial ?_
      refine GoO.regionEnd ?_
      refine GoO.inLoop ?_
      exact GoO.sub (ks := [0, 3, 4, 5]) (hk := [0]) (bk := []) (by kernel_rfl) (by kernel_rfl) (by kernel_rfl) (ih0 (wu64 ((wu64 (256 * x_15)) + (wu64 ((rdB r_1.S_ i_16).toNat : Int)))) (wi64 (i_16 + 1)))
    · refine GoO.exit' c61_32e rfl ?_
      refine GoO.seq' c61_37e ?_
      refine GoO.region' (is := [0, 1, 2, 3, 4, 5, 6, 7, 8, 9, 10]) c61_38e (by kernel_rfl) ?_
      refine GoO.guard (fun h19 => ?_)
      refine GoO.exec (is := [0, 1, 2, 3, 4, 5, 6, 7, 8, 9, 10]) (hs := [.p, .p, .p, .p, .b 0, .p, .p, .p, .p, .p, .b 0]) (rest := []) (ks := [4]) (env' := [(4, .int .u64 x_15)]) (H' := [⟨1, b_2, [.string (bs (r_1.S_.drop (wi64 (n_5 + 1)).toNat)), .bool r_1.Bad]⟩]) (ps := [b_2 = b_2, (0 : Int) ≤ (wi64 (n_5 + 1)), (wi64 (n_5 + 1)) ≤ (r_1.S_.length : Int), b_2 = b_2]) (by kernel_rfl) (And.intro rfl (And.intro h19.1 (And.intro h19.2 (And.intro rfl trivial)))) ?_
      refine GoO.regionEnd ?_
      refine GoO.seq' c61_39e ?_
      refine GoO.region' (is := [0, 1]) c61_40e (by kernel_rfl) ?_
      refine GoO.exec (is := [0, 1]) (hs := [.p, .p]) (rest := []) (ks := [2]) (env' := [(2, .int .u64 x_15)]) (H' := [⟨1, b_2, [.string (bs (r_1.S_.drop (wi64 (n_5 + 1)).toNat)), .bool r_1.Bad]⟩]) (ps := []) (by kernel_rfl) trivial ?_
      refine GoO.regionEnd ?_
      exact GoO.ret' (h := c61_41e) (hs := []) (ps := []) (hk := [0]) (bk := []) Try.func61 () (by kernel_rfl) trivial (by kernel_rfl) (by kernel_rfl)
theorem tontineref03_Reader_Num_j1_ok (n : Nat) (r_1 : T_tontineref03_Reader) (n_5 : Int) (b_2 : Nat) (w0 : World) (S0 : Fam) (b_11 : Bool) :
    GoO (tontineref03_Reader_Num.cx b_2 w0 S0) [(0, .pointer (some ⟨b_2, 0, none⟩)), (3, .int .i64 n_5), (45, .bool b_11)] [⟨1, b_2, [.string (bs r_1.S_), .bool r_1.Bad]⟩] [] [.code c61_13, .code c61_20] (tontineref03_Reader_Num.j1 n r_1 n_5 b_11) := by
  unfold tontineref03_Reader_Num.j1
  refine GoO.ite' c61_13e (by kernel_rfl) (fun h12 => ?_) (fun h12 => ?_)
  · refine GoO.seq' c61_14e ?_
    refine GoO.region' (is := [0, 1]) c61_15e (by kernel_rfl) ?_
    refine GoO.exec (is := [0]) (hs := [.p]) (rest := [1]) (ks := [46]) (env' := [(46, .pointer (some ⟨b_2, 0, none⟩))]) (H' := [⟨1, b_2, [.string (bs r_1.S_), .bool r_1.Bad]⟩]) (ps := []) (by kernel_rfl) trivial ?_
    refine OpTo.go (GoO.call rfl (by kernel_rfl) (by kernel_rfl) (tontineref03_Reader_Fail_ok n r_1 b_2) [[0], [1]] [(1, 1)] [(1, 0)] [] (hks := []) (bks := []) (by kernel_rfl) (by kernel_rfl) (by kernel_rfl) (.inl rfl) rfl rfl (by kernel_rfl) (by kernel_rfl) _ (fun _ _ => rfl) _ _ (fun _ _ => rfl) (fun _ _ => rfl) (fun _ _ => by kernel_rfl) (fun _ _ => by kernel_rfl) (fun r_13 x_14 => ?_))
    refine GoO.shape (env' := [(46, .pointer (some ⟨b_2, 0, none⟩)), (47, .tuple ⟨[]⟩)]) (H' := [⟨1, b_2, [.string (bs r_13.S_), .bool r_13.Bad]⟩]) (B' := []) (ks := [46, 47]) (by kernel_rfl) (by kernel_rfl) (by kernel_rfl) ?_
    refine GoO.regionEnd ?_
    refine GoO.seq' c61_16e ?_
    refine GoO.region' (is := [0]) c61_17e (by kernel_rfl) ?_
    refine GoO.exec (is := [0]) (hs := [.p]) (rest := []) (ks := [2]) (env' := [(2, .int .u64 0)]) (H' := [⟨1, b_2, [.string (bs r_13.S_), .bool r_13.Bad]⟩]) (ps := []) (by kernel_rfl) trivial ?_
    refine GoO.regionEnd ?_
    exact GoO.ret' (h := c61_18e) (hs := []) (ps := []) (hk := [0]) (bk := []) Try.func61 () (by kernel_rfl) trivial (by kernel_rfl) (by kernel_rfl)
  · refine GoO.skip' c61_19e ?_
    refine GoO.seq' c61_20e ?_
    refine GoO.region' (is := [0]) c61_21e (by kernel_rfl) ?_
    refine GoO.exec (is := [0]) (hs := [.p]) (rest := []) (ks := [0, 3, 4]) (env' := [(0, .pointer (some ⟨b_2, 0, none⟩)), (3, .int .i64 n_5), (4, .int .u64 0)]) (H' := [⟨1, b_2, [.string (bs r_1.S_), .bool r_1.Bad]⟩]) (ps := []) (by kernel_rfl) trivial ?_
    refine GoO.regionEnd ?_
    refine GoO.seq' c61_22e ?_
    refine GoO.seq' c61_23e ?_
    refine GoO.region' (is := [0]) c61_24e (by kernel_rfl) ?_
    refine GoO.exec (is := [0]) (hs := [.p]) (rest := []) (ks := [0, 3, 4, 5]) (env' := [(0, .pointer (some ⟨b_2, 0, none⟩)), (3, .int .i64 n_5), (4, .int .u64 0), (5, .int .i64 1)]) (H' := [⟨1, b_2, [.string (bs r_1.S_), .bool r_1.Bad]⟩]) (ps := []) (by kernel_rfl) trivial ?_
    refine GoO.regionEnd ?_
    refine GoO.block' c61_25e ?_
    refine GoO.loop' c61_26e ?_
    exact GoO.sub (ks := [0, 3, 4, 5]) (hk := [0]) (bk := []) (by kernel_rfl) (by kernel_rfl) (by kernel_rfl) (tontineref03_Reader_Num_l0_ok n r_1 n_5 b_2 w0 S0 n 0 1)
theorem tontineref03_Reader_Num_j0_ok (n : Nat) (r_1 : T_tontineref03_Reader) (b_2 : Nat) (w0 : World) (S0 : Fam) (n_5 : Int) :
    GoO (tontineref03_Reader_Num.cx b_2 w0 S0) [(0, .pointer (some ⟨b_2, 0, none⟩)), (3, .int .i64 n_5)] [⟨1, b_2, [.string (bs r_1.S_), .bool r_1.Bad]⟩] [] [.code c61_10] (tontineref03_Reader_Num.j0 n r_1 n_5) := by
  unfold tontineref03_Reader_Num.j0
  refine GoO.seq' c61_10e ?_
  refine GoO.seq' c61_11e ?_
  refine GoO.region' (is := [0, 1, 2, 3, 4, 5, 6, 7, 8, 9, 10, 11, 12, 13, 14, 15, 16, 17, 18, 19, 20, 21, 22, 23, 24, 25, 26, 27]) c61_12e (by kernel_rfl) ?_
  refine GoO.exec (is := [0, 1, 2]) (hs := [.p, .p, .p]) (rest := [3, 4, 5, 6, 7, 8, 9, 10, 11, 12, 13, 14, 15, 16, 17, 18, 19, 20, 21, 22, 23, 24, 25, 26, 27]) (ks := [0, 3, 20]) (env' := [(0, .pointer (some ⟨b_2, 0, none⟩)), (3, .int .i64 n_5), (20, .bool (decide (n_5 < 0)))]) (H' := [⟨1, b_2, [.string (bs r_1.S_), .bool r_1.Bad]⟩]) (ps := []) (by kernel_rfl) trivial ?_
  refine GoO.bsplit (t := 20) (by kernel_rfl) (fun h6 => ?_) (fun h6 => ?_)
  · refine GoO.exec (is := [3, 4, 5, 6, 7, 8, 9, 10, 11, 12, 13, 14, 15, 16, 17, 18, 19, 20, 21, 22, 23, 24, 25, 26, 27]) (hs := [.p, .p, .p, .p, .p, .p, .p, .p, .p, .p, .p, .p, .p, .p, .p, .p, .p, .p, .p, .p, .p, .p, .p, .p, .p]) (rest := []) (ks := [0, 3, 45]) (env' := [(0, .pointer (some ⟨b_2, 0, none⟩)), (3, .int .i64 n_5), (45, .bool true)]) (H' := [⟨1, b_2, [.string (bs r_1.S_), .bool r_1.Bad]⟩]) (ps := []) (by kernel_rfl) trivial ?_
    refine GoO.regionEnd ?_
    exact GoO.sub (ks := [0, 3, 45]) (hk := [0]) (bk := []) (by kernel_rfl) (by kernel_rfl) (by kernel_rfl) (tontineref03_Reader_Num_j1_ok n r_1 n_5 b_2 w0 S0 true)
  · refine GoO.exec (is := [3, 4, 5, 6]) (hs := [.p, .p, .p, .p]) (rest := [7, 8, 9, 10, 11, 12, 13, 14, 15, 16, 17, 18, 19, 20, 21, 22, 23, 24, 25, 26, 27]) (ks := [0, 3, 24]) (env' := [(0, .pointer (some ⟨b_2, 0, none⟩)), (3, .int .i64 n_5), (24, .bool (decide (n_5 > 8)))]) (H' := [⟨1, b_2, [.string (bs r_1.S_), .bool r_1.Bad]⟩]) (ps := []) (by kernel_rfl) trivial ?_
    refine GoO.bsplit (t := 24) (by kernel_rfl) (fun h7 => ?_) (fun h7 => ?_)
    · refine GoO.exec (is := [7, 8, 9, 10, 11, 12, 13, 14, 15, 16, 17, 18, 19, 20, 21, 22, 23, 24, 25, 26, 27]) (hs := [.p, .p, .p, .p, .p, .p, .p, .p, .p, .p, .p, .p, .p, .p, .p, .p, .p, .p, .p, .p, .p]) (rest := []) (ks := [0, 3, 45]) (env' := [(0, .pointer (some ⟨b_2, 0, none⟩)), (3, .int .i64 n_5), (45, .bool true)]) (H' := [⟨1, b_2, [.string (bs r_1.S_), .bool r_1.Bad]⟩]) (ps := []) (by kernel_rfl) trivial ?_
      refine GoO.regionEnd ?_
      exact GoO.sub (ks := [0, 3, 45]) (hk := [0]) (bk := []) (by kernel_rfl) (by kernel_rfl) (by kernel_rfl) (tontineref03_Reader_Num_j1_ok n r_1 n_5 b_2 w0 S0 true)
    · refine GoO.exec (is := [7, 8, 9, 10, 11, 12, 13, 14, 15, 16]) (hs := [.p, .p, .p, .b 0, .p, .p, .p, .p, .p, .p]) (rest := [17, 18, 19, 20, 21, 22, 23, 24, 25, 26, 27]) (ks := [0, 3, 34]) (env' := [(0, .pointer (some ⟨b_2, 0, none⟩)), (3, .int .i64 n_5), (34, .bool (decide ((r_1.S_.length : Int) < (wi64 (n_5 + 1)))))]) (H' := [⟨1, b_2, [.string (bs r_1.S_), .bool r_1.Bad]⟩]) (ps := [b_2 = b_2]) (by kernel_rfl) (And.intro rfl trivial) ?_
      refine GoO.bsplit (t := 34) (by kernel_rfl) (fun h8 => ?_) (fun h8 => ?_)
      · refine GoO.exec (is := [17, 18, 19, 20, 21, 22, 23, 24, 25, 26, 27]) (hs := [.p, .p, .p, .p, .p, .p, .p, .p, .p, .p, .p]) (rest := []) (ks := [0, 3, 45]) (env' := [(0, .pointer (some ⟨b_2, 0, none⟩)), (3, .int .i64 n_5), (45, .bool true)]) (H' := [⟨1, b_2, [.string (bs r_1.S_), .bool r_1.Bad]⟩]) (ps := []) (by kernel_rfl) trivial ?_
        refine GoO.regionEnd ?_
        exact GoO.sub (ks := [0, 3, 45]) (hk := [0]) (bk := []) (by kernel_rfl) (by kernel_rfl) (by kernel_rfl) (tontineref03_Reader_Num_j1_ok n r_1 n_5 b_2 w0 S0 true)
      · refine GoO.exec (is := [17, 18, 19]) (hs := [.p, .p, .p]) (rest := [20, 21, 22, 23, 24, 25, 26, 27]) (ks := [0, 3, 34, 37]) (env' := [(0, .pointer (some ⟨b_2, 0, none⟩)), (3, .int .i64 n_5), (34, .bool false), (37, .bool (decide (n_5 > 0)))]) (H' := [⟨1, b_2, [.string (bs r_1.S_), .bool r_1.Bad]⟩]) (ps := []) (by kernel_rfl) trivial ?_
        refine GoO.bsplit (t := 37) (by kernel_rfl) (fun h9 => ?_) (fun h9 => ?_)
        · refine GoO.guard (fun h10 => ?_)
          refine GoO.exec (is := [20, 21, 22, 23, 24, 25, 26, 27]) (hs := [.p, .p, .p, .b 0, .p, .p, .p, .p]) (rest := []) (ks := [0, 3, 45]) (env' := [(0, .pointer (some ⟨b_2, 0, none⟩)), (3, .int .i64 n_5), (45, .bool (((rdB r_1.S_ 1).toNat : Int) == 0))]) (H' := [⟨1, b_2, [.string (bs r_1.S_), .bool r_1.Bad]⟩]) (ps := [b_2 = b_2, (0 : Int) ≤ 1, 1 < (r_1.S_.length : Int)]) (by kernel_rfl) (And.intro rfl (And.intro h10.1 (And.intro h10.2 trivial))) ?_
          refine GoO.regionEnd ?_
          exact GoO.sub (ks := [0, 3, 45]) (hk := [0]) (bk := []) (by kernel_rfl) (by kernel_rfl) (by kernel_rfl) (tontineref03_Reader_Num_j1_ok n r_1 n_5 b_2 w0 S0 (((rdB r_1.S_ 1).toNat : Int) == 0))
        · refine GoO.exec (is := [20, 21, 22, 23, 24, 25, 26, 27]) (hs := [.p, .p, .p, .p, .p, .p, .p, .p]) (rest := []) (ks := [0, 3, 45]) (env' := [(0, .pointer (some ⟨b_2, 0, none⟩)), (3, .int .i64 n_5), (45, .bool false)]) (H' := [⟨1, b_2, [.string (bs r_1.S_), .bool r_1.Bad]⟩]) (ps := []) (by kernel_rfl) trivial ?_
          refine GoO.regionEnd ?_
          exact GoO.sub (ks := [0, 3, 45]) (hk := [0]) (bk := []) (by kernel_rfl) (by kernel_rfl) (by kernel_rfl) (tontineref03_Reader_Num_j1_ok n r_1 n_5 b_2 w0 S0 false)
theorem tontineref03_Reader_Num_ok (n : Nat) (r_1 : T_tontineref03_Reader) (b_2 : Nat) :
    Meets Try.prog 61 [.pointer (some ⟨b_2, 0, none⟩)] 1 [1] [⟨1, b_2, [.string (bs r_1.S_), .bool r_1.Bad]⟩] [] (tontineref03_Reader_Num.f n r_1) (tontineref03_Reader_Num.R b_2) := by
  refine Meets.of (c := c61_0) (n := 74) Try.func61 (by kernel_rfl) (by kernel_rfl) (by kernel_rfl) fun w0 S0 => ?_
  unfold tontineref03_Reader_Num.f
  show GoO (tontineref03_Reader_Num.cx b_2 w0 S0) [(0, .pointer (some ⟨b_2, 0, none⟩))] [⟨1, b_2, [.string (bs r_1.S_), .bool r_1.Bad]⟩] [] [.code c61_0] _
  refine GoO.seq' c61_0e ?_
  refine GoO.region' (is := [0]) c61_1e (by kernel_rfl) ?_
  refine GoO.exec (is := [0]) (hs := [.p]) (rest := []) (ks := [0]) (env' := [(0, .pointer (some ⟨b_2, 0, none⟩))]) (H' := [⟨1, b_2, [.string (bs r_1.S_), .bool r_1.Bad]⟩]) (ps := []) (by kernel_rfl) trivial ?_
  refine GoO.regionEnd ?_
  refine GoO.seq' c61_2e ?_
  refine GoO.region' (is := [0]) c61_3e (by kernel_rfl) ?_
  refine GoO.exec (is := [0]) (hs := [.p]) (rest := []) (ks := [0, 3]) (env' := [(0, .pointer (some ⟨b_2, 0, none⟩)), (3, .int .i64 (-1))]) (H' := [⟨1, b_2, [.string (bs r_1.S_), .bool r_1.Bad]⟩]) (ps := []) (by kernel_rfl) trivial ?_
  refine GoO.regionEnd ?_
  refine GoO.seq' c61_4e ?_
  refine GoO.seq' c61_5e ?_
  refine GoO.region' (is := [0, 1, 2, 3, 4, 5]) c61_6e (by kernel_rfl) ?_
  refine GoO.exec (is := [0, 1, 2, 3, 4, 5]) (hs := [.p, .p, .p, .b 0, .p, .p]) (rest := []) (ks := [0, 3, 11]) (env' := [(0, .pointer (some ⟨b_2, 0, none⟩)), (3, .int .i64 (-1)), (11, .bool (decide ((r_1.S_.length : Int) > 0)))]) (H' := [⟨1, b_2, [.string (bs r_1.S_), .bool r_1.Bad]⟩]) (ps := [b_2 = b_2]) (by kernel_rfl) (And.intro rfl trivial) ?_
  refine GoO.regionEnd ?_
  refine GoO.ite' c61_7e (by kernel_rfl) (fun h3 => ?_) (fun h3 => ?_)
  · refine GoO.region' (is := [0, 1, 2, 3, 4, 5, 6]) c61_8e (by kernel_rfl) ?_
    refine GoO.guard (fun h4 => ?_)
    refine GoO.exec (is := [0, 1, 2, 3, 4, 5, 6]) (hs := [.p, .p, .p, .b 0, .p, .p, .p]) (rest := []) (ks := [0, 3]) (env' := [(0, .pointer (some ⟨b_2, 0, none⟩)), (3, .int .i64 (wi64 ((rdB r_1.S_ 0).toNat : Int)))]) (H' := [⟨1, b_2, [.string (bs r_1.S_), .bool r_1.Bad]⟩]) (ps := [b_2 = b_2, (0 : Int) ≤ 0, 0 < (r_1.S_.length : Int)]) (by kernel_rfl) (And.intro rfl (And.intro h4.1 (And.intro h4.2 trivial))) ?_
    refine GoO.regionEnd ?_
    exact GoO.sub (ks := [0, 3]) (hk := [0]) (bk := []) (by kernel_rfl) (by kernel_rfl) (by kernel_rfl) (tontineref03_Reader_Num_j0_ok n r_1 b_2 w0 S0 (wi64 ((rdB r_1.S_ 0).toNat : Int)))
  · refine GoO.skip' c61_9e ?_
    exact GoO.sub (ks := [0, 3]) (hk := [0]) (bk := []) (by kernel_rfl) (by kernel_rfl) (by kernel_rfl) (tontineref03_Reader_Num_j0_ok n r_1 b_2 w0 S0 (-1))

/-! (*tontine/tontineref03.Reader).Up -/
noncomputable def c60_0 : Code := bodyOf Try.f60
noncomputable def c60_1 : Code := cdL c60_0
noncomputable def c60_2 : Code := cdR c60_0
noncomputable def c60_3 : Code := cdL c60_2
noncomputable def c60_4 : Code := cdR c60_2
noncomputable def c60_5 : Code := cdL c60_4
noncomputable def c60_6 : Code := cdL c60_5
noncomputable def c60_7 : Code := cdR c60_5
noncomputable def c60_8 : Code := cdL c60_7
noncomputable def c60_9 : Code := cdL c60_8
noncomputable def c60_10 : Code := cdR c60_8
noncomputable def c60_11 : Code := cdL c60_10
noncomputable def c60_12 : Code := cdR c60_10
noncomputable def c60_13 : Code := cdR c60_7
noncomputable def c60_14 : Code := cdR c60_4
noncomputable def c60_15 : Code := cdL c60_14
noncomputable def c60_16 : Code := cdR c60_14
noncomputable def r60_1 : Array Oper := cdO c60_1
noncomputable def r60_3 : Array Oper := cdO c60_3
noncomputable def r60_6 : Array Oper := cdO c60_6
noncomputable def r60_9 : Array Oper := cdO c60_9
noncomputable def r60_11 : Array Oper := cdO c60_11
noncomputable def r60_15 : Array Oper := cdO c60_15
theorem c60_0e : c60_0 = .seq c60_1 c60_2 := by kernel_rfl
theorem c60_1e : c60_1 = .region 0 r60_1 false := by kernel_rfl
theorem c60_2e : c60_2 = .seq c60_3 c60_4 := by kernel_rfl
theorem c60_3e : c60_3 = .region 1 r60_3 false := by kernel_rfl
theorem c60_4e : c60_4 = .seq c60_5 c60_14 := by kernel_rfl
theorem c60_5e : c60_5 = .seq c60_6 c60_7 := by kernel_rfl
theorem c60_6e : c60_6 = .region 2 r60_6 false := by kernel_rfl
theorem c60_7e : c60_7 = .cond (cdC c60_7) c60_8 c60_13 := by kernel_rfl
theorem c60_8e : c60_8 = .seq c60_9 c60_10 := by kernel_rfl
theorem c60_9e : c60_9 = .region 3 r60_9 false := by kernel_rfl
theorem c60_10e : c60_10 = .seq c60_11 c60_12 := by kernel_rfl
theorem c60_11e : c60_11 = .region 4 r60_11 false := by kernel_rfl
theorem c60_12e : c60_12 = .ret := by kernel_rfl
theorem c60_13e : c60_13 = .skip := by kernel_rfl
theorem c60_14e : c60_14 = .seq c60_15 c60_16 := by kernel_rfl
theorem c60_15e : c60_15 = .region 5 r60_15 false := by kernel_rfl
theorem c60_16e : c60_16 = .ret := by kernel_rfl
noncomputable def tontineref03_Reader_Up.R (b_2 : Nat) : Pst (Int × T_tontineref03_Reader) where
  ε := Unit
  v := fun r x => .int .i64 r.1
  H := fun r x => [⟨1, b_2, [.string (bs r.2.S_), .bool r.2.Bad]⟩]
  B := fun r x => []
noncomputable def tontineref03_Reader_Up.cx (b_2 : Nat) (w0 : World) (S0 : Fam) : Cx (Int × T_tontineref03_Reader) := ⟨Try.prog, 60, Try.f60, 20, w0, S0, [1], 1, tontineref03_Reader_Up.R b_2⟩
theorem tontineref03_Reader_Up_j0_ok (n : Nat) (r_4 : Int × T_tontineref03_Reader) (b_2 : Nat) (w0 : World) (S0 : Fam) (b_6 : Bool) :
    GoO (tontineref03_Reader_Up.cx b_2 w0 S0) [(0, .pointer (some ⟨b_2, 0, none⟩)), (5, .int .u64 r_4.1), (15, .bool b_6)] [⟨1, b_2, [.string (bs r_4.2.S_), .bool r_4.2.Bad]⟩] [] [.code c60_7, .code c60_14] (tontineref03_Reader_Up.j0 n r_4 b_6) := by
  unfold tontineref03_Reader_Up.j0
  refine GoO.ite' c60_7e (by kernel_rfl) (fun h7 => ?_) (fun h7 => ?_)
  · refine GoO.seq' c60_8e ?_
    refine GoO.region' (is := [0, 1]) c60_9e (by kernel_rfl) ?_
    refine GoO.exec (is := [0]) (hs := [.p]) (rest := [1]) (ks := [16]) (env' := [(16, .pointer (some ⟨b_2, 0, none⟩))]) (H' := [⟨1, b_2, [.string (bs r_4.2.S_), .bool r_4.2.Bad]⟩]) (ps := []) (by kernel_rfl) trivial ?_
    refine OpTo.go (GoO.call rfl (by kernel_rfl) (by kernel_rfl) (tontineref03_Reader_Fail_ok n r_4.2 b_2) [[0], [1]] [(1, 1)] [(1, 0)] [] (hks := []) (bks := []) (by kernel_rfl) (by kernel_rfl) (by kernel_rfl) (.inl rfl) rfl rfl (by kernel_rfl) (by kernel_rfl) _ (fun _ _ => rfl) _ _ (fun _ _ => rfl) (fun _ _ => rfl) (fun _ _ => by kernel_rfl) (fun _ _ => by kernel_rfl) (fun r_8 x_9 => ?_))
    refine GoO.shape (env' := [(16, .pointer (some ⟨b_2, 0, none⟩)), (17, .tuple ⟨[]⟩)]) (H' := [⟨1, b_2, [.string (bs r_8.S_), .bool r_8.Bad]⟩]) (B' := []) (ks := [16, 17]) (by kernel_rfl) (by kernel_rfl) (by kernel_rfl) ?_
    refine GoO.regionEnd ?_
    refine GoO.seq' c60_10e ?_
    refine GoO.region' (is := [0]) c60_11e (by kernel_rfl) ?_
    refine GoO.exec (is := [0]) (hs := [.p]) (rest := []) (ks := [4]) (env' := [(4, .int .i64 0)]) (H' := [⟨1, b_2, [.string (bs r_8.S_), .bool r_8.Bad]⟩]) (ps := []) (by kernel_rfl) trivial ?_
    refine GoO.regionEnd ?_
    exact GoO.ret' (h := c60_12e) (hs := []) (ps := []) (hk := [0]) (bk := []) Try.func60 () (by kernel_rfl) trivial (by kernel_rfl) (by kernel_rfl)
  · refine GoO.skip' c60_13e ?_
    refine GoO.seq' c60_14e ?_
    refine GoO.region' (is := [0, 1, 2]) c60_15e (by kernel_rfl) ?_
    refine GoO.exec (is := [0, 1, 2]) (hs := [.p, .p, .p]) (rest := []) (ks := [4]) (env' := [(4, .int .i64 (wi64 r_4.1))]) (H' := [⟨1, b_2, [.string (bs r_4.2.S_), .bool r_4.2.Bad]⟩]) (ps := []) (by kernel_rfl) trivial ?_
    refine GoO.regionEnd ?_
    exact GoO.ret' (h := c60_16e) (hs := []) (ps := []) (hk := [0]) (bk := []) Try.func60 () (by kernel_rfl) trivial (by kernel_rfl) (by kernel_rfl)
theorem tontineref03_Reader_Up_ok (n : Nat) (r_1 : T_tontineref03_Reader) (limit_3 : Int) (b_2 : Nat) :
    Meets Try.prog 60 [.pointer (some ⟨b_2, 0, none⟩), .int .i64 limit_3] 1 [1] [⟨1, b_2, [.string (bs r_1.S_), .bool r_1.Bad]⟩] [] (tontineref03_Reader_Up.f n r_1 limit_3) (tontineref03_Reader_Up.R b_2) := by
  refine Meets.of (c := c60_0) (n := 20) Try.func60 (by kernel_rfl) (by kernel_rfl) (by kernel_rfl) fun w0 S0 => ?_
  unfold tontineref03_Reader_Up.f
  show GoO (tontineref03_Reader_Up.cx b_2 w0 S0) [(0, .pointer (some ⟨b_2, 0, none⟩)), (1, .int .i64 limit_3)] [⟨1, b_2, [.string (bs r_1.S_), .bool r_1.Bad]⟩] [] [.code c60_0] _
  refine GoO.seq' c60_0e ?_
  refine GoO.region' (is := [0]) c60_1e (by kernel_rfl) ?_
  refine GoO.exec (is := [0]) (hs := [.p]) (rest := []) (ks := [0, 1]) (env' := [(0, .pointer (some ⟨b_2, 0, none⟩)), (1, .int .i64 limit_3)]) (H' := [⟨1, b_2, [.string (bs r_1.S_), .bool r_1.Bad]⟩]) (ps := []) (by kernel_rfl) trivial ?_
  refine GoO.regionEnd ?_
  refine GoO.seq' c60_2e ?_
  refine GoO.region' (is := [0, 1, 2]) c60_3e (by kernel_rfl) ?_
  refine GoO.exec (is := [0]) (hs := [.p]) (rest := [1, 2]) (ks := [0, 1, 6]) (env' := [(0, .pointer (some ⟨b_2, 0, none⟩)), (1, .int .i64 limit_3), (6, .pointer (some ⟨b_2, 0, none⟩))]) (H' := [⟨1, b_2, [.string (bs r_1.S_), .bool r_1.Bad]⟩]) (ps := []) (by kernel_rfl) trivial ?_
  refine OpTo.go (GoO.call rfl (by kernel_rfl) (by kernel_rfl) (tontineref03_Reader_Num_ok n r_1 b_2) [[0], [1]] [(1, 1)] [(1, 0)] [] (hks := []) (bks := []) (by kernel_rfl) (by kernel_rfl) (by kernel_rfl) (.inl rfl) rfl rfl (by kernel_rfl) (by kernel_rfl) _ (fun _ _ => rfl) _ _ (fun _ _ => rfl) (fun _ _ => rfl) (fun _ _ => by kernel_rfl) (fun _ _ => by kernel_rfl) (fun r_4 x_10 => ?_))
  refine GoO.shape (env' := [(0, .pointer (some ⟨b_2, 0, none⟩)), (1, .int .i64 limit_3), (6, .pointer (some ⟨b_2, 0, none⟩)), (7, .int .u64 r_4.1)]) (H' := [⟨1, b_2, [.string (bs r_4.2.S_), .bool r_4.2.Bad]⟩]) (B' := []) (ks := [0, 1, 6, 7]) (by kernel_rfl) (by kernel_rfl) (by kernel_rfl) ?_
  refine GoO.exec (is := [2]) (hs := [.p]) (rest := []) (ks := [0, 1, 5]) (env' := [(0, .pointer (some ⟨b_2, 0, none⟩)), (1, .int .i64 limit_3), (5, .int .u64 r_4.1)]) (H' := [⟨1, b_2, [.string (bs r_4.2.S_), .bool r_4.2.Bad]⟩]) (ps := []) (by kernel_rfl) trivial ?_
  refine GoO.regionEnd ?_
  refine GoO.seq' c60_4e ?_
  refine GoO.seq' c60_5e ?_
  refine GoO.region' (is := [0, 1, 2, 3, 4, 5, 6, 7]) c60_6e (by kernel_rfl) ?_
  refine GoO.exec (is := [0, 1, 2]) (hs := [.p, .p, .p]) (rest := [3, 4, 5, 6, 7]) (ks := [0, 1, 5, 10]) (env' := [(0, .pointer (some ⟨b_2, 0, none⟩)), (1, .int .i64 limit_3), (5, .int .u64 r_4.1), (10, .bool (decide (limit_3 < 0)))]) (H' := [⟨1, b_2, [.string (bs r_4.2.S_), .bool r_4.2.Bad]⟩]) (ps := []) (by kernel_rfl) trivial ?_
  refine GoO.bsplit (t := 10) (by kernel_rfl) (fun h5 => ?_) (fun h5 => ?_)
  · refine GoO.exec (is := [3, 4, 5, 6, 7]) (hs := [.p, .p, .p, .p, .p]) (rest := []) (ks := [0, 5, 15]) (env' := [(0, .pointer (some ⟨b_2, 0, none⟩)), (5, .int .u64 r_4.1), (15, .bool true)]) (H' := [⟨1, b_2, [.string (bs r_4.2.S_), .bool r_4.2.Bad]⟩]) (ps := []) (by kernel_rfl) trivial ?_
    refine GoO.regionEnd ?_
    exact GoO.sub (ks := [0, 5, 15]) (hk := [0]) (bk := []) (by kernel_rfl) (by kernel_rfl) (by kernel_rfl) (tontineref03_Reader_Up_j0_ok n r_4 b_2 w0 S0 true)
  · refine GoO.exec (is := [3, 4, 5, 6, 7]) (hs := [.p, .p, .p, .p, .p]) (rest := []) (ks := [0, 5, 15]) (env' := [(0, .pointer (some ⟨b_2, 0, none⟩)), (5, .int .u64 r_4.1), (15, .bool (decide (r_4.1 > (wu64 limit_3))))]) (H' := [⟨1, b_2, [.string (bs r_4.2.S_), .bool r_4.2.Bad]⟩]) (ps := []) (by kernel_rfl) trivial ?_
    refine GoO.regionEnd ?_
    exact GoO.sub (ks := [0, 5, 15]) (hk := [0]) (bk := []) (by kernel_rfl) (by kernel_rfl) (by kernel_rfl) (tontineref03_Reader_Up_j0_ok n r_4 b_2 w0 S0 (decide (r_4.1 > (wu64 limit_3))))

/-! (*tontine/tontineref03.Reader).Text -/
noncomputable def c71_0 : Code := bodyOf Try.f71
noncomputable def c71_1 : Code := cdL c71_0
noncomputable def c71_2 : Code := cdR c71_0
noncomputable def c71_3 : Code := cdL c71_2
noncomputable def c71_4 : Code := cdR c71_2
noncomputable def c71_5 : Code := cdL c71_4
noncomputable def c71_6 : Code := cdL c71_5
noncomputable def c71_7 : Code := cdR c71_5
noncomputable def c71_8 : Code := cdL c71_7
noncomputable def c71_9 : Code := cdL c71_8
noncomputable def c71_10 : Code := cdR c71_8
noncomputable def c71_11 : Code := cdL c71_10
noncomputable def c71_12 : Code := cdR c71_10
noncomputable def c71_13 : Code := cdR c71_7
noncomputable def c71_14 : Code := cdR c71_4
noncomputable def c71_15 : Code := cdL c71_14
noncomputable def c71_16 : Code := cdR c71_14
noncomputable def c71_17 : Code := cdL c71_16
noncomputable def c71_18 : Code := cdR c71_16
noncomputable def c71_19 : Code := cdL c71_18
noncomputable def c71_20 : Code := cdR c71_18
noncomputable def r71_1 : Array Oper := cdO c71_1
noncomputable def r71_3 : Array Oper := cdO c71_3
noncomputable def r71_6 : Array Oper := cdO c71_6
noncomputable def r71_9 : Array Oper := cdO c71_9
noncomputable def r71_11 : Array Oper := cdO c71_11
noncomputable def r71_15 : Array Oper := cdO c71_15
noncomputable def r71_17 : Array Oper := cdO c71_17
noncomputable def r71_19 : Array Oper := cdO c71_19
theorem c71_0e : c71_0 = .seq c71_1 c71_2 := by kernel_rfl
theorem c71_1e : c71_1 = .region 0 r71_1 false := by kernel_rfl
theorem c71_2e : c71_2 = .seq c71_3 c71_4 := by kernel_rfl
theorem c71_3e : c71_3 = .region 1 r71_3 false := by kernel_rfl
theorem c71_4e : c71_4 = .seq c71_5 c71_14 := by kernel_rfl
theorem c71_5e : c71_5 = .seq c71_6 c71_7 := by kernel_rfl
theorem c71_6e : c71_6 = .region 2 r71_6 false := by kernel_rfl
theorem c71_7e : c71_7 = .cond (cdC c71_7) c71_8 c71_13 := by kernel_rfl
theorem c71_8e : c71_8 = .seq c71_9 c71_10 := by kernel_rfl
theorem c71_9e : c71_9 = .region 3 r71_9 false := by kernel_rfl
theorem c71_10e : c71_10 = .seq c71_11 c71_12 := by kernel_rfl
theorem c71_11e : c71_11 = .region 4 r71_11 false := by kernel_rfl
theorem c71_12e : c71_12 = .ret := by kernel_rfl
theorem c71_13e : c71_13 = .skip := by kernel_rfl
theorem c71_14e : c71_14 = .seq c71_15 c71_16 := by kernel_rfl
theorem c71_15e : c71_15 = .region 5 r71_15 false := by kernel_rfl
theorem c71_16e : c71_16 = .seq c71_17 c71_18 := by kernel_rfl
theorem c71_17e : c71_17 = .region 6 r71_17 false := by kernel_rfl
theorem c71_18e : c71_18 = .seq c71_19 c71_20 := by kernel_rfl
theorem c71_19e : c71_19 = .region 7 r71_19 false := by kernel_rfl
theorem c71_20e : c71_20 = .ret := by kernel_rfl
noncomputable def tontineref03_Reader_Text.R (b_2 : Nat) : Pst ((List UInt8) × T_tontineref03_Reader) where
  ε := Unit
  v := fun r x => .string (bs r.1)
  H := fun r x => [⟨1, b_2, [.string (bs r.2.S_), .bool r.2.Bad]⟩]
  B := fun r x => []
noncomputable def tontineref03_Reader_Text.cx (b_2 : Nat) (w0 : World) (S0 : Fam) : Cx ((List UInt8) × T_tontineref03_Reader) := ⟨Try.prog, 71, Try.f71, 35, w0, S0, [1], 1, tontineref03_Reader_Text.R b_2⟩
theorem tontineref03_Reader_Text_ok (n : Nat) (r_1 : T_tontineref03_Reader) (limit_3 : Int) (b_2 : Nat) :
    Meets Try.prog 71 [.pointer (some ⟨b_2, 0, none⟩), .int .i64 limit_3] 1 [1] [⟨1, b_2, [.string (bs r_1.S_), .bool r_1.Bad]⟩] [] (tontineref03_Reader_Text.f n r_1 limit_3) (tontineref03_Reader_Text.R b_2) := by
  refine Meets.of (c := c71_0) (n := 35) Try.func71 (by kernel_rfl) (by kernel_rfl) (by kernel_rfl) fun w0 S0 => ?_
  unfold tontineref03_Reader_Text.f
  show GoO (tontineref03_Reader_Text.cx b_2 w0 S0) [(0, .pointer (some ⟨b_2, 0, none⟩)), (1, .int .i64 limit_3)] [⟨1, b_2, [.string (bs r_1.S_), .bool r_1.Bad]⟩] [] [.code c71_0] _
  refine GoO.seq' c71_0e ?_
  refine GoO.region' (is := [0]) c71_1e (by kernel_rfl) ?_
  refine GoO.exec (is := [0]) (hs := [.p]) (rest := []) (ks := [0, 1]) (env' := [(0, .pointer (some ⟨b_2, 0, none⟩)), (1, .int .i64 limit_3)]) (H' := [⟨1, b_2, [.string (bs r_1.S_), .bool r_1.Bad]⟩]) (ps := []) (by kernel_rfl) trivial ?_
  refine GoO.regionEnd ?_
  refine GoO.seq' c71_2e ?_
  refine GoO.region' (is := [0, 1, 2, 3]) c71_3e (by kernel_rfl) ?_
  refine GoO.exec (is := [0, 1]) (hs := [.p, .p]) (rest := [2, 3]) (ks := [0, 7, 8]) (env' := [(0, .pointer (some ⟨b_2, 0, none⟩)), (7, .pointer (some ⟨b_2, 0, none⟩)), (8, .int .i64 limit_3)]) (H' := [⟨1, b_2, [.string (bs r_1.S_), .bool r_1.Bad]⟩]) (ps := []) (by kernel_rfl) trivial ?_
  refine OpTo.go (GoO.call rfl (by kernel_rfl) (by kernel_rfl) (tontineref03_Reader_Up_ok n r_1 limit_3 b_2) [[0], [1]] [(1, 1)] [(1, 0)] [] (hks := []) (bks := []) (by kernel_rfl) (by kernel_rfl) (by kernel_rfl) (.inl rfl) rfl rfl (by kernel_rfl) (by kernel_rfl) _ (fun _ _ => rfl) _ _ (fun _ _ => rfl) (fun _ _ => rfl) (fun _ _ => by kernel_rfl) (fun _ _ => by kernel_rfl) (fun r_4 x_10 => ?_))
  refine GoO.shape (env' := [(0, .pointer (some ⟨b_2, 0, none⟩)), (7, .pointer (some ⟨b_2, 0, none⟩)), (8, .int .i64 limit_3), (9, .int .i64 r_4.1)]) (H' := [⟨1, b_2, [.string (bs r_4.2.S_), .bool r_4.2.Bad]⟩]) (B' := []) (ks := [0, 7, 8, 9]) (by kernel_rfl) (by kernel_rfl) (by kernel_rfl) ?_
  refine GoO.exec (is := [3]) (hs := [.p]) (rest := []) (ks := [0, 5]) (env' := [(0, .pointer (some ⟨b_2, 0, none⟩)), (5, .int .i64 r_4.1)]) (H' := [⟨1, b_2, [.string (bs r_4.2.S_), .bool r_4.2.Bad]⟩]) (ps := []) (by kernel_rfl) trivial ?_
  refine GoO.regionEnd ?_
  refine GoO.seq' c71_4e ?_
  refine GoO.seq' c71_5e ?_
  refine GoO.region' (is := [0, 1, 2, 3, 4, 5, 6]) c71_6e (by kernel_rfl) ?_
  refine GoO.exec (is := [0, 1, 2, 3, 4, 5, 6]) (hs := [.p, .p, .p, .p, .b 0, .p, .p]) (rest := []) (ks := [0, 5, 16]) (env' := [(0, .pointer (some ⟨b_2, 0, none⟩)), (5, .int .i64 r_4.1), (16, .bool (decide (r_4.1 > (r_4.2.S_.length : Int))))]) (H' := [⟨1, b_2, [.string (bs r_4.2.S_), .bool r_4.2.Bad]⟩]) (ps := [b_2 = b_2]) (by kernel_rfl) (And.intro rfl trivial) ?_
  refine GoO.regionEnd ?_
  refine GoO.ite' c71_7e (by kernel_rfl) (fun h5 => ?_) (fun h5 => ?_)
  · refine GoO.seq' c71_8e ?_
    refine GoO.region' (is := [0, 1]) c71_9e (by kernel_rfl) ?_
    refine GoO.exec (is := [0]) (hs := [.p]) (rest := [1]) (ks := [17]) (env' := [(17, .pointer (some ⟨b_2, 0, none⟩))]) (H' := [⟨1, b_2, [.string (bs r_4.2.S_), .bool r_4.2.Bad]⟩]) (ps := []) (by kernel_rfl) trivial ?_
    refine OpTo.go (GoO.call rfl (by kernel_rfl) (by kernel_rfl) (tontineref03_Reader_Fail_ok n r_4.2 b_2) [[0], [1]] [(1, 1)] [(1, 0)] [] (hks := []) (bks := []) (by kernel_rfl) (by kernel_rfl) (by kernel_rfl) (.inl rfl) rfl rfl (by kernel_rfl) (by kernel_rfl) _ (fun _ _ => rfl) _ _ (fun _ _ => rfl) (fun _ _ => rfl) (fun _ _ => by kernel_rfl) (fun _ _ => by kernel_rfl) (fun r_6 x_7 => ?_))
    refine GoO.shape (env' := [(17, .pointer (some ⟨b_2, 0, none⟩)), (18, .tuple ⟨[]⟩)]) (H' := [⟨1, b_2, [.string (bs r_6.S_), .bool r_6.Bad]⟩]) (B' := []) (ks := [17, 18]) (by kernel_rfl) (by kernel_rfl) (by kernel_rfl) ?_
    refine GoO.regionEnd ?_
    refine GoO.seq' c71_10e ?_
    refine GoO.region' (is := [0]) c71_11e (by kernel_rfl) ?_
    refine GoO.exec (is := [0]) (hs := [.p]) (rest := []) (ks := [4]) (env' := [(4, .string (bs []))]) (H' := [⟨1, b_2, [.string (bs r_6.S_), .bool r_6.Bad]⟩]) (ps := []) (by kernel_rfl) trivial ?_
    refine GoO.regionEnd ?_
    exact GoO.ret' (h := c71_12e) (hs := []) (ps := []) (hk := [0]) (bk := []) Try.func71 () (by kernel_rfl) trivial (by kernel_rfl) (by kernel_rfl)
  · refine GoO.skip' c71_13e ?_
    refine GoO.seq' c71_14e ?_
    refine GoO.region' (is := [0, 1, 2, 3, 4, 5, 6]) c71_15e (by kernel_rfl) ?_
    refine GoO.guard (fun h8 => ?_)
    refine GoO.exec (is := [0, 1, 2, 3, 4, 5, 6]) (hs := [.p, .p, .p, .b 0, .p, .p, .p]) (rest := []) (ks := [0, 5, 6]) (env' := [(0, .pointer (some ⟨b_2, 0, none⟩)), (5, .int .i64 r_4.1), (6, .string (bs (r_4.2.S_.take r_4.1.toNat)))]) (H' := [⟨1, b_2, [.string (bs r_4.2.S_), .bool r_4.2.Bad]⟩]) (ps := [b_2 = b_2, (0 : Int) ≤ r_4.1, r_4.1 ≤ (r_4.2.S_.length : Int)]) (by kernel_rfl) (And.intro rfl (And.intro h8.1 (And.intro h8.2 trivial))) ?_
    refine GoO.regionEnd ?_
    refine GoO.seq' c71_16e ?_
    refine GoO.region' (is := [0, 1, 2, 3, 4, 5, 6, 7, 8, 9]) c71_17e (by kernel_rfl) ?_
    refine GoO.guard (fun h9 => ?_)
    refine GoO.exec (is := [0, 1, 2, 3, 4, 5, 6, 7, 8, 9]) (hs := [.p, .p, .p, .p, .b 0, .p, .p, .p, .p, .b 0]) (rest := []) (ks := [6]) (env' := [(6, .string (bs (r_4.2.S_.take r_4.1.toNat)))]) (H' := [⟨1, b_2, [.string (bs (r_4.2.S_.drop r_4.1.toNat)), .bool r_4.2.Bad]⟩]) (ps := [b_2 = b_2, (0 : Int) ≤ r_4.1, r_4.1 ≤ (r_4.2.S_.length : Int), b_2 = b_2]) (by kernel_rfl) (And.intro rfl (And.intro h9.1 (And.intro h9.2 (And.intro rfl trivial)))) ?_
    refine GoO.regionEnd ?_
    refine GoO.seq' c71_18e ?_
    refine GoO.region' (is := [0, 1]) c71_19e (by kernel_rfl) ?_
    refine GoO.exec (is := [0, 1]) (hs := [.p, .p]) (rest := []) (ks := [4]) (env' := [(4, .string (bs (r_4.2.S_.take r_4.1.toNat)))]) (H' := [⟨1, b_2, [.string (bs (r_4.2.S_.drop r_4.1.toNat)), .bool r_4.2.Bad]⟩]) (ps := []) (by kernel_rfl) trivial ?_
    refine GoO.regionEnd ?_
    exact GoO.ret' (h := c71_20e) (hs := []) (ps := []) (hk := [0]) (bk := []) Try.func71 () (by kernel_rfl) trivial (by kernel_rfl) (by kernel_rfl)

/-! tontine/tontineref13.Read -/
noncomputable def c64_0 : Code := bodyOf Try.f64
noncomputable def c64_1 : Code := cdL c64_0
noncomputable def c64_2 : Code := cdR c64_0
noncomputable def c64_3 : Code := cdL c64_2
noncomputable def c64_4 : Code := cdR c64_2
noncomputable def c64_5 : Code := cdL c64_4
noncomputable def c64_6 : Code := cdR c64_4
noncomputable def c64_7 : Code := cdL c64_6
noncomputable def c64_8 : Code := cdL c64_7
noncomputable def c64_9 : Code := cdR c64_7
noncomputable def c64_10 : Code := cdL c64_9
noncomputable def c64_11 : Code := cdL c64_10
noncomputable def c64_12 : Code := cdL c64_11
noncomputable def c64_13 : Code := cdL c64_12
noncomputable def c64_14 : Code := cdR c64_12
noncomputable def c64_15 : Code := cdL c64_14
noncomputable def c64_16 : Code := cdR c64_14
noncomputable def c64_17 : Code := cdR c64_11
noncomputable def c64_18 : Code := cdL c64_17
noncomputable def c64_19 : Code := cdL c64_18
noncomputable def c64_20 : Code := cdL c64_19
noncomputable def c64_21 : Code := cdR c64_19
noncomputable def c64_22 : Code := cdL c64_21
noncomputable def c64_23 : Code := cdR c64_21
noncomputable def c64_24 : Code := cdL c64_23
noncomputable def c64_25 : Code := cdR c64_23
noncomputable def c64_26 : Code := cdR c64_17
noncomputable def c64_27 : Code := cdR c64_6
noncomputable def c64_28 : Code := cdL c64_27
noncomputable def c64_29 : Code := cdL c64_28
noncomputable def c64_30 : Code := cdR c64_28
noncomputable def c64_31 : Code := cdL c64_30
noncomputable def c64_32 : Code := cdL c64_31
noncomputable def c64_33 : Code := cdR c64_31
noncomputable def c64_34 : Code := cdR c64_30
noncomputable def c64_35 : Code := cdR c64_27
noncomputable def c64_36 : Code := cdL c64_35
noncomputable def c64_37 : Code := cdR c64_35
noncomputable def r64_1 : Array Oper := cdO c64_1
noncomputable def r64_3 : Array Oper := cdO c64_3
noncomputable def r64_5 : Array Oper := cdO c64_5
noncomputable def r64_8 : Array Oper := cdO c64_8
noncomputable def r64_13 : Array Oper := cdO c64_13
noncomputable def r64_20 : Array Oper := cdO c64_20
noncomputable def r64_22 : Array Oper := cdO c64_22
noncomputable def r64_24 : Array Oper := cdO c64_24
noncomputable def r64_25 : Array Oper := cdO c64_25
noncomputable def r64_26 : Array Oper := cdO c64_26
noncomputable def r64_29 : Array Oper := cdO c64_29
noncomputable def r64_32 : Array Oper := cdO c64_32
noncomputable def r64_36 : Array Oper := cdO c64_36
theorem c64_0e : c64_0 = .seq c64_1 c64_2 := by kernel_rfl
theorem c64_1e : c64_1 = .region 0 r64_1 false := by kernel_rfl
theorem c64_2e : c64_2 = .seq c64_3 c64_4 := by kernel_rfl
theorem c64_3e : c64_3 = .region 1 r64_3 false := by kernel_rfl
theorem c64_4e : c64_4 = .seq c64_5 c64_6 := by kernel_rfl
theorem c64_5e : c64_5 = .region 2 r64_5 false := by kernel_rfl
theorem c64_6e : c64_6 = .seq c64_7 c64_27 := by kernel_rfl
theorem c64_7e : c64_7 = .seq c64_8 c64_9 := by kernel_rfl
theorem c64_8e : c64_8 = .region 3 r64_8 false := by kernel_rfl
theorem c64_9e : c64_9 = .block 0 c64_10 := by kernel_rfl
theorem c64_10e : c64_10 = .loop c64_11 := by kernel_rfl
theorem c64_11e : c64_11 = .seq c64_12 c64_17 := by kernel_rfl
theorem c64_12e : c64_12 = .seq c64_13 c64_14 := by kernel_rfl
theorem c64_13e : c64_13 = .region 4 r64_13 false := by kernel_rfl
theorem c64_14e : c64_14 = .cond (cdC c64_14) c64_15 c64_16 := by kernel_rfl
theorem c64_15e : c64_15 = .skip := by kernel_rfl
theorem c64_16e : c64_16 = .exit 0 := by kernel_rfl
theorem c64_17e : c64_17 = .seq c64_18 c64_26 := by kernel_rfl
theorem c64_18e : c64_18 = .block 1 c64_19 := by kernel_rfl
theorem c64_19e : c64_19 = .seq c64_20 c64_21 := by kernel_rfl
theorem c64_20e : c64_20 = .region 6 r64_20 false := by kernel_rfl
theorem c64_21e : c64_21 = .seq c64_22 c64_23 := by kernel_rfl
theorem c64_22e : c64_22 = .region 7 r64_22 false := by kernel_rfl
theorem c64_23e : c64_23 = .seq c64_24 c64_25 := by kernel_rfl
theorem c64_24e : c64_24 = .region 8 r64_24 false := by kernel_rfl
theorem c64_25e : c64_25 = .region 9 r64_25 false := by kernel_rfl
theorem c64_26e : c64_26 = .region 5 r64_26 false := by kernel_rfl
theorem c64_27e : c64_27 = .seq c64_28 c64_35 := by kernel_rfl
theorem c64_28e : c64_28 = .seq c64_29 c64_30 := by kernel_rfl
theorem c64_29e : c64_29 = .region 10 r64_29 false := by kernel_rfl
theorem c64_30e : c64_30 = .cond (cdC c64_30) c64_31 c64_34 := by kernel_rfl
theorem c64_31e : c64_31 = .seq c64_32 c64_33 := by kernel_rfl
theorem c64_32e : c64_32 = .region 11 r64_32 false := by kernel_rfl
theorem c64_33e : c64_33 = .ret := by kernel_rfl
theorem c64_34e : c64_34 = .skip := by kernel_rfl
theorem c64_35e : c64_35 = .seq c64_36 c64_37 := by kernel_rfl
theorem c64_36e : c64_36 = .region 12 r64_36 false := by kernel_rfl
theorem c64_37e : c64_37 = .ret := by kernel_rfl
noncomputable def tontineref13_Read.R (b_2 : Nat) : Pst ((List T_api_Step) × T_tontineref03_Reader) where
  ε := Option Addr × Nat
  v := fun r x => .slice x.1 r.1.length x.2
  H := fun r x => [⟨1, b_2, [.string (bs r.2.S_), .bool r.2.Bad]⟩]
  B := fun r x => [Ow 2 kT_api_Step x.1 x.2 r.1]
noncomputable def tontineref13_Read.cx (b_2 : Nat) (w0 : World) (S0 : Fam) : Cx ((List T_api_Step) × T_tontineref03_Reader) := ⟨Try.prog, 64, Try.f64, 34, w0, S0, [1], 1, tontineref13_Read.R b_2⟩
theorem tontineref13_Read_l0_ok (n : Nat) (r_3 : Int × T_tontineref03_Reader) (b_2 : Nat) (w0 : World) (S0 : Fam) :
    ∀ (k : Nat) (f_4 : (List UInt8)) (f_5 : Bool) (l_6 : (List T_api_Step)) (i_9 : Int) (A_7 : Option Addr) (c_8 : Nat), GoO (tontineref13_Read.cx b_2 w0 S0) [(0, .pointer (some ⟨b_2, 0, none⟩)), (3, .slice A_7 l_6.length c_8), (4, .int .i64 r_3.1), (5, .int .i64 i_9)] [⟨1, b_2, [.string (bs f_4), .bool f_5]⟩] [Ow 41 kT_api_Step A_7 c_8 l_6] [.code c64_11, .inLoop c64_11, .inBlock 0, .code c64_27] (tontineref13_Read.l0 n r_3 k f_4 f_5 l_6 i_9) := by
  intro k
  induction k with
  | zero => intros; rw [tontineref13_Read.l0.eq_1]; exact GoO.stop
  | succ k ih0 =>
    intro f_4 f_5 l_6 i_9 A_7 c_8
    rw [tontineref13_Read.l0.eq_2]
    refine GoO.seq' c64_11e ?_
    refine GoO.seq' c64_12e ?_
    refine GoO.region' (is := [0, 1, 2]) c64_13e (by kernel_rfl) ?_
    refine GoO.exec (is := [0, 1, 2]) (hs := [.p, .p, .p]) (rest := []) (ks := [0, 3, 4, 5, 13]) (env' := [(0, .pointer (some ⟨b_2, 0, none⟩)), (3, .slice A_7 l_6.length c_8), (4, .int .i64 r_3.1), (5, .int .i64 i_9), (13, .bool (decide (i_9 < r_3.1)))]) (H' := [⟨1, b_2, [.string (bs f_4), .bool f_5]⟩]) (ps := []) (by kernel_rfl) trivial ?_
    refine GoO.regionEnd ?_
    refine GoO.ite' c64_14e (by kernel_rfl) (fun h10 => ?_) (fun h10 => ?_)
    · refine GoO.skip' c64_15e ?_
      refine GoO.seq' c64_17e ?_
      refine GoO.block' c64_18e ?_
      refine GoO.seq' c64_19e ?_
      refine GoO.region' (is := [0, 1, 2]) c64_20e (by kernel_rfl) ?_
      refine GoO.exec (is := [0]) (hs := [.p]) (rest := [1, 2]) (ks := [0, 3, 4, 5, 16]) (env' := [(0, .pointer (some ⟨b_2, 0, none⟩)), (3, .slice A_7 l_6.length c_8), (4, .int .i64 r_3.1), (5, .int .i64 i_9), (16, .pointer (some ⟨b_2, 0, none⟩))]) (H' := [⟨1, b_2, [.string (bs f_4), .bool f_5]⟩]) (ps := []) (by kernel_rfl) trivial ?_
      refine OpTo.go (GoO.call rfl (by kernel_rfl) (by kernel_rfl) (tontineref03_Reader_Up_ok n (⟨f_4, f_5⟩ : T_tontineref03_Reader) 3 b_2) [[0], [1]] [(1, 1)] [(1, 0)] [] (hks := []) (bks := [0]) (by kernel_rfl) (by kernel_rfl) (by kernel_rfl) (.inl rfl) rfl rfl (by kernel_rfl) (by kernel_rfl) _ (fun _ _ => rfl) _ _ (fun _ _ => rfl) (fun _ _ => rfl) (fun _ _ => by kernel_rfl) (fun _ _ => by kernel_rfl) (fun r_11 x_21 => ?_))
      refine GoO.shape (env' := [(0, .pointer (some ⟨b_2, 0, none⟩)), (3, .slice A_7 l_6.length c_8), (4, .int .i64 r_3.1), (5, .int .i64 i_9), (16, .pointer (some ⟨b_2, 0, none⟩)), (17, .int .i64 r_11.1)]) (H' := [⟨1, b_2, [.string (bs r_11.2.S_), .bool r_11.2.Bad]⟩]) (B' := [Ow 41 kT_api_Step A_7 c_8 l_6]) (ks := [0, 3, 4, 5, 16, 17]) (by kernel_rfl) (by kernel_rfl) (by kernel_rfl) ?_
      refine GoO.exec (is := [2]) (hs := [.p]) (rest := []) (ks := [0, 3, 4, 5, 6]) (env' := [(0, .pointer (some ⟨b_2, 0, none⟩)), (3, .slice A_7 l_6.length c_8), (4, .int .i64 r_3.1), (5, .int .i64 i_9), (6, .int .i64 r_11.1)]) (H' := [⟨1, b_2, [.string (bs r_11.2.S_), .bool r_11.2.Bad]⟩]) (ps := []) (by kernel_rfl) trivial ?_
      refine GoO.regionEnd ?_
      refine GoO.seq' c64_21e ?_
      refine GoO.region' (is := [0, 1, 2]) c64_22e (by kernel_rfl) ?_
      refine GoO.exec (is := [0]) (hs := [.p]) (rest := [1, 2]) (ks := [0, 3, 4, 5, 6, 18]) (env' := [(0, .pointer (some ⟨b_2, 0, none⟩)), (3, .slice A_7 l_6.length c_8), (4, .int .i64 r_3.1), (5, .int .i64 i_9), (6, .int .i64 r_11.1), (18, .pointer (some ⟨b_2, 0, none⟩))]) (H' := [⟨1, b_2, [.string (bs r_11.2.S_), .bool r_11.2.Bad]⟩]) (ps := []) (by kernel_rfl) trivial ?_
      refine OpTo.go (GoO.call rfl (by kernel_rfl) (by kernel_rfl) (tontineref03_Reader_Text_ok n r_11.2 16 b_2) [[0], [1]] [(1, 1)] [(1, 0)] [] (hks := []) (bks := [0]) (by kernel_rfl) (by kernel_rfl) (by kernel_rfl) (.inl rfl) rfl rfl (by kernel_rfl) (by kernel_rfl) _ (fun _ _ => rfl) _ _ (fun _ _ => rfl) (fun _ _ => rfl) (fun _ _ => by kernel_rfl) (fun _ _ => by kernel_rfl) (fun r_12 x_20 => ?_))
      refine GoO.shape (env' := [(0, .pointer (some ⟨b_2, 0, none⟩)), (3, .slice A_7 l_6.length c_8), (4, .int .i64 r_3.1), (5, .int .i64 i_9), (6, .int .i64 r_11.1), (18, .pointer (some ⟨b_2, 0, none⟩)), (19, .string (bs r_12.1))]) (H' := [⟨1, b_2, [.string (bs r_12.2.S_), .bool r_12.2.Bad]⟩]) (B' := [Ow 41 kT_api_Step A_7 c_8 l_6]) (ks := [0, 3, 4, 5, 6, 18, 19]) (by kernel_rfl) (by kernel_rfl) (by kernel_rfl) ?_
      refine GoO.exec (is := [2]) (hs := [.p]) (rest := []) (ks := [0, 3, 4, 5, 6, 7]) (env' := [(0, .pointer (some ⟨b_2, 0, none⟩)), (3, .slice A_7 l_6.length c_8), (4, .int .i64 r_3.1), (5, .int .i64 i_9), (6, .int .i64 r_11.1), (7, .string (bs r_12.1))]) (H' := [⟨1, b_2, [.string (bs r_12.2.S_), .bool r_12.2.Bad]⟩]) (ps := []) (by kernel_rfl) trivial ?_
      refine GoO.regionEnd ?_
      refine GoO.seq' c64_23e ?_
      refine GoO.region' (is := [0, 1, 2]) c64_24e (by kernel_rfl) ?_
      refine GoO.exec (is := [0]) (hs := [.p]) (rest := [1, 2]) (ks := [0, 3, 4, 5, 6, 7, 20]) (env' := [(0, .pointer (some ⟨b_2, 0, none⟩)), (3, .slice A_7 l_6.length c_8), (4, .int .i64 r_3.1), (5, .int .i64 i_9), (6, .int .i64 r_11.1), (7, .string (bs r_12.1)), (20, .pointer (some ⟨b_2, 0, none⟩))]) (H' := [⟨1, b_2, [.string (bs r_12.2.S_), .bool r_12.2.Bad]⟩]) (ps := []) (by kernel_rfl) trivial ?_
      refine OpTo.go (GoO.call rfl (by kernel_rfl) (by kernel_rfl) (tontineref03_Reader_Up_ok n r_12.2 9 b_2) [[0], [1]] [(1, 1)] [(1, 0)] [] (hks := []) (bks := [0]) (by kernel_rfl) (by kernel_rfl) (by kernel_rfl) (.inl rfl) rfl rfl (by kernel_rfl) (by kernel_rfl) _ (fun _ _ => rfl) _ _ (fun _ _ => rfl) (fun _ _ => rfl) (fun _ _ => by kernel_rfl) (fun _ _ => by kernel_rfl) (fun r_13 x_19 => ?_))
      refine GoO.shape (env' := [(0, .pointer (some ⟨b_2, 0, none⟩)), (3, .slice A_7 l_6.length c_8), (4, .int .i64 r_3.1), (5, .int .i64 i_9), (6, .int .i64 r_11.1), (7, .string (bs r_12.1)), (20, .pointer (some ⟨b_2, 0, none⟩)), (21, .int .i64 r_13.1)]) (H' := [⟨1, b_2, [.string (bs r_13.2.S_), .bool r_13.2.Bad]⟩]) (B' := [Ow 41 kT_api_Step A_7 c_8 l_6]) (ks := [0, 3, 4, 5, 6, 7, 20, 21]) (by kernel_rfl) (by kernel_rfl) (by kernel_rfl) ?_
      refine GoO.exec (is := [2]) (hs := [.p]) (rest := []) (ks := [0, 3, 4, 5, 6, 7, 8]) (env' := [(0, .pointer (some ⟨b_2, 0, none⟩)), (3, .slice A_7 l_6.length c_8), (4, .int .i64 r_3.1), (5, .int .i64 i_9), (6, .int .i64 r_11.1), (7, .string (bs r_12.1)), (8, .int .i64 r_13.1)]) (H' := [⟨1, b_2, [.string (bs r_13.2.S_), .bool r_13.2.Bad]⟩]) (ps := []) (by kernel_rfl) trivial ?_
      refine GoO.regionEnd ?_
      refine GoO.region' (is := [0, 1, 2, 3, 4, 5, 6, 7]) c64_25e (by kernel_rfl) ?_
      refine GoO.exec (is := [0, 1, 2, 3, 4]) (hs := [.p, .p, .p, .p, .p]) (rest := [5, 6, 7]) (ks := [0, 4, 5, 22, 26]) (env' := [(0, .pointer (some ⟨b_2, 0, none⟩)), (4, .int .i64 r_3.1), (5, .int .i64 i_9), (22, .slice A_7 l_6.length c_8), (26, .agg ⟨[.int .i64 r_11.1, .string (bs r_12.1), .int .i64 r_13.1]⟩)]) (H' := [⟨1, b_2, [.string (bs r_13.2.S_), .bool r_13.2.Bad]⟩]) (ps := []) (by kernel_rfl) trivial ?_
      refine OpTo.go (GoO.lit (e := 50) (K := kT_api_Step) rfl (by kernel_rfl) (by kernel_rfl) (cs := [.int .i64 r_11.1, .string (bs r_12.1), .int .i64 r_13.1]) (by kernel_rfl) [(⟨r_11.1, r_12.1, r_13.1⟩ : T_api_Step)] (by kernel_rfl) (by kernel_rfl) (fun w S hB => ⟨[.int .i64 r_11.1, .string (bs r_12.1), .int .i64 r_13.1], _, rfl, rfl, rfl⟩) 40 _ (fun _ _ => rfl) (fun A_14 c_15 => ?_))
      refine GoO.guard (fun h16 => ?_)
      refine OpTo.go (GoO.appW (e := 50) (K := kT_api_Step) (A := A_7) (c := c_8) (tg := 41) (bytes := 32) (zs := [.int .i64 0, .string (bs []), .int .i64 0]) (xs := l_6) (ys := [(⟨r_11.1, r_12.1, r_13.1⟩ : T_api_Step)]) (xv := .slice A_14 [(⟨r_11.1, r_12.1, r_13.1⟩ : T_api_Step)].length c_15) (j := 1) (bk := [0]) rfl (by kernel_rfl) (by kernel_rfl) (by kernel_rfl) (by kernel_rfl) rfl (by kernel_rfl) rfl (fun w S hB => SrcIs.row (Reads.own w S (hB _ (List.mem_of_getElem? (i := 0) rfl)))) h16 rfl rfl rfl rfl _ (fun _ _ => rfl) (fun A_17 c_18 => ?_))
      refine GoO.exec (is := [7]) (hs := [.p]) (rest := []) (ks := [0, 3, 4, 5]) (env' := [(0, .pointer (some ⟨b_2, 0, none⟩)), (3, .slice A_17 (l_6 ++ [(⟨r_11.1, r_12.1, r_13.1⟩ : T_api_Step)]).length c_18), (4, .int .i64 r_3.1), (5, .int .i64 i_9)]) (H' := [⟨1, b_2, [.string (bs r_13.2.S_), .bool r_13.2.Bad]⟩]) (ps := []) (by kernel_rfl) trivial ?_
      refine GoO.regionEnd ?_
      refine GoO.inBlock ?_
      refine GoO.region' (is := [0, 1, 2]) c64_26e (by kernel_rfl) ?_
      refine GoO.exec (is := [0, 1, 2]) (hs := [.p, .p, .p]) (rest := []) (ks := [0, 3, 4, 5]) (env' := [(0, .pointer (some ⟨b_2, 0, none⟩)), (3, .slice A_17 (l_6 ++ [(⟨r_11.1, r_12.1, r_13.1⟩ : T_api_Step)]).length c_18), (4, .int .i64 r_3.1), (5, .int .i64 (wi64 (i_9 + 1)))]) (H' := [⟨1, b_2, [.string (bs r_13.2.S_), .bool r_13.2.Bad]⟩]) (ps := []) (by kernel_rfl) trivial ?_
      refine GoO.regionEnd ?_
      refine GoO.inLoop ?_
      exact GoO.sub (ks := [0, 3, 4, 5]) (hk := [0]) (bk := [0]) (by kernel_rfl) (by kernel_rfl) (by kernel_rfl) (ih0 r_13.2.S_ r_13.2.Bad (l_6 ++ [(⟨r_11.1, r_12.1, r_13.1⟩ : T_api_Step)]) (wi64 (i_9 + 1)) A_17 c_18)
    · refine GoO.exit' c64_16e rfl ?_
      refine GoO.seq' c64_27e ?_
      refine GoO.seq' c64_28e ?_
      refine GoO.region' (is := [0, 1, 2, 3]) c64_29e (by kernel_rfl) ?_
      refine GoO.exec (is := [0, 1, 2, 3]) (hs := [.p, .p, .p, .b 0]) (rest := []) (ks := [3, 32]) (env' := [(3, .slice A_7 l_6.length c_8), (32, .bool f_5)]) (H' := [⟨1, b_2, [.string (bs f_4), .bool f_5]⟩]) (ps := [b_2 = b_2]) (by kernel_rfl) (And.intro rfl trivial) ?_
      refine GoO.regionEnd ?_
      refine GoO.ite' c64_30e (by kernel_rfl) (fun h22 => ?_) (fun h22 => ?_)
      · refine GoO.seq' c64_31e ?_
        refine GoO.region' (is := [0]) c64_32e (by kernel_rfl) ?_
        refine GoO.exec (is := [0]) (hs := [.p]) (rest := []) (ks := [2]) (env' := [(2, .slice none ([] : List T_api_Step).length 0)]) (H' := [⟨1, b_2, [.string (bs f_4), .bool f_5]⟩]) (ps := []) (by kernel_rfl) trivial ?_
        refine GoO.regionEnd ?_
        refine GoO.nilOwn kT_api_Step 2 ?_
        exact GoO.ret' (h := c64_33e) (hs := []) (ps := []) (hk := [0]) (bk := [0]) Try.func64 (⟨none, 0⟩ : Option Addr × Nat) (by kernel_rfl) trivial (by kernel_rfl) (by kernel_rfl)
      · refine GoO.skip' c64_34e ?_
        refine GoO.seq' c64_35e ?_
        refine GoO.region' (is := [0, 1]) c64_36e (by kernel_rfl) ?_
        refine GoO.exec (is := [0, 1]) (hs := [.p, .p]) (rest := []) (ks := [2]) (env' := [(2, .slice A_7 l_6.length c_8)]) (H' := [⟨1, b_2, [.string (bs f_4), .bool f_5]⟩]) (ps := []) (by kernel_rfl) trivial ?_
        refine GoO.regionEnd ?_
        refine GoO.retag (t := 41) (u := 2) (j := 0) (hk := [0]) (bk := []) rfl rfl rfl rfl rfl rfl (by kernel_rfl) (by kernel_rfl) ?_
        exact GoO.ret' (h := c64_37e) (hs := []) (ps := []) (hk := [0]) (bk := [0]) Try.func64 (⟨A_7, c_8⟩ : Option Addr × Nat) (by kernel_rfl) trivial (by kernel_rfl) (by kernel_rfl)
theorem tontineref13_Read_ok (n : Nat) (r_1 : T_tontineref03_Reader) (b_2 : Nat) :
    Meets Try.prog 64 [.pointer (some ⟨b_2, 0, none⟩)] 1 [1] [⟨1, b_2, [.string (bs r_1.S_), .bool r_1.Bad]⟩] [] (tontineref13_Read.f n r_1) (tontineref13_Read.R b_2) := by
  refine Meets.of (c := c64_0) (n := 34) Try.func64 (by kernel_rfl) (by kernel_rfl) (by kernel_rfl) fun w0 S0 => ?_
  unfold tontineref13_Read.f
  show GoO (tontineref13_Read.cx b_2 w0 S0) [(0, .pointer (some ⟨b_2, 0, none⟩))] [⟨1, b_2, [.string (bs r_1.S_), .bool r_1.Bad]⟩] [] [.code c64_0] _
  refine GoO.seq' c64_0e ?_
  refine GoO.region' (is := [0]) c64_1e (by kernel_rfl) ?_
  refine GoO.exec (is := [0]) (hs := [.p]) (rest := []) (ks := [0]) (env' := [(0, .pointer (some ⟨b_2, 0, none⟩))]) (H' := [⟨1, b_2, [.string (bs r_1.S_), .bool r_1.Bad]⟩]) (ps := []) (by kernel_rfl) trivial ?_
  refine GoO.regionEnd ?_
  refine GoO.seq' c64_2e ?_
  refine GoO.region' (is := [0]) c64_3e (by kernel_rfl) ?_
  refine GoO.exec (is := [0]) (hs := [.p]) (rest := []) (ks := [0, 3]) (env' := [(0, .pointer (some ⟨b_2, 0, none⟩)), (3, .slice none ([] : List T_api_Step).length 0)]) (H' := [⟨1, b_2, [.string (bs r_1.S_), .bool r_1.Bad]⟩]) (ps := []) (by kernel_rfl) trivial ?_
  refine GoO.regionEnd ?_
  refine GoO.seq' c64_4e ?_
  refine GoO.region' (is := [0, 1, 2]) c64_5e (by kernel_rfl) ?_
  refine GoO.exec (is := [0]) (hs := [.p]) (rest := [1, 2]) (ks := [0, 3, 9]) (env' := [(0, .pointer (some ⟨b_2, 0, none⟩)), (3, .slice none ([] : List T_api_Step).length 0), (9, .pointer (some ⟨b_2, 0, none⟩))]) (H' := [⟨1, b_2, [.string (bs r_1.S_), .bool r_1.Bad]⟩]) (ps := []) (by kernel_rfl) trivial ?_
  refine OpTo.go (GoO.call rfl (by kernel_rfl) (by kernel_rfl) (tontineref03_Reader_Up_ok n r_1 64 b_2) [[0], [1]] [(1, 1)] [(1, 0)] [] (hks := []) (bks := []) (by kernel_rfl) (by kernel_rfl) (by kernel_rfl) (.inl rfl) rfl rfl (by kernel_rfl) (by kernel_rfl) _ (fun _ _ => rfl) _ _ (fun _ _ => rfl) (fun _ _ => rfl) (fun _ _ => by kernel_rfl) (fun _ _ => by kernel_rfl) (fun r_3 x_23 => ?_))
  refine GoO.shape (env' := [(0, .pointer (some ⟨b_2, 0, none⟩)), (3, .slice none ([] : List T_api_Step).length 0), (9, .pointer (some ⟨b_2, 0, none⟩)), (10, .int .i64 r_3.1)]) (H' := [⟨1, b_2, [.string (bs r_3.2.S_), .bool r_3.2.Bad]⟩]) (B' := []) (ks := [0, 3, 9, 10]) (by kernel_rfl) (by kernel_rfl) (by kernel_rfl) ?_
  refine GoO.exec (is := [2]) (hs := [.p]) (rest := []) (ks := [0, 3, 4]) (env' := [(0, .pointer (some ⟨b_2, 0, none⟩)), (3, .slice none ([] : List T_api_Step).length 0), (4, .int .i64 r_3.1)]) (H' := [⟨1, b_2, [.string (bs r_3.2.S_), .bool r_3.2.Bad]⟩]) (ps := []) (by kernel_rfl) trivial ?_
  refine GoO.regionEnd ?_
  refine GoO.seq' c64_6e ?_
  refine GoO.seq' c64_7e ?_
  refine GoO.region' (is := [0]) c64_8e (by kernel_rfl) ?_
  refine GoO.exec (is := [0]) (hs := [.p]) (rest := []) (ks := [0, 3, 4, 5]) (env' := [(0, .pointer (some ⟨b_2, 0, none⟩)), (3, .slice none ([] : List T_api_Step).length 0), (4, .int .i64 r_3.1), (5, .int .i64 0)]) (H' := [⟨1, b_2, [.string (bs r_3.2.S_), .bool r_3.2.Bad]⟩]) (ps := []) (by kernel_rfl) trivial ?_
  refine GoO.regionEnd ?_
  refine GoO.block' c64_9e ?_
  refine GoO.loop' c64_10e ?_
  refine GoO.nilOwn kT_api_Step 41 ?_
  exact GoO.sub (ks := [0, 3, 4, 5]) (hk := [0]) (bk := [0]) (by kernel_rfl) (by kernel_rfl) (by kernel_rfl) (tontineref13_Read_l0_ok n r_3 b_2 w0 S0 n r_3.2.S_ r_3.2.Bad ([] : List T_api_Step) 0 none 0)

/-! tontine/tontineref13.Check -/
noncomputable def c31_0 : Code := bodyOf Try.f31
noncomputable def c31_1 : Code := cdL c31_0
noncomputable def c31_2 : Code := cdR c31_0
noncomputable def c31_3 : Code := cdL c31_2
noncomputable def c31_4 : Code := cdR c31_2
noncomputable def c31_5 : Code := cdL c31_4
noncomputable def c31_6 : Code := cdL c31_5
noncomputable def c31_7 : Code := cdR c31_5
noncomputable def c31_8 : Code := cdL c31_7
noncomputable def c31_9 : Code := cdL c31_8
noncomputable def c31_10 : Code := cdL c31_9
noncomputable def c31_11 : Code := cdL c31_10
noncomputable def c31_12 : Code := cdR c31_10
noncomputable def c31_13 : Code := cdL c31_12
noncomputable def c31_14 : Code := cdR c31_12
noncomputable def c31_15 : Code := cdR c31_9
noncomputable def c31_16 : Code := cdL c31_15
noncomputable def c31_17 : Code := cdL c31_16
noncomputable def c31_18 : Code := cdL c31_17
noncomputable def c31_19 : Code := cdR c31_17
noncomputable def c31_20 : Code := cdR c31_15
noncomputable def c31_21 : Code := cdR c31_4
noncomputable def c31_22 : Code := cdL c31_21
noncomputable def c31_23 : Code := cdL c31_22
noncomputable def c31_24 : Code := cdR c31_22
noncomputable def c31_25 : Code := cdL c31_24
noncomputable def c31_26 : Code := cdL c31_25
noncomputable def c31_27 : Code := cdR c31_25
noncomputable def c31_28 : Code := cdR c31_24
noncomputable def c31_29 : Code := cdR c31_21
noncomputable def c31_30 : Code := cdL c31_29
noncomputable def c31_31 : Code := cdR c31_29
noncomputable def r31_1 : Array Oper := cdO c31_1
noncomputable def r31_3 : Array Oper := cdO c31_3
noncomputable def r31_6 : Array Oper := cdO c31_6
noncomputable def r31_11 : Array Oper := cdO c31_11
noncomputable def r31_18 : Array Oper := cdO c31_18
noncomputable def r31_19 : Array Oper := cdO c31_19
noncomputable def r31_20 : Array Oper := cdO c31_20
noncomputable def r31_23 : Array Oper := cdO c31_23
noncomputable def r31_26 : Array Oper := cdO c31_26
noncomputable def r31_30 : Array Oper := cdO c31_30
theorem c31_0e : c31_0 = .seq c31_1 c31_2 := by kernel_rfl
theorem c31_1e : c31_1 = .region 0 r31_1 false := by kernel_rfl
theorem c31_2e : c31_2 = .seq c31_3 c31_4 := by kernel_rfl
theorem c31_3e : c31_3 = .region 1 r31_3 false := by kernel_rfl
theorem c31_4e : c31_4 = .seq c31_5 c31_21 := by kernel_rfl
theorem c31_5e : c31_5 = .seq c31_6 c31_7 := by kernel_rfl
theorem c31_6e : c31_6 = .region 2 r31_6 false := by kernel_rfl
theorem c31_7e : c31_7 = .block 0 c31_8 := by kernel_rfl
theorem c31_8e : c31_8 = .loop c31_9 := by kernel_rfl
theorem c31_9e : c31_9 = .seq c31_10 c31_15 := by kernel_rfl
theorem c31_10e : c31_10 = .seq c31_11 c31_12 := by kernel_rfl
theorem c31_11e : c31_11 = .region 3 r31_11 false := by kernel_rfl
theorem c31_12e : c31_12 = .cond (cdC c31_12) c31_13 c31_14 := by kernel_rfl
theorem c31_13e : c31_13 = .skip := by kernel_rfl
theorem c31_14e : c31_14 = .exit 0 := by kernel_rfl
theorem c31_15e : c31_15 = .seq c31_16 c31_20 := by kernel_rfl
theorem c31_16e : c31_16 = .block 1 c31_17 := by kernel_rfl
theorem c31_17e : c31_17 = .seq c31_18 c31_19 := by kernel_rfl
theorem c31_18e : c31_18 = .region 5 r31_18 false := by kernel_rfl
theorem c31_19e : c31_19 = .region 6 r31_19 false := by kernel_rfl
theorem c31_20e : c31_20 = .region 4 r31_20 false := by kernel_rfl
theorem c31_21e : c31_21 = .seq c31_22 c31_29 := by kernel_rfl
theorem c31_22e : c31_22 = .seq c31_23 c31_24 := by kernel_rfl
theorem c31_23e : c31_23 = .region 7 r31_23 false := by kernel_rfl
theorem c31_24e : c31_24 = .cond (cdC c31_24) c31_25 c31_28 := by kernel_rfl
theorem c31_25e : c31_25 = .seq c31_26 c31_27 := by kernel_rfl
theorem c31_26e : c31_26 = .region 8 r31_26 false := by kernel_rfl
theorem c31_27e : c31_27 = .ret := by kernel_rfl
theorem c31_28e : c31_28 = .skip := by kernel_rfl
theorem c31_29e : c31_29 = .seq c31_30 c31_31 := by kernel_rfl
theorem c31_30e : c31_30 = .region 9 r31_30 false := by kernel_rfl
theorem c31_31e : c31_31 = .ret := by kernel_rfl
noncomputable def tontineref13_Check.R (A_2 : Option Addr) (c_3 : Nat) : Pst Int where
  ε := Unit
  v := fun r x => .int .i64 r
  H := fun r x => []
  B := fun r x => []
noncomputable def tontineref13_Check.cx (A_2 : Option Addr) (c_3 : Nat) (w0 : World) (S0 : Fam) : Cx Int := ⟨Try.prog, 31, Try.f31, 59, w0, S0, [], 0, tontineref13_Check.R A_2 c_3⟩
theorem tontineref13_Check_j2_ok (n : Nat) (L0 : Bool → Int → Option Int) (l_1 : (List T_api_Step)) (bad_6 : Bool) (i_7 : Int) (A_2 : Option Addr) (c_3 : Nat) (w0 : World) (S0 : Fam) (ih0 : ∀ (bad_6 : Bool) (i_7 : Int), GoO (tontineref13_Check.cx A_2 c_3 w0 S0) [(0, .slice A_2 l_1.length c_3), (3, .bool bad_6), (4, .int .i64 i_7)] [] [Rd 0 kT_api_Step A_2 c_3 l_1] [.code c31_9, .inLoop c31_9, .inBlock 0, .code c31_21] (L0 bad_6 i_7)) (bad_18 : Bool) :
    GoO (tontineref13_Check.cx A_2 c_3 w0 S0) [(0, .slice A_2 l_1.length c_3), (3, .bool bad_18), (4, .int .i64 i_7)] [] [Rd 0 kT_api_Step A_2 c_3 l_1] [.inBlock 1, .code c31_20, .inLoop c31_9, .inBlock 0, .code c31_21] (tontineref13_Check.j2 n L0 i_7 bad_18) := by
  unfold tontineref13_Check.j2
  refine GoO.inBlock ?_
  refine GoO.region' (is := [0, 1, 2]) c31_20e (by kernel_rfl) ?_
  refine GoO.exec (is := [0, 1, 2]) (hs := [.p, .p, .p]) (rest := []) (ks := [0, 3, 4]) (env' := [(0, .slice A_2 l_1.length c_3), (3, .bool bad_18), (4, .int .i64 (wi64 (i_7 + 1)))]) (H' := []) (ps := []) (by kernel_rfl) trivial ?_
  refine GoO.regionEnd ?_
  refine GoO.inLoop ?_
  exact GoO.sub (ks := [0, 3, 4]) (hk := []) (bk := [0]) (by kernel_rfl) (by kernel_rfl) (by kernel_rfl) (ih0 bad_18 (wi64 (i_7 + 1)))
theorem tontineref13_Check_j1_ok (n : Nat) (L0 : Bool → Int → Option Int) (l_1 : (List T_api_Step)) (bad_6 : Bool) (i_7 : Int) (A_2 : Option Addr) (c_3 : Nat) (w0 : World) (S0 : Fam) (ih0 : ∀ (bad_6 : Bool) (i_7 : Int), GoO (tontineref13_Check.cx A_2 c_3 w0 S0) [(0, .slice A_2 l_1.length c_3), (3, .bool bad_6), (4, .int .i64 i_7)] [] [Rd 0 kT_api_Step A_2 c_3 l_1] [.code c31_9, .inLoop c31_9, .inBlock 0, .code c31_21] (L0 bad_6 i_7)) (b_9 : Bool) :
    GoO (tontineref13_Check.cx A_2 c_3 w0 S0) [(0, .slice A_2 l_1.length c_3), (3, .bool bad_6), (4, .int .i64 i_7), (21, .bool b_9)] [] [Rd 0 kT_api_Step A_2 c_3 l_1] [.code c31_12, .code c31_15, .inLoop c31_9, .inBlock 0, .code c31_21] (tontineref13_Check.j1 n L0 l_1 bad_6 i_7 b_9) := by
  unfold tontineref13_Check.j1
  refine GoO.ite' c31_12e (by kernel_rfl) (fun h10 => ?_) (fun h10 => ?_)
  · refine GoO.skip' c31_13e ?_
    refine GoO.seq' c31_15e ?_
    refine GoO.block' c31_16e ?_
    refine GoO.seq' c31_17e ?_
    refine GoO.region' (is := [0, 1, 2, 3, 4, 5]) c31_18e (by kernel_rfl) ?_
    refine GoO.exec (is := [0, 1]) (hs := [.p, .p]) (rest := [2, 3, 4, 5]) (ks := [0, 4, 24, 25]) (env' := [(0, .slice A_2 l_1.length c_3), (4, .int .i64 i_7), (24, .slice A_2 l_1.length c_3), (25, .int .i64 i_7)]) (H' := []) (ps := []) (by kernel_rfl) trivial ?_
    refine GoO.guard (fun h11 => ?_)
    refine OpTo.go (GoO.idx (kk := .i64) (e := 50) (K := kT_api_Step) (A := A_2) (c := c_3) (xs := l_1) (iv := i_7) (j := 0) rfl (by kernel_rfl) (by kernel_rfl) (by kernel_rfl) (by kernel_rfl) rfl Reads.rd rfl h11.1 h11.2 (by decide) rfl ?_)
    refine OpTo.go (GoO.ldE' (K := kT_api_Step) (A := A_2) (c := c_3) (xs := l_1) (iN := i_7.toNat) (off := 0) (j := 0) rfl (by kernel_rfl) rfl Reads.rd (idx_lt h11.1 h11.2) (by decide) (Opn.flat _ _ _ _ _) (v := fun _ => .agg ⟨[.int .i64 ((rdL l_1 i_7).Part), .string (bs ((rdL l_1 i_7).Name)), .int .i64 ((rdL l_1 i_7).Budget)]⟩) (fun _ => by kernel_rfl) _ (fun _ => rfl) (fun _ => ?_))
    refine OpTo.go (GoO.new rfl 40 (cs := [.int .i64 0, .string (bs []), .int .i64 0]) (by kernel_rfl) _ (fun _ => rfl) (fun b_12 => ?_))
    refine GoO.exec (is := [5]) (hs := [.b 0]) (rest := []) (ks := [0, 4, 5]) (env' := [(0, .slice A_2 l_1.length c_3), (4, .int .i64 i_7), (5, .pointer (some ⟨b_12, 0, none⟩))]) (H' := [⟨40, b_12, [.int .i64 ((rdL l_1 i_7).Part), .string (bs ((rdL l_1 i_7).Name)), .int .i64 ((rdL l_1 i_7).Budget)]⟩]) (ps := [b_12 = b_12]) (by kernel_rfl) (And.intro rfl trivial) ?_
    refine GoO.regionEnd ?_
    refine GoO.region' (is := [0, 1, 2, 3, 4, 5, 6, 7, 8, 9, 10, 11, 12, 13, 14, 15, 16, 17, 18, 19, 20, 21, 22, 23, 24, 25, 26, 27, 28, 29, 30]) c31_19e (by kernel_rfl) ?_
    refine GoO.exec (is := [0, 1, 2, 3]) (hs := [.p, .b 0, .p, .p]) (rest := [4, 5, 6, 7, 8, 9, 10, 11, 12, 13, 14, 15, 16, 17, 18, 19, 20, 21, 22, 23, 24, 25, 26, 27, 28, 29, 30]) (ks := [0, 4, 5, 31]) (env' := [(0, .slice A_2 l_1.length c_3), (4, .int .i64 i_7), (5, .pointer (some ⟨b_12, 0, none⟩)), (31, .bool (decide (((rdL l_1 i_7).Part) < 0)))]) (H' := [⟨40, b_12, [.int .i64 ((rdL l_1 i_7).Part), .string (bs ((rdL l_1 i_7).Name)), .int .i64 ((rdL l_1 i_7).Budget)]⟩]) (ps := [b_12 = b_12]) (by kernel_rfl) (And.intro rfl trivial) ?_
    refine GoO.bsplit (t := 31) (by kernel_rfl) (fun h13 => ?_) (fun h13 => ?_)
    · refine GoO.exec (is := [4, 5, 6, 7, 8, 9, 10, 11, 12, 13, 14, 15, 16, 17, 18, 19, 20, 21, 22, 23, 24, 25, 26, 27, 28, 29, 30]) (hs := [.p, .p, .p, .p, .p, .p, .p, .p, .p, .p, .p, .p, .p, .p, .p, .p, .p, .p, .p, .p, .p, .p, .p, .p, .p, .p, .p]) (rest := []) (ks := [0, 3, 4]) (env' := [(0, .slice A_2 l_1.length c_3), (3, .bool true), (4, .int .i64 i_7)]) (H' := [⟨40, b_12, [.int .i64 ((rdL l_1 i_7).Part), .string (bs ((rdL l_1 i_7).Name)), .int .i64 ((rdL l_1 i_7).Budget)]⟩]) (ps := []) (by kernel_rfl) trivial ?_
      refine GoO.regionEnd ?_
      exact GoO.sub (ks := [0, 3, 4]) (hk := []) (bk := [0]) (by kernel_rfl) (by kernel_rfl) (by kernel_rfl) (tontineref13_Check_j2_ok n L0 l_1 bad_6 i_7 A_2 c_3 w0 S0 ih0 true)
    · refine GoO.exec (is := [4, 5, 6, 7, 8]) (hs := [.p, .b 0, .p, .p, .p]) (rest := [9, 10, 11, 12, 13, 14, 15, 16, 17, 18, 19, 20, 21, 22, 23, 24, 25, 26, 27, 28, 29, 30]) (ks := [0, 4, 5, 36]) (env' := [(0, .slice A_2 l_1.length c_3), (4, .int .i64 i_7), (5, .pointer (some ⟨b_12, 0, none⟩)), (36, .bool (decide (((rdL l_1 i_7).Part) > 3)))]) (H' := [⟨40, b_12, [.int .i64 ((rdL l_1 i_7).Part), .string (bs ((rdL l_1 i_7).Name)), .int .i64 ((rdL l_1 i_7).Budget)]⟩]) (ps := [b_12 = b_12]) (by kernel_rfl) (And.intro rfl trivial) ?_
      refine GoO.bsplit (t := 36) (by kernel_rfl) (fun h14 => ?_) (fun h14 => ?_)
      · refine GoO.exec (is := [9, 10, 11, 12, 13, 14, 15, 16, 17, 18, 19, 20, 21, 22, 23, 24, 25, 26, 27, 28, 29, 30]) (hs := [.p, .p, .p, .p, .p, .p, .p, .p, .p, .p, .p, .p, .p, .p, .p, .p, .p, .p, .p, .p, .p, .p]) (rest := []) (ks := [0, 3, 4]) (env' := [(0, .slice A_2 l_1.length c_3), (3, .bool true), (4, .int .i64 i_7)]) (H' := [⟨40, b_12, [.int .i64 ((rdL l_1 i_7).Part), .string (bs ((rdL l_1 i_7).Name)), .int .i64 ((rdL l_1 i_7).Budget)]⟩]) (ps := []) (by kernel_rfl) trivial ?_
        refine GoO.regionEnd ?_
        exact GoO.sub (ks := [0, 3, 4]) (hk := []) (bk := [0]) (by kernel_rfl) (by kernel_rfl) (by kernel_rfl) (tontineref13_Check_j2_ok n L0 l_1 bad_6 i_7 A_2 c_3 w0 S0 ih0 true)
      · refine GoO.exec (is := [9, 10, 11, 12, 13, 14]) (hs := [.p, .b 0, .p, .p, .p, .p]) (rest := [15, 16, 17, 18, 19, 20, 21, 22, 23, 24, 25, 26, 27, 28, 29, 30]) (ks := [0, 4, 5, 42]) (env' := [(0, .slice A_2 l_1.length c_3), (4, .int .i64 i_7), (5, .pointer (some ⟨b_12, 0, none⟩)), (42, .bool (decide ((((rdL l_1 i_7).Name).length : Int) < 1)))]) (H' := [⟨40, b_12, [.int .i64 ((rdL l_1 i_7).Part), .string (bs ((rdL l_1 i_7).Name)), .int .i64 ((rdL l_1 i_7).Budget)]⟩]) (ps := [b_12 = b_12]) (by kernel_rfl) (And.intro rfl trivial) ?_
        refine GoO.bsplit (t := 42) (by kernel_rfl) (fun h15 => ?_) (fun h15 => ?_)
        · refine GoO.exec (is := [15, 16, 17, 18, 19, 20, 21, 22, 23, 24, 25, 26, 27, 28, 29, 30]) (hs := [.p, .p, .p, .p, .p, .p, .p, .p, .p, .p, .p, .p, .p, .p, .p, .p]) (rest := []) (ks := [0, 3, 4]) (env' := [(0, .slice A_2 l_1.length c_3), (3, .bool true), (4, .int .i64 i_7)]) (H' := [⟨40, b_12, [.int .i64 ((rdL l_1 i_7).Part), .string (bs ((rdL l_1 i_7).Name)), .int .i64 ((rdL l_1 i_7).Budget)]⟩]) (ps := []) (by kernel_rfl) trivial ?_
          refine GoO.regionEnd ?_
          exact GoO.sub (ks := [0, 3, 4]) (hk := []) (bk := [0]) (by kernel_rfl) (by kernel_rfl) (by kernel_rfl) (tontineref13_Check_j2_ok n L0 l_1 bad_6 i_7 A_2 c_3 w0 S0 ih0 true)
        · refine GoO.exec (is := [15, 16, 17, 18, 19, 20]) (hs := [.p, .b 0, .p, .p, .p, .p]) (rest := [21, 22, 23, 24, 25, 26, 27, 28, 29, 30]) (ks := [0, 4, 5, 48]) (env' := [(0, .slice A_2 l_1.length c_3), (4, .int .i64 i_7), (5, .pointer (some ⟨b_12, 0, none⟩)), (48, .bool (decide ((((rdL l_1 i_7).Name).length : Int) > 16)))]) (H' := [⟨40, b_12, [.int .i64 ((rdL l_1 i_7).Part), .string (bs ((rdL l_1 i_7).Name)), .int .i64 ((rdL l_1 i_7).Budget)]⟩]) (ps := [b_12 = b_12]) (by kernel_rfl) (And.intro rfl trivial) ?_
          refine GoO.bsplit (t := 48) (by kernel_rfl) (fun h16 => ?_) (fun h16 => ?_)
          · refine GoO.exec (is := [21, 22, 23, 24, 25, 26, 27, 28, 29, 30]) (hs := [.p, .p, .p, .p, .p, .p, .p, .p, .p, .p]) (rest := []) (ks := [0, 3, 4]) (env' := [(0, .slice A_2 l_1.length c_3), (3, .bool true), (4, .int .i64 i_7)]) (H' := [⟨40, b_12, [.int .i64 ((rdL l_1 i_7).Part), .string (bs ((rdL l_1 i_7).Name)), .int .i64 ((rdL l_1 i_7).Budget)]⟩]) (ps := []) (by kernel_rfl) trivial ?_
            refine GoO.regionEnd ?_
            exact GoO.sub (ks := [0, 3, 4]) (hk := []) (bk := [0]) (by kernel_rfl) (by kernel_rfl) (by kernel_rfl) (tontineref13_Check_j2_ok n L0 l_1 bad_6 i_7 A_2 c_3 w0 S0 ih0 true)
          · refine GoO.exec (is := [21, 22, 23, 24, 25]) (hs := [.p, .b 0, .p, .p, .p]) (rest := [26, 27, 28, 29, 30]) (ks := [0, 4, 5, 53]) (env' := [(0, .slice A_2 l_1.length c_3), (4, .int .i64 i_7), (5, .pointer (some ⟨b_12, 0, none⟩)), (53, .bool (decide (((rdL l_1 i_7).Budget) < 1)))]) (H' := [⟨40, b_12, [.int .i64 ((rdL l_1 i_7).Part), .string (bs ((rdL l_1 i_7).Name)), .int .i64 ((rdL l_1 i_7).Budget)]⟩]) (ps := [b_12 = b_12]) (by kernel_rfl) (And.intro rfl trivial) ?_
            refine GoO.bsplit (t := 53) (by kernel_rfl) (fun h17 => ?_) (fun h17 => ?_)
            · refine GoO.exec (is := [26, 27, 28, 29, 30]) (hs := [.p, .p, .p, .p, .p]) (rest := []) (ks := [0, 3, 4]) (env' := [(0, .slice A_2 l_1.length c_3), (3, .bool true), (4, .int .i64 i_7)]) (H' := [⟨40, b_12, [.int .i64 ((rdL l_1 i_7).Part), .string (bs ((rdL l_1 i_7).Name)), .int .i64 ((rdL l_1 i_7).Budget)]⟩]) (ps := []) (by kernel_rfl) trivial ?_
              refine GoO.regionEnd ?_
              exact GoO.sub (ks := [0, 3, 4]) (hk := []) (bk := [0]) (by kernel_rfl) (by kernel_rfl) (by kernel_rfl) (tontineref13_Check_j2_ok n L0 l_1 bad_6 i_7 A_2 c_3 w0 S0 ih0 true)
            · refine GoO.exec (is := [26, 27, 28, 29, 30]) (hs := [.p, .b 0, .p, .p, .p]) (rest := []) (ks := [0, 3, 4]) (env' := [(0, .slice A_2 l_1.length c_3), (3, .bool (decide (((rdL l_1 i_7).Budget) > 9))), (4, .int .i64 i_7)]) (H' := [⟨40, b_12, [.int .i64 ((rdL l_1 i_7).Part), .string (bs ((rdL l_1 i_7).Name)), .int .i64 ((rdL l_1 i_7).Budget)]⟩]) (ps := [b_12 = b_12]) (by kernel_rfl) (And.intro rfl trivial) ?_
              refine GoO.regionEnd ?_
              exact GoO.sub (ks := [0, 3, 4]) (hk := []) (bk := [0]) (by kernel_rfl) (by kernel_rfl) (by kernel_rfl) (tontineref13_Check_j2_ok n L0 l_1 bad_6 i_7 A_2 c_3 w0 S0 ih0 (decide (((rdL l_1 i_7).Budget) > 9)))
  · refine GoO.exit' c31_14e rfl ?_
    refine GoO.seq' c31_21e ?_
    refine GoO.seq' c31_22e ?_
    refine GoO.region' (is := [0]) c31_23e (by kernel_rfl) ?_
    refine GoO.exec (is := [0]) (hs := [.p]) (rest := []) (ks := [58]) (env' := [(58, .bool bad_6)]) (H' := []) (ps := []) (by kernel_rfl) trivial ?_
    refine GoO.regionEnd ?_
    refine GoO.ite' c31_24e (by kernel_rfl) (fun h19 => ?_) (fun h19 => ?_)
    · refine GoO.seq' c31_25e ?_
      refine GoO.region' (is := [0]) c31_26e (by kernel_rfl) ?_
      refine GoO.exec (is := [0]) (hs := [.p]) (rest := []) (ks := [2]) (env' := [(2, .int .i64 44)]) (H' := []) (ps := []) (by kernel_rfl) trivial ?_
      refine GoO.regionEnd ?_
      exact GoO.ret' (h := c31_27e) (hs := []) (ps := []) (hk := []) (bk := []) Try.func31 () (by kernel_rfl) trivial (by kernel_rfl) (by kernel_rfl)
    · refine GoO.skip' c31_28e ?_
      refine GoO.seq' c31_29e ?_
      refine GoO.region' (is := [0]) c31_30e (by kernel_rfl) ?_
      refine GoO.exec (is := [0]) (hs := [.p]) (rest := []) (ks := [2]) (env' := [(2, .int .i64 0)]) (H' := []) (ps := []) (by kernel_rfl) trivial ?_
      refine GoO.regionEnd ?_
      exact GoO.ret' (h := c31_31e) (hs := []) (ps := []) (hk := []) (bk := []) Try.func31 () (by kernel_rfl) trivial (by kernel_rfl) (by kernel_rfl)
theorem tontineref13_Check_l0_ok (n : Nat) (l_1 : (List T_api_Step)) (A_2 : Option Addr) (c_3 : Nat) (w0 : World) (S0 : Fam) :
    ∀ (k : Nat) (bad_6 : Bool) (i_7 : Int), GoO (tontineref13_Check.cx A_2 c_3 w0 S0) [(0, .slice A_2 l_1.length c_3), (3, .bool bad_6), (4, .int .i64 i_7)] [] [Rd 0 kT_api_Step A_2 c_3 l_1] [.code c31_9, .inLoop c31_9, .inBlock 0, .code c31_21] (tontineref13_Check.l0 n l_1 k bad_6 i_7) := by
  intro k
  induction k with
  | zero => intros; rw [tontineref13_Check.l0.eq_1]; exact GoO.stop
  | succ k ih0 =>
    intro bad_6 i_7
    rw [tontineref13_Check.l0.eq_2]
    refine GoO.seq' c31_9e ?_
    refine GoO.seq' c31_10e ?_
    refine GoO.region' (is := [0, 1, 2, 3, 4, 5, 6, 7]) c31_11e (by kernel_rfl) ?_
    refine GoO.exec (is := [0, 1, 2, 3, 4]) (hs := [.p, .p, .p, .p, .p]) (rest := [5, 6, 7]) (ks := [0, 3, 4, 18]) (env' := [(0, .slice A_2 l_1.length c_3), (3, .bool bad_6), (4, .int .i64 i_7), (18, .bool (decide (i_7 < (l_1.length : Int))))]) (H' := []) (ps := []) (by kernel_rfl) trivial ?_
    refine GoO.bsplit (t := 18) (by kernel_rfl) (fun h8 => ?_) (fun h8 => ?_)
    · refine GoO.exec (is := [5, 6, 7]) (hs := [.p, .p, .p]) (rest := []) (ks := [0, 3, 4, 21]) (env' := [(0, .slice A_2 l_1.length c_3), (3, .bool bad_6), (4, .int .i64 i_7), (21, .bool (!bad_6))]) (H' := []) (ps := []) (by kernel_rfl) trivial ?_
      refine GoO.regionEnd ?_
      exact GoO.sub (ks := [0, 3, 4, 21]) (hk := []) (bk := [0]) (by kernel_rfl) (by kernel_rfl) (by kernel_rfl) (tontineref13_Check_j1_ok n (tontineref13_Check.l0 n l_1 k) l_1 bad_6 i_7 A_2 c_3 w0 S0 ih0 (!bad_6))
    · refine GoO.exec (is := [5, 6, 7]) (hs := [.p, .p, .p]) (rest := []) (ks := [0, 3, 4, 21]) (env' := [(0, .slice A_2 l_1.length c_3), (3, .bool bad_6), (4, .int .i64 i_7), (21, .bool false)]) (H' := []) (ps := []) (by kernel_rfl) trivial ?_
      refine GoO.regionEnd ?_
      exact GoO.sub (ks := [0, 3, 4, 21]) (hk := []) (bk := [0]) (by kernel_rfl) (by kernel_rfl) (by kernel_rfl) (tontineref13_Check_j1_ok n (tontineref13_Check.l0 n l_1 k) l_1 bad_6 i_7 A_2 c_3 w0 S0 ih0 false)
theorem tontineref13_Check_j0_ok (n : Nat) (l_1 : (List T_api_Step)) (A_2 : Option Addr) (c_3 : Nat) (w0 : World) (S0 : Fam) (bad_5 : Bool) :
    GoO (tontineref13_Check.cx A_2 c_3 w0 S0) [(0, .slice A_2 l_1.length c_3), (3, .bool bad_5)] [] [Rd 0 kT_api_Step A_2 c_3 l_1] [.code c31_4] (tontineref13_Check.j0 n l_1 bad_5) := by
  unfold tontineref13_Check.j0
  refine GoO.seq' c31_4e ?_
  refine GoO.seq' c31_5e ?_
  refine GoO.region' (is := [0]) c31_6e (by kernel_rfl) ?_
  refine GoO.exec (is := [0]) (hs := [.p]) (rest := []) (ks := [0, 3, 4]) (env' := [(0, .slice A_2 l_1.length c_3), (3, .bool bad_5), (4, .int .i64 0)]) (H' := []) (ps := []) (by kernel_rfl) trivial ?_
  refine GoO.regionEnd ?_
  refine GoO.block' c31_7e ?_
  refine GoO.loop' c31_8e ?_
  exact GoO.sub (ks := [0, 3, 4]) (hk := []) (bk := [0]) (by kernel_rfl) (by kernel_rfl) (by kernel_rfl) (tontineref13_Check_l0_ok n l_1 A_2 c_3 w0 S0 n bad_5 0)
theorem tontineref13_Check_ok (n : Nat) (l_1 : (List T_api_Step)) (A_2 : Option Addr) (c_3 : Nat) :
    Meets Try.prog 31 [.slice A_2 l_1.length c_3] 0 [] [] [Rd 0 kT_api_Step A_2 c_3 l_1] (tontineref13_Check.f n l_1) (tontineref13_Check.R A_2 c_3) := by
  refine Meets.of (c := c31_0) (n := 59) Try.func31 (by kernel_rfl) (by kernel_rfl) (by kernel_rfl) fun w0 S0 => ?_
  unfold tontineref13_Check.f
  show GoO (tontineref13_Check.cx A_2 c_3 w0 S0) [(0, .slice A_2 l_1.length c_3)] [] [Rd 0 kT_api_Step A_2 c_3 l_1] [.code c31_0] _
  refine GoO.seq' c31_0e ?_
  refine GoO.region' (is := [0]) c31_1e (by kernel_rfl) ?_
  refine GoO.exec (is := [0]) (hs := [.p]) (rest := []) (ks := [0]) (env' := [(0, .slice A_2 l_1.length c_3)]) (H' := []) (ps := []) (by kernel_rfl) trivial ?_
  refine GoO.regionEnd ?_
  refine GoO.seq' c31_2e ?_
  refine GoO.region' (is := [0, 1, 2, 3, 4, 5, 6, 7, 8]) c31_3e (by kernel_rfl) ?_
  refine GoO.exec (is := [0, 1, 2, 3]) (hs := [.p, .p, .p, .p]) (rest := [4, 5, 6, 7, 8]) (ks := [0, 9]) (env' := [(0, .slice A_2 l_1.length c_3), (9, .bool ((l_1.length : Int) == 0))]) (H' := []) (ps := []) (by kernel_rfl) trivial ?_
  refine GoO.bsplit (t := 9) (by kernel_rfl) (fun h4 => ?_) (fun h4 => ?_)
  · refine GoO.exec (is := [4, 5, 6, 7, 8]) (hs := [.p, .p, .p, .p, .p]) (rest := []) (ks := [0, 3]) (env' := [(0, .slice A_2 l_1.length c_3), (3, .bool true)]) (H' := []) (ps := []) (by kernel_rfl) trivial ?_
    refine GoO.regionEnd ?_
    exact GoO.sub (ks := [0, 3]) (hk := []) (bk := [0]) (by kernel_rfl) (by kernel_rfl) (by kernel_rfl) (tontineref13_Check_j0_ok n l_1 A_2 c_3 w0 S0 true)
  · refine GoO.exec (is := [4, 5, 6, 7, 8]) (hs := [.p, .p, .p, .p, .p]) (rest := []) (ks := [0, 3]) (env' := [(0, .slice A_2 l_1.length c_3), (3, .bool (decide ((l_1.length : Int) > 64)))]) (H' := []) (ps := []) (by kernel_rfl) trivial ?_
    refine GoO.regionEnd ?_
    exact GoO.sub (ks := [0, 3]) (hk := []) (bk := [0]) (by kernel_rfl) (by kernel_rfl) (by kernel_rfl) (tontineref13_Check_j0_ok n l_1 A_2 c_3 w0 S0 (decide ((l_1.length : Int) > 64)))

/-! tontine/tontineref16.bare -/
noncomputable def c54_0 : Code := bodyOf Try.f54
noncomputable def c54_1 : Code := cdL c54_0
noncomputable def c54_2 : Code := cdR c54_0
noncomputable def c54_3 : Code := cdL c54_2
noncomputable def c54_4 : Code := cdR c54_2
noncomputable def r54_1 : Array Oper := cdO c54_1
noncomputable def r54_3 : Array Oper := cdO c54_3
theorem c54_0e : c54_0 = .seq c54_1 c54_2 := by kernel_rfl
theorem c54_1e : c54_1 = .region 0 r54_1 false := by kernel_rfl
theorem c54_2e : c54_2 = .seq c54_3 c54_4 := by kernel_rfl
theorem c54_3e : c54_3 = .region 1 r54_3 false := by kernel_rfl
theorem c54_4e : c54_4 = .ret := by kernel_rfl
noncomputable def tontineref16_bare.R (A_2 : Option Addr) (c_3 : Nat) : Pst Bool where
  ε := Unit
  v := fun r x => .bool r
  H := fun r x => []
  B := fun r x => []
noncomputable def tontineref16_bare.cx (A_2 : Option Addr) (c_3 : Nat) (w0 : World) (S0 : Fam) : Cx Bool := ⟨Try.prog, 54, Try.f54, 21, w0, S0, [], 0, tontineref16_bare.R A_2 c_3⟩
theorem tontineref16_bare_ok (n : Nat) (c_1 : T_api_Command) (A_2 : Option Addr) (c_3 : Nat) :
    Meets Try.prog 54 [.agg ⟨[.int .i64 c_1.Kind, .int .u64 c_1.Session, .int .u64 c_1.Seq, .int .u64 c_1.Saga, .slice A_2 c_1.Steps.length c_3, .int .i64 c_1.Step, .bool c_1.Back, .int .i64 c_1.Try, .bool c_1.Ok, .int .u64 c_1.Now]⟩] 0 [] [] [Rd 0 kT_api_Step A_2 c_3 c_1.Steps] (tontineref16_bare.f n c_1) (tontineref16_bare.R A_2 c_3) := by
  refine Meets.of (c := c54_0) (n := 21) Try.func54 (by kernel_rfl) (by kernel_rfl) (by kernel_rfl) fun w0 S0 => ?_
  unfold tontineref16_bare.f
  show GoO (tontineref16_bare.cx A_2 c_3 w0 S0) [(0, .agg ⟨[.int .i64 c_1.Kind, .int .u64 c_1.Session, .int .u64 c_1.Seq, .int .u64 c_1.Saga, .slice A_2 c_1.Steps.length c_3, .int .i64 c_1.Step, .bool c_1.Back, .int .i64 c_1.Try, .bool c_1.Ok, .int .u64 c_1.Now]⟩)] [] [Rd 0 kT_api_Step A_2 c_3 c_1.Steps] [.code c54_0] _
  refine GoO.seq' c54_0e ?_
  refine GoO.region' (is := [0, 1]) c54_1e (by kernel_rfl) ?_
  refine OpTo.go (GoO.new rfl 40 (cs := [.int .i64 c_1.Kind, .int .u64 c_1.Session, .int .u64 c_1.Seq, .int .u64 c_1.Saga, .slice A_2 c_1.Steps.length c_3, .int .i64 c_1.Step, .bool c_1.Back, .int .i64 c_1.Try, .bool c_1.Ok, .int .u64 c_1.Now]) (by kernel_rfl) _ (fun _ => rfl) (fun b_4 => ?_))
  refine GoO.exec (is := [1]) (hs := [.p]) (rest := []) (ks := [1]) (env' := [(1, .pointer (some ⟨b_4, 0, none⟩))]) (H' := [⟨40, b_4, [.int .i64 c_1.Kind, .int .u64 c_1.Session, .int .u64 c_1.Seq, .int .u64 c_1.Saga, .slice A_2 c_1.Steps.length c_3, .int .i64 c_1.Step, .bool c_1.Back, .int .i64 c_1.Try, .bool c_1.Ok, .int .u64 c_1.Now]⟩]) (ps := []) (by kernel_rfl) trivial ?_
  refine GoO.regionEnd ?_
  refine GoO.seq' c54_2e ?_
  refine GoO.region' (is := [0, 1, 2, 3, 4, 5, 6, 7, 8, 9, 10, 11, 12, 13, 14, 15, 16, 17, 18]) c54_3e (by kernel_rfl) ?_
  refine GoO.exec (is := [0, 1, 2, 3]) (hs := [.p, .b 0, .p, .p]) (rest := [4, 5, 6, 7, 8, 9, 10, 11, 12, 13, 14, 15, 16, 17, 18]) (ks := [1, 6]) (env' := [(1, .pointer (some ⟨b_4, 0, none⟩)), (6, .bool (c_1.Step == 0))]) (H' := [⟨40, b_4, [.int .i64 c_1.Kind, .int .u64 c_1.Session, .int .u64 c_1.Seq, .int .u64 c_1.Saga, .slice A_2 c_1.Steps.length c_3, .int .i64 c_1.Step, .bool c_1.Back, .int .i64 c_1.Try, .bool c_1.Ok, .int .u64 c_1.Now]⟩]) (ps := [b_4 = b_4]) (by kernel_rfl) (And.intro rfl trivial) ?_
  refine GoO.bsplit (t := 6) (by kernel_rfl) (fun h5 => ?_) (fun h5 => ?_)
  · refine GoO.exec (is := [4, 5, 6, 7, 8]) (hs := [.p, .b 0, .p, .p, .p]) (rest := [9, 10, 11, 12, 13, 14, 15, 16, 17, 18]) (ks := [1, 11]) (env' := [(1, .pointer (some ⟨b_4, 0, none⟩)), (11, .bool (!c_1.Back))]) (H' := [⟨40, b_4, [.int .i64 c_1.Kind, .int .u64 c_1.Session, .int .u64 c_1.Seq, .int .u64 c_1.Saga, .slice A_2 c_1.Steps.length c_3, .int .i64 c_1.Step, .bool c_1.Back, .int .i64 c_1.Try, .bool c_1.Ok, .int .u64 c_1.Now]⟩]) (ps := [b_4 = b_4]) (by kernel_rfl) (And.intro rfl trivial) ?_
    refine GoO.bsplit (t := 11) (by kernel_rfl) (fun h6 => ?_) (fun h6 => ?_)
    · refine GoO.exec (is := [9, 10, 11, 12, 13]) (hs := [.p, .b 0, .p, .p, .p]) (rest := [14, 15, 16, 17, 18]) (ks := [1, 16]) (env' := [(1, .pointer (some ⟨b_4, 0, none⟩)), (16, .bool (c_1.Try == 0))]) (H' := [⟨40, b_4, [.int .i64 c_1.Kind, .int .u64 c_1.Session, .int .u64 c_1.Seq, .int .u64 c_1.Saga, .slice A_2 c_1.Steps.length c_3, .int .i64 c_1.Step, .bool c_1.Back, .int .i64 c_1.Try, .bool c_1.Ok, .int .u64 c_1.Now]⟩]) (ps := [b_4 = b_4]) (by kernel_rfl) (And.intro rfl trivial) ?_
      refine GoO.bsplit (t := 16) (by kernel_rfl) (fun h7 => ?_) (fun h7 => ?_)
      · refine GoO.exec (is := [14, 15, 16, 17, 18]) (hs := [.p, .b 0, .p, .p, .p]) (rest := []) (ks := [2]) (env' := [(2, .bool (!c_1.Ok))]) (H' := [⟨40, b_4, [.int .i64 c_1.Kind, .int .u64 c_1.Session, .int .u64 c_1.Seq, .int .u64 c_1.Saga, .slice A_2 c_1.Steps.length c_3, .int .i64 c_1.Step, .bool c_1.Back, .int .i64 c_1.Try, .bool c_1.Ok, .int .u64 c_1.Now]⟩]) (ps := [b_4 = b_4]) (by kernel_rfl) (And.intro rfl trivial) ?_
        refine GoO.regionEnd ?_
        exact GoO.ret' (h := c54_4e) (hs := []) (ps := []) (hk := []) (bk := []) Try.func54 () (by kernel_rfl) trivial (by kernel_rfl) (by kernel_rfl)
      · refine GoO.exec (is := [14, 15, 16, 17, 18]) (hs := [.p, .p, .p, .p, .p]) (rest := []) (ks := [2]) (env' := [(2, .bool false)]) (H' := [⟨40, b_4, [.int .i64 c_1.Kind, .int .u64 c_1.Session, .int .u64 c_1.Seq, .int .u64 c_1.Saga, .slice A_2 c_1.Steps.length c_3, .int .i64 c_1.Step, .bool c_1.Back, .int .i64 c_1.Try, .bool c_1.Ok, .int .u64 c_1.Now]⟩]) (ps := []) (by kernel_rfl) trivial ?_
        refine GoO.regionEnd ?_
        exact GoO.ret' (h := c54_4e) (hs := []) (ps := []) (hk := []) (bk := []) Try.func54 () (by kernel_rfl) trivial (by kernel_rfl) (by kernel_rfl)
    · refine GoO.exec (is := [9, 10, 11, 12, 13, 14, 15, 16, 17, 18]) (hs := [.p, .p, .p, .p, .p, .p, .p, .p, .p, .p]) (rest := []) (ks := [2]) (env' := [(2, .bool false)]) (H' := [⟨40, b_4, [.int .i64 c_1.Kind, .int .u64 c_1.Session, .int .u64 c_1.Seq, .int .u64 c_1.Saga, .slice A_2 c_1.Steps.length c_3, .int .i64 c_1.Step, .bool c_1.Back, .int .i64 c_1.Try, .bool c_1.Ok, .int .u64 c_1.Now]⟩]) (ps := []) (by kernel_rfl) trivial ?_
      refine GoO.regionEnd ?_
      exact GoO.ret' (h := c54_4e) (hs := []) (ps := []) (hk := []) (bk := []) Try.func54 () (by kernel_rfl) trivial (by kernel_rfl) (by kernel_rfl)
  · refine GoO.exec (is := [4, 5, 6, 7, 8, 9, 10, 11, 12, 13, 14, 15, 16, 17, 18]) (hs := [.p, .p, .p, .p, .p, .p, .p, .p, .p, .p, .p, .p, .p, .p, .p]) (rest := []) (ks := [2]) (env' := [(2, .bool false)]) (H' := [⟨40, b_4, [.int .i64 c_1.Kind, .int .u64 c_1.Session, .int .u64 c_1.Seq, .int .u64 c_1.Saga, .slice A_2 c_1.Steps.length c_3, .int .i64 c_1.Step, .bool c_1.Back, .int .i64 c_1.Try, .bool c_1.Ok, .int .u64 c_1.Now]⟩]) (ps := []) (by kernel_rfl) trivial ?_
    refine GoO.regionEnd ?_
    exact GoO.ret' (h := c54_4e) (hs := []) (ps := []) (hk := []) (bk := []) Try.func54 () (by kernel_rfl) trivial (by kernel_rfl) (by kernel_rfl)

/-! tontine/tontineref16.May -/
noncomputable def c19_0 : Code := bodyOf Try.f19
noncomputable def c19_1 : Code := cdL c19_0
noncomputable def c19_2 : Code := cdR c19_0
noncomputable def c19_3 : Code := cdL c19_2
noncomputable def c19_4 : Code := cdL c19_3
noncomputable def c19_5 : Code := cdR c19_3
noncomputable def c19_6 : Code := cdL c19_5
noncomputable def c19_7 : Code := cdL c19_6
noncomputable def c19_8 : Code := cdL c19_7
noncomputable def c19_9 : Code := cdR c19_7
noncomputable def c19_10 : Code := cdL c19_9
noncomputable def c19_11 : Code := cdR c19_9
noncomputable def c19_12 : Code := cdL c19_11
noncomputable def c19_13 : Code := cdR c19_11
noncomputable def c19_14 : Code := cdL c19_13
noncomputable def c19_15 : Code := cdR c19_13
noncomputable def c19_16 : Code := cdR c19_6
noncomputable def c19_17 : Code := cdL c19_16
noncomputable def c19_18 : Code := cdL c19_17
noncomputable def c19_19 : Code := cdR c19_17
noncomputable def c19_20 : Code := cdR c19_16
noncomputable def c19_21 : Code := cdL c19_20
noncomputable def c19_22 : Code := cdR c19_20
noncomputable def c19_23 : Code := cdL c19_22
noncomputable def c19_24 : Code := cdL c19_23
noncomputable def c19_25 : Code := cdR c19_23
noncomputable def c19_26 : Code := cdR c19_22
noncomputable def c19_27 : Code := cdL c19_26
noncomputable def c19_28 : Code := cdR c19_26
noncomputable def c19_29 : Code := cdL c19_28
noncomputable def c19_30 : Code := cdL c19_29
noncomputable def c19_31 : Code := cdR c19_29
noncomputable def c19_32 : Code := cdR c19_28
noncomputable def c19_33 : Code := cdR c19_2
noncomputable def c19_34 : Code := cdL c19_33
noncomputable def c19_35 : Code := cdR c19_33
noncomputable def r19_1 : Array Oper := cdO c19_1
noncomputable def r19_4 : Array Oper := cdO c19_4
noncomputable def r19_8 : Array Oper := cdO c19_8
noncomputable def r19_12 : Array Oper := cdO c19_12
noncomputable def r19_15 : Array Oper := cdO c19_15
noncomputable def r19_18 : Array Oper := cdO c19_18
noncomputable def r19_21 : Array Oper := cdO c19_21
noncomputable def r19_24 : Array Oper := cdO c19_24
noncomputable def r19_27 : Array Oper := cdO c19_27
noncomputable def r19_30 : Array Oper := cdO c19_30
noncomputable def r19_34 : Array Oper := cdO c19_34
theorem c19_0e : c19_0 = .seq c19_1 c19_2 := by kernel_rfl
theorem c19_1e : c19_1 = .region 0 r19_1 false := by kernel_rfl
theorem c19_2e : c19_2 = .seq c19_3 c19_33 := by kernel_rfl
theorem c19_3e : c19_3 = .seq c19_4 c19_5 := by kernel_rfl
theorem c19_4e : c19_4 = .region 1 r19_4 false := by kernel_rfl
theorem c19_5e : c19_5 = .block 0 c19_6 := by kernel_rfl
theorem c19_6e : c19_6 = .seq c19_7 c19_16 := by kernel_rfl
theorem c19_7e : c19_7 = .seq c19_8 c19_9 := by kernel_rfl
theorem c19_8e : c19_8 = .region 2 r19_8 false := by kernel_rfl
theorem c19_9e : c19_9 = .cond (cdC c19_9) c19_10 c19_11 := by kernel_rfl
theorem c19_10e : c19_10 = .skip := by kernel_rfl
theorem c19_11e : c19_11 = .seq c19_12 c19_13 := by kernel_rfl
theorem c19_12e : c19_12 = .region 3 r19_12 false := by kernel_rfl
theorem c19_13e : c19_13 = .cond (cdC c19_13) c19_14 c19_15 := by kernel_rfl
theorem c19_14e : c19_14 = .skip := by kernel_rfl
theorem c19_15e : c19_15 = .region 4 r19_15 false := by kernel_rfl
theorem c19_16e : c19_16 = .cond (cdC c19_16) c19_17 c19_20 := by kernel_rfl
theorem c19_17e : c19_17 = .seq c19_18 c19_19 := by kernel_rfl
theorem c19_18e : c19_18 = .region 5 r19_18 false := by kernel_rfl
theorem c19_19e : c19_19 = .ret := by kernel_rfl
theorem c19_20e : c19_20 = .seq c19_21 c19_22 := by kernel_rfl
theorem c19_21e : c19_21 = .region 6 r19_21 false := by kernel_rfl
theorem c19_22e : c19_22 = .cond (cdC c19_22) c19_23 c19_26 := by kernel_rfl
theorem c19_23e : c19_23 = .seq c19_24 c19_25 := by kernel_rfl
theorem c19_24e : c19_24 = .region 7 r19_24 false := by kernel_rfl
theorem c19_25e : c19_25 = .ret := by kernel_rfl
theorem c19_26e : c19_26 = .seq c19_27 c19_28 := by kernel_rfl
theorem c19_27e : c19_27 = .region 8 r19_27 false := by kernel_rfl
theorem c19_28e : c19_28 = .cond (cdC c19_28) c19_29 c19_32 := by kernel_rfl
theorem c19_29e : c19_29 = .seq c19_30 c19_31 := by kernel_rfl
theorem c19_30e : c19_30 = .region 9 r19_30 false := by kernel_rfl
theorem c19_31e : c19_31 = .ret := by kernel_rfl
theorem c19_32e : c19_32 = .skip := by kernel_rfl
theorem c19_33e : c19_33 = .seq c19_34 c19_35 := by kernel_rfl
theorem c19_34e : c19_34 = .region 10 r19_34 false := by kernel_rfl
theorem c19_35e : c19_35 = .ret := by kernel_rfl
noncomputable def tontineref16_May.R (A_2 : Option Addr) (c_3 : Nat) : Pst Bool where
  ε := Unit
  v := fun r x => .bool r
  H := fun r x => []
  B := fun r x => []
noncomputable def tontineref16_May.cx (A_2 : Option Addr) (c_3 : Nat) (w0 : World) (S0 : Fam) : Cx Bool := ⟨Try.prog, 19, Try.f19, 63, w0, S0, [], 0, tontineref16_May.R A_2 c_3⟩
theorem tontineref16_May_j1_ok (n : Nat) (A_2 : Option Addr) (c_3 : Nat) (w0 : World) (S0 : Fam) (b_25 : Bool) :
    GoO (tontineref16_May.cx A_2 c_3 w0 S0) [(2, .bool b_25)] [] [] [.code c19_31, .inBlock 0, .code c19_33] (tontineref16_May.j1 n b_25) := by
  unfold tontineref16_May.j1
  exact GoO.ret' (h := c19_31e) (hs := []) (ps := []) (hk := []) (bk := []) Try.func19 () (by kernel_rfl) trivial (by kernel_rfl) (by kernel_rfl)
theorem tontineref16_May_j0_ok (n : Nat) (c_1 : T_api_Command) (A_2 : Option Addr) (c_3 : Nat) (b_4 : Nat) (w0 : World) (S0 : Fam) (b_7 : Bool) :
    GoO (tontineref16_May.cx A_2 c_3 w0 S0) [(1, .pointer (some ⟨b_4, 0, none⟩)), (4, .int .i64 c_1.Kind), (5, .bool b_7)] [⟨40, b_4, [.int .i64 c_1.Kind, .int .u64 c_1.Session, .int .u64 c_1.Seq, .int .u64 c_1.Saga, .slice A_2 c_1.Steps.length c_3, .int .i64 c_1.Step, .bool c_1.Back, .int .i64 c_1.Try, .bool c_1.Ok, .int .u64 c_1.Now]⟩] [Rd 0 kT_api_Step A_2 c_3 c_1.Steps] [.code c19_16, .inBlock 0, .code c19_33] (tontineref16_May.j0 n c_1 b_7) := by
  unfold tontineref16_May.j0
  refine GoO.ite' c19_16e (by kernel_rfl) (fun h8 => ?_) (fun h8 => ?_)
  · refine GoO.seq' c19_17e ?_
    refine GoO.region' (is := [0, 1, 2, 3, 4, 5, 6, 7, 8]) c19_18e (by kernel_rfl) ?_
    refine GoO.exec (is := [0, 1, 2, 3, 4]) (hs := [.p, .b 0, .p, .p, .p]) (rest := [5, 6, 7, 8]) (ks := [1, 13]) (env' := [(1, .pointer (some ⟨b_4, 0, none⟩)), (13, .bool ((c_1.Steps.length : Int) == 0))]) (H' := [⟨40, b_4, [.int .i64 c_1.Kind, .int .u64 c_1.Session, .int .u64 c_1.Seq, .int .u64 c_1.Saga, .slice A_2 c_1.Steps.length c_3, .int .i64 c_1.Step, .bool c_1.Back, .int .i64 c_1.Try, .bool c_1.Ok, .int .u64 c_1.Now]⟩]) (ps := [b_4 = b_4]) (by kernel_rfl) (And.intro rfl trivial) ?_
    refine GoO.bsplit (t := 13) (by kernel_rfl) (fun h9 => ?_) (fun h9 => ?_)
    · refine GoO.exec (is := [5]) (hs := [.b 0]) (rest := [6, 7, 8]) (ks := [13, 14]) (env' := [(13, .bool true), (14, .agg ⟨[.int .i64 c_1.Kind, .int .u64 c_1.Session, .int .u64 c_1.Seq, .int .u64 c_1.Saga, .slice A_2 c_1.Steps.length c_3, .int .i64 c_1.Step, .bool c_1.Back, .int .i64 c_1.Try, .bool c_1.Ok, .int .u64 c_1.Now]⟩)]) (H' := [⟨40, b_4, [.int .i64 c_1.Kind, .int .u64 c_1.Session, .int .u64 c_1.Seq, .int .u64 c_1.Saga, .slice A_2 c_1.Steps.length c_3, .int .i64 c_1.Step, .bool c_1.Back, .int .i64 c_1.Try, .bool c_1.Ok, .int .u64 c_1.Now]⟩]) (ps := [b_4 = b_4]) (by kernel_rfl) (And.intro rfl trivial) ?_
      refine OpTo.go (GoO.call rfl (by kernel_rfl) (by kernel_rfl) (tontineref16_bare_ok n c_1 A_2 c_3) [[0]] [] [] [(0, 0)] (hks := [0]) (bks := [0]) (by kernel_rfl) (by kernel_rfl) (by kernel_rfl) (.inl rfl) rfl rfl (by kernel_rfl) (by kernel_rfl) _ (fun _ _ => rfl) _ _ (fun _ _ => rfl) (fun _ _ => rfl) (fun _ _ => by kernel_rfl) (fun _ _ => by kernel_rfl) (fun r_10 x_11 => ?_))
      refine GoO.shape (env' := [(13, .bool true), (14, .agg ⟨[.int .i64 c_1.Kind, .int .u64 c_1.Session, .int .u64 c_1.Seq, .int .u64 c_1.Saga, .slice A_2 c_1.Steps.length c_3, .int .i64 c_1.Step, .bool c_1.Back, .int .i64 c_1.Try, .bool c_1.Ok, .int .u64 c_1.Now]⟩), (15, .bool r_10)]) (H' := [⟨40, b_4, [.int .i64 c_1.Kind, .int .u64 c_1.Session, .int .u64 c_1.Seq, .int .u64 c_1.Saga, .slice A_2 c_1.Steps.length c_3, .int .i64 c_1.Step, .bool c_1.Back, .int .i64 c_1.Try, .bool c_1.Ok, .int .u64 c_1.Now]⟩]) (B' := [Rd 0 kT_api_Step A_2 c_3 c_1.Steps]) (ks := [13, 14, 15]) (by kernel_rfl) (by kernel_rfl) (by kernel_rfl) ?_
      refine GoO.exec (is := [7, 8]) (hs := [.p, .p]) (rest := []) (ks := [2]) (env' := [(2, .bool r_10)]) (H' := [⟨40, b_4, [.int .i64 c_1.Kind, .int .u64 c_1.Session, .int .u64 c_1.Seq, .int .u64 c_1.Saga, .slice A_2 c_1.Steps.length c_3, .int .i64 c_1.Step, .bool c_1.Back, .int .i64 c_1.Try, .bool c_1.Ok, .int .u64 c_1.Now]⟩]) (ps := []) (by kernel_rfl) trivial ?_
      refine GoO.regionEnd ?_
      exact GoO.ret' (h := c19_19e) (hs := []) (ps := []) (hk := []) (bk := []) Try.func19 () (by kernel_rfl) trivial (by kernel_rfl) (by kernel_rfl)
    · refine GoO.exec (is := [5, 6, 7, 8]) (hs := [.p, .p, .p, .p]) (rest := []) (ks := [2]) (env' := [(2, .bool false)]) (H' := [⟨40, b_4, [.int .i64 c_1.Kind, .int .u64 c_1.Session, .int .u64 c_1.Seq, .int .u64 c_1.Saga, .slice A_2 c_1.Steps.length c_3, .int .i64 c_1.Step, .bool c_1.Back, .int .i64 c_1.Try, .bool c_1.Ok, .int .u64 c_1.Now]⟩]) (ps := []) (by kernel_rfl) trivial ?_
      refine GoO.regionEnd ?_
      exact GoO.ret' (h := c19_19e) (hs := []) (ps := []) (hk := []) (bk := []) Try.func19 () (by kernel_rfl) trivial (by kernel_rfl) (by kernel_rfl)
  · refine GoO.seq' c19_20e ?_
    refine GoO.region' (is := [0, 1]) c19_21e (by kernel_rfl) ?_
    refine GoO.exec (is := [0, 1]) (hs := [.p, .p]) (rest := []) (ks := [1, 4, 17]) (env' := [(1, .pointer (some ⟨b_4, 0, none⟩)), (4, .int .i64 c_1.Kind), (17, .bool (c_1.Kind == 2))]) (H' := [⟨40, b_4, [.int .i64 c_1.Kind, .int .u64 c_1.Session, .int .u64 c_1.Seq, .int .u64 c_1.Saga, .slice A_2 c_1.Steps.length c_3, .int .i64 c_1.Step, .bool c_1.Back, .int .i64 c_1.Try, .bool c_1.Ok, .int .u64 c_1.Now]⟩]) (ps := []) (by kernel_rfl) trivial ?_
    refine GoO.regionEnd ?_
    refine GoO.ite' c19_22e (by kernel_rfl) (fun h12 => ?_) (fun h12 => ?_)
    · refine GoO.seq' c19_23e ?_
      refine GoO.region' (is := [0, 1, 2, 3, 4, 5, 6, 7, 8]) c19_24e (by kernel_rfl) ?_
      refine GoO.exec (is := [0, 1]) (hs := [.p, .b 0]) (rest := [2, 3, 4, 5, 6, 7, 8]) (ks := [1, 20]) (env' := [(1, .pointer (some ⟨b_4, 0, none⟩)), (20, .slice A_2 c_1.Steps.length c_3)]) (H' := [⟨40, b_4, [.int .i64 c_1.Kind, .int .u64 c_1.Session, .int .u64 c_1.Seq, .int .u64 c_1.Saga, .slice A_2 c_1.Steps.length c_3, .int .i64 c_1.Step, .bool c_1.Back, .int .i64 c_1.Try, .bool c_1.Ok, .int .u64 c_1.Now]⟩]) (ps := [b_4 = b_4]) (by kernel_rfl) (And.intro rfl trivial) ?_
      refine OpTo.go (GoO.call rfl (by kernel_rfl) (by kernel_rfl) (tontineref13_Check_ok n c_1.Steps A_2 c_3) [[0]] [] [] [(0, 0)] (hks := [0]) (bks := [0]) (by kernel_rfl) (by kernel_rfl) (by kernel_rfl) (.inl rfl) rfl rfl (by kernel_rfl) (by kernel_rfl) _ (fun _ _ => rfl) _ _ (fun _ _ => rfl) (fun _ _ => rfl) (fun _ _ => by kernel_rfl) (fun _ _ => by kernel_rfl) (fun r_13 x_17 => ?_))
      refine GoO.shape (env' := [(1, .pointer (some ⟨b_4, 0, none⟩)), (20, .slice A_2 c_1.Steps.length c_3), (21, .int .i64 r_13)]) (H' := [⟨40, b_4, [.int .i64 c_1.Kind, .int .u64 c_1.Session, .int .u64 c_1.Seq, .int .u64 c_1.Saga, .slice A_2 c_1.Steps.length c_3, .int .i64 c_1.Step, .bool c_1.Back, .int .i64 c_1.Try, .bool c_1.Ok, .int .u64 c_1.Now]⟩]) (B' := [Rd 0 kT_api_Step A_2 c_3 c_1.Steps]) (ks := [1, 20, 21]) (by kernel_rfl) (by kernel_rfl) (by kernel_rfl) ?_
      refine GoO.exec (is := [3, 4]) (hs := [.p, .p]) (rest := [5, 6, 7, 8]) (ks := [1, 23]) (env' := [(1, .pointer (some ⟨b_4, 0, none⟩)), (23, .bool (r_13 == 0))]) (H' := [⟨40, b_4, [.int .i64 c_1.Kind, .int .u64 c_1.Session, .int .u64 c_1.Seq, .int .u64 c_1.Saga, .slice A_2 c_1.Steps.length c_3, .int .i64 c_1.Step, .bool c_1.Back, .int .i64 c_1.Try, .bool c_1.Ok, .int .u64 c_1.Now]⟩]) (ps := []) (by kernel_rfl) trivial ?_
      refine GoO.bsplit (t := 23) (by kernel_rfl) (fun h14 => ?_) (fun h14 => ?_)
      · refine GoO.exec (is := [5]) (hs := [.b 0]) (rest := [6, 7, 8]) (ks := [23, 24]) (env' := [(23, .bool true), (24, .agg ⟨[.int .i64 c_1.Kind, .int .u64 c_1.Session, .int .u64 c_1.Seq, .int .u64 c_1.Saga, .slice A_2 c_1.Steps.length c_3, .int .i64 c_1.Step, .bool c_1.Back, .int .i64 c_1.Try, .bool c_1.Ok, .int .u64 c_1.Now]⟩)]) (H' := [⟨40, b_4, [.int .i64 c_1.Kind, .int .u64 c_1.Session, .int .u64 c_1.Seq, .int .u64 c_1.Saga, .slice A_2 c_1.Steps.length c_3, .int .i64 c_1.Step, .bool c_1.Back, .int .i64 c_1.Try, .bool c_1.Ok, .int .u64 c_1.Now]⟩]) (ps := [b_4 = b_4]) (by kernel_rfl) (And.intro rfl trivial) ?_
        refine OpTo.go (GoO.call rfl (by kernel_rfl) (by kernel_rfl) (tontineref16_bare_ok n c_1 A_2 c_3) [[0]] [] [] [(0, 0)] (hks := [0]) (bks := [0]) (by kernel_rfl) (by kernel_rfl) (by kernel_rfl) (.inl rfl) rfl rfl (by kernel_rfl) (by kernel_rfl) _ (fun _ _ => rfl) _ _ (fun _ _ => rfl) (fun _ _ => rfl) (fun _ _ => by kernel_rfl) (fun _ _ => by kernel_rfl) (fun r_15 x_16 => ?_))
        refine GoO.shape (env' := [(23, .bool true), (24, .agg ⟨[.int .i64 c_1.Kind, .int .u64 c_1.Session, .int .u64 c_1.Seq, .int .u64 c_1.Saga, .slice A_2 c_1.Steps.length c_3, .int .i64 c_1.Step, .bool c_1.Back, .int .i64 c_1.Try, .bool c_1.Ok, .int .u64 c_1.Now]⟩), (25, .bool r_15)]) (H' := [⟨40, b_4, [.int .i64 c_1.Kind, .int .u64 c_1.Session, .int .u64 c_1.Seq, .int .u64 c_1.Saga, .slice A_2 c_1.Steps.length c_3, .int .i64 c_1.Step, .bool c_1.Back, .int .i64 c_1.Try, .bool c_1.Ok, .int .u64 c_1.Now]⟩]) (B' := [Rd 0 kT_api_Step A_2 c_3 c_1.Steps]) (ks := [23, 24, 25]) (by kernel_rfl) (by kernel_rfl) (by kernel_rfl) ?_
        refine GoO.exec (is := [7, 8]) (hs := [.p, .p]) (rest := []) (ks := [2]) (env' := [(2, .bool r_15)]) (H' := [⟨40, b_4, [.int .i64 c_1.Kind, .int .u64 c_1.Session, .int .u64 c_1.Seq, .int .u64 c_1.Saga, .slice A_2 c_1.Steps.length c_3, .int .i64 c_1.Step, .bool c_1.Back, .int .i64 c_1.Try, .bool c_1.Ok, .int .u64 c_1.Now]⟩]) (ps := []) (by kernel_rfl) trivial ?_
        refine GoO.regionEnd ?_
        exact GoO.ret' (h := c19_25e) (hs := []) (ps := []) (hk := []) (bk := []) Try.func19 () (by kernel_rfl) trivial (by kernel_rfl) (by kernel_rfl)
      · refine GoO.exec (is := [5, 6, 7, 8]) (hs := [.p, .p, .p, .p]) (rest := []) (ks := [2]) (env' := [(2, .bool false)]) (H' := [⟨40, b_4, [.int .i64 c_1.Kind, .int .u64 c_1.Session, .int .u64 c_1.Seq, .int .u64 c_1.Saga, .slice A_2 c_1.Steps.length c_3, .int .i64 c_1.Step, .bool c_1.Back, .int .i64 c_1.Try, .bool c_1.Ok, .int .u64 c_1.Now]⟩]) (ps := []) (by kernel_rfl) trivial ?_
        refine GoO.regionEnd ?_
        exact GoO.ret' (h := c19_25e) (hs := []) (ps := []) (hk := []) (bk := []) Try.func19 () (by kernel_rfl) trivial (by kernel_rfl) (by kernel_rfl)
    · refine GoO.seq' c19_26e ?_
      refine GoO.region' (is := [0, 1]) c19_27e (by kernel_rfl) ?_
      refine GoO.exec (is := [0, 1]) (hs := [.p, .p]) (rest := []) (ks := [1, 27]) (env' := [(1, .pointer (some ⟨b_4, 0, none⟩)), (27, .bool (c_1.Kind == 4))]) (H' := [⟨40, b_4, [.int .i64 c_1.Kind, .int .u64 c_1.Session, .int .u64 c_1.Seq, .int .u64 c_1.Saga, .slice A_2 c_1.Steps.length c_3, .int .i64 c_1.Step, .bool c_1.Back, .int .i64 c_1.Try, .bool c_1.Ok, .int .u64 c_1.Now]⟩]) (ps := []) (by kernel_rfl) trivial ?_
      refine GoO.regionEnd ?_
      refine GoO.ite' c19_28e (by kernel_rfl) (fun h18 => ?_) (fun h18 => ?_)
      · refine GoO.seq' c19_29e ?_
        refine GoO.region' (is := [0, 1, 2, 3, 4, 5, 6, 7, 8, 9, 10, 11, 12, 13, 14, 15, 16, 17, 18, 19, 20, 21, 22, 23, 24, 25, 26, 27, 28, 29, 30, 31, 32, 33, 34]) c19_30e (by kernel_rfl) ?_
        refine GoO.exec (is := [0, 1, 2, 3, 4]) (hs := [.p, .b 0, .p, .p, .p]) (rest := [5, 6, 7, 8, 9, 10, 11, 12, 13, 14, 15, 16, 17, 18, 19, 20, 21, 22, 23, 24, 25, 26, 27, 28, 29, 30, 31, 32, 33, 34]) (ks := [1, 33]) (env' := [(1, .pointer (some ⟨b_4, 0, none⟩)), (33, .bool ((c_1.Steps.length : Int) == 0))]) (H' := [⟨40, b_4, [.int .i64 c_1.Kind, .int .u64 c_1.Session, .int .u64 c_1.Seq, .int .u64 c_1.Saga, .slice A_2 c_1.Steps.length c_3, .int .i64 c_1.Step, .bool c_1.Back, .int .i64 c_1.Try, .bool c_1.Ok, .int .u64 c_1.Now]⟩]) (ps := [b_4 = b_4]) (by kernel_rfl) (And.intro rfl trivial) ?_
        refine GoO.bsplit (t := 33) (by kernel_rfl) (fun h19 => ?_) (fun h19 => ?_)
        · refine GoO.exec (is := [5, 6, 7, 8, 9]) (hs := [.p, .b 0, .p, .p, .p]) (rest := [10, 11, 12, 13, 14, 15, 16, 17, 18, 19, 20, 21, 22, 23, 24, 25, 26, 27, 28, 29, 30, 31, 32, 33, 34]) (ks := [1, 38]) (env' := [(1, .pointer (some ⟨b_4, 0, none⟩)), (38, .bool (decide (c_1.Step ≥ 0)))]) (H' := [⟨40, b_4, [.int .i64 c_1.Kind, .int .u64 c_1.Session, .int .u64 c_1.Seq, .int .u64 c_1.Saga, .slice A_2 c_1.Steps.length c_3, .int .i64 c_1.Step, .bool c_1.Back, .int .i64 c_1.Try, .bool c_1.Ok, .int .u64 c_1.Now]⟩]) (ps := [b_4 = b_4]) (by kernel_rfl) (And.intro rfl trivial) ?_
          refine GoO.bsplit (t := 38) (by kernel_rfl) (fun h20 => ?_) (fun h20 => ?_)
          · refine GoO.exec (is := [10, 11, 12, 13, 14]) (hs := [.p, .b 0, .p, .p, .p]) (rest := [15, 16, 17, 18, 19, 20, 21, 22, 23, 24, 25, 26, 27, 28, 29, 30, 31, 32, 33, 34]) (ks := [1, 43]) (env' := [(1, .pointer (some ⟨b_4, 0, none⟩)), (43, .bool (decide (c_1.Step ≤ 63)))]) (H' := [⟨40, b_4, [.int .i64 c_1.Kind, .int .u64 c_1.Session, .int .u64 c_1.Seq, .int .u64 c_1.Saga, .slice A_2 c_1.Steps.length c_3, .int .i64 c_1.Step, .bool c_1.Back, .int .i64 c_1.Try, .bool c_1.Ok, .int .u64 c_1.Now]⟩]) (ps := [b_4 = b_4]) (by kernel_rfl) (And.intro rfl trivial) ?_
            refine GoO.bsplit (t := 43) (by kernel_rfl) (fun h21 => ?_) (fun h21 => ?_)
            · refine GoO.exec (is := [15, 16, 17, 18, 19]) (hs := [.p, .b 0, .p, .p, .p]) (rest := [20, 21, 22, 23, 24, 25, 26, 27, 28, 29, 30, 31, 32, 33, 34]) (ks := [1, 48]) (env' := [(1, .pointer (some ⟨b_4, 0, none⟩)), (48, .bool (decide (c_1.Try ≥ 0)))]) (H' := [⟨40, b_4, [.int .i64 c_1.Kind, .int .u64 c_1.Session, .int .u64 c_1.Seq, .int .u64 c_1.Saga, .slice A_2 c_1.Steps.length c_3, .int .i64 c_1.Step, .bool c_1.Back, .int .i64 c_1.Try, .bool c_1.Ok, .int .u64 c_1.Now]⟩]) (ps := [b_4 = b_4]) (by kernel_rfl) (And.intro rfl trivial) ?_
              refine GoO.bsplit (t := 48) (by kernel_rfl) (fun h22 => ?_) (fun h22 => ?_)
              · refine GoO.exec (is := [20, 21, 22, 23, 24]) (hs := [.p, .b 0, .p, .p, .p]) (rest := [25, 26, 27, 28, 29, 30, 31, 32, 33, 34]) (ks := [1, 53]) (env' := [(1, .pointer (some ⟨b_4, 0, none⟩)), (53, .bool (decide (c_1.Try ≤ 8)))]) (H' := [⟨40, b_4, [.int .i64 c_1.Kind, .int .u64 c_1.Session, .int .u64 c_1.Seq, .int .u64 c_1.Saga, .slice A_2 c_1.Steps.length c_3, .int .i64 c_1.Step, .bool c_1.Back, .int .i64 c_1.Try, .bool c_1.Ok, .int .u64 c_1.Now]⟩]) (ps := [b_4 = b_4]) (by kernel_rfl) (And.intro rfl trivial) ?_
                refine GoO.bsplit (t := 53) (by kernel_rfl) (fun h23 => ?_) (fun h23 => ?_)
                · refine GoO.exec (is := [25, 26, 27, 28, 29]) (hs := [.p, .b 0, .p, .p, .p]) (rest := [30, 31, 32, 33, 34]) (ks := [1, 58]) (env' := [(1, .pointer (some ⟨b_4, 0, none⟩)), (58, .bool (c_1.Session == 0))]) (H' := [⟨40, b_4, [.int .i64 c_1.Kind, .int .u64 c_1.Session, .int .u64 c_1.Seq, .int .u64 c_1.Saga, .slice A_2 c_1.Steps.length c_3, .int .i64 c_1.Step, .bool c_1.Back, .int .i64 c_1.Try, .bool c_1.Ok, .int .u64 c_1.Now]⟩]) (ps := [b_4 = b_4]) (by kernel_rfl) (And.intro rfl trivial) ?_
                  refine GoO.bsplit (t := 58) (by kernel_rfl) (fun h24 => ?_) (fun h24 => ?_)
                  · refine GoO.exec (is := [30, 31, 32, 33, 34]) (hs := [.p, .b 0, .p, .p, .p]) (rest := []) (ks := [2]) (env' := [(2, .bool (c_1.Seq == 0))]) (H' := [⟨40, b_4, [.int .i64 c_1.Kind, .int .u64 c_1.Session, .int .u64 c_1.Seq, .int .u64 c_1.Saga, .slice A_2 c_1.Steps.length c_3, .int .i64 c_1.Step, .bool c_1.Back, .int .i64 c_1.Try, .bool c_1.Ok, .int .u64 c_1.Now]⟩]) (ps := [b_4 = b_4]) (by kernel_rfl) (And.intro rfl trivial) ?_
                    refine GoO.regionEnd ?_
                    exact GoO.sub (ks := [2]) (hk := []) (bk := []) (by kernel_rfl) (by kernel_rfl) (by kernel_rfl) (tontineref16_May_j1_ok n A_2 c_3 w0 S0 (c_1.Seq == 0))
                  · refine GoO.exec (is := [30, 31, 32, 33, 34]) (hs := [.p, .p, .p, .p, .p]) (rest := []) (ks := [2]) (env' := [(2, .bool false)]) (H' := [⟨40, b_4, [.int .i64 c_1.Kind, .int .u64 c_1.Session, .int .u64 c_1.Seq, .int .u64 c_1.Saga, .slice A_2 c_1.Steps.length c_3, .int .i64 c_1.Step, .bool c_1.Back, .int .i64 c_1.Try, .bool c_1.Ok, .int .u64 c_1.Now]⟩]) (ps := []) (by kernel_rfl) trivial ?_
                    refine GoO.regionEnd ?_
                    exact GoO.sub (ks := [2]) (hk := []) (bk := []) (by kernel_rfl) (by kernel_rfl) (by kernel_rfl) (tontineref16_May_j1_ok n A_2 c_3 w0 S0 false)
                · refine GoO.exec (is := [25, 26, 27, 28, 29, 30, 31, 32, 33, 34]) (hs := [.p, .p, .p, .p, .p, .p, .p, .p, .p, .p]) (rest := []) (ks := [2]) (env' := [(2, .bool false)]) (H' := [⟨40, b_4, [.int .i64 c_1.Kind, .int .u64 c_1.Session, .int .u64 c_1.Seq, .int .u64 c_1.Saga, .slice A_2 c_1.Steps.length c_3, .int .i64 c_1.Step, .bool c_1.Back, .int .i64 c_1.Try, .bool c_1.Ok, .int .u64 c_1.Now]⟩]) (ps := []) (by kernel_rfl) trivial ?_
                  refine GoO.regionEnd ?_
                  exact GoO.sub (ks := [2]) (hk := []) (bk := []) (by kernel_rfl) (by kernel_rfl) (by kernel_rfl) (tontineref16_May_j1_ok n A_2 c_3 w0 S0 false)
              · refine GoO.exec (is := [20, 21, 22, 23, 24, 25, 26, 27, 28, 29, 30, 31, 32, 33, 34]) (hs := [.p, .p, .p, .p, .p, .p, .p, .p, .p, .p, .p, .p, .p, .p, .p]) (rest := []) (ks := [2]) (env' := [(2, .bool false)]) (H' := [⟨40, b_4, [.int .i64 c_1.Kind, .int .u64 c_1.Session, .int .u64 c_1.Seq, .int .u64 c_1.Saga, .slice A_2 c_1.Steps.length c_3, .int .i64 c_1.Step, .bool c_1.Back, .int .i64 c_1.Try, .bool c_1.Ok, .int .u64 c_1.Now]⟩]) (ps := []) (by kernel_rfl) trivial ?_
                refine GoO.regionEnd ?_
                exact GoO.sub (ks := [2]) (hk := []) (bk := []) (by kernel_rfl) (by kernel_rfl) (by kernel_rfl) (tontineref16_May_j1_ok n A_2 c_3 w0 S0 false)
            · refine GoO.exec (is := [15, 16, 17, 18, 19, 20, 21, 22, 23, 24, 25, 26, 27, 28, 29, 30, 31, 32, 33, 34]) (hs := [.p, .p, .p, .p, .p, .p, .p, .p, .p, .p, .p, .p, .p, .p, .p, .p, .p, .p, .p, .p]) (rest := []) (ks := [2]) (env' := [(2, .bool false)]) (H' := [⟨40, b_4, [.int .i64 c_1.Kind, .int .u64 c_1.Session, .int .u64 c_1.Seq, .int .u64 c_1.Saga, .slice A_2 c_1.Steps.length c_3, .int .i64 c_1.Step, .bool c_1.Back, .int .i64 c_1.Try, .bool c_1.Ok, .int .u64 c_1.Now]⟩]) (ps := []) (by kernel_rfl) trivial ?_
              refine GoO.regionEnd ?_
              exact GoO.sub (ks := [2]) (hk := []) (bk := []) (by kernel_rfl) (by kernel_rfl) (by kernel_rfl) (tontineref16_May_j1_ok n A_2 c_3 w0 S0 false)
          · refine GoO.exec (is := [10, 11, 12, 13, 14, 15, 16, 17, 18, 19, 20, 21, 22, 23, 24, 25, 26, 27, 28, 29, 30, 31, 32, 33, 34]) (hs := [.p, .p, .p, .p, .p, .p, .p, .p, .p, .p, .p, .p, .p, .p, .p, .p, .p, .p, .p, .p, .p, .p, .p, .p, .p]) (rest := []) (ks := [2]) (env' := [(2, .bool false)]) (H' := [⟨40, b_4, [.int .i64 c_1.Kind, .int .u64 c_1.Session, .int .u64 c_1.Seq, .int .u64 c_1.Saga, .slice A_2 c_1.Steps.length c_3, .int .i64 c_1.Step, .bool c_1.Back, .int .i64 c_1.Try, .bool c_1.Ok, .int .u64 c_1.Now]⟩]) (ps := []) (by kernel_rfl) trivial ?_
            refine GoO.regionEnd ?_
            exact GoO.sub (ks := [2]) (hk := []) (bk := []) (by kernel_rfl) (by kernel_rfl) (by kernel_rfl) (tontineref16_May_j1_ok n A_2 c_3 w0 S0 false)
        · refine GoO.exec (is := [5, 6, 7, 8, 9, 10, 11, 12, 13, 14, 15, 16, 17, 18, 19, 20, 21, 22, 23, 24, 25, 26, 27, 28, 29, 30, 31, 32, 33, 34]) (hs := [.p, .p, .p, .p, .p, .p, .p, .p, .p, .p, .p, .p, .p, .p, .p, .p, .p, .p, .p, .p, .p, .p, .p, .p, .p, .p, .p, .p, .p, .p]) (rest := []) (ks := [2]) (env' := [(2, .bool false)]) (H' := [⟨40, b_4, [.int .i64 c_1.Kind, .int .u64 c_1.Session, .int .u64 c_1.Seq, .int .u64 c_1.Saga, .slice A_2 c_1.Steps.length c_3, .int .i64 c_1.Step, .bool c_1.Back, .int .i64 c_1.Try, .bool c_1.Ok, .int .u64 c_1.Now]⟩]) (ps := []) (by kernel_rfl) trivial ?_
          refine GoO.regionEnd ?_
          exact GoO.sub (ks := [2]) (hk := []) (bk := []) (by kernel_rfl) (by kernel_rfl) (by kernel_rfl) (tontineref16_May_j1_ok n A_2 c_3 w0 S0 false)
      · refine GoO.skip' c19_32e ?_
        refine GoO.inBlock ?_
        refine GoO.seq' c19_33e ?_
        refine GoO.region' (is := [0]) c19_34e (by kernel_rfl) ?_
        refine GoO.exec (is := [0]) (hs := [.p]) (rest := []) (ks := [2]) (env' := [(2, .bool false)]) (H' := [⟨40, b_4, [.int .i64 c_1.Kind, .int .u64 c_1.Session, .int .u64 c_1.Seq, .int .u64 c_1.Saga, .slice A_2 c_1.Steps.length c_3, .int .i64 c_1.Step, .bool c_1.Back, .int .i64 c_1.Try, .bool c_1.Ok, .int .u64 c_1.Now]⟩]) (ps := []) (by kernel_rfl) trivial ?_
        refine GoO.regionEnd ?_
        exact GoO.ret' (h := c19_35e) (hs := []) (ps := []) (hk := []) (bk := []) Try.func19 () (by kernel_rfl) trivial (by kernel_rfl) (by kernel_rfl)
theorem tontineref16_May_ok (n : Nat) (c_1 : T_api_Command) (A_2 : Option Addr) (c_3 : Nat) :
    Meets Try.prog 19 [.agg ⟨[.int .i64 c_1.Kind, .int .u64 c_1.Session, .int .u64 c_1.Seq, .int .u64 c_1.Saga, .slice A_2 c_1.Steps.length c_3, .int .i64 c_1.Step, .bool c_1.Back, .int .i64 c_1.Try, .bool c_1.Ok, .int .u64 c_1.Now]⟩] 0 [] [] [Rd 0 kT_api_Step A_2 c_3 c_1.Steps] (tontineref16_May.f n c_1) (tontineref16_May.R A_2 c_3) := by
  refine Meets.of (c := c19_0) (n := 63) Try.func19 (by kernel_rfl) (by kernel_rfl) (by kernel_rfl) fun w0 S0 => ?_
  unfold tontineref16_May.f
  show GoO (tontineref16_May.cx A_2 c_3 w0 S0) [(0, .agg ⟨[.int .i64 c_1.Kind, .int .u64 c_1.Session, .int .u64 c_1.Seq, .int .u64 c_1.Saga, .slice A_2 c_1.Steps.length c_3, .int .i64 c_1.Step, .bool c_1.Back, .int .i64 c_1.Try, .bool c_1.Ok, .int .u64 c_1.Now]⟩)] [] [Rd 0 kT_api_Step A_2 c_3 c_1.Steps] [.code c19_0] _
  refine GoO.seq' c19_0e ?_
  refine GoO.region' (is := [0, 1]) c19_1e (by kernel_rfl) ?_
  refine OpTo.go (GoO.new rfl 40 (cs := [.int .i64 c_1.Kind, .int .u64 c_1.Session, .int .u64 c_1.Seq, .int .u64 c_1.Saga, .slice A_2 c_1.Steps.length c_3, .int .i64 c_1.Step, .bool c_1.Back, .int .i64 c_1.Try, .bool c_1.Ok, .int .u64 c_1.Now]) (by kernel_rfl) _ (fun _ => rfl) (fun b_4 => ?_))
  refine GoO.exec (is := [1]) (hs := [.p]) (rest := []) (ks := [1]) (env' := [(1, .pointer (some ⟨b_4, 0, none⟩))]) (H' := [⟨40, b_4, [.int .i64 c_1.Kind, .int .u64 c_1.Session, .int .u64 c_1.Seq, .int .u64 c_1.Saga, .slice A_2 c_1.Steps.length c_3, .int .i64 c_1.Step, .bool c_1.Back, .int .i64 c_1.Try, .bool c_1.Ok, .int .u64 c_1.Now]⟩]) (ps := []) (by kernel_rfl) trivial ?_
  refine GoO.regionEnd ?_
  refine GoO.seq' c19_2e ?_
  refine GoO.seq' c19_3e ?_
  refine GoO.region' (is := [0, 1]) c19_4e (by kernel_rfl) ?_
  refine GoO.exec (is := [0, 1]) (hs := [.p, .b 0]) (rest := []) (ks := [1, 4]) (env' := [(1, .pointer (some ⟨b_4, 0, none⟩)), (4, .int .i64 c_1.Kind)]) (H' := [⟨40, b_4, [.int .i64 c_1.Kind, .int .u64 c_1.Session, .int .u64 c_1.Seq, .int .u64 c_1.Saga, .slice A_2 c_1.Steps.length c_3, .int .i64 c_1.Step, .bool c_1.Back, .int .i64 c_1.Try, .bool c_1.Ok, .int .u64 c_1.Now]⟩]) (ps := [b_4 = b_4]) (by kernel_rfl) (And.intro rfl trivial) ?_
  refine GoO.regionEnd ?_
  refine GoO.block' c19_5e ?_
  refine GoO.seq' c19_6e ?_
  refine GoO.seq' c19_7e ?_
  refine GoO.region' (is := [0, 1]) c19_8e (by kernel_rfl) ?_
  refine GoO.exec (is := [0, 1]) (hs := [.p, .p]) (rest := []) (ks := [1, 4, 5]) (env' := [(1, .pointer (some ⟨b_4, 0, none⟩)), (4, .int .i64 c_1.Kind), (5, .bool (c_1.Kind == 1))]) (H' := [⟨40, b_4, [.int .i64 c_1.Kind, .int .u64 c_1.Session, .int .u64 c_1.Seq, .int .u64 c_1.Saga, .slice A_2 c_1.Steps.length c_3, .int .i64 c_1.Step, .bool c_1.Back, .int .i64 c_1.Try, .bool c_1.Ok, .int .u64 c_1.Now]⟩]) (ps := []) (by kernel_rfl) trivial ?_
  refine GoO.regionEnd ?_
  refine GoO.ite' c19_9e (by kernel_rfl) (fun h5 => ?_) (fun h5 => ?_)
  · refine GoO.skip' c19_10e ?_
    exact GoO.sub (ks := [1, 4, 5]) (hk := [0]) (bk := [0]) (by kernel_rfl) (by kernel_rfl) (by kernel_rfl) (tontineref16_May_j0_ok n c_1 A_2 c_3 b_4 w0 S0 (c_1.Kind == 1))
  · refine GoO.seq' c19_11e ?_
    refine GoO.region' (is := [0, 1]) c19_12e (by kernel_rfl) ?_
    refine GoO.exec (is := [0, 1]) (hs := [.p, .p]) (rest := []) (ks := [1, 4, 5]) (env' := [(1, .pointer (some ⟨b_4, 0, none⟩)), (4, .int .i64 c_1.Kind), (5, .bool (c_1.Kind == 3))]) (H' := [⟨40, b_4, [.int .i64 c_1.Kind, .int .u64 c_1.Session, .int .u64 c_1.Seq, .int .u64 c_1.Saga, .slice A_2 c_1.Steps.length c_3, .int .i64 c_1.Step, .bool c_1.Back, .int .i64 c_1.Try, .bool c_1.Ok, .int .u64 c_1.Now]⟩]) (ps := []) (by kernel_rfl) trivial ?_
    refine GoO.regionEnd ?_
    refine GoO.ite' c19_13e (by kernel_rfl) (fun h6 => ?_) (fun h6 => ?_)
    · refine GoO.skip' c19_14e ?_
      exact GoO.sub (ks := [1, 4, 5]) (hk := [0]) (bk := [0]) (by kernel_rfl) (by kernel_rfl) (by kernel_rfl) (tontineref16_May_j0_ok n c_1 A_2 c_3 b_4 w0 S0 (c_1.Kind == 3))
    · refine GoO.region' (is := [0, 1]) c19_15e (by kernel_rfl) ?_
      refine GoO.exec (is := [0, 1]) (hs := [.p, .p]) (rest := []) (ks := [1, 4, 5]) (env' := [(1, .pointer (some ⟨b_4, 0, none⟩)), (4, .int .i64 c_1.Kind), (5, .bool (c_1.Kind == 5))]) (H' := [⟨40, b_4, [.int .i64 c_1.Kind, .int .u64 c_1.Session, .int .u64 c_1.Seq, .int .u64 c_1.Saga, .slice A_2 c_1.Steps.length c_3, .int .i64 c_1.Step, .bool c_1.Back, .int .i64 c_1.Try, .bool c_1.Ok, .int .u64 c_1.Now]⟩]) (ps := []) (by kernel_rfl) trivial ?_
      refine GoO.regionEnd ?_
      exact GoO.sub (ks := [1, 4, 5]) (hk := [0]) (bk := [0]) (by kernel_rfl) (by kernel_rfl) (by kernel_rfl) (tontineref16_May_j0_ok n c_1 A_2 c_3 b_4 w0 S0 (c_1.Kind == 5))

/-! tontine/tontineref03.Num -/
noncomputable def c65_0 : Code := bodyOf Try.f65
noncomputable def c65_1 : Code := cdL c65_0
noncomputable def c65_2 : Code := cdR c65_0
noncomputable def c65_3 : Code := cdL c65_2
noncomputable def c65_4 : Code := cdR c65_2
noncomputable def c65_5 : Code := cdL c65_4
noncomputable def c65_6 : Code := cdR c65_4
noncomputable def c65_7 : Code := cdL c65_6
noncomputable def c65_8 : Code := cdL c65_7
noncomputable def c65_9 : Code := cdL c65_8
noncomputable def c65_10 : Code := cdL c65_9
noncomputable def c65_11 : Code := cdL c65_10
noncomputable def c65_12 : Code := cdR c65_10
noncomputable def c65_13 : Code := cdL c65_12
noncomputable def c65_14 : Code := cdR c65_12
noncomputable def c65_15 : Code := cdR c65_9
noncomputable def c65_16 : Code := cdL c65_15
noncomputable def c65_17 : Code := cdL c65_16
noncomputable def c65_18 : Code := cdR c65_16
noncomputable def c65_19 : Code := cdL c65_18
noncomputable def c65_20 : Code := cdR c65_18
noncomputable def c65_21 : Code := cdR c65_6
noncomputable def c65_22 : Code := cdL c65_21
noncomputable def c65_23 : Code := cdR c65_21
noncomputable def r65_1 : Array Oper := cdO c65_1
noncomputable def r65_3 : Array Oper := cdO c65_3
noncomputable def r65_5 : Array Oper := cdO c65_5
noncomputable def r65_11 : Array Oper := cdO c65_11
noncomputable def r65_17 : Array Oper := cdO c65_17
noncomputable def r65_19 : Array Oper := cdO c65_19
noncomputable def r65_20 : Array Oper := cdO c65_20
noncomputable def r65_22 : Array Oper := cdO c65_22
theorem c65_0e : c65_0 = .seq c65_1 c65_2 := by kernel_rfl
theorem c65_1e : c65_1 = .region 0 r65_1 false := by kernel_rfl
theorem c65_2e : c65_2 = .seq c65_3 c65_4 := by kernel_rfl
theorem c65_3e : c65_3 = .region 1 r65_3 false := by kernel_rfl
theorem c65_4e : c65_4 = .seq c65_5 c65_6 := by kernel_rfl
theorem c65_5e : c65_5 = .region 2 r65_5 false := by kernel_rfl
theorem c65_6e : c65_6 = .seq c65_7 c65_21 := by kernel_rfl
theorem c65_7e : c65_7 = .block 0 c65_8 := by kernel_rfl
theorem c65_8e : c65_8 = .loop c65_9 := by kernel_rfl
theorem c65_9e : c65_9 = .seq c65_10 c65_15 := by kernel_rfl
theorem c65_10e : c65_10 = .seq c65_11 c65_12 := by kernel_rfl
theorem c65_11e : c65_11 = .region 3 r65_11 false := by kernel_rfl
theorem c65_12e : c65_12 = .cond (cdC c65_12) c65_13 c65_14 := by kernel_rfl
theorem c65_13e : c65_13 = .skip := by kernel_rfl
theorem c65_14e : c65_14 = .exit 0 := by kernel_rfl
theorem c65_15e : c65_15 = .block 1 c65_16 := by kernel_rfl
theorem c65_16e : c65_16 = .seq c65_17 c65_18 := by kernel_rfl
theorem c65_17e : c65_17 = .region 4 r65_17 false := by kernel_rfl
theorem c65_18e : c65_18 = .seq c65_19 c65_20 := by kernel_rfl
theorem c65_19e : c65_19 = .region 5 r65_19 false := by kernel_rfl
theorem c65_20e : c65_20 = .region 6 r65_20 false := by kernel_rfl
theorem c65_21e : c65_21 = .seq c65_22 c65_23 := by kernel_rfl
theorem c65_22e : c65_22 = .region 7 r65_22 false := by kernel_rfl
theorem c65_23e : c65_23 = .ret := by kernel_rfl
noncomputable def tontineref03_Num.R : Pst (List UInt8) where
  ε := Unit
  v := fun r x => .string (bs r)
  H := fun r x => []
  B := fun r x => []
noncomputable def tontineref03_Num.cx (w0 : World) (S0 : Fam) : Cx (List UInt8) := ⟨Try.prog, 65, Try.f65, 24, w0, S0, [], 0, tontineref03_Num.R⟩
theorem tontineref03_Num_l0_ok (n : Nat) (w0 : World) (S0 : Fam) :
    ∀ (k : Nat) (x_2 : Int) (s_3 : (List UInt8)) (n_4 : Int), GoO (tontineref03_Num.cx w0 S0) [(0, .int .u64 x_2), (3, .string (bs s_3)), (4, .int .i64 n_4)] [] [] [.code c65_9, .inLoop c65_9, .inBlock 0, .code c65_21] (tontineref03_Num.l0 n k x_2 s_3 n_4) := by
  intro k
  induction k with
  | zero => intros; rw [tontineref03_Num.l0.eq_1]; exact GoO.stop
  | succ k ih0 =>
    intro x_2 s_3 n_4
    rw [tontineref03_Num.l0.eq_2]
    refine GoO.seq' c65_9e ?_
    refine GoO.seq' c65_10e ?_
    refine GoO.region' (is := [0, 1]) c65_11e (by kernel_rfl) ?_
    refine GoO.exec (is := [0, 1]) (hs := [.p, .p]) (rest := []) (ks := [0, 3, 4, 6]) (env' := [(0, .int .u64 x_2), (3, .string (bs s_3)), (4, .int .i64 n_4), (6, .bool (decide (x_2 > 0)))]) (H' := []) (ps := []) (by kernel_rfl) trivial ?_
    refine GoO.regionEnd ?_
    refine GoO.ite' c65_12e (by kernel_rfl) (fun h5 => ?_) (fun h5 => ?_)
    · refine GoO.skip' c65_13e ?_
      refine GoO.block' c65_15e ?_
      refine GoO.seq' c65_16e ?_
      refine GoO.region' (is := [0, 1, 2, 3, 4, 5, 6, 7]) c65_17e (by kernel_rfl) ?_
      refine GoO.exec (is := [0, 1, 2]) (hs := [.p, .p, .p]) (rest := [3, 4, 5, 6, 7]) (ks := [0, 3, 4, 9]) (env' := [(0, .int .u64 x_2), (3, .string (bs s_3)), (4, .int .i64 n_4), (9, .int .u8 (wu8 (x_2.tmod 256)))]) (H' := []) (ps := [(256 : Int) ≠ 0]) (by kernel_rfl) (And.intro (by decide) trivial) ?_
      refine OpTo.go (GoO.lit (e := 5) (K := Kd.u8) rfl (by kernel_rfl) (by kernel_rfl) (cs := [.int .u8 (wu8 (x_2.tmod 256))]) (by kernel_rfl) [u8of (x_2.tmod 256)] (by kernel_rfl) (by kernel_rfl) (fun w S hB => ⟨[.int .u8 (wu8 (x_2.tmod 256))], _, rfl, congrArg (fun v => [v]) (u8cell _), rfl⟩) 40 _ (fun _ _ => rfl) (fun A_6 c_7 => ?_))
      refine OpTo.go (GoO.toStr (e := 5) (A := A_6) (c := c_7) (xs := [u8of (x_2.tmod 256)]) (j := 0) rfl (by kernel_rfl) (by kernel_rfl) (by kernel_rfl) (by kernel_rfl) rfl Reads.own rfl rfl ?_)
      refine GoO.guard (fun h8 => ?_)
      refine GoO.exec (is := [5, 6, 7]) (hs := [.p, .p, .p]) (rest := []) (ks := [0, 3, 4]) (env' := [(0, .int .u64 x_2), (3, .string (bs ([u8of (x_2.tmod 256)] ++ s_3))), (4, .int .i64 n_4)]) (H' := []) (ps := [([u8of (x_2.tmod 256)] : List UInt8).length + s_3.length ≤ i64max]) (by kernel_rfl) (And.intro h8 trivial) ?_
      refine GoO.regionEnd ?_
      refine GoO.seq' c65_18e ?_
      refine GoO.region' (is := [0, 1, 2]) c65_19e (by kernel_rfl) ?_
      refine GoO.exec (is := [0, 1, 2]) (hs := [.p, .p, .p]) (rest := []) (ks := [0, 3, 4]) (env' := [(0, .int .u64 (wu64 (x_2.tdiv 256))), (3, .string (bs ([u8of (x_2.tmod 256)] ++ s_3))), (4, .int .i64 n_4)]) (H' := []) (ps := [(256 : Int) ≠ 0]) (by kernel_rfl) (And.intro (by decide) trivial) ?_
      refine GoO.regionEnd ?_
      refine GoO.region' (is := [0, 1, 2]) c65_20e (by kernel_rfl) ?_
      refine GoO.exec (is := [0, 1, 2]) (hs := [.p, .p, .p]) (rest := []) (ks := [0, 3, 4]) (env' := [(0, .int .u64 (wu64 (x_2.tdiv 256))), (3, .string (bs ([u8of (x_2.tmod 256)] ++ s_3))), (4, .int .i64 (wi64 (n_4 + 1)))]) (H' := []) (ps := []) (by kernel_rfl) trivial ?_
      refine GoO.regionEnd ?_
      refine GoO.inBlock ?_
      refine GoO.inLoop ?_
      exact GoO.sub (ks := [0, 3, 4]) (hk := []) (bk := []) (by kernel_rfl) (by kernel_rfl) (by kernel_rfl) (ih0 (wu64 (x_2.tdiv 256)) ([u8of (x_2.tmod 256)] ++ s_3) (wi64 (n_4 + 1)))
    · refine GoO.exit' c65_14e rfl ?_
      refine GoO.seq' c65_21e ?_
      refine GoO.region' (is := [0, 1, 2, 3, 4, 5, 6]) c65_22e (by kernel_rfl) ?_
      refine GoO.exec (is := [0, 1]) (hs := [.p, .p]) (rest := [2, 3, 4, 5, 6]) (ks := [3, 19]) (env' := [(3, .string (bs s_3)), (19, .int .u8 (wu8 n_4))]) (H' := []) (ps := []) (by kernel_rfl) trivial ?_
      refine OpTo.go (GoO.lit (e := 5) (K := Kd.u8) rfl (by kernel_rfl) (by kernel_rfl) (cs := [.int .u8 (wu8 n_4)]) (by kernel_rfl) [u8of n_4] (by kernel_rfl) (by kernel_rfl) (fun w S hB => ⟨[.int .u8 (wu8 n_4)], _, rfl, congrArg (fun v => [v]) (u8cell _), rfl⟩) 41 _ (fun _ _ => rfl) (fun A_9 c_10 => ?_))
      refine OpTo.go (GoO.toStr (e := 5) (A := A_9) (c := c_10) (xs := [u8of n_4]) (j := 0) rfl (by kernel_rfl) (by kernel_rfl) (by kernel_rfl) (by kernel_rfl) rfl Reads.own rfl rfl ?_)
      refine GoO.guard (fun h11 => ?_)
      refine GoO.exec (is := [4, 5, 6]) (hs := [.p, .p, .p]) (rest := []) (ks := [2]) (env' := [(2, .string (bs ([u8of n_4] ++ s_3)))]) (H' := []) (ps := [([u8of n_4] : List UInt8).length + s_3.length ≤ i64max]) (by kernel_rfl) (And.intro h11 trivial) ?_
      refine GoO.regionEnd ?_
      exact GoO.ret' (h := c65_23e) (hs := []) (ps := []) (hk := []) (bk := []) Try.func65 () (by kernel_rfl) trivial (by kernel_rfl) (by kernel_rfl)
theorem tontineref03_Num_ok (n : Nat) (x_1 : Int) :
    Meets Try.prog 65 [.int .u64 x_1] 0 [] [] [] (tontineref03_Num.f n x_1) (tontineref03_Num.R) := by
  refine Meets.of (c := c65_0) (n := 24) Try.func65 (by kernel_rfl) (by kernel_rfl) (by kernel_rfl) fun w0 S0 => ?_
  unfold tontineref03_Num.f
  show GoO (tontineref03_Num.cx w0 S0) [(0, .int .u64 x_1)] [] [] [.code c65_0] _
  refine GoO.seq' c65_0e ?_
  refine GoO.region' (is := [0]) c65_1e (by kernel_rfl) ?_
  refine GoO.exec (is := [0]) (hs := [.p]) (rest := []) (ks := [0]) (env' := [(0, .int .u64 x_1)]) (H' := []) (ps := []) (by kernel_rfl) trivial ?_
  refine GoO.regionEnd ?_
  refine GoO.seq' c65_2e ?_
  refine GoO.region' (is := [0]) c65_3e (by kernel_rfl) ?_
  refine GoO.exec (is := [0]) (hs := [.p]) (rest := []) (ks := [0, 3]) (env' := [(0, .int .u64 x_1), (3, .string (bs []))]) (H' := []) (ps := []) (by kernel_rfl) trivial ?_
  refine GoO.regionEnd ?_
  refine GoO.seq' c65_4e ?_
  refine GoO.region' (is := [0]) c65_5e (by kernel_rfl) ?_
  refine GoO.exec (is := [0]) (hs := [.p]) (rest := []) (ks := [0, 3, 4]) (env' := [(0, .int .u64 x_1), (3, .string (bs [])), (4, .int .i64 0)]) (H' := []) (ps := []) (by kernel_rfl) trivial ?_
  refine GoO.regionEnd ?_
  refine GoO.seq' c65_6e ?_
  refine GoO.block' c65_7e ?_
  refine GoO.loop' c65_8e ?_
  exact GoO.sub (ks := [0, 3, 4]) (hk := []) (bk := []) (by kernel_rfl) (by kernel_rfl) (by kernel_rfl) (tontineref03_Num_l0_ok n w0 S0 n x_1 [] 0)

/-! tontine/tontineref16.nums -/
noncomputable def c51_0 : Code := bodyOf Try.f51
noncomputable def c51_1 : Code := cdL c51_0
noncomputable def c51_2 : Code := cdR c51_0
noncomputable def c51_3 : Code := cdL c51_2
noncomputable def c51_4 : Code := cdR c51_2
noncomputable def c51_5 : Code := cdL c51_4
noncomputable def c51_6 : Code := cdL c51_5
noncomputable def c51_7 : Code := cdR c51_5
noncomputable def c51_8 : Code := cdL c51_7
noncomputable def c51_9 : Code := cdL c51_8
noncomputable def c51_10 : Code := cdL c51_9
noncomputable def c51_11 : Code := cdL c51_10
noncomputable def c51_12 : Code := cdR c51_10
noncomputable def c51_13 : Code := cdL c51_12
noncomputable def c51_14 : Code := cdR c51_12
noncomputable def c51_15 : Code := cdR c51_9
noncomputable def c51_16 : Code := cdL c51_15
noncomputable def c51_17 : Code := cdL c51_16
noncomputable def c51_18 : Code := cdR c51_15
noncomputable def c51_19 : Code := cdR c51_4
noncomputable def c51_20 : Code := cdL c51_19
noncomputable def c51_21 : Code := cdR c51_19
noncomputable def r51_1 : Array Oper := cdO c51_1
noncomputable def r51_3 : Array Oper := cdO c51_3
noncomputable def r51_6 : Array Oper := cdO c51_6
noncomputable def r51_11 : Array Oper := cdO c51_11
noncomputable def r51_17 : Array Oper := cdO c51_17
noncomputable def r51_18 : Array Oper := cdO c51_18
noncomputable def r51_20 : Array Oper := cdO c51_20
theorem c51_0e : c51_0 = .seq c51_1 c51_2 := by kernel_rfl
theorem c51_1e : c51_1 = .region 0 r51_1 false := by kernel_rfl
theorem c51_2e : c51_2 = .seq c51_3 c51_4 := by kernel_rfl
theorem c51_3e : c51_3 = .region 1 r51_3 false := by kernel_rfl
theorem c51_4e : c51_4 = .seq c51_5 c51_19 := by kernel_rfl
theorem c51_5e : c51_5 = .seq c51_6 c51_7 := by kernel_rfl
theorem c51_6e : c51_6 = .region 2 r51_6 false := by kernel_rfl
theorem c51_7e : c51_7 = .block 0 c51_8 := by kernel_rfl
theorem c51_8e : c51_8 = .loop c51_9 := by kernel_rfl
theorem c51_9e : c51_9 = .seq c51_10 c51_15 := by kernel_rfl
theorem c51_10e : c51_10 = .seq c51_11 c51_12 := by kernel_rfl
theorem c51_11e : c51_11 = .region 3 r51_11 false := by kernel_rfl
theorem c51_12e : c51_12 = .cond (cdC c51_12) c51_13 c51_14 := by kernel_rfl
theorem c51_13e : c51_13 = .skip := by kernel_rfl
theorem c51_14e : c51_14 = .exit 0 := by kernel_rfl
theorem c51_15e : c51_15 = .seq c51_16 c51_18 := by kernel_rfl
theorem c51_16e : c51_16 = .block 1 c51_17 := by kernel_rfl
theorem c51_17e : c51_17 = .region 5 r51_17 false := by kernel_rfl
theorem c51_18e : c51_18 = .region 4 r51_18 false := by kernel_rfl
theorem c51_19e : c51_19 = .seq c51_20 c51_21 := by kernel_rfl
theorem c51_20e : c51_20 = .region 6 r51_20 false := by kernel_rfl
theorem c51_21e : c51_21 = .ret := by kernel_rfl
noncomputable def tontineref16_nums.R (A_2 : Option Addr) (c_3 : Nat) : Pst (List UInt8) where
  ε := Unit
  v := fun r x => .string (bs r)
  H := fun r x => []
  B := fun r x => []
noncomputable def tontineref16_nums.cx (A_2 : Option Addr) (c_3 : Nat) (w0 : World) (S0 : Fam) : Cx (List UInt8) := ⟨Try.prog, 51, Try.f51, 19, w0, S0, [], 0, tontineref16_nums.R A_2 c_3⟩
theorem tontineref16_nums_l0_ok (n : Nat) (l_1 : (List Int)) (A_2 : Option Addr) (c_3 : Nat) (w0 : World) (S0 : Fam) :
    ∀ (k : Nat) (s_4 : (List UInt8)) (i_5 : Int), GoO (tontineref16_nums.cx A_2 c_3 w0 S0) [(0, .slice A_2 l_1.length c_3), (3, .string (bs s_4)), (4, .int .i64 i_5)] [] [Rd 0 (Kd.int .u64) A_2 c_3 l_1] [.code c51_9, .inLoop c51_9, .inBlock 0, .code c51_19] (tontineref16_nums.l0 n l_1 k s_4 i_5) := by
  intro k
  induction k with
  | zero => intros; rw [tontineref16_nums.l0.eq_1]; exact GoO.stop
  | succ k ih0 =>
    intro s_4 i_5
    rw [tontineref16_nums.l0.eq_2]
    refine GoO.seq' c51_9e ?_
    refine GoO.seq' c51_10e ?_
    refine GoO.region' (is := [0, 1, 2, 3]) c51_11e (by kernel_rfl) ?_
    refine GoO.exec (is := [0, 1, 2, 3]) (hs := [.p, .p, .p, .p]) (rest := []) (ks := [0, 3, 4, 8]) (env' := [(0, .slice A_2 l_1.length c_3), (3, .string (bs s_4)), (4, .int .i64 i_5), (8, .bool (decide (i_5 < (l_1.length : Int))))]) (H' := []) (ps := []) (by kernel_rfl) trivial ?_
    refine GoO.regionEnd ?_
    refine GoO.ite' c51_12e (by kernel_rfl) (fun h6 => ?_) (fun h6 => ?_)
    · refine GoO.skip' c51_13e ?_
      refine GoO.seq' c51_15e ?_
      refine GoO.block' c51_16e ?_
      refine GoO.region' (is := [0, 1, 2, 3, 4, 5, 6, 7]) c51_17e (by kernel_rfl) ?_
      refine GoO.exec (is := [0, 1, 2]) (hs := [.p, .p, .p]) (rest := [3, 4, 5, 6, 7]) (ks := [0, 4, 11, 12, 13]) (env' := [(0, .slice A_2 l_1.length c_3), (4, .int .i64 i_5), (11, .string (bs s_4)), (12, .slice A_2 l_1.length c_3), (13, .int .i64 i_5)]) (H' := []) (ps := []) (by kernel_rfl) trivial ?_
      refine GoO.guard (fun h7 => ?_)
      refine OpTo.go (GoO.idx (kk := .i64) (e := 22) (K := (Kd.int .u64)) (A := A_2) (c := c_3) (xs := l_1) (iv := i_5) (j := 0) rfl (by kernel_rfl) (by kernel_rfl) (by kernel_rfl) (by kernel_rfl) rfl Reads.rd rfl h7.1 h7.2 (by decide) rfl ?_)
      refine OpTo.go (GoO.ldE' (K := (Kd.int .u64)) (A := A_2) (c := c_3) (xs := l_1) (iN := i_5.toNat) (off := 0) (j := 0) rfl (by kernel_rfl) rfl Reads.rd (idx_lt h7.1 h7.2) (by decide) (Opn.flat _ _ _ _ _) (v := fun _ => .int .u64 (rdL l_1 i_5)) (fun _ => by kernel_rfl) _ (fun _ => rfl) (fun _ => ?_))
      refine OpTo.go (GoO.call rfl (by kernel_rfl) (by kernel_rfl) (tontineref03_Num_ok n (rdL l_1 i_5)) [[0]] [] [] [] (hks := []) (bks := [0]) (by kernel_rfl) (by kernel_rfl) (by kernel_rfl) (.inl rfl) rfl rfl (by kernel_rfl) (by kernel_rfl) _ (fun _ _ => rfl) _ _ (fun _ _ => rfl) (fun _ _ => rfl) (fun _ _ => by kernel_rfl) (fun _ _ => by kernel_rfl) (fun r_8 x_10 => ?_))
      refine GoO.shape (env' := [(0, .slice A_2 l_1.length c_3), (4, .int .i64 i_5), (11, .string (bs s_4)), (12, .slice A_2 l_1.length c_3), (13, .int .i64 i_5), (14, elemP A_2 i_5.toNat 1 0), (15, .int .u64 (rdL l_1 i_5)), (16, .string (bs r_8))]) (H' := []) (B' := [Rd 0 (Kd.int .u64) A_2 c_3 l_1]) (ks := [0, 4, 11, 12, 13, 14, 15, 16]) (by kernel_rfl) (by kernel_rfl) (by kernel_rfl) ?_
      refine GoO.guard (fun h9 => ?_)
      refine GoO.exec (is := [6, 7]) (hs := [.p, .p]) (rest := []) (ks := [0, 3, 4]) (env' := [(0, .slice A_2 l_1.length c_3), (3, .string (bs (s_4 ++ r_8))), (4, .int .i64 i_5)]) (H' := []) (ps := [s_4.length + r_8.length ≤ i64max]) (by kernel_rfl) (And.intro h9 trivial) ?_
      refine GoO.regionEnd ?_
      refine GoO.inBlock ?_
      refine GoO.region' (is := [0, 1, 2]) c51_18e (by kernel_rfl) ?_
      refine GoO.exec (is := [0, 1, 2]) (hs := [.p, .p, .p]) (rest := []) (ks := [0, 3, 4]) (env' := [(0, .slice A_2 l_1.length c_3), (3, .string (bs (s_4 ++ r_8))), (4, .int .i64 (wi64 (i_5 + 1)))]) (H' := []) (ps := []) (by kernel_rfl) trivial ?_
      refine GoO.regionEnd ?_
      refine GoO.inLoop ?_
      exact GoO.sub (ks := [0, 3, 4]) (hk := []) (bk := [0]) (by kernel_rfl) (by kernel_rfl) (by kernel_rfl) (ih0 (s_4 ++ r_8) (wi64 (i_5 + 1)))
    · refine GoO.exit' c51_14e rfl ?_
      refine GoO.seq' c51_19e ?_
      refine GoO.region' (is := [0, 1]) c51_20e (by kernel_rfl) ?_
      refine GoO.exec (is := [0, 1]) (hs := [.p, .p]) (rest := []) (ks := [2]) (env' := [(2, .string (bs s_4))]) (H' := []) (ps := []) (by kernel_rfl) trivial ?_
      refine GoO.regionEnd ?_
      exact GoO.ret' (h := c51_21e) (hs := []) (ps := []) (hk := []) (bk := []) Try.func51 () (by kernel_rfl) trivial (by kernel_rfl) (by kernel_rfl)
theorem tontineref16_nums_ok (n : Nat) (l_1 : (List Int)) (A_2 : Option Addr) (c_3 : Nat) :
    Meets Try.prog 51 [.slice A_2 l_1.length c_3] 0 [] [] [Rd 0 (Kd.int .u64) A_2 c_3 l_1] (tontineref16_nums.f n l_1) (tontineref16_nums.R A_2 c_3) := by
  refine Meets.of (c := c51_0) (n := 19) Try.func51 (by kernel_rfl) (by kernel_rfl) (by kernel_rfl) fun w0 S0 => ?_
  unfold tontineref16_nums.f
  show GoO (tontineref16_nums.cx A_2 c_3 w0 S0) [(0, .slice A_2 l_1.length c_3)] [] [Rd 0 (Kd.int .u64) A_2 c_3 l_1] [.code c51_0] _
  refine GoO.seq' c51_0e ?_
  refine GoO.region' (is := [0]) c51_1e (by kernel_rfl) ?_
  refine GoO.exec (is := [0]) (hs := [.p]) (rest := []) (ks := [0]) (env' := [(0, .slice A_2 l_1.length c_3)]) (H' := []) (ps := []) (by kernel_rfl) trivial ?_
  refine GoO.regionEnd ?_
  refine GoO.seq' c51_2e ?_
  refine GoO.region' (is := [0]) c51_3e (by kernel_rfl) ?_
  refine GoO.exec (is := [0]) (hs := [.p]) (rest := []) (ks := [0, 3]) (env' := [(0, .slice A_2 l_1.length c_3), (3, .string (bs []))]) (H' := []) (ps := []) (by kernel_rfl) trivial ?_
  refine GoO.regionEnd ?_
  refine GoO.seq' c51_4e ?_
  refine GoO.seq' c51_5e ?_
  refine GoO.region' (is := [0]) c51_6e (by kernel_rfl) ?_
  refine GoO.exec (is := [0]) (hs := [.p]) (rest := []) (ks := [0, 3, 4]) (env' := [(0, .slice A_2 l_1.length c_3), (3, .string (bs [])), (4, .int .i64 0)]) (H' := []) (ps := []) (by kernel_rfl) trivial ?_
  refine GoO.regionEnd ?_
  refine GoO.block' c51_7e ?_
  refine GoO.loop' c51_8e ?_
  exact GoO.sub (ks := [0, 3, 4]) (hk := []) (bk := [0]) (by kernel_rfl) (by kernel_rfl) (by kernel_rfl) (tontineref16_nums_l0_ok n l_1 A_2 c_3 w0 S0 n [] 0)

/-! tontine/tontineref03.Text -/
noncomputable def c67_0 : Code := bodyOf Try.f67
noncomputable def c67_1 : Code := cdL c67_0
noncomputable def c67_2 : Code := cdR c67_0
noncomputable def c67_3 : Code := cdL c67_2
noncomputable def c67_4 : Code := cdR c67_2
noncomputable def r67_1 : Array Oper := cdO c67_1
noncomputable def r67_3 : Array Oper := cdO c67_3
theorem c67_0e : c67_0 = .seq c67_1 c67_2 := by kernel_rfl
theorem c67_1e : c67_1 = .region 0 r67_1 false := by kernel_rfl
theorem c67_2e : c67_2 = .seq c67_3 c67_4 := by kernel_rfl
theorem c67_3e : c67_3 = .region 1 r67_3 false := by kernel_rfl
theorem c67_4e : c67_4 = .ret := by kernel_rfl
noncomputable def tontineref03_Text.R : Pst (List UInt8) where
  ε := Unit
  v := fun r x => .string (bs r)
  H := fun r x => []
  B := fun r x => []
noncomputable def tontineref03_Text.cx (w0 : World) (S0 : Fam) : Cx (List UInt8) := ⟨Try.prog, 67, Try.f67, 9, w0, S0, [], 0, tontineref03_Text.R⟩
theorem tontineref03_Text_ok (n : Nat) (s_1 : (List UInt8)) :
    Meets Try.prog 67 [.string (bs s_1)] 0 [] [] [] (tontineref03_Text.f n s_1) (tontineref03_Text.R) := by
  refine Meets.of (c := c67_0) (n := 9) Try.func67 (by kernel_rfl) (by kernel_rfl) (by kernel_rfl) fun w0 S0 => ?_
  unfold tontineref03_Text.f
  show GoO (tontineref03_Text.cx w0 S0) [(0, .string (bs s_1))] [] [] [.code c67_0] _
  refine GoO.seq' c67_0e ?_
  refine GoO.region' (is := [0]) c67_1e (by kernel_rfl) ?_
  refine GoO.exec (is := [0]) (hs := [.p]) (rest := []) (ks := [0]) (env' := [(0, .string (bs s_1))]) (H' := []) (ps := []) (by kernel_rfl) trivial ?_
  refine GoO.regionEnd ?_
  refine GoO.seq' c67_2e ?_
  refine GoO.region' (is := [0, 1, 2, 3, 4, 5, 6]) c67_3e (by kernel_rfl) ?_
  refine GoO.exec (is := [0, 1, 2]) (hs := [.p, .p, .p]) (rest := [3, 4, 5, 6]) (ks := [0, 5]) (env' := [(0, .string (bs s_1)), (5, .int .u64 (wu64 (s_1.length : Int)))]) (H' := []) (ps := []) (by kernel_rfl) trivial ?_
  refine OpTo.go (GoO.call rfl (by kernel_rfl) (by kernel_rfl) (tontineref03_Num_ok n (wu64 (s_1.length : Int))) [[0]] [] [] [] (hks := []) (bks := []) (by kernel_rfl) (by kernel_rfl) (by kernel_rfl) (.inl rfl) rfl rfl (by kernel_rfl) (by kernel_rfl) _ (fun _ _ => rfl) _ _ (fun _ _ => rfl) (fun _ _ => rfl) (fun _ _ => by kernel_rfl) (fun _ _ => by kernel_rfl) (fun r_2 x_4 => ?_))
  refine GoO.shape (env' := [(0, .string (bs s_1)), (5, .int .u64 (wu64 (s_1.length : Int))), (6, .string (bs r_2))]) (H' := []) (B' := []) (ks := [0, 5, 6]) (by kernel_rfl) (by kernel_rfl) (by kernel_rfl) ?_
  refine GoO.guard (fun h3 => ?_)
  refine GoO.exec (is := [4, 5, 6]) (hs := [.p, .p, .p]) (rest := []) (ks := [2]) (env' := [(2, .string (bs (r_2 ++ s_1)))]) (H' := []) (ps := [r_2.length + s_1.length ≤ i64max]) (by kernel_rfl) (And.intro h3 trivial) ?_
  refine GoO.regionEnd ?_
  exact GoO.ret' (h := c67_4e) (hs := []) (ps := []) (hk := []) (bk := []) Try.func67 () (by kernel_rfl) trivial (by kernel_rfl) (by kernel_rfl)

/-! tontine/tontineref13.Bytes -/
noncomputable def c52_0 : Code := bodyOf Try.f52
noncomputable def c52_1 : Code := cdL c52_0
noncomputable def c52_2 : Code := cdR c52_0
noncomputable def c52_3 : Code := cdL c52_2
noncomputable def c52_4 : Code := cdR c52_2
noncomputable def c52_5 : Code := cdL c52_4
noncomputable def c52_6 : Code := cdL c52_5
noncomputable def c52_7 : Code := cdR c52_5
noncomputable def c52_8 : Code := cdL c52_7
noncomputable def c52_9 : Code := cdL c52_8
noncomputable def c52_10 : Code := cdL c52_9
noncomputable def c52_11 : Code := cdL c52_10
noncomputable def c52_12 : Code := cdR c52_10
noncomputable def c52_13 : Code := cdL c52_12
noncomputable def c52_14 : Code := cdR c52_12
noncomputable def c52_15 : Code := cdR c52_9
noncomputable def c52_16 : Code := cdL c52_15
noncomputable def c52_17 : Code := cdL c52_16
noncomputable def c52_18 : Code := cdR c52_15
noncomputable def c52_19 : Code := cdR c52_4
noncomputable def c52_20 : Code := cdL c52_19
noncomputable def c52_21 : Code := cdR c52_19
noncomputable def r52_1 : Array Oper := cdO c52_1
noncomputable def r52_3 : Array Oper := cdO c52_3
noncomputable def r52_6 : Array Oper := cdO c52_6
noncomputable def r52_11 : Array Oper := cdO c52_11
noncomputable def r52_17 : Array Oper := cdO c52_17
noncomputable def r52_18 : Array Oper := cdO c52_18
noncomputable def r52_20 : Array Oper := cdO c52_20
theorem c52_0e : c52_0 = .seq c52_1 c52_2 := by kernel_rfl
theorem c52_1e : c52_1 = .region 0 r52_1 false := by kernel_rfl
theorem c52_2e : c52_2 = .seq c52_3 c52_4 := by kernel_rfl
theorem c52_3e : c52_3 = .region 1 r52_3 false := by kernel_rfl
theorem c52_4e : c52_4 = .seq c52_5 c52_19 := by kernel_rfl
theorem c52_5e : c52_5 = .seq c52_6 c52_7 := by kernel_rfl
theorem c52_6e : c52_6 = .region 2 r52_6 false := by kernel_rfl
theorem c52_7e : c52_7 = .block 0 c52_8 := by kernel_rfl
theorem c52_8e : c52_8 = .loop c52_9 := by kernel_rfl
theorem c52_9e : c52_9 = .seq c52_10 c52_15 := by kernel_rfl
theorem c52_10e : c52_10 = .seq c52_11 c52_12 := by kernel_rfl
theorem c52_11e : c52_11 = .region 3 r52_11 false := by kernel_rfl
theorem c52_12e : c52_12 = .cond (cdC c52_12) c52_13 c52_14 := by kernel_rfl
theorem c52_13e : c52_13 = .skip := by kernel_rfl
theorem c52_14e : c52_14 = .exit 0 := by kernel_rfl
theorem c52_15e : c52_15 = .seq c52_16 c52_18 := by kernel_rfl
theorem c52_16e : c52_16 = .block 1 c52_17 := by kernel_rfl
theorem c52_17e : c52_17 = .region 5 r52_17 true := by kernel_rfl
theorem c52_18e : c52_18 = .region 4 r52_18 false := by kernel_rfl
theorem c52_19e : c52_19 = .seq c52_20 c52_21 := by kernel_rfl
theorem c52_20e : c52_20 = .region 6 r52_20 false := by kernel_rfl
theorem c52_21e : c52_21 = .ret := by kernel_rfl
noncomputable def tontineref13_Bytes.R (A_2 : Option Addr) (c_3 : Nat) : Pst (List UInt8) where
  ε := Unit
  v := fun r x => .string (bs r)
  H := fun r x => []
  B := fun r x => []
noncomputable def tontineref13_Bytes.cx (A_2 : Option Addr) (c_3 : Nat) (w0 : World) (S0 : Fam) : Cx (List UInt8) := ⟨Try.prog, 52, Try.f52, 40, w0, S0, [], 0, tontineref13_Bytes.R A_2 c_3⟩
theorem tontineref13_Bytes_l0_ok (n : Nat) (l_1 : (List T_api_Step)) (A_2 : Option Addr) (c_3 : Nat) (w0 : World) (S0 : Fam) :
    ∀ (k : Nat) (s_5 : (List UInt8)) (i_6 : Int), GoO (tontineref13_Bytes.cx A_2 c_3 w0 S0) [(0, .slice A_2 l_1.length c_3), (3, .string (bs s_5)), (4, .int .i64 i_6)] [] [Rd 0 kT_api_Step A_2 c_3 l_1] [.code c52_9, .inLoop c52_9, .inBlock 0, .code c52_19] (tontineref13_Bytes.l0 n l_1 k s_5 i_6) := by
  intro k
  induction k with
  | zero => intros; rw [tontineref13_Bytes.l0.eq_1]; exact GoO.stop
  | succ k ih0 =>
    intro s_5 i_6
    rw [tontineref13_Bytes.l0.eq_2]
    refine GoO.seq' c52_9e ?_
    refine GoO.seq' c52_10e ?_
    refine GoO.region' (is := [0, 1, 2, 3]) c52_11e (by kernel_rfl) ?_
    refine GoO.exec (is := [0, 1, 2, 3]) (hs := [.p, .p, .p, .p]) (rest := []) (ks := [0, 3, 4, 12]) (env' := [(0, .slice A_2 l_1.length c_3), (3, .string (bs s_5)), (4, .int .i64 i_6), (12, .bool (decide (i_6 < (l_1.length : Int))))]) (H' := []) (ps := []) (by kernel_rfl) trivial ?_
    refine GoO.regionEnd ?_
    refine GoO.ite' c52_12e (by kernel_rfl) (fun h7 => ?_) (fun h7 => ?_)
    · refine GoO.skip' c52_13e ?_
      refine GoO.seq' c52_15e ?_
      refine GoO.block' c52_16e ?_
      refine GoO.draw c52_17e (by kernel_rfl) [24] [] [Rd 0 kT_api_Step A_2 c_3 l_1] (n := 25) (by kernel_rfl) ?_
      simp only [List.replicate]
      refine GoF.take [0, 1, 2, 8, 9, 15, 16] [.p, .p, .p, .p, .p, .p, .p] (ks := [0, 4, 15, 16, 17, 23, 24, 30, 31]) (fu := 18) (li := [true, true, true, false, false, false, false, false, true, true, false, false, false, false, false, true, true, false, false, false, false, false, false, false, false]) (env' := [(0, .slice A_2 l_1.length c_3), (4, .int .i64 i_6), (15, .string (bs s_5)), (16, .slice A_2 l_1.length c_3), (17, .int .i64 i_6), (23, .slice A_2 l_1.length c_3), (24, .int .i64 i_6), (30, .slice A_2 l_1.length c_3), (31, .int .i64 i_6)]) (ps := []) (hk := []) (bk := [0]) (by kernel_rfl) trivial rfl rfl ?_
      refine GoF.guard (fun h8 => ?_)
      refine GoF.idx (i := 3) (hk := []) (bk := [0]) (kk := .i64) (e := 50) (K := kT_api_Step) (A := A_2) (c := c_3) (xs := l_1) (iv := i_6) (j := 0) (by kernel_rfl) rfl rfl rfl (by kernel_rfl) (by kernel_rfl) (by kernel_rfl) (by kernel_rfl) rfl Reads.rd rfl h8.1 h8.2 (by decide) rfl ?_
      refine GoF.fldE (i := 4) (hk := []) (bk := [0]) (K := kT_api_Step) (A := A_2) (c := c_3) (xs := l_1) (iN := i_6.toNat) (off := 0) (n := 0) (j := 0) (by kernel_rfl) rfl rfl rfl (by kernel_rfl) (by kernel_rfl) rfl Reads.rd (idx_lt h8.1 h8.2) (by decide) rfl ?_
      refine GoF.ldE (i := 5) (hk := []) (bk := [0]) (K := kT_api_Step) (A := A_2) (c := c_3) (xs := l_1) (iN := i_6.toNat) (off := 0) (j := 0) (v := .int .i64 ((rdL l_1 i_6).Part)) (by kernel_rfl) rfl rfl rfl (hK := rfl) (by kernel_rfl) rfl Reads.rd (idx_lt h8.1 h8.2) (by decide) (by kernel_rfl) rfl ?_
      refine GoF.take [6] [.p] (ks := [0, 4, 15, 21, 23, 24, 30, 31]) (fu := 14) (li := [true, true, true, true, true, true, true, false, true, true, false, false, false, false, false, true, true, false, false, false, false, false, false, false, false]) (env' := [(0, .slice A_2 l_1.length c_3), (4, .int .i64 i_6), (15, .string (bs s_5)), (21, .int .u64 (wu64 ((rdL l_1 i_6).Part))), (23, .slice A_2 l_1.length c_3), (24, .int .i64 i_6), (30, .slice A_2 l_1.length c_3), (31, .int .i64 i_6)]) (ps := []) (hk := []) (bk := [0]) (by kernel_rfl) trivial rfl rfl ?_
      refine GoF.guard (fun h9 => ?_)
      refine GoF.idx (i := 10) (hk := []) (bk := [0]) (kk := .i64) (e := 50) (K := kT_api_Step) (A := A_2) (c := c_3) (xs := l_1) (iv := i_6) (j := 0) (by kernel_rfl) rfl rfl rfl (by kernel_rfl) (by kernel_rfl) (by kernel_rfl) (by kernel_rfl) rfl Reads.rd rfl h9.1 h9.2 (by decide) rfl ?_
      refine GoF.fldE (i := 11) (hk := []) (bk := [0]) (K := kT_api_Step) (A := A_2) (c := c_3) (xs := l_1) (iN := i_6.toNat) (off := 0) (n := 1) (j := 0) (by kernel_rfl) rfl rfl rfl (by kernel_rfl) (by kernel_rfl) rfl Reads.rd (idx_lt h9.1 h9.2) (by decide) rfl ?_
      refine GoF.ldE (i := 12) (hk := []) (bk := [0]) (K := kT_api_Step) (A := A_2) (c := c_3) (xs := l_1) (iN := i_6.toNat) (off := 1) (j := 0) (v := .string (bs ((rdL l_1 i_6).Name))) (by kernel_rfl) rfl rfl rfl (hK := rfl) (by kernel_rfl) rfl Reads.rd (idx_lt h9.1 h9.2) (by decide) (by kernel_rfl) rfl ?_
      refine GoF.guard (fun h10 => ?_)
      refine GoF.idx (i := 17) (hk := []) (bk := [0]) (kk := .i64) (e := 50) (K := kT_api_Step) (A := A_2) (c := c_3) (xs := l_1) (iv := i_6) (j := 0) (by kernel_rfl) rfl rfl rfl (by kernel_rfl) (by kernel_rfl) (by kernel_rfl) (by kernel_rfl) rfl Reads.rd rfl h10.1 h10.2 (by decide) rfl ?_
      refine GoF.fldE (i := 18) (hk := []) (bk := [0]) (K := kT_api_Step) (A := A_2) (c := c_3) (xs := l_1) (iN := i_6.toNat) (off := 0) (n := 2) (j := 0) (by kernel_rfl) rfl rfl rfl (by kernel_rfl) (by kernel_rfl) rfl Reads.rd (idx_lt h10.1 h10.2) (by decide) rfl ?_
      refine GoF.ldE (i := 19) (hk := []) (bk := [0]) (K := kT_api_Step) (A := A_2) (c := c_3) (xs := l_1) (iN := i_6.toNat) (off := 2) (j := 0) (v := .int .i64 ((rdL l_1 i_6).Budget)) (by kernel_rfl) rfl rfl rfl (hK := rfl) (by kernel_rfl) rfl Reads.rd (idx_lt h10.1 h10.2) (by decide) (by kernel_rfl) rfl ?_
      refine GoF.take [20] [.p] (ks := [0, 4, 15, 21, 27, 35]) (fu := 7) (li := [true, true, true, true, true, true, true, false, true, true, true, true, true, false, false, true, true, true, true, true, true, false, false, false, false]) (env' := [(0, .slice A_2 l_1.length c_3), (4, .int .i64 i_6), (15, .string (bs s_5)), (21, .int .u64 (wu64 ((rdL l_1 i_6).Part))), (27, .string (bs ((rdL l_1 i_6).Name))), (35, .int .u64 (wu64 ((rdL l_1 i_6).Budget)))]) (ps := []) (hk := []) (bk := [0]) (by kernel_rfl) trivial rfl rfl ?_
      refine OpTo.goF (i := 7) (by kernel_rfl) (hk := []) (bk := [0]) (GoO.call rfl (by kernel_rfl) (by kernel_rfl) (tontineref03_Num_ok n (wu64 ((rdL l_1 i_6).Part))) [[0]] [] [] [] (hks := []) (bks := [0]) (by kernel_rfl) (by kernel_rfl) (by kernel_rfl) (.inl rfl) rfl rfl (by kernel_rfl) (by kernel_rfl) _ (fun _ _ => rfl) _ _ (fun _ _ => rfl) (fun _ _ => rfl) (fun _ _ => by kernel_rfl) (fun _ _ => by kernel_rfl) (fun r_11 x_19 => ⟨rfl, rfl, ?_⟩))
      refine GoF.shape (env' := [(0, .slice A_2 l_1.length c_3), (4, .int .i64 i_6), (15, .string (bs s_5)), (21, .int .u64 (wu64 ((rdL l_1 i_6).Part))), (22, .string (bs r_11)), (27, .string (bs ((rdL l_1 i_6).Name))), (35, .int .u64 (wu64 ((rdL l_1 i_6).Budget)))]) (H' := []) (B' := [Rd 0 kT_api_Step A_2 c_3 l_1]) (ks := [0, 4, 15, 21, 22, 27, 35]) (by kernel_rfl) (by kernel_rfl) (by kernel_rfl) ?_
      refine OpTo.goF (i := 13) (by kernel_rfl) (hk := []) (bk := [0]) (GoO.call rfl (by kernel_rfl) (by kernel_rfl) (tontineref03_Text_ok n ((rdL l_1 i_6).Name)) [[0]] [] [] [] (hks := []) (bks := [0]) (by kernel_rfl) (by kernel_rfl) (by kernel_rfl) (.inl rfl) rfl rfl (by kernel_rfl) (by kernel_rfl) _ (fun _ _ => rfl) _ _ (fun _ _ => rfl) (fun _ _ => rfl) (fun _ _ => by kernel_rfl) (fun _ _ => by kernel_rfl) (fun r_12 x_18 => ⟨rfl, rfl, ?_⟩))
      refine GoF.shape (env' := [(0, .slice A_2 l_1.length c_3), (4, .int .i64 i_6), (15, .string (bs s_5)), (21, .int .u64 (wu64 ((rdL l_1 i_6).Part))), (22, .string (bs r_11)), (27, .string (bs ((rdL l_1 i_6).Name))), (28, .string (bs r_12)), (35, .int .u64 (wu64 ((rdL l_1 i_6).Budget)))]) (H' := []) (B' := [Rd 0 kT_api_Step A_2 c_3 l_1]) (ks := [0, 4, 15, 21, 22, 27, 28, 35]) (by kernel_rfl) (by kernel_rfl) (by kernel_rfl) ?_
      refine GoF.guard (fun h13 => ?_)
      refine GoF.take [14] [.p] (ks := [0, 4, 15, 29, 35]) (fu := 4) (li := [true, true, true, true, true, true, true, true, true, true, true, true, true, true, true, true, true, true, true, true, true, false, false, false, false]) (env' := [(0, .slice A_2 l_1.length c_3), (4, .int .i64 i_6), (15, .string (bs s_5)), (29, .string (bs (r_11 ++ r_12))), (35, .int .u64 (wu64 ((rdL l_1 i_6).Budget)))]) (ps := [r_11.length + r_12.length ≤ i64max]) (hk := []) (bk := [0]) (by kernel_rfl) (And.intro h13 trivial) rfl rfl ?_
      refine OpTo.goF (i := 21) (by kernel_rfl) (hk := []) (bk := [0]) (GoO.call rfl (by kernel_rfl) (by kernel_rfl) (tontineref03_Num_ok n (wu64 ((rdL l_1 i_6).Budget))) [[0]] [] [] [] (hks := []) (bks := [0]) (by kernel_rfl) (by kernel_rfl) (by kernel_rfl) (.inl rfl) rfl rfl (by kernel_rfl) (by kernel_rfl) _ (fun _ _ => rfl) _ _ (fun _ _ => rfl) (fun _ _ => rfl) (fun _ _ => by kernel_rfl) (fun _ _ => by kernel_rfl) (fun r_14 x_17 => ⟨rfl, rfl, ?_⟩))
      refine GoF.shape (env' := [(0, .slice A_2 l_1.length c_3), (4, .int .i64 i_6), (15, .string (bs s_5)), (29, .string (bs (r_11 ++ r_12))), (35, .int .u64 (wu64 ((rdL l_1 i_6).Budget))), (36, .string (bs r_14))]) (H' := []) (B' := [Rd 0 kT_api_Step A_2 c_3 l_1]) (ks := [0, 4, 15, 29, 35, 36]) (by kernel_rfl) (by kernel_rfl) (by kernel_rfl) ?_
      refine GoF.guard (fun h15 => ?_)
      refine GoF.guard (fun h16 => ?_)
      refine GoF.take [22, 23] [.p, .p] (ks := [0, 4, 38]) (fu := 1) (li := [true, true, true, true, true, true, true, true, true, true, true, true, true, true, true, true, true, true, true, true, true, true, true, true, false]) (env' := [(0, .slice A_2 l_1.length c_3), (4, .int .i64 i_6), (38, .string (bs (s_5 ++ ((r_11 ++ r_12) ++ r_14))))]) (ps := [(r_11 ++ r_12).length + r_14.length ≤ i64max, s_5.length + ((r_11 ++ r_12) ++ r_14).length ≤ i64max]) (hk := []) (bk := [0]) (by kernel_rfl) (And.intro h15 (And.intro h16 trivial)) rfl rfl ?_
      refine GoF.fin1 (i := 24) (hint := .p) (ps := []) (hk := []) (bk := []) (by kernel_rfl) rfl trivial (.inl rfl) ?_
      refine GoF.done (by kernel_rfl) ?_
      refine GoO.inBlock ?_
      refine GoO.region' (is := [0, 1, 2]) c52_18e (by kernel_rfl) ?_
      refine GoO.exec (is := [0, 1, 2]) (hs := [.p, .p, .p]) (rest := []) (ks := [0, 3, 4]) (env' := [(0, .slice A_2 l_1.length c_3), (3, .string (bs (s_5 ++ ((r_11 ++ r_12) ++ r_14)))), (4, .int .i64 (wi64 (i_6 + 1)))]) (H' := []) (ps := []) (by kernel_rfl) trivial ?_
      refine GoO.regionEnd ?_
      refine GoO.inLoop ?_
      exact GoO.sub (ks := [0, 3, 4]) (hk := []) (bk := [0]) (by kernel_rfl) (by kernel_rfl) (by kernel_rfl) (ih0 (s_5 ++ ((r_11 ++ r_12) ++ r_14)) (wi64 (i_6 + 1)))
    · refine GoO.exit' c52_14e rfl ?_
      refine GoO.seq' c52_19e ?_
      refine GoO.region' (is := [0, 1]) c52_20e (by kernel_rfl) ?_
      refine GoO.exec (is := [0, 1]) (hs := [.p, .p]) (rest := []) (ks := [2]) (env' := [(2, .string (bs s_5))]) (H' := []) (ps := []) (by kernel_rfl) trivial ?_
      refine GoO.regionEnd ?_
      exact GoO.ret' (h := c52_21e) (hs := []) (ps := []) (hk := []) (bk := []) Try.func52 () (by kernel_rfl) trivial (by kernel_rfl) (by kernel_rfl)
theorem tontineref13_Bytes_ok (n : Nat) (l_1 : (List T_api_Step)) (A_2 : Option Addr) (c_3 : Nat) :
    Meets Try.prog 52 [.slice A_2 l_1.length c_3] 0 [] [] [Rd 0 kT_api_Step A_2 c_3 l_1] (tontineref13_Bytes.f n l_1) (tontineref13_Bytes.R A_2 c_3) := by
  refine Meets.of (c := c52_0) (n := 40) Try.func52 (by kernel_rfl) (by kernel_rfl) (by kernel_rfl) fun w0 S0 => ?_
  unfold tontineref13_Bytes.f
  show GoO (tontineref13_Bytes.cx A_2 c_3 w0 S0) [(0, .slice A_2 l_1.length c_3)] [] [Rd 0 kT_api_Step A_2 c_3 l_1] [.code c52_0] _
  refine GoO.seq' c52_0e ?_
  refine GoO.region' (is := [0]) c52_1e (by kernel_rfl) ?_
  refine GoO.exec (is := [0]) (hs := [.p]) (rest := []) (ks := [0]) (env' := [(0, .slice A_2 l_1.length c_3)]) (H' := []) (ps := []) (by kernel_rfl) trivial ?_
  refine GoO.regionEnd ?_
  refine GoO.seq' c52_2e ?_
  refine GoO.region' (is := [0, 1, 2, 3, 4]) c52_3e (by kernel_rfl) ?_
  refine GoO.exec (is := [0, 1, 2]) (hs := [.p, .p, .p]) (rest := [3, 4]) (ks := [0, 7]) (env' := [(0, .slice A_2 l_1.length c_3), (7, .int .u64 (wu64 (l_1.length : Int)))]) (H' := []) (ps := []) (by kernel_rfl) trivial ?_
  refine OpTo.go (GoO.call rfl (by kernel_rfl) (by kernel_rfl) (tontineref03_Num_ok n (wu64 (l_1.length : Int))) [[0]] [] [] [] (hks := []) (bks := [0]) (by kernel_rfl) (by kernel_rfl) (by kernel_rfl) (.inl rfl) rfl rfl (by kernel_rfl) (by kernel_rfl) _ (fun _ _ => rfl) _ _ (fun _ _ => rfl) (fun _ _ => rfl) (fun _ _ => by kernel_rfl) (fun _ _ => by kernel_rfl) (fun r_4 x_20 => ?_))
  refine GoO.shape (env' := [(0, .slice A_2 l_1.length c_3), (7, .int .u64 (wu64 (l_1.length : Int))), (8, .string (bs r_4))]) (H' := []) (B' := [Rd 0 kT_api_Step A_2 c_3 l_1]) (ks := [0, 7, 8]) (by kernel_rfl) (by kernel_rfl) (by kernel_rfl) ?_
  refine GoO.exec (is := [4]) (hs := [.p]) (rest := []) (ks := [0, 3]) (env' := [(0, .slice A_2 l_1.length c_3), (3, .string (bs r_4))]) (H' := []) (ps := []) (by kernel_rfl) trivial ?_
  refine GoO.regionEnd ?_
  refine GoO.seq' c52_4e ?_
  refine GoO.seq' c52_5e ?_
  refine GoO.region' (is := [0]) c52_6e (by kernel_rfl) ?_
  refine GoO.exec (is := [0]) (hs := [.p]) (rest := []) (ks := [0, 3, 4]) (env' := [(0, .slice A_2 l_1.length c_3), (3, .string (bs r_4)), (4, .int .i64 0)]) (H' := []) (ps := []) (by kernel_rfl) trivial ?_
  refine GoO.regionEnd ?_
  refine GoO.block' c52_7e ?_
  refine GoO.loop' c52_8e ?_
  exact GoO.sub (ks := [0, 3, 4]) (hk := []) (bk := [0]) (by kernel_rfl) (by kernel_rfl) (by kernel_rfl) (tontineref13_Bytes_l0_ok n l_1 A_2 c_3 w0 S0 n r_4 0)

/-! tontine/tontineref16.truth -/
noncomputable def c53_0 : Code := bodyOf Try.f53
noncomputable def c53_1 : Code := cdL c53_0
noncomputable def c53_2 : Code := cdR c53_0
noncomputable def c53_3 : Code := cdL c53_2
noncomputable def c53_4 : Code := cdL c53_3
noncomputable def c53_5 : Code := cdR c53_3
noncomputable def c53_6 : Code := cdL c53_5
noncomputable def c53_7 : Code := cdL c53_6
noncomputable def c53_8 : Code := cdR c53_6
noncomputable def c53_9 : Code := cdR c53_5
noncomputable def c53_10 : Code := cdR c53_2
noncomputable def c53_11 : Code := cdL c53_10
noncomputable def c53_12 : Code := cdR c53_10
noncomputable def r53_1 : Array Oper := cdO c53_1
noncomputable def r53_4 : Array Oper := cdO c53_4
noncomputable def r53_7 : Array Oper := cdO c53_7
noncomputable def r53_11 : Array Oper := cdO c53_11
theorem c53_0e : c53_0 = .seq c53_1 c53_2 := by kernel_rfl
theorem c53_1e : c53_1 = .region 0 r53_1 false := by kernel_rfl
theorem c53_2e : c53_2 = .seq c53_3 c53_10 := by kernel_rfl
theorem c53_3e : c53_3 = .seq c53_4 c53_5 := by kernel_rfl
theorem c53_4e : c53_4 = .region 1 r53_4 false := by kernel_rfl
theorem c53_5e : c53_5 = .cond (cdC c53_5) c53_6 c53_9 := by kernel_rfl
theorem c53_6e : c53_6 = .seq c53_7 c53_8 := by kernel_rfl
theorem c53_7e : c53_7 = .region 2 r53_7 false := by kernel_rfl
theorem c53_8e : c53_8 = .ret := by kernel_rfl
theorem c53_9e : c53_9 = .skip := by kernel_rfl
theorem c53_10e : c53_10 = .seq c53_11 c53_12 := by kernel_rfl
theorem c53_11e : c53_11 = .region 3 r53_11 false := by kernel_rfl
theorem c53_12e : c53_12 = .ret := by kernel_rfl
noncomputable def tontineref16_truth.R : Pst Int where
  ε := Unit
  v := fun r x => .int .u64 r
  H := fun r x => []
  B := fun r x => []
noncomputable def tontineref16_truth.cx (w0 : World) (S0 : Fam) : Cx Int := ⟨Try.prog, 53, Try.f53, 4, w0, S0, [], 0, tontineref16_truth.R⟩
theorem tontineref16_truth_ok (n : Nat) (x_1 : Bool) :
    Meets Try.prog 53 [.bool x_1] 0 [] [] [] (tontineref16_truth.f n x_1) (tontineref16_truth.R) := by
  refine Meets.of (c := c53_0) (n := 4) Try.func53 (by kernel_rfl) (by kernel_rfl) (by kernel_rfl) fun w0 S0 => ?_
  unfold tontineref16_truth.f
  show GoO (tontineref16_truth.cx w0 S0) [(0, .bool x_1)] [] [] [.code c53_0] _
  refine GoO.seq' c53_0e ?_
  refine GoO.region' (is := [0]) c53_1e (by kernel_rfl) ?_
  refine GoO.exec (is := [0]) (hs := [.p]) (rest := []) (ks := [0]) (env' := [(0, .bool x_1)]) (H' := []) (ps := []) (by kernel_rfl) trivial ?_
  refine GoO.regionEnd ?_
  refine GoO.seq' c53_2e ?_
  refine GoO.seq' c53_3e ?_
  refine GoO.region' (is := [0]) c53_4e (by kernel_rfl) ?_
  refine GoO.exec (is := [0]) (hs := [.p]) (rest := []) (ks := [3]) (env' := [(3, .bool x_1)]) (H' := []) (ps := []) (by kernel_rfl) trivial ?_
  refine GoO.regionEnd ?_
  refine GoO.ite' c53_5e (by kernel_rfl) (fun h2 => ?_) (fun h2 => ?_)
  · refine GoO.seq' c53_6e ?_
    refine GoO.region' (is := [0]) c53_7e (by kernel_rfl) ?_
    refine GoO.exec (is := [0]) (hs := [.p]) (rest := []) (ks := [2]) (env' := [(2, .int .u64 1)]) (H' := []) (ps := []) (by kernel_rfl) trivial ?_
    refine GoO.regionEnd ?_
    exact GoO.ret' (h := c53_8e) (hs := []) (ps := []) (hk := []) (bk := []) Try.func53 () (by kernel_rfl) trivial (by kernel_rfl) (by kernel_rfl)
  · refine GoO.skip' c53_9e ?_
    refine GoO.seq' c53_10e ?_
    refine GoO.region' (is := [0]) c53_11e (by kernel_rfl) ?_
    refine GoO.exec (is := [0]) (hs := [.p]) (rest := []) (ks := [2]) (env' := [(2, .int .u64 0)]) (H' := []) (ps := []) (by kernel_rfl) trivial ?_
    refine GoO.regionEnd ?_
    exact GoO.ret' (h := c53_12e) (hs := []) (ps := []) (hk := []) (bk := []) Try.func53 () (by kernel_rfl) trivial (by kernel_rfl) (by kernel_rfl)

/-! tontine/tontineref16.Encode -/
noncomputable def c17_0 : Code := bodyOf Try.f17
noncomputable def c17_1 : Code := cdL c17_0
noncomputable def c17_2 : Code := cdR c17_0
noncomputable def c17_3 : Code := cdL c17_2
noncomputable def c17_4 : Code := cdL c17_3
noncomputable def c17_5 : Code := cdR c17_3
noncomputable def c17_6 : Code := cdL c17_5
noncomputable def c17_7 : Code := cdL c17_6
noncomputable def c17_8 : Code := cdR c17_6
noncomputable def c17_9 : Code := cdR c17_5
noncomputable def c17_10 : Code := cdR c17_2
noncomputable def c17_11 : Code := cdL c17_10
noncomputable def c17_12 : Code := cdL c17_11
noncomputable def c17_13 : Code := cdR c17_11
noncomputable def c17_14 : Code := cdL c17_13
noncomputable def c17_15 : Code := cdL c17_14
noncomputable def c17_16 : Code := cdR c17_14
noncomputable def c17_17 : Code := cdR c17_13
noncomputable def c17_18 : Code := cdR c17_10
noncomputable def c17_19 : Code := cdL c17_18
noncomputable def c17_20 : Code := cdR c17_18
noncomputable def c17_21 : Code := cdL c17_20
noncomputable def c17_22 : Code := cdL c17_21
noncomputable def c17_23 : Code := cdR c17_21
noncomputable def c17_24 : Code := cdL c17_23
noncomputable def c17_25 : Code := cdR c17_23
noncomputable def c17_26 : Code := cdR c17_20
noncomputable def c17_27 : Code := cdL c17_26
noncomputable def c17_28 : Code := cdL c17_27
noncomputable def c17_29 : Code := cdR c17_27
noncomputable def c17_30 : Code := cdL c17_29
noncomputable def c17_31 : Code := cdR c17_29
noncomputable def c17_32 : Code := cdR c17_26
noncomputable def c17_33 : Code := cdL c17_32
noncomputable def c17_34 : Code := cdR c17_32
noncomputable def r17_1 : Array Oper := cdO c17_1
noncomputable def r17_4 : Array Oper := cdO c17_4
noncomputable def r17_7 : Array Oper := cdO c17_7
noncomputable def r17_12 : Array Oper := cdO c17_12
noncomputable def r17_15 : Array Oper := cdO c17_15
noncomputable def r17_19 : Array Oper := cdO c17_19
noncomputable def r17_22 : Array Oper := cdO c17_22
noncomputable def r17_24 : Array Oper := cdO c17_24
noncomputable def r17_28 : Array Oper := cdO c17_28
noncomputable def r17_30 : Array Oper := cdO c17_30
noncomputable def r17_33 : Array Oper := cdO c17_33
theorem c17_0e : c17_0 = .seq c17_1 c17_2 := by kernel_rfl
theorem c17_1e : c17_1 = .region 0 r17_1 false := by kernel_rfl
theorem c17_2e : c17_2 = .seq c17_3 c17_10 := by kernel_rfl
theorem c17_3e : c17_3 = .seq c17_4 c17_5 := by kernel_rfl
theorem c17_4e : c17_4 = .region 1 r17_4 false := by kernel_rfl
theorem c17_5e : c17_5 = .cond (cdC c17_5) c17_6 c17_9 := by kernel_rfl
theorem c17_6e : c17_6 = .seq c17_7 c17_8 := by kernel_rfl
theorem c17_7e : c17_7 = .region 2 r17_7 false := by kernel_rfl
theorem c17_8e : c17_8 = .ret := by kernel_rfl
theorem c17_9e : c17_9 = .skip := by kernel_rfl
theorem c17_10e : c17_10 = .seq c17_11 c17_18 := by kernel_rfl
theorem c17_11e : c17_11 = .seq c17_12 c17_13 := by kernel_rfl
theorem c17_12e : c17_12 = .region 3 r17_12 false := by kernel_rfl
theorem c17_13e : c17_13 = .cond (cdC c17_13) c17_14 c17_17 := by kernel_rfl
theorem c17_14e : c17_14 = .seq c17_15 c17_16 := by kernel_rfl
theorem c17_15e : c17_15 = .region 4 r17_15 false := by kernel_rfl
theorem c17_16e : c17_16 = .ret := by kernel_rfl
theorem c17_17e : c17_17 = .skip := by kernel_rfl
theorem c17_18e : c17_18 = .seq c17_19 c17_20 := by kernel_rfl
theorem c17_19e : c17_19 = .region 5 r17_19 false := by kernel_rfl
theorem c17_20e : c17_20 = .seq c17_21 c17_26 := by kernel_rfl
theorem c17_21e : c17_21 = .seq c17_22 c17_23 := by kernel_rfl
theorem c17_22e : c17_22 = .region 6 r17_22 false := by kernel_rfl
theorem c17_23e : c17_23 = .cond (cdC c17_23) c17_24 c17_25 := by kernel_rfl
theorem c17_24e : c17_24 = .region 7 r17_24 false := by kernel_rfl
theorem c17_25e : c17_25 = .skip := by kernel_rfl
theorem c17_26e : c17_26 = .seq c17_27 c17_32 := by kernel_rfl
theorem c17_27e : c17_27 = .seq c17_28 c17_29 := by kernel_rfl
theorem c17_28e : c17_28 = .region 8 r17_28 false := by kernel_rfl
theorem c17_29e : c17_29 = .cond (cdC c17_29) c17_30 c17_31 := by kernel_rfl
theorem c17_30e : c17_30 = .region 9 r17_30 true := by kernel_rfl
theorem c17_31e : c17_31 = .skip := by kernel_rfl
theorem c17_32e : c17_32 = .seq c17_33 c17_34 := by kernel_rfl
theorem c17_33e : c17_33 = .region 10 r17_33 false := by kernel_rfl
theorem c17_34e : c17_34 = .ret := by kernel_rfl
noncomputable def tontineref16_Encode.R (A_2 : Option Addr) (c_3 : Nat) : Pst ((List UInt8) × Int) where
  ε := Unit
  v := fun r x => .tuple ⟨[.string (bs r.1), .int .i64 r.2]⟩
  H := fun r x => []
  B := fun r x => []
noncomputable def tontineref16_Encode.cx (A_2 : Option Addr) (c_3 : Nat) (w0 : World) (S0 : Fam) : Cx ((List UInt8) × Int) := ⟨Try.prog, 17, Try.f17, 58, w0, S0, [], 0, tontineref16_Encode.R A_2 c_3⟩
theorem tontineref16_Encode_j1_ok (n : Nat) (c_1 : T_api_Command) (A_2 : Option Addr) (c_3 : Nat) (b_4 : Nat) (w0 : World) (S0 : Fam) (s_17 : (List UInt8)) :
    GoO (tontineref16_Encode.cx A_2 c_3 w0 S0) [(1, .pointer (some ⟨b_4, 0, none⟩)), (4, .string (bs s_17))] [⟨40, b_4, [.int .i64 c_1.Kind, .int .u64 c_1.Session, .int .u64 c_1.Seq, .int .u64 c_1.Saga, .slice A_2 c_1.Steps.length c_3, .int .i64 c_1.Step, .bool c_1.Back, .int .i64 c_1.Try, .bool c_1.Ok, .int .u64 c_1.Now]⟩] [Rd 0 kT_api_Step A_2 c_3 c_1.Steps] [.code c17_26] (tontineref16_Encode.j1 n c_1 s_17) := by
  unfold tontineref16_Encode.j1
  refine GoO.seq' c17_26e ?_
  refine GoO.seq' c17_27e ?_
  refine GoO.region' (is := [0, 1, 2]) c17_28e (by kernel_rfl) ?_
  refine GoO.exec (is := [0, 1, 2]) (hs := [.p, .b 0, .p]) (rest := []) (ks := [1, 4, 40]) (env' := [(1, .pointer (some ⟨b_4, 0, none⟩)), (4, .string (bs s_17)), (40, .bool (c_1.Kind == 4))]) (H' := [⟨40, b_4, [.int .i64 c_1.Kind, .int .u64 c_1.Session, .int .u64 c_1.Seq, .int .u64 c_1.Saga, .slice A_2 c_1.Steps.length c_3, .int .i64 c_1.Step, .bool c_1.Back, .int .i64 c_1.Try, .bool c_1.Ok, .int .u64 c_1.Now]⟩]) (ps := [b_4 = b_4]) (by kernel_rfl) (And.intro rfl trivial) ?_
  refine GoO.regionEnd ?_
  refine GoO.ite' c17_29e (by kernel_rfl) (fun h18 => ?_) (fun h18 => ?_)
  · refine GoO.draw c17_30e (by kernel_rfl) [16] [⟨40, b_4, [.int .i64 c_1.Kind, .int .u64 c_1.Session, .int .u64 c_1.Seq, .int .u64 c_1.Saga, .slice A_2 c_1.Steps.length c_3, .int .i64 c_1.Step, .bool c_1.Back, .int .i64 c_1.Try, .bool c_1.Ok, .int .u64 c_1.Now]⟩] [] (n := 17) (by kernel_rfl) ?_
    simp only [List.replicate]
    refine GoF.take [0, 1, 2, 3, 4, 5, 7, 8, 9, 10, 11] [.p, .p, .b 0, .p, .p, .b 0, .p, .b 0, .p, .p, .b 0] (ks := [41, 44, 46, 50, 52]) (fu := 6) (li := [true, true, true, true, true, true, false, true, true, true, true, true, false, false, false, false, false]) (env' := [(41, .string (bs s_17)), (44, .int .u64 (wu64 c_1.Step)), (46, .bool c_1.Back), (50, .int .u64 (wu64 c_1.Try)), (52, .bool c_1.Ok)]) (ps := [b_4 = b_4, b_4 = b_4, b_4 = b_4, b_4 = b_4]) (hk := [0]) (bk := []) (by kernel_rfl) (And.intro rfl (And.intro rfl (And.intro rfl (And.intro rfl trivial)))) rfl rfl ?_
    refine OpTo.goF (i := 6) (by kernel_rfl) (hk := [0]) (bk := []) (GoO.call rfl (by kernel_rfl) (by kernel_rfl) (tontineref16_truth_ok n c_1.Back) [[0]] [] [] [] (hks := [0]) (bks := [0]) (by kernel_rfl) (by kernel_rfl) (by kernel_rfl) (.inl rfl) rfl rfl (by kernel_rfl) (by kernel_rfl) _ (fun _ _ => rfl) _ _ (fun _ _ => rfl) (fun _ _ => rfl) (fun _ _ => by kernel_rfl) (fun _ _ => by kernel_rfl) (fun r_19 x_27 => ⟨rfl, rfl, ?_⟩))
    refine GoF.shape (env' := [(41, .string (bs s_17)), (44, .int .u64 (wu64 c_1.Step)), (46, .bool c_1.Back), (47, .int .u64 r_19), (50, .int .u64 (wu64 c_1.Try)), (52, .bool c_1.Ok)]) (H' := [⟨40, b_4, [.int .i64 c_1.Kind, .int .u64 c_1.Session, .int .u64 c_1.Seq, .int .u64 c_1.Saga, .slice A_2 c_1.Steps.length c_3, .int .i64 c_1.Step, .bool c_1.Back, .int .i64 c_1.Try, .bool c_1.Ok, .int .u64 c_1.Now]⟩]) (B' := [Rd 0 kT_api_Step A_2 c_3 c_1.Steps]) (ks := [41, 44, 46, 47, 50, 52]) (by kernel_rfl) (by kernel_rfl) (by kernel_rfl) ?_
    refine OpTo.goF (i := 12) (by kernel_rfl) (hk := [0]) (bk := []) (GoO.call rfl (by kernel_rfl) (by kernel_rfl) (tontineref16_truth_ok n c_1.Ok) [[0]] [] [] [] (hks := [0]) (bks := [0]) (by kernel_rfl) (by kernel_rfl) (by kernel_rfl) (.inl rfl) rfl rfl (by kernel_rfl) (by kernel_rfl) _ (fun _ _ => rfl) _ _ (fun _ _ => rfl) (fun _ _ => rfl) (fun _ _ => by kernel_rfl) (fun _ _ => by kernel_rfl) (fun r_20 x_26 => ⟨rfl, rfl, ?_⟩))
    refine GoF.shape (env' := [(41, .string (bs s_17)), (44, .int .u64 (wu64 c_1.Step)), (46, .bool c_1.Back), (47, .int .u64 r_19), (50, .int .u64 (wu64 c_1.Try)), (52, .bool c_1.Ok), (53, .int .u64 r_20)]) (H' := [⟨40, b_4, [.int .i64 c_1.Kind, .int .u64 c_1.Session, .int .u64 c_1.Seq, .int .u64 c_1.Saga, .slice A_2 c_1.Steps.length c_3, .int .i64 c_1.Step, .bool c_1.Back, .int .i64 c_1.Try, .bool c_1.Ok, .int .u64 c_1.Now]⟩]) (B' := [Rd 0 kT_api_Step A_2 c_3 c_1.Steps]) (ks := [41, 44, 46, 47, 50, 52, 53]) (by kernel_rfl) (by kernel_rfl) (by kernel_rfl) ?_
    refine OpTo.goF (i := 13) (by kernel_rfl) (hk := [0]) (bk := []) (GoO.lit (e := 22) (K := (Kd.int .u64)) rfl (by kernel_rfl) (by kernel_rfl) (cs := [.int .u64 (wu64 c_1.Step), .int .u64 r_19, .int .u64 (wu64 c_1.Try), .int .u64 r_20]) (by kernel_rfl) [wu64 c_1.Step, r_19, wu64 c_1.Try, r_20] (by kernel_rfl) (by kernel_rfl) (fun w S hB => ⟨[.int .u64 (wu64 c_1.Step)], _, rfl, rfl, ⟨[.int .u64 r_19], _, rfl, rfl, ⟨[.int .u64 (wu64 c_1.Try)], _, rfl, rfl, ⟨[.int .u64 r_20], _, rfl, rfl, rfl⟩⟩⟩⟩) 42 _ (fun _ _ => rfl) (fun A_21 c_22 => ⟨rfl, rfl, ?_⟩))
    refine GoF.view (j := 0) rfl ?_
    refine OpTo.goF (i := 14) (by kernel_rfl) (hk := [0]) (bk := []) (GoO.call rfl (by kernel_rfl) (by kernel_rfl) (tontineref16_nums_ok n [wu64 c_1.Step, r_19, wu64 c_1.Try, r_20] A_21 c_22) [[0, 42]] [] [] [(0, 2)] (hks := [0]) (bks := [0, 1]) (by kernel_rfl) (by kernel_rfl) (by kernel_rfl) (.inr (fun _ _ => by simp [tontineref16_nums.R])) rfl rfl (by kernel_rfl) (by kernel_rfl) _ (fun _ _ => rfl) _ _ (fun _ _ => rfl) (fun _ _ => rfl) (fun _ _ => by kernel_rfl) (fun _ _ => by kernel_rfl) (fun r_23 x_25 => ⟨rfl, rfl, ?_⟩))
    refine GoF.shape (env' := [(41, .string (bs s_17)), (44, .int .u64 (wu64 c_1.Step)), (46, .bool c_1.Back), (47, .int .u64 r_19), (50, .int .u64 (wu64 c_1.Try)), (52, .bool c_1.Ok), (53, .int .u64 r_20), (54, .slice A_21 [wu64 c_1.Step, r_19, wu64 c_1.Try, r_20].length c_22), (55, .string (bs r_23))]) (H' := [⟨40, b_4, [.int .i64 c_1.Kind, .int .u64 c_1.Session, .int .u64 c_1.Seq, .int .u64 c_1.Saga, .slice A_2 c_1.Steps.length c_3, .int .i64 c_1.Step, .bool c_1.Back, .int .i64 c_1.Try, .bool c_1.Ok, .int .u64 c_1.Now]⟩]) (B' := [Ow 42 (Kd.int .u64) A_21 c_22 [wu64 c_1.Step, r_19, wu64 c_1.Try, r_20], Rd 0 kT_api_Step A_2 c_3 c_1.Steps]) (ks := [41, 44, 46, 47, 50, 52, 53, 54, 55]) (by kernel_rfl) (by kernel_rfl) (by kernel_rfl) ?_
    refine GoF.guard (fun h24 => ?_)
    refine GoF.take [15] [.p] (ks := [56]) (fu := 1) (li := [true, true, true, true, true, true, true, true, true, true, true, true, true, true, true, true, false]) (env' := [(56, .string (bs (s_17 ++ r_23)))]) (ps := [s_17.length + r_23.length ≤ i64max]) (hk := [0]) (bk := []) (by kernel_rfl) (And.intro h24 trivial) rfl rfl ?_
    refine GoF.fin1 (i := 16) (hint := .p) (ps := []) (hk := []) (bk := []) (by kernel_rfl) rfl trivial (.inl rfl) ?_
    refine GoF.done (by kernel_rfl) ?_
    refine GoO.seq' c17_32e ?_
    refine GoO.region' (is := [0, 1, 2]) c17_33e (by kernel_rfl) ?_
    refine GoO.exec (is := [0, 1, 2]) (hs := [.p, .p, .p]) (rest := []) (ks := [2, 3]) (env' := [(2, .string (bs (s_17 ++ r_23))), (3, .int .i64 0)]) (H' := [⟨40, b_4, [.int .i64 c_1.Kind, .int .u64 c_1.Session, .int .u64 c_1.Seq, .int .u64 c_1.Saga, .slice A_2 c_1.Steps.length c_3, .int .i64 c_1.Step, .bool c_1.Back, .int .i64 c_1.Try, .bool c_1.Ok, .int .u64 c_1.Now]⟩]) (ps := []) (by kernel_rfl) trivial ?_
    refine GoO.regionEnd ?_
    exact GoO.ret' (h := c17_34e) (hs := []) (ps := []) (hk := []) (bk := []) Try.func17 () (by kernel_rfl) trivial (by kernel_rfl) (by kernel_rfl)
  · refine GoO.skip' c17_31e ?_
    refine GoO.seq' c17_32e ?_
    refine GoO.region' (is := [0, 1, 2]) c17_33e (by kernel_rfl) ?_
    refine GoO.exec (is := [0, 1, 2]) (hs := [.p, .p, .p]) (rest := []) (ks := [2, 3]) (env' := [(2, .string (bs s_17)), (3, .int .i64 0)]) (H' := [⟨40, b_4, [.int .i64 c_1.Kind, .int .u64 c_1.Session, .int .u64 c_1.Seq, .int .u64 c_1.Saga, .slice A_2 c_1.Steps.length c_3, .int .i64 c_1.Step, .bool c_1.Back, .int .i64 c_1.Try, .bool c_1.Ok, .int .u64 c_1.Now]⟩]) (ps := []) (by kernel_rfl) trivial ?_
    refine GoO.regionEnd ?_
    exact GoO.ret' (h := c17_34e) (hs := []) (ps := []) (hk := []) (bk := []) Try.func17 () (by kernel_rfl) trivial (by kernel_rfl) (by kernel_rfl)
theorem tontineref16_Encode_j0_ok (n : Nat) (c_1 : T_api_Command) (A_2 : Option Addr) (c_3 : Nat) (b_4 : Nat) (w0 : World) (S0 : Fam) (b_7 : Bool) :
    GoO (tontineref16_Encode.cx A_2 c_3 w0 S0) [(1, .pointer (some ⟨b_4, 0, none⟩)), (13, .bool b_7)] [⟨40, b_4, [.int .i64 c_1.Kind, .int .u64 c_1.Session, .int .u64 c_1.Seq, .int .u64 c_1.Saga, .slice A_2 c_1.Steps.length c_3, .int .i64 c_1.Step, .bool c_1.Back, .int .i64 c_1.Try, .bool c_1.Ok, .int .u64 c_1.Now]⟩] [Rd 0 kT_api_Step A_2 c_3 c_1.Steps] [.code c17_5, .code c17_10] (tontineref16_Encode.j0 n c_1 b_7) := by
  unfold tontineref16_Encode.j0
  refine GoO.ite' c17_5e (by kernel_rfl) (fun h8 => ?_) (fun h8 => ?_)
  · refine GoO.seq' c17_6e ?_
    refine GoO.region' (is := [0, 1]) c17_7e (by kernel_rfl) ?_
    refine GoO.exec (is := [0, 1]) (hs := [.p, .p]) (rest := []) (ks := [2, 3]) (env' := [(2, .string (bs [])), (3, .int .i64 44)]) (H' := [⟨40, b_4, [.int .i64 c_1.Kind, .int .u64 c_1.Session, .int .u64 c_1.Seq, .int .u64 c_1.Saga, .slice A_2 c_1.Steps.length c_3, .int .i64 c_1.Step, .bool c_1.Back, .int .i64 c_1.Try, .bool c_1.Ok, .int .u64 c_1.Now]⟩]) (ps := []) (by kernel_rfl) trivial ?_
    refine GoO.regionEnd ?_
    exact GoO.ret' (h := c17_8e) (hs := []) (ps := []) (hk := []) (bk := []) Try.func17 () (by kernel_rfl) trivial (by kernel_rfl) (by kernel_rfl)
  · refine GoO.skip' c17_9e ?_
    refine GoO.seq' c17_10e ?_
    refine GoO.seq' c17_11e ?_
    refine GoO.region' (is := [0, 1, 2]) c17_12e (by kernel_rfl) ?_
    refine GoO.exec (is := [0]) (hs := [.b 0]) (rest := [1, 2]) (ks := [1, 14]) (env' := [(1, .pointer (some ⟨b_4, 0, none⟩)), (14, .agg ⟨[.int .i64 c_1.Kind, .int .u64 c_1.Session, .int .u64 c_1.Seq, .int .u64 c_1.Saga, .slice A_2 c_1.Steps.length c_3, .int .i64 c_1.Step, .bool c_1.Back, .int .i64 c_1.Try, .bool c_1.Ok, .int .u64 c_1.Now]⟩)]) (H' := [⟨40, b_4, [.int .i64 c_1.Kind, .int .u64 c_1.Session, .int .u64 c_1.Seq, .int .u64 c_1.Saga, .slice A_2 c_1.Steps.length c_3, .int .i64 c_1.Step, .bool c_1.Back, .int .i64 c_1.Try, .bool c_1.Ok, .int .u64 c_1.Now]⟩]) (ps := [b_4 = b_4]) (by kernel_rfl) (And.intro rfl trivial) ?_
    refine OpTo.go (GoO.call rfl (by kernel_rfl) (by kernel_rfl) (tontineref16_May_ok n c_1 A_2 c_3) [[0]] [] [] [(0, 0)] (hks := [0]) (bks := [0]) (by kernel_rfl) (by kernel_rfl) (by kernel_rfl) (.inl rfl) rfl rfl (by kernel_rfl) (by kernel_rfl) _ (fun _ _ => rfl) _ _ (fun _ _ => rfl) (fun _ _ => rfl) (fun _ _ => by kernel_rfl) (fun _ _ => by kernel_rfl) (fun r_9 x_29 => ?_))
    refine GoO.shape (env' := [(1, .pointer (some ⟨b_4, 0, none⟩)), (14, .agg ⟨[.int .i64 c_1.Kind, .int .u64 c_1.Session, .int .u64 c_1.Seq, .int .u64 c_1.Saga, .slice A_2 c_1.Steps.length c_3, .int .i64 c_1.Step, .bool c_1.Back, .int .i64 c_1.Try, .bool c_1.Ok, .int .u64 c_1.Now]⟩), (15, .bool r_9)]) (H' := [⟨40, b_4, [.int .i64 c_1.Kind, .int .u64 c_1.Session, .int .u64 c_1.Seq, .int .u64 c_1.Saga, .slice A_2 c_1.Steps.length c_3, .int .i64 c_1.Step, .bool c_1.Back, .int .i64 c_1.Try, .bool c_1.Ok, .int .u64 c_1.Now]⟩]) (B' := [Rd 0 kT_api_Step A_2 c_3 c_1.Steps]) (ks := [1, 14, 15]) (by kernel_rfl) (by kernel_rfl) (by kernel_rfl) ?_
    refine GoO.exec (is := [2]) (hs := [.p]) (rest := []) (ks := [1, 16]) (env' := [(1, .pointer (some ⟨b_4, 0, none⟩)), (16, .bool (!r_9))]) (H' := [⟨40, b_4, [.int .i64 c_1.Kind, .int .u64 c_1.Session, .int .u64 c_1.Seq, .int .u64 c_1.Saga, .slice A_2 c_1.Steps.length c_3, .int .i64 c_1.Step, .bool c_1.Back, .int .i64 c_1.Try, .bool c_1.Ok, .int .u64 c_1.Now]⟩]) (ps := []) (by kernel_rfl) trivial ?_
    refine GoO.regionEnd ?_
    refine GoO.ite' c17_13e (by kernel_rfl) (fun h10 => ?_) (fun h10 => ?_)
    · refine GoO.seq' c17_14e ?_
      refine GoO.region' (is := [0, 1]) c17_15e (by kernel_rfl) ?_
      refine GoO.exec (is := [0, 1]) (hs := [.p, .p]) (rest := []) (ks := [2, 3]) (env' := [(2, .string (bs [])), (3, .int .i64 1)]) (H' := [⟨40, b_4, [.int .i64 c_1.Kind, .int .u64 c_1.Session, .int .u64 c_1.Seq, .int .u64 c_1.Saga, .slice A_2 c_1.Steps.length c_3, .int .i64 c_1.Step, .bool c_1.Back, .int .i64 c_1.Try, .bool c_1.Ok, .int .u64 c_1.Now]⟩]) (ps := []) (by kernel_rfl) trivial ?_
      refine GoO.regionEnd ?_
      exact GoO.ret' (h := c17_16e) (hs := []) (ps := []) (hk := []) (bk := []) Try.func17 () (by kernel_rfl) trivial (by kernel_rfl) (by kernel_rfl)
    · refine GoO.skip' c17_17e ?_
      refine GoO.seq' c17_18e ?_
      refine GoO.region' (is := [0, 1, 2, 3, 4, 5, 6, 7, 8, 9, 10, 11, 12, 13]) c17_19e (by kernel_rfl) ?_
      refine GoO.exec (is := [0, 1, 2, 3, 4, 5, 6, 7, 8, 9, 10]) (hs := [.p, .b 0, .p, .p, .b 0, .p, .b 0, .p, .b 0, .p, .b 0]) (rest := [11, 12, 13]) (ks := [1, 19, 21, 23, 25, 27]) (env' := [(1, .pointer (some ⟨b_4, 0, none⟩)), (19, .int .u64 (wu64 c_1.Kind)), (21, .int .u64 c_1.Session), (23, .int .u64 c_1.Seq), (25, .int .u64 c_1.Saga), (27, .int .u64 c_1.Now)]) (H' := [⟨40, b_4, [.int .i64 c_1.Kind, .int .u64 c_1.Session, .int .u64 c_1.Seq, .int .u64 c_1.Saga, .slice A_2 c_1.Steps.length c_3, .int .i64 c_1.Step, .bool c_1.Back, .int .i64 c_1.Try, .bool c_1.Ok, .int .u64 c_1.Now]⟩]) (ps := [b_4 = b_4, b_4 = b_4, b_4 = b_4, b_4 = b_4, b_4 = b_4]) (by kernel_rfl) (And.intro rfl (And.intro rfl (And.intro rfl (And.intro rfl (And.intro rfl trivial))))) ?_
      refine OpTo.go (GoO.lit (e := 22) (K := (Kd.int .u64)) rfl (by kernel_rfl) (by kernel_rfl) (cs := [.int .u64 (wu64 c_1.Kind), .int .u64 c_1.Session, .int .u64 c_1.Seq, .int .u64 c_1.Saga, .int .u64 c_1.Now]) (by kernel_rfl) [wu64 c_1.Kind, c_1.Session, c_1.Seq, c_1.Saga, c_1.Now] (by kernel_rfl) (by kernel_rfl) (fun w S hB => ⟨[.int .u64 (wu64 c_1.Kind)], _, rfl, rfl, ⟨[.int .u64 c_1.Session], _, rfl, rfl, ⟨[.int .u64 c_1.Seq], _, rfl, rfl, ⟨[.int .u64 c_1.Saga], _, rfl, rfl, ⟨[.int .u64 c_1.Now], _, rfl, rfl, rfl⟩⟩⟩⟩⟩) 41 _ (fun _ _ => rfl) (fun A_11 c_12 => ?_))
      refine GoO.view (j := 0) rfl ?_
      refine OpTo.go (GoO.call rfl (by kernel_rfl) (by kernel_rfl) (tontineref16_nums_ok n [wu64 c_1.Kind, c_1.Session, c_1.Seq, c_1.Saga, c_1.Now] A_11 c_12) [[0, 41]] [] [] [(0, 2)] (hks := [0]) (bks := [0, 1]) (by kernel_rfl) (by kernel_rfl) (by kernel_rfl) (.inr (fun _ _ => by simp [tontineref16_nums.R])) rfl rfl (by kernel_rfl) (by kernel_rfl) _ (fun _ _ => rfl) _ _ (fun _ _ => rfl) (fun _ _ => rfl) (fun _ _ => by kernel_rfl) (fun _ _ => by kernel_rfl) (fun r_13 x_28 => ?_))
      refine GoO.shape (env' := [(1, .pointer (some ⟨b_4, 0, none⟩)), (19, .int .u64 (wu64 c_1.Kind)), (21, .int .u64 c_1.Session), (23, .int .u64 c_1.Seq), (25, .int .u64 c_1.Saga), (27, .int .u64 c_1.Now), (28, .slice A_11 [wu64 c_1.Kind, c_1.Session, c_1.Seq, c_1.Saga, c_1.Now].length c_12), (29, .string (bs r_13))]) (H' := [⟨40, b_4, [.int .i64 c_1.Kind, .int .u64 c_1.Session, .int .u64 c_1.Seq, .int .u64 c_1.Saga, .slice A_2 c_1.Steps.length c_3, .int .i64 c_1.Step, .bool c_1.Back, .int .i64 c_1.Try, .bool c_1.Ok, .int .u64 c_1.Now]⟩]) (B' := [Ow 41 (Kd.int .u64) A_11 c_12 [wu64 c_1.Kind, c_1.Session, c_1.Seq, c_1.Saga, c_1.Now], Rd 0 kT_api_Step A_2 c_3 c_1.Steps]) (ks := [1, 19, 21, 23, 25, 27, 28, 29]) (by kernel_rfl) (by kernel_rfl) (by kernel_rfl) ?_
      refine GoO.exec (is := [13]) (hs := [.p]) (rest := []) (ks := [1, 4]) (env' := [(1, .pointer (some ⟨b_4, 0, none⟩)), (4, .string (bs r_13))]) (H' := [⟨40, b_4, [.int .i64 c_1.Kind, .int .u64 c_1.Session, .int .u64 c_1.Seq, .int .u64 c_1.Saga, .slice A_2 c_1.Steps.length c_3, .int .i64 c_1.Step, .bool c_1.Back, .int .i64 c_1.Try, .bool c_1.Ok, .int .u64 c_1.Now]⟩]) (ps := []) (by kernel_rfl) trivial ?_
      refine GoO.regionEnd ?_
      refine GoO.seq' c17_20e ?_
      refine GoO.seq' c17_21e ?_
      refine GoO.region' (is := [0, 1, 2]) c17_22e (by kernel_rfl) ?_
      refine GoO.exec (is := [0, 1, 2]) (hs := [.p, .b 0, .p]) (rest := []) (ks := [1, 4, 32]) (env' := [(1, .pointer (some ⟨b_4, 0, none⟩)), (4, .string (bs r_13)), (32, .bool (c_1.Kind == 2))]) (H' := [⟨40, b_4, [.int .i64 c_1.Kind, .int .u64 c_1.Session, .int .u64 c_1.Seq, .int .u64 c_1.Saga, .slice A_2 c_1.Steps.length c_3, .int .i64 c_1.Step, .bool c_1.Back, .int .i64 c_1.Try, .bool c_1.Ok, .int .u64 c_1.Now]⟩]) (ps := [b_4 = b_4]) (by kernel_rfl) (And.intro rfl trivial) ?_
      refine GoO.regionEnd ?_
      refine GoO.ite' c17_23e (by kernel_rfl) (fun h14 => ?_) (fun h14 => ?_)
      · refine GoO.region' (is := [0, 1, 2, 3, 4, 5]) c17_24e (by kernel_rfl) ?_
        refine GoO.exec (is := [0, 1, 2]) (hs := [.p, .p, .b 0]) (rest := [3, 4, 5]) (ks := [1, 33, 35]) (env' := [(1, .pointer (some ⟨b_4, 0, none⟩)), (33, .string (bs r_13)), (35, .slice A_2 c_1.Steps.length c_3)]) (H' := [⟨40, b_4, [.int .i64 c_1.Kind, .int .u64 c_1.Session, .int .u64 c_1.Seq, .int .u64 c_1.Saga, .slice A_2 c_1.Steps.length c_3, .int .i64 c_1.Step, .bool c_1.Back, .int .i64 c_1.Try, .bool c_1.Ok, .int .u64 c_1.Now]⟩]) (ps := [b_4 = b_4]) (by kernel_rfl) (And.intro rfl trivial) ?_
        refine OpTo.go (GoO.call rfl (by kernel_rfl) (by kernel_rfl) (tontineref13_Bytes_ok n c_1.Steps A_2 c_3) [[0]] [] [] [(0, 1)] (hks := [0]) (bks := [0, 1]) (by kernel_rfl) (by kernel_rfl) (by kernel_rfl) (.inl rfl) rfl rfl (by kernel_rfl) (by kernel_rfl) _ (fun _ _ => rfl) _ _ (fun _ _ => rfl) (fun _ _ => rfl) (fun _ _ => by kernel_rfl) (fun _ _ => by kernel_rfl) (fun r_15 x_17 => ?_))
        refine GoO.shape (env' := [(1, .pointer (some ⟨b_4, 0, none⟩)), (33, .string (bs r_13)), (35, .slice A_2 c_1.Steps.length c_3), (36, .string (bs r_15))]) (H' := [⟨40, b_4, [.int .i64 c_1.Kind, .int .u64 c_1.Session, .int .u64 c_1.Seq, .int .u64 c_1.Saga, .slice A_2 c_1.Steps.length c_3, .int .i64 c_1.Step, .bool c_1.Back, .int .i64 c_1.Try, .bool c_1.Ok, .int .u64 c_1.Now]⟩]) (B' := [Ow 41 (Kd.int .u64) A_11 c_12 [wu64 c_1.Kind, c_1.Session, c_1.Seq, c_1.Saga, c_1.Now], Rd 0 kT_api_Step A_2 c_3 c_1.Steps]) (ks := [1, 33, 35, 36]) (by kernel_rfl) (by kernel_rfl) (by kernel_rfl) ?_
        refine GoO.guard (fun h16 => ?_)
        refine GoO.exec (is := [4, 5]) (hs := [.p, .p]) (rest := []) (ks := [1, 4]) (env' := [(1, .pointer (some ⟨b_4, 0, none⟩)), (4, .string (bs (r_13 ++ r_15)))]) (H' := [⟨40, b_4, [.int .i64 c_1.Kind, .int .u64 c_1.Session, .int .u64 c_1.Seq, .int .u64 c_1.Saga, .slice A_2 c_1.Steps.length c_3, .int .i64 c_1.Step, .bool c_1.Back, .int .i64 c_1.Try, .bool c_1.Ok, .int .u64 c_1.Now]⟩]) (ps := [r_13.length + r_15.length ≤ i64max]) (by kernel_rfl) (And.intro h16 trivial) ?_
        refine GoO.regionEnd ?_
        exact GoO.sub (ks := [1, 4]) (hk := [0]) (bk := [1]) (by kernel_rfl) (by kernel_rfl) (by kernel_rfl) (tontineref16_Encode_j1_ok n c_1 A_2 c_3 b_4 w0 S0 (r_13 ++ r_15))
      · refine GoO.skip' c17_25e ?_
        exact GoO.sub (ks := [1, 4]) (hk := [0]) (bk := [1]) (by kernel_rfl) (by kernel_rfl) (by kernel_rfl) (tontineref16_Encode_j1_ok n c_1 A_2 c_3 b_4 w0 S0 r_13)
theorem tontineref16_Encode_ok (n : Nat) (c_1 : T_api_Command) (A_2 : Option Addr) (c_3 : Nat) :
    Meets Try.prog 17 [.agg ⟨[.int .i64 c_1.Kind, .int .u64 c_1.Session, .int .u64 c_1.Seq, .int .u64 c_1.Saga, .slice A_2 c_1.Steps.length c_3, .int .i64 c_1.Step, .bool c_1.Back, .int .i64 c_1.Try, .bool c_1.Ok, .int .u64 c_1.Now]⟩] 0 [] [] [Rd 0 kT_api_Step A_2 c_3 c_1.Steps] (tontineref16_Encode.f n c_1) (tontineref16_Encode.R A_2 c_3) := by
  refine Meets.of (c := c17_0) (n := 58) Try.func17 (by kernel_rfl) (by kernel_rfl) (by kernel_rfl) fun w0 S0 => ?_
  unfold tontineref16_Encode.f
  show GoO (tontineref16_Encode.cx A_2 c_3 w0 S0) [(0, .agg ⟨[.int .i64 c_1.Kind, .int .u64 c_1.Session, .int .u64 c_1.Seq, .int .u64 c_1.Saga, .slice A_2 c_1.Steps.length c_3, .int .i64 c_1.Step, .bool c_1.Back, .int .i64 c_1.Try, .bool c_1.Ok, .int .u64 c_1.Now]⟩)] [] [Rd 0 kT_api_Step A_2 c_3 c_1.Steps] [.code c17_0] _
  refine GoO.seq' c17_0e ?_
  refine GoO.region' (is := [0, 1, 2]) c17_1e (by kernel_rfl) ?_
  refine OpTo.go (GoO.new rfl 40 (cs := [.int .i64 c_1.Kind, .int .u64 c_1.Session, .int .u64 c_1.Seq, .int .u64 c_1.Saga, .slice A_2 c_1.Steps.length c_3, .int .i64 c_1.Step, .bool c_1.Back, .int .i64 c_1.Try, .bool c_1.Ok, .int .u64 c_1.Now]) (by kernel_rfl) _ (fun _ => rfl) (fun b_4 => ?_))
  refine GoO.exec (is := [1, 2]) (hs := [.p, .p]) (rest := []) (ks := [1]) (env' := [(1, .pointer (some ⟨b_4, 0, none⟩))]) (H' := [⟨40, b_4, [.int .i64 c_1.Kind, .int .u64 c_1.Session, .int .u64 c_1.Seq, .int .u64 c_1.Saga, .slice A_2 c_1.Steps.length c_3, .int .i64 c_1.Step, .bool c_1.Back, .int .i64 c_1.Try, .bool c_1.Ok, .int .u64 c_1.Now]⟩]) (ps := []) (by kernel_rfl) trivial ?_
  refine GoO.regionEnd ?_
  refine GoO.seq' c17_2e ?_
  refine GoO.seq' c17_3e ?_
  refine GoO.region' (is := [0, 1, 2, 3, 4, 5, 6, 7, 8]) c17_4e (by kernel_rfl) ?_
  refine GoO.exec (is := [0, 1, 2, 3]) (hs := [.p, .b 0, .p, .p]) (rest := [4, 5, 6, 7, 8]) (ks := [1, 8]) (env' := [(1, .pointer (some ⟨b_4, 0, none⟩)), (8, .bool (c_1.Kind == 2))]) (H' := [⟨40, b_4, [.int .i64 c_1.Kind, .int .u64 c_1.Session, .int .u64 c_1.Seq, .int .u64 c_1.Saga, .slice A_2 c_1.Steps.length c_3, .int .i64 c_1.Step, .bool c_1.Back, .int .i64 c_1.Try, .bool c_1.Ok, .int .u64 c_1.Now]⟩]) (ps := [b_4 = b_4]) (by kernel_rfl) (And.intro rfl trivial) ?_
  refine GoO.bsplit (t := 8) (by kernel_rfl) (fun h5 => ?_) (fun h5 => ?_)
  · refine GoO.exec (is := [4, 5]) (hs := [.p, .b 0]) (rest := [6, 7, 8]) (ks := [1, 8, 10]) (env' := [(1, .pointer (some ⟨b_4, 0, none⟩)), (8, .bool true), (10, .slice A_2 c_1.Steps.length c_3)]) (H' := [⟨40, b_4, [.int .i64 c_1.Kind, .int .u64 c_1.Session, .int .u64 c_1.Seq, .int .u64 c_1.Saga, .slice A_2 c_1.Steps.length c_3, .int .i64 c_1.Step, .bool c_1.Back, .int .i64 c_1.Try, .bool c_1.Ok, .int .u64 c_1.Now]⟩]) (ps := [b_4 = b_4]) (by kernel_rfl) (And.intro rfl trivial) ?_
    refine OpTo.go (GoO.call rfl (by kernel_rfl) (by kernel_rfl) (tontineref13_Check_ok n c_1.Steps A_2 c_3) [[0]] [] [] [(0, 0)] (hks := [0]) (bks := [0]) (by kernel_rfl) (by kernel_rfl) (by kernel_rfl) (.inl rfl) rfl rfl (by kernel_rfl) (by kernel_rfl) _ (fun _ _ => rfl) _ _ (fun _ _ => rfl) (fun _ _ => rfl) (fun _ _ => by kernel_rfl) (fun _ _ => by kernel_rfl) (fun r_6 x_7 => ?_))
    refine GoO.shape (env' := [(1, .pointer (some ⟨b_4, 0, none⟩)), (8, .bool true), (10, .slice A_2 c_1.Steps.length c_3), (11, .int .i64 r_6)]) (H' := [⟨40, b_4, [.int .i64 c_1.Kind, .int .u64 c_1.Session, .int .u64 c_1.Seq, .int .u64 c_1.Saga, .slice A_2 c_1.Steps.length c_3, .int .i64 c_1.Step, .bool c_1.Back, .int .i64 c_1.Try, .bool c_1.Ok, .int .u64 c_1.Now]⟩]) (B' := [Rd 0 kT_api_Step A_2 c_3 c_1.Steps]) (ks := [1, 8, 10, 11]) (by kernel_rfl) (by kernel_rfl) (by kernel_rfl) ?_
    refine GoO.exec (is := [7, 8]) (hs := [.p, .p]) (rest := []) (ks := [1, 13]) (env' := [(1, .pointer (some ⟨b_4, 0, none⟩)), (13, .bool (r_6 != 0))]) (H' := [⟨40, b_4, [.int .i64 c_1.Kind, .int .u64 c_1.Session, .int .u64 c_1.Seq, .int .u64 c_1.Saga, .slice A_2 c_1.Steps.length c_3, .int .i64 c_1.Step, .bool c_1.Back, .int .i64 c_1.Try, .bool c_1.Ok, .int .u64 c_1.Now]⟩]) (ps := []) (by kernel_rfl) trivial ?_
    refine GoO.regionEnd ?_
    exact GoO.sub (ks := [1, 13]) (hk := [0]) (bk := [0]) (by kernel_rfl) (by kernel_rfl) (by kernel_rfl) (tontineref16_Encode_j0_ok n c_1 A_2 c_3 b_4 w0 S0 (r_6 != 0))
  · refine GoO.exec (is := [4, 5, 6, 7, 8]) (hs := [.p, .p, .p, .p, .p]) (rest := []) (ks := [1, 13]) (env' := [(1, .pointer (some ⟨b_4, 0, none⟩)), (13, .bool false)]) (H' := [⟨40, b_4, [.int .i64 c_1.Kind, .int .u64 c_1.Session, .int .u64 c_1.Seq, .int .u64 c_1.Saga, .slice A_2 c_1.Steps.length c_3, .int .i64 c_1.Step, .bool c_1.Back, .int .i64 c_1.Try, .bool c_1.Ok, .int .u64 c_1.Now]⟩]) (ps := []) (by kernel_rfl) trivial ?_
    refine GoO.regionEnd ?_
    exact GoO.sub (ks := [1, 13]) (hk := [0]) (bk := [0]) (by kernel_rfl) (by kernel_rfl) (by kernel_rfl) (tontineref16_Encode_j0_ok n c_1 A_2 c_3 b_4 w0 S0 false)

/-! tontine/tontineref16.Decode -/
noncomputable def c37_0 : Code := bodyOf Try.f37
noncomputable def c37_1 : Code := cdL c37_0
noncomputable def c37_2 : Code := cdR c37_0
noncomputable def c37_3 : Code := cdL c37_2
noncomputable def c37_4 : Code := cdR c37_2
noncomputable def c37_5 : Code := cdL c37_4
noncomputable def c37_6 : Code := cdR c37_4
noncomputable def c37_7 : Code := cdL c37_6
noncomputable def c37_8 : Code := cdR c37_6
noncomputable def c37_9 : Code := cdL c37_8
noncomputable def c37_10 : Code := cdR c37_8
noncomputable def c37_11 : Code := cdL c37_10
noncomputable def c37_12 : Code := cdR c37_10
noncomputable def c37_13 : Code := cdL c37_12
noncomputable def c37_14 : Code := cdR c37_12
noncomputable def c37_15 : Code := cdL c37_14
noncomputable def c37_16 : Code := cdL c37_15
noncomputable def c37_17 : Code := cdR c37_15
noncomputable def c37_18 : Code := cdL c37_17
noncomputable def c37_19 : Code := cdR c37_17
noncomputable def c37_20 : Code := cdR c37_14
noncomputable def c37_21 : Code := cdL c37_20
noncomputable def c37_22 : Code := cdL c37_21
noncomputable def c37_23 : Code := cdR c37_21
noncomputable def c37_24 : Code := cdL c37_23
noncomputable def c37_25 : Code := cdL c37_24
noncomputable def c37_26 : Code := cdR c37_24
noncomputable def c37_27 : Code := cdL c37_26
noncomputable def c37_28 : Code := cdR c37_26
noncomputable def c37_29 : Code := cdL c37_28
noncomputable def c37_30 : Code := cdR c37_28
noncomputable def c37_31 : Code := cdR c37_23
noncomputable def c37_32 : Code := cdR c37_20
noncomputable def c37_33 : Code := cdL c37_32
noncomputable def c37_34 : Code := cdR c37_32
noncomputable def c37_35 : Code := cdL c37_34
noncomputable def c37_36 : Code := cdL c37_35
noncomputable def c37_37 : Code := cdR c37_35
noncomputable def c37_38 : Code := cdL c37_37
noncomputable def c37_39 : Code := cdL c37_38
noncomputable def c37_40 : Code := cdR c37_38
noncomputable def c37_41 : Code := cdR c37_37
noncomputable def c37_42 : Code := cdR c37_34
noncomputable def c37_43 : Code := cdL c37_42
noncomputable def c37_44 : Code := cdR c37_42
noncomputable def r37_1 : Array Oper := cdO c37_1
noncomputable def r37_3 : Array Oper := cdO c37_3
noncomputable def r37_5 : Array Oper := cdO c37_5
noncomputable def r37_7 : Array Oper := cdO c37_7
noncomputable def r37_9 : Array Oper := cdO c37_9
noncomputable def r37_11 : Array Oper := cdO c37_11
noncomputable def r37_13 : Array Oper := cdO c37_13
noncomputable def r37_16 : Array Oper := cdO c37_16
noncomputable def r37_18 : Array Oper := cdO c37_18
noncomputable def r37_22 : Array Oper := cdO c37_22
noncomputable def r37_25 : Array Oper := cdO c37_25
noncomputable def r37_27 : Array Oper := cdO c37_27
noncomputable def r37_29 : Array Oper := cdO c37_29
noncomputable def r37_30 : Array Oper := cdO c37_30
noncomputable def r37_33 : Array Oper := cdO c37_33
noncomputable def r37_36 : Array Oper := cdO c37_36
noncomputable def r37_39 : Array Oper := cdO c37_39
noncomputable def r37_43 : Array Oper := cdO c37_43
theorem c37_0e : c37_0 = .seq c37_1 c37_2 := by kernel_rfl
theorem c37_1e : c37_1 = .region 0 r37_1 false := by kernel_rfl
theorem c37_2e : c37_2 = .seq c37_3 c37_4 := by kernel_rfl
theorem c37_3e : c37_3 = .region 1 r37_3 false := by kernel_rfl
theorem c37_4e : c37_4 = .seq c37_5 c37_6 := by kernel_rfl
theorem c37_5e : c37_5 = .region 2 r37_5 false := by kernel_rfl
theorem c37_6e : c37_6 = .seq c37_7 c37_8 := by kernel_rfl
theorem c37_7e : c37_7 = .region 3 r37_7 false := by kernel_rfl
theorem c37_8e : c37_8 = .seq c37_9 c37_10 := by kernel_rfl
theorem c37_9e : c37_9 = .region 4 r37_9 false := by kernel_rfl
theorem c37_10e : c37_10 = .seq c37_11 c37_12 := by kernel_rfl
theorem c37_11e : c37_11 = .region 5 r37_11 false := by kernel_rfl
theorem c37_12e : c37_12 = .seq c37_13 c37_14 := by kernel_rfl
theorem c37_13e : c37_13 = .region 6 r37_13 false := by kernel_rfl
theorem c37_14e : c37_14 = .seq c37_15 c37_20 := by kernel_rfl
theorem c37_15e : c37_15 = .seq c37_16 c37_17 := by kernel_rfl
theorem c37_16e : c37_16 = .region 7 r37_16 false := by kernel_rfl
theorem c37_17e : c37_17 = .cond (cdC c37_17) c37_18 c37_19 := by kernel_rfl
theorem c37_18e : c37_18 = .region 8 r37_18 false := by kernel_rfl
theorem c37_19e : c37_19 = .skip := by kernel_rfl
theorem c37_20e : c37_20 = .seq c37_21 c37_32 := by kernel_rfl
theorem c37_21e : c37_21 = .seq c37_22 c37_23 := by kernel_rfl
theorem c37_22e : c37_22 = .region 9 r37_22 false := by kernel_rfl
theorem c37_23e : c37_23 = .cond (cdC c37_23) c37_24 c37_31 := by kernel_rfl
theorem c37_24e : c37_24 = .seq c37_25 c37_26 := by kernel_rfl
theorem c37_25e : c37_25 = .region 10 r37_25 false := by kernel_rfl
theorem c37_26e : c37_26 = .seq c37_27 c37_28 := by kernel_rfl
theorem c37_27e : c37_27 = .region 11 r37_27 false := by kernel_rfl
theorem c37_28e : c37_28 = .seq c37_29 c37_30 := by kernel_rfl
theorem c37_29e : c37_29 = .region 12 r37_29 false := by kernel_rfl
theorem c37_30e : c37_30 = .region 13 r37_30 false := by kernel_rfl
theorem c37_31e : c37_31 = .skip := by kernel_rfl
theorem c37_32e : c37_32 = .seq c37_33 c37_34 := by kernel_rfl
theorem c37_33e : c37_33 = .region 14 r37_33 false := by kernel_rfl
theorem c37_34e : c37_34 = .seq c37_35 c37_42 := by kernel_rfl
theorem c37_35e : c37_35 = .seq c37_36 c37_37 := by kernel_rfl
theorem c37_36e : c37_36 = .region 15 r37_36 false := by kernel_rfl
theorem c37_37e : c37_37 = .cond (cdC c37_37) c37_38 c37_41 := by kernel_rfl
theorem c37_38e : c37_38 = .seq c37_39 c37_40 := by kernel_rfl
theorem c37_39e : c37_39 = .region 16 r37_39 false := by kernel_rfl
theorem c37_40e : c37_40 = .ret := by kernel_rfl
theorem c37_41e : c37_41 = .skip := by kernel_rfl
theorem c37_42e : c37_42 = .seq c37_43 c37_44 := by kernel_rfl
theorem c37_43e : c37_43 = .region 17 r37_43 false := by kernel_rfl
theorem c37_44e : c37_44 = .ret := by kernel_rfl
noncomputable def tontineref16_Decode.R : Pst (T_api_Command × Int) where
  ε := Option Addr × Nat
  v := fun r x => .tuple ⟨[.agg ⟨[.int .i64 r.1.Kind, .int .u64 r.1.Session, .int .u64 r.1.Seq, .int .u64 r.1.Saga, .slice x.1 r.1.Steps.length x.2, .int .i64 r.1.Step, .bool r.1.Back, .int .i64 r.1.Try, .bool r.1.Ok, .int .u64 r.1.Now]⟩, .int .i64 r.2]⟩
  H := fun r x => []
  B := fun r x => [Rd 0 kT_api_Step x.1 x.2 r.1.Steps]
noncomputable def tontineref16_Decode.cx (w0 : World) (S0 : Fam) : Cx (T_api_Command × Int) := ⟨Try.prog, 37, Try.f37, 76, w0, S0, [], 0, tontineref16_Decode.R⟩
theorem tontineref16_Decode_j2_ok (n : Nat) (r_4 : Int × T_tontineref03_Reader) (r_6 : Int × T_tontineref03_Reader) (r_7 : Int × T_tontineref03_Reader) (r_8 : Int × T_tontineref03_Reader) (r_9 : Int × T_tontineref03_Reader) (f_16 : (List T_api_Step)) (f_26 : Int) (f_27 : Bool) (f_28 : Int) (f_29 : Bool) (b_2 : Nat) (b_5 : Nat) (A_17 : Option Addr) (c_18 : Nat) (w0 : World) (S0 : Fam) (b_34 : Bool) :
    GoO (tontineref16_Decode.cx w0 S0) [(2, .pointer (some ⟨b_2, 0, none⟩)), (5, .pointer (some ⟨b_5, 0, none⟩)), (73, .bool b_34)] [⟨40, b_2, [.int .i64 0, .int .u64 0, .int .u64 0, .int .u64 0, .slice none ([] : List T_api_Step).length 0, .int .i64 0, .bool false, .int .i64 0, .bool false, .int .u64 0]⟩, ⟨42, b_5, [.int .i64 r_4.1, .int .u64 r_6.1, .int .u64 r_7.1, .int .u64 r_8.1, .slice A_17 f_16.length c_18, .int .i64 f_26, .bool f_27, .int .i64 f_28, .bool f_29, .int .u64 r_9.1]⟩] [Ow 43 kT_api_Step A_17 c_18 f_16] [.code c37_37, .code c37_42] (tontineref16_Decode.j2 n r_4 r_6 r_7 r_8 r_9 f_16 f_26 f_27 f_28 f_29 b_34) := by
  unfold tontineref16_Decode.j2
  refine GoO.ite' c37_37e (by kernel_rfl) (fun h35 => ?_) (fun h35 => ?_)
  · refine GoO.seq' c37_38e ?_
    refine GoO.region' (is := [0, 1, 2]) c37_39e (by kernel_rfl) ?_
    refine GoO.exec (is := [0, 1, 2]) (hs := [.p, .b 0, .p]) (rest := []) (ks := [2, 3]) (env' := [(2, .pointer (some ⟨b_2, 0, none⟩)), (3, .int .i64 2)]) (H' := [⟨40, b_2, [.int .i64 0, .int .u64 0, .int .u64 0, .int .u64 0, .slice none ([] : List T_api_Step).length 0, .int .i64 0, .bool false, .int .i64 0, .bool false, .int .u64 0]⟩, ⟨42, b_5, [.int .i64 r_4.1, .int .u64 r_6.1, .int .u64 r_7.1, .int .u64 r_8.1, .slice A_17 f_16.length c_18, .int .i64 f_26, .bool f_27, .int .i64 f_28, .bool f_29, .int .u64 r_9.1]⟩]) (ps := [b_2 = b_2]) (by kernel_rfl) (And.intro rfl trivial) ?_
    refine GoO.regionEnd ?_
    refine GoO.nilRd kT_api_Step ?_
    exact GoO.ret' (h := c37_40e) (hs := [0]) (ps := [b_2 = b_2]) (hk := []) (bk := [0]) Try.func37 (⟨none, 0⟩ : Option Addr × Nat) (by kernel_rfl) (And.intro rfl trivial) (by kernel_rfl) (by kernel_rfl)
  · refine GoO.skip' c37_41e ?_
    refine GoO.seq' c37_42e ?_
    refine GoO.region' (is := [0, 1, 2]) c37_43e (by kernel_rfl) ?_
    refine GoO.exec (is := [0, 1, 2]) (hs := [.b 1, .b 0, .p]) (rest := []) (ks := [2, 3]) (env' := [(2, .pointer (some ⟨b_2, 0, none⟩)), (3, .int .i64 0)]) (H' := [⟨40, b_2, [.int .i64 r_4.1, .int .u64 r_6.1, .int .u64 r_7.1, .int .u64 r_8.1, .slice A_17 f_16.length c_18, .int .i64 f_26, .bool f_27, .int .i64 f_28, .bool f_29, .int .u64 r_9.1]⟩, ⟨42, b_5, [.int .i64 r_4.1, .int .u64 r_6.1, .int .u64 r_7.1, .int .u64 r_8.1, .slice A_17 f_16.length c_18, .int .i64 f_26, .bool f_27, .int .i64 f_28, .bool f_29, .int .u64 r_9.1]⟩]) (ps := [b_5 = b_5, b_2 = b_2]) (by kernel_rfl) (And.intro rfl (And.intro rfl trivial)) ?_
    refine GoO.regionEnd ?_
    refine GoO.retag (t := 43) (u := 0) (j := 0) (hk := [0, 1]) (bk := []) rfl rfl rfl rfl rfl rfl (by kernel_rfl) (by kernel_rfl) ?_
    refine GoO.own2rd (j := 0) rfl ?_
    exact GoO.ret' (h := c37_44e) (hs := [0]) (ps := [b_2 = b_2]) (hk := []) (bk := [0]) Try.func37 (⟨A_17, c_18⟩ : Option Addr × Nat) (by kernel_rfl) (And.intro rfl trivial) (by kernel_rfl) (by kernel_rfl)
theorem tontineref16_Decode_j1_ok (n : Nat) (s_1 : (List UInt8)) (r_4 : Int × T_tontineref03_Reader) (r_6 : Int × T_tontineref03_Reader) (r_7 : Int × T_tontineref03_Reader) (r_8 : Int × T_tontineref03_Reader) (r_9 : Int × T_tontineref03_Reader) (f_16 : (List T_api_Step)) (b_2 : Nat) (b_3 : Nat) (b_5 : Nat) (A_17 : Option Addr) (c_18 : Nat) (w0 : World) (S0 : Fam) (f_24 : (List UInt8)) (f_25 : Bool) (f_26 : Int) (f_27 : Bool) (f_28 : Int) (f_29 : Bool) :
    GoO (tontineref16_Decode.cx w0 S0) [(0, .string (bs s_1)), (2, .pointer (some ⟨b_2, 0, none⟩)), (4, .pointer (some ⟨b_3, 0, none⟩)), (5, .pointer (some ⟨b_5, 0, none⟩))] [⟨40, b_2, [.int .i64 0, .int .u64 0, .int .u64 0, .int .u64 0, .slice none ([] : List T_api_Step).length 0, .int .i64 0, .bool false, .int .i64 0, .bool false, .int .u64 0]⟩, ⟨41, b_3, [.string (bs f_24), .bool f_25]⟩, ⟨42, b_5, [.int .i64 r_4.1, .int .u64 r_6.1, .int .u64 r_7.1, .int .u64 r_8.1, .slice A_17 f_16.length c_18, .int .i64 f_26, .bool f_27, .int .i64 f_28, .bool f_29, .int .u64 r_9.1]⟩] [Ow 43 kT_api_Step A_17 c_18 f_16] [.code c37_32] (tontineref16_Decode.j1 n s_1 r_4 r_6 r_7 r_8 r_9 f_16 f_24 f_25 f_26 f_27 f_28 f_29) := by
  unfold tontineref16_Decode.j1
  refine GoO.seq' c37_32e ?_
  refine GoO.region' (is := [0, 1, 2, 3, 4, 5, 6]) c37_33e (by kernel_rfl) ?_
  refine GoO.exec (is := [0]) (hs := [.b 2]) (rest := [1, 2, 3, 4, 5, 6]) (ks := [0, 2, 4, 5, 50]) (env' := [(0, .string (bs s_1)), (2, .pointer (some ⟨b_2, 0, none⟩)), (4, .pointer (some ⟨b_3, 0, none⟩)), (5, .pointer (some ⟨b_5, 0, none⟩)), (50, .agg ⟨[.int .i64 r_4.1, .int .u64 r_6.1, .int .u64 r_7.1, .int .u64 r_8.1, .slice A_17 f_16.length c_18, .int .i64 f_26, .bool f_27, .int .i64 f_28, .bool f_29, .int .u64 r_9.1]⟩)]) (H' := [⟨40, b_2, [.int .i64 0, .int .u64 0, .int .u64 0, .int .u64 0, .slice none ([] : List T_api_Step).length 0, .int .i64 0, .bool false, .int .i64 0, .bool false, .int .u64 0]⟩, ⟨41, b_3, [.string (bs f_24), .bool f_25]⟩, ⟨42, b_5, [.int .i64 r_4.1, .int .u64 r_6.1, .int .u64 r_7.1, .int .u64 r_8.1, .slice A_17 f_16.length c_18, .int .i64 f_26, .bool f_27, .int .i64 f_28, .bool f_29, .int .u64 r_9.1]⟩]) (ps := [b_5 = b_5]) (by kernel_rfl) (And.intro rfl trivial) ?_
  refine GoO.view (j := 0) rfl ?_
  refine OpTo.go (GoO.call rfl (by kernel_rfl) (by kernel_rfl) (tontineref16_Encode_ok n (⟨r_4.1, r_6.1, r_7.1, r_8.1, f_16, f_26, f_27, f_28, f_29, r_9.1⟩ : T_api_Command) A_17 c_18) [[0, 43]] [] [] [(0, 1)] (hks := [0, 1, 2]) (bks := [0]) (by kernel_rfl) (by kernel_rfl) (by kernel_rfl) (.inr (fun _ _ => by simp [tontineref16_Encode.R])) rfl rfl (by kernel_rfl) (by kernel_rfl) _ (fun _ _ => rfl) _ _ (fun _ _ => rfl) (fun _ _ => rfl) (fun _ _ => by kernel_rfl) (fun _ _ => by kernel_rfl) (fun r_30 x_36 => ?_))
  refine GoO.shape (env' := [(0, .string (bs s_1)), (2, .pointer (some ⟨b_2, 0, none⟩)), (4, .pointer (some ⟨b_3, 0, none⟩)), (5, .pointer (some ⟨b_5, 0, none⟩)), (50, .agg ⟨[.int .i64 r_4.1, .int .u64 r_6.1, .int .u64 r_7.1, .int .u64 r_8.1, .slice A_17 f_16.length c_18, .int .i64 f_26, .bool f_27, .int .i64 f_28, .bool f_29, .int .u64 r_9.1]⟩), (51, .tuple ⟨[.string (bs r_30.1), .int .i64 r_30.2]⟩)]) (H' := [⟨40, b_2, [.int .i64 0, .int .u64 0, .int .u64 0, .int .u64 0, .slice none ([] : List T_api_Step).length 0, .int .i64 0, .bool false, .int .i64 0, .bool false, .int .u64 0]⟩, ⟨41, b_3, [.string (bs f_24), .bool f_25]⟩, ⟨42, b_5, [.int .i64 r_4.1, .int .u64 r_6.1, .int .u64 r_7.1, .int .u64 r_8.1, .slice A_17 f_16.length c_18, .int .i64 f_26, .bool f_27, .int .i64 f_28, .bool f_29, .int .u64 r_9.1]⟩]) (B' := [Ow 43 kT_api_Step A_17 c_18 f_16]) (ks := [0, 2, 4, 5, 50, 51]) (by kernel_rfl) (by kernel_rfl) (by kernel_rfl) ?_
  refine GoO.exec (is := [2, 3, 4, 5, 6]) (hs := [.p, .p, .p, .p, .p]) (rest := []) (ks := [0, 2, 4, 5, 6, 7]) (env' := [(0, .string (bs s_1)), (2, .pointer (some ⟨b_2, 0, none⟩)), (4, .pointer (some ⟨b_3, 0, none⟩)), (5, .pointer (some ⟨b_5, 0, none⟩)), (6, .string (bs r_30.1)), (7, .int .i64 r_30.2)]) (H' := [⟨40, b_2, [.int .i64 0, .int .u64 0, .int .u64 0, .int .u64 0, .slice none ([] : List T_api_Step).length 0, .int .i64 0, .bool false, .int .i64 0, .bool false, .int .u64 0]⟩, ⟨41, b_3, [.string (bs f_24), .bool f_25]⟩, ⟨42, b_5, [.int .i64 r_4.1, .int .u64 r_6.1, .int .u64 r_7.1, .int .u64 r_8.1, .slice A_17 f_16.length c_18, .int .i64 f_26, .bool f_27, .int .i64 f_28, .bool f_29, .int .u64 r_9.1]⟩]) (ps := []) (by kernel_rfl) trivial ?_
  refine GoO.regionEnd ?_
  refine GoO.seq' c37_34e ?_
  refine GoO.seq' c37_35e ?_
  refine GoO.region' (is := [0, 1, 2, 3, 4, 5, 6, 7, 8, 9, 10, 11, 12, 13, 14, 15, 16, 17, 18, 19]) c37_36e (by kernel_rfl) ?_
  refine GoO.exec (is := [0, 1, 2, 3, 4]) (hs := [.p, .p, .p, .b 1, .p]) (rest := [5, 6, 7, 8, 9, 10, 11, 12, 13, 14, 15, 16, 17, 18, 19]) (ks := [0, 2, 4, 5, 6, 7, 58]) (env' := [(0, .string (bs s_1)), (2, .pointer (some ⟨b_2, 0, none⟩)), (4, .pointer (some ⟨b_3, 0, none⟩)), (5, .pointer (some ⟨b_5, 0, none⟩)), (6, .string (bs r_30.1)), (7, .int .i64 r_30.2), (58, .bool f_25)]) (H' := [⟨40, b_2, [.int .i64 0, .int .u64 0, .int .u64 0, .int .u64 0, .slice none ([] : List T_api_Step).length 0, .int .i64 0, .bool false, .int .i64 0, .bool false, .int .u64 0]⟩, ⟨41, b_3, [.string (bs f_24), .bool f_25]⟩, ⟨42, b_5, [.int .i64 r_4.1, .int .u64 r_6.1, .int .u64 r_7.1, .int .u64 r_8.1, .slice A_17 f_16.length c_18, .int .i64 f_26, .bool f_27, .int .i64 f_28, .bool f_29, .int .u64 r_9.1]⟩]) (ps := [b_3 = b_3]) (by kernel_rfl) (And.intro rfl trivial) ?_
  refine GoO.bsplit (t := 58) (by kernel_rfl) (fun h31 => ?_) (fun h31 => ?_)
  · refine GoO.exec (is := [5, 6, 7, 8, 9, 10, 11, 12, 13, 14, 15, 16, 17, 18, 19]) (hs := [.p, .p, .p, .p, .p, .p, .p, .p, .p, .p, .p, .p, .p, .p, .p]) (rest := []) (ks := [2, 5, 73]) (env' := [(2, .pointer (some ⟨b_2, 0, none⟩)), (5, .pointer (some ⟨b_5, 0, none⟩)), (73, .bool true)]) (H' := [⟨40, b_2, [.int .i64 0, .int .u64 0, .int .u64 0, .int .u64 0, .slice none ([] : List T_api_Step).length 0, .int .i64 0, .bool false, .int .i64 0, .bool false, .int .u64 0]⟩, ⟨41, b_3, [.string (bs f_24), .bool f_25]⟩, ⟨42, b_5, [.int .i64 r_4.1, .int .u64 r_6.1, .int .u64 r_7.1, .int .u64 r_8.1, .slice A_17 f_16.length c_18, .int .i64 f_26, .bool f_27, .int .i64 f_28, .bool f_29, .int .u64 r_9.1]⟩]) (ps := []) (by kernel_rfl) trivial ?_
    refine GoO.regionEnd ?_
    exact GoO.sub (ks := [2, 5, 73]) (hk := [0, 2]) (bk := [0]) (by kernel_rfl) (by kernel_rfl) (by kernel_rfl) (tontineref16_Decode_j2_ok n r_4 r_6 r_7 r_8 r_9 f_16 f_26 f_27 f_28 f_29 b_2 b_5 A_17 c_18 w0 S0 true)
  · refine GoO.exec (is := [5, 6, 7, 8, 9, 10, 11]) (hs := [.p, .p, .p, .b 1, .p, .p, .p]) (rest := [12, 13, 14, 15, 16, 17, 18, 19]) (ks := [0, 2, 5, 6, 7, 65]) (env' := [(0, .string (bs s_1)), (2, .pointer (some ⟨b_2, 0, none⟩)), (5, .pointer (some ⟨b_5, 0, none⟩)), (6, .string (bs r_30.1)), (7, .int .i64 r_30.2), (65, .bool (!(f_24 == ([] : List UInt8))))]) (H' := [⟨40, b_2, [.int .i64 0, .int .u64 0, .int .u64 0, .int .u64 0, .slice none ([] : List T_api_Step).length 0, .int .i64 0, .bool false, .int .i64 0, .bool false, .int .u64 0]⟩, ⟨41, b_3, [.string (bs f_24), .bool f_25]⟩, ⟨42, b_5, [.int .i64 r_4.1, .int .u64 r_6.1, .int .u64 r_7.1, .int .u64 r_8.1, .slice A_17 f_16.length c_18, .int .i64 f_26, .bool f_27, .int .i64 f_28, .bool f_29, .int .u64 r_9.1]⟩]) (ps := [b_3 = b_3]) (by kernel_rfl) (And.intro rfl trivial) ?_
    refine GoO.bsplit (t := 65) (by kernel_rfl) (fun h32 => ?_) (fun h32 => ?_)
    · refine GoO.exec (is := [12, 13, 14, 15, 16, 17, 18, 19]) (hs := [.p, .p, .p, .p, .p, .p, .p, .p]) (rest := []) (ks := [2, 5, 73]) (env' := [(2, .pointer (some ⟨b_2, 0, none⟩)), (5, .pointer (some ⟨b_5, 0, none⟩)), (73, .bool true)]) (H' := [⟨40, b_2, [.int .i64 0, .int .u64 0, .int .u64 0, .int .u64 0, .slice none ([] : List T_api_Step).length 0, .int .i64 0, .bool false, .int .i64 0, .bool false, .int .u64 0]⟩, ⟨41, b_3, [.string (bs f_24), .bool f_25]⟩, ⟨42, b_5, [.int .i64 r_4.1, .int .u64 r_6.1, .int .u64 r_7.1, .int .u64 r_8.1, .slice A_17 f_16.length c_18, .int .i64 f_26, .bool f_27, .int .i64 f_28, .bool f_29, .int .u64 r_9.1]⟩]) (ps := []) (by kernel_rfl) trivial ?_
      refine GoO.regionEnd ?_
      exact GoO.sub (ks := [2, 5, 73]) (hk := [0, 2]) (bk := [0]) (by kernel_rfl) (by kernel_rfl) (by kernel_rfl) (tontineref16_Decode_j2_ok n r_4 r_6 r_7 r_8 r_9 f_16 f_26 f_27 f_28 f_29 b_2 b_5 A_17 c_18 w0 S0 true)
    · refine GoO.exec (is := [12, 13, 14, 15]) (hs := [.p, .p, .p, .p]) (rest := [16, 17, 18, 19]) (ks := [0, 2, 5, 6, 69]) (env' := [(0, .string (bs s_1)), (2, .pointer (some ⟨b_2, 0, none⟩)), (5, .pointer (some ⟨b_5, 0, none⟩)), (6, .string (bs r_30.1)), (69, .bool (r_30.2 != 0))]) (H' := [⟨40, b_2, [.int .i64 0, .int .u64 0, .int .u64 0, .int .u64 0, .slice none ([] : List T_api_Step).length 0, .int .i64 0, .bool false, .int .i64 0, .bool false, .int .u64 0]⟩, ⟨41, b_3, [.string (bs f_24), .bool f_25]⟩, ⟨42, b_5, [.int .i64 r_4.1, .int .u64 r_6.1, .int .u64 r_7.1, .int .u64 r_8.1, .slice A_17 f_16.length c_18, .int .i64 f_26, .bool f_27, .int .i64 f_28, .bool f_29, .int .u64 r_9.1]⟩]) (ps := []) (by kernel_rfl) trivial ?_
      refine GoO.bsplit (t := 69) (by kernel_rfl) (fun h33 => ?_) (fun h33 => ?_)
      · refine GoO.exec (is := [16, 17, 18, 19]) (hs := [.p, .p, .p, .p]) (rest := []) (ks := [2, 5, 73]) (env' := [(2, .pointer (some ⟨b_2, 0, none⟩)), (5, .pointer (some ⟨b_5, 0, none⟩)), (73, .bool true)]) (H' := [⟨40, b_2, [.int .i64 0, .int .u64 0, .int .u64 0, .int .u64 0, .slice none ([] : List T_api_Step).length 0, .int .i64 0, .bool false, .int .i64 0, .bool false, .int .u64 0]⟩, ⟨41, b_3, [.string (bs f_24), .bool f_25]⟩, ⟨42, b_5, [.int .i64 r_4.1, .int .u64 r_6.1, .int .u64 r_7.1, .int .u64 r_8.1, .slice A_17 f_16.length c_18, .int .i64 f_26, .bool f_27, .int .i64 f_28, .bool f_29, .int .u64 r_9.1]⟩]) (ps := []) (by kernel_rfl) trivial ?_
        refine GoO.regionEnd ?_
        exact GoO.sub (ks := [2, 5, 73]) (hk := [0, 2]) (bk := [0]) (by kernel_rfl) (by kernel_rfl) (by kernel_rfl) (tontineref16_Decode_j2_ok n r_4 r_6 r_7 r_8 r_9 f_16 f_26 f_27 f_28 f_29 b_2 b_5 A_17 c_18 w0 S0 true)
      · refine GoO.exec (is := [16, 17, 18, 19]) (hs := [.p, .p, .p, .p]) (rest := []) (ks := [2, 5, 73]) (env' := [(2, .pointer (some ⟨b_2, 0, none⟩)), (5, .pointer (some ⟨b_5, 0, none⟩)), (73, .bool (!(r_30.1 == s_1)))]) (H' := [⟨40, b_2, [.int .i64 0, .int .u64 0, .int .u64 0, .int .u64 0, .slice none ([] : List T_api_Step).length 0, .int .i64 0, .bool false, .int .i64 0, .bool false, .int .u64 0]⟩, ⟨41, b_3, [.string (bs f_24), .bool f_25]⟩, ⟨42, b_5, [.int .i64 r_4.1, .int .u64 r_6.1, .int .u64 r_7.1, .int .u64 r_8.1, .slice A_17 f_16.length c_18, .int .i64 f_26, .bool f_27, .int .i64 f_28, .bool f_29, .int .u64 r_9.1]⟩]) (ps := []) (by kernel_rfl) trivial ?_
        refine GoO.regionEnd ?_
        exact GoO.sub (ks := [2, 5, 73]) (hk := [0, 2]) (bk := [0]) (by kernel_rfl) (by kernel_rfl) (by kernel_rfl) (tontineref16_Decode_j2_ok n r_4 r_6 r_7 r_8 r_9 f_16 f_26 f_27 f_28 f_29 b_2 b_5 A_17 c_18 w0 S0 (!(r_30.1 == s_1)))
theorem tontineref16_Decode_j0_ok (n : Nat) (s_1 : (List UInt8)) (r_4 : Int × T_tontineref03_Reader) (r_6 : Int × T_tontineref03_Reader) (r_7 : Int × T_tontineref03_Reader) (r_8 : Int × T_tontineref03_Reader) (r_9 : Int × T_tontineref03_Reader) (b_2 : Nat) (b_3 : Nat) (b_5 : Nat) (w0 : World) (S0 : Fam) (f_14 : (List UInt8)) (f_15 : Bool) (f_16 : (List T_api_Step)) (A_17 : Option Addr) (c_18 : Nat) :
    GoO (tontineref16_Decode.cx w0 S0) [(0, .string (bs s_1)), (2, .pointer (some ⟨b_2, 0, none⟩)), (4, .pointer (some ⟨b_3, 0, none⟩)), (5, .pointer (some ⟨b_5, 0, none⟩))] [⟨40, b_2, [.int .i64 0, .int .u64 0, .int .u64 0, .int .u64 0, .slice none ([] : List T_api_Step).length 0, .int .i64 0, .bool false, .int .i64 0, .bool false, .int .u64 0]⟩, ⟨41, b_3, [.string (bs f_14), .bool f_15]⟩, ⟨42, b_5, [.int .i64 r_4.1, .int .u64 r_6.1, .int .u64 r_7.1, .int .u64 r_8.1, .slice A_17 f_16.length c_18, .int .i64 0, .bool false, .int .i64 0, .bool false, .int .u64 r_9.1]⟩] [Ow 43 kT_api_Step A_17 c_18 f_16] [.code c37_20] (tontineref16_Decode.j0 n s_1 r_4 r_6 r_7 r_8 r_9 f_14 f_15 f_16) := by
  unfold tontineref16_Decode.j0
  refine GoO.seq' c37_20e ?_
  refine GoO.seq' c37_21e ?_
  refine GoO.region' (is := [0, 1, 2]) c37_22e (by kernel_rfl) ?_
  refine GoO.exec (is := [0, 1, 2]) (hs := [.p, .b 2, .p]) (rest := []) (ks := [0, 2, 4, 5, 34]) (env' := [(0, .string (bs s_1)), (2, .pointer (some ⟨b_2, 0, none⟩)), (4, .pointer (some ⟨b_3, 0, none⟩)), (5, .pointer (some ⟨b_5, 0, none⟩)), (34, .bool (r_4.1 == 4))]) (H' := [⟨40, b_2, [.int .i64 0, .int .u64 0, .int .u64 0, .int .u64 0, .slice none ([] : List T_api_Step).length 0, .int .i64 0, .bool false, .int .i64 0, .bool false, .int .u64 0]⟩, ⟨41, b_3, [.string (bs f_14), .bool f_15]⟩, ⟨42, b_5, [.int .i64 r_4.1, .int .u64 r_6.1, .int .u64 r_7.1, .int .u64 r_8.1, .slice A_17 f_16.length c_18, .int .i64 0, .bool false, .int .i64 0, .bool false, .int .u64 r_9.1]⟩]) (ps := [b_5 = b_5]) (by kernel_rfl) (And.intro rfl trivial) ?_
  refine GoO.regionEnd ?_
  refine GoO.ite' c37_23e (by kernel_rfl) (fun h19 => ?_) (fun h19 => ?_)
  · refine GoO.seq' c37_24e ?_
    refine GoO.region' (is := [0, 1, 2, 3]) c37_25e (by kernel_rfl) ?_
    refine GoO.exec (is := [0]) (hs := [.p]) (rest := [1, 2, 3]) (ks := [0, 2, 4, 5, 35]) (env' := [(0, .string (bs s_1)), (2, .pointer (some ⟨b_2, 0, none⟩)), (4, .pointer (some ⟨b_3, 0, none⟩)), (5, .pointer (some ⟨b_5, 0, none⟩)), (35, .pointer (some ⟨b_3, 0, none⟩))]) (H' := [⟨40, b_2, [.int .i64 0, .int .u64 0, .int .u64 0, .int .u64 0, .slice none ([] : List T_api_Step).length 0, .int .i64 0, .bool false, .int .i64 0, .bool false, .int .u64 0]⟩, ⟨41, b_3, [.string (bs f_14), .bool f_15]⟩, ⟨42, b_5, [.int .i64 r_4.1, .int .u64 r_6.1, .int .u64 r_7.1, .int .u64 r_8.1, .slice A_17 f_16.length c_18, .int .i64 0, .bool false, .int .i64 0, .bool false, .int .u64 r_9.1]⟩]) (ps := []) (by kernel_rfl) trivial ?_
    refine OpTo.go (GoO.call rfl (by kernel_rfl) (by kernel_rfl) (tontineref03_Reader_Up_ok n (⟨f_14, f_15⟩ : T_tontineref03_Reader) 63 b_3) [[0], [41]] [(41, 1)] [(1, 1)] [] (hks := [0, 2]) (bks := [0]) (by kernel_rfl) (by kernel_rfl) (by kernel_rfl) (.inl rfl) rfl rfl (by kernel_rfl) (by kernel_rfl) _ (fun _ _ => rfl) _ _ (fun _ _ => rfl) (fun _ _ => rfl) (fun _ _ => by kernel_rfl) (fun _ _ => by kernel_rfl) (fun r_20 x_27 => ?_))
    refine GoO.shape (env' := [(0, .string (bs s_1)), (2, .pointer (some ⟨b_2, 0, none⟩)), (4, .pointer (some ⟨b_3, 0, none⟩)), (5, .pointer (some ⟨b_5, 0, none⟩)), (35, .pointer (some ⟨b_3, 0, none⟩)), (36, .int .i64 r_20.1)]) (H' := [⟨41, b_3, [.string (bs r_20.2.S_), .bool r_20.2.Bad]⟩, ⟨40, b_2, [.int .i64 0, .int .u64 0, .int .u64 0, .int .u64 0, .slice none ([] : List T_api_Step).length 0, .int .i64 0, .bool false, .int .i64 0, .bool false, .int .u64 0]⟩, ⟨42, b_5, [.int .i64 r_4.1, .int .u64 r_6.1, .int .u64 r_7.1, .int .u64 r_8.1, .slice A_17 f_16.length c_18, .int .i64 0, .bool false, .int .i64 0, .bool false, .int .u64 r_9.1]⟩]) (B' := [Ow 43 kT_api_Step A_17 c_18 f_16]) (ks := [0, 2, 4, 5, 35, 36]) (by kernel_rfl) (by kernel_rfl) (by kernel_rfl) ?_
    refine GoO.exec (is := [2, 3]) (hs := [.p, .b 2]) (rest := []) (ks := [0, 2, 4, 5]) (env' := [(0, .string (bs s_1)), (2, .pointer (some ⟨b_2, 0, none⟩)), (4, .pointer (some ⟨b_3, 0, none⟩)), (5, .pointer (some ⟨b_5, 0, none⟩))]) (H' := [⟨41, b_3, [.string (bs r_20.2.S_), .bool r_20.2.Bad]⟩, ⟨40, b_2, [.int .i64 0, .int .u64 0, .int .u64 0, .int .u64 0, .slice none ([] : List T_api_Step).length 0, .int .i64 0, .bool false, .int .i64 0, .bool false, .int .u64 0]⟩, ⟨42, b_5, [.int .i64 r_4.1, .int .u64 r_6.1, .int .u64 r_7.1, .int .u64 r_8.1, .slice A_17 f_16.length c_18, .int .i64 r_20.1, .bool false, .int .i64 0, .bool false, .int .u64 r_9.1]⟩]) (ps := [b_5 = b_5]) (by kernel_rfl) (And.intro rfl trivial) ?_
    refine GoO.regionEnd ?_
    refine GoO.seq' c37_26e ?_
    refine GoO.region' (is := [0, 1, 2, 3, 4]) c37_27e (by kernel_rfl) ?_
    refine GoO.exec (is := [0]) (hs := [.p]) (rest := [1, 2, 3, 4]) (ks := [0, 2, 4, 5, 38]) (env' := [(0, .string (bs s_1)), (2, .pointer (some ⟨b_2, 0, none⟩)), (4, .pointer (some ⟨b_3, 0, none⟩)), (5, .pointer (some ⟨b_5, 0, none⟩)), (38, .pointer (some ⟨b_3, 0, none⟩))]) (H' := [⟨41, b_3, [.string (bs r_20.2.S_), .bool r_20.2.Bad]⟩, ⟨40, b_2, [.int .i64 0, .int .u64 0, .int .u64 0, .int .u64 0, .slice none ([] : List T_api_Step).length 0, .int .i64 0, .bool false, .int .i64 0, .bool false, .int .u64 0]⟩, ⟨42, b_5, [.int .i64 r_4.1, .int .u64 r_6.1, .int .u64 r_7.1, .int .u64 r_8.1, .slice A_17 f_16.length c_18, .int .i64 r_20.1, .bool false, .int .i64 0, .bool false, .int .u64 r_9.1]⟩]) (ps := []) (by kernel_rfl) trivial ?_
    refine OpTo.go (GoO.call rfl (by kernel_rfl) (by kernel_rfl) (tontineref03_Reader_Up_ok n r_20.2 1 b_3) [[0], [41]] [(41, 1)] [(1, 0)] [] (hks := [1, 2]) (bks := [0]) (by kernel_rfl) (by kernel_rfl) (by kernel_rfl) (.inl rfl) rfl rfl (by kernel_rfl) (by kernel_rfl) _ (fun _ _ => rfl) _ _ (fun _ _ => rfl) (fun _ _ => rfl) (fun _ _ => by kernel_rfl) (fun _ _ => by kernel_rfl) (fun r_21 x_26 => ?_))
    refine GoO.shape (env' := [(0, .string (bs s_1)), (2, .pointer (some ⟨b_2, 0, none⟩)), (4, .pointer (some ⟨b_3, 0, none⟩)), (5, .pointer (some ⟨b_5, 0, none⟩)), (38, .pointer (some ⟨b_3, 0, none⟩)), (39, .int .i64 r_21.1)]) (H' := [⟨41, b_3, [.string (bs r_21.2.S_), .bool r_21.2.Bad]⟩, ⟨40, b_2, [.int .i64 0, .int .u64 0, .int .u64 0, .int .u64 0, .slice none ([] : List T_api_Step).length 0, .int .i64 0, .bool false, .int .i64 0, .bool false, .int .u64 0]⟩, ⟨42, b_5, [.int .i64 r_4.1, .int .u64 r_6.1, .int .u64 r_7.1, .int .u64 r_8.1, .slice A_17 f_16.length c_18, .int .i64 r_20.1, .bool false, .int .i64 0, .bool false, .int .u64 r_9.1]⟩]) (B' := [Ow 43 kT_api_Step A_17 c_18 f_16]) (ks := [0, 2, 4, 5, 38, 39]) (by kernel_rfl) (by kernel_rfl) (by kernel_rfl) ?_
    refine GoO.exec (is := [2, 3, 4]) (hs := [.p, .p, .b 2]) (rest := []) (ks := [0, 2, 4, 5]) (env' := [(0, .string (bs s_1)), (2, .pointer (some ⟨b_2, 0, none⟩)), (4, .pointer (some ⟨b_3, 0, none⟩)), (5, .pointer (some ⟨b_5, 0, none⟩))]) (H' := [⟨41, b_3, [.string (bs r_21.2.S_), .bool r_21.2.Bad]⟩, ⟨40, b_2, [.int .i64 0, .int .u64 0, .int .u64 0, .int .u64 0, .slice none ([] : List T_api_Step).length 0, .int .i64 0, .bool false, .int .i64 0, .bool false, .int .u64 0]⟩, ⟨42, b_5, [.int .i64 r_4.1, .int .u64 r_6.1, .int .u64 r_7.1, .int .u64 r_8.1, .slice A_17 f_16.length c_18, .int .i64 r_20.1, .bool (r_21.1 == 1), .int .i64 0, .bool false, .int .u64 r_9.1]⟩]) (ps := [b_5 = b_5]) (by kernel_rfl) (And.intro rfl trivial) ?_
    refine GoO.regionEnd ?_
    refine GoO.seq' c37_28e ?_
    refine GoO.region' (is := [0, 1, 2, 3]) c37_29e (by kernel_rfl) ?_
    refine GoO.exec (is := [0]) (hs := [.p]) (rest := [1, 2, 3]) (ks := [0, 2, 4, 5, 42]) (env' := [(0, .string (bs s_1)), (2, .pointer (some ⟨b_2, 0, none⟩)), (4, .pointer (some ⟨b_3, 0, none⟩)), (5, .pointer (some ⟨b_5, 0, none⟩)), (42, .pointer (some ⟨b_3, 0, none⟩))]) (H' := [⟨41, b_3, [.string (bs r_21.2.S_), .bool r_21.2.Bad]⟩, ⟨40, b_2, [.int .i64 0, .int .u64 0, .int .u64 0, .int .u64 0, .slice none ([] : List T_api_Step).length 0, .int .i64 0, .bool false, .int .i64 0, .bool false, .int .u64 0]⟩, ⟨42, b_5, [.int .i64 r_4.1, .int .u64 r_6.1, .int .u64 r_7.1, .int .u64 r_8.1, .slice A_17 f_16.length c_18, .int .i64 r_20.1, .bool (r_21.1 == 1), .int .i64 0, .bool false, .int .u64 r_9.1]⟩]) (ps := []) (by kernel_rfl) trivial ?_
    refine OpTo.go (GoO.call rfl (by kernel_rfl) (by kernel_rfl) (tontineref03_Reader_Up_ok n r_21.2 8 b_3) [[0], [41]] [(41, 1)] [(1, 0)] [] (hks := [1, 2]) (bks := [0]) (by kernel_rfl) (by kernel_rfl) (by kernel_rfl) (.inl rfl) rfl rfl (by kernel_rfl) (by kernel_rfl) _ (fun _ _ => rfl) _ _ (fun _ _ => rfl) (fun _ _ => rfl) (fun _ _ => by kernel_rfl) (fun _ _ => by kernel_rfl) (fun r_22 x_25 => ?_))
    refine GoO.shape (env' := [(0, .string (bs s_1)), (2, .pointer (some ⟨b_2, 0, none⟩)), (4, .pointer (some ⟨b_3, 0, none⟩)), (5, .pointer (some ⟨b_5, 0, none⟩)), (42, .pointer (some ⟨b_3, 0, none⟩)), (43, .int .i64 r_22.1)]) (H' := [⟨41, b_3, [.string (bs r_22.2.S_), .bool r_22.2.Bad]⟩, ⟨40, b_2, [.int .i64 0, .int .u64 0, .int .u64 0, .int .u64 0, .slice none ([] : List T_api_Step).length 0, .int .i64 0, .bool false, .int .i64 0, .bool false, .int .u64 0]⟩, ⟨42, b_5, [.int .i64 r_4.1, .int .u64 r_6.1, .int .u64 r_7.1, .int .u64 r_8.1, .slice A_17 f_16.length c_18, .int .i64 r_20.1, .bool (r_21.1 == 1), .int .i64 0, .bool false, .int .u64 r_9.1]⟩]) (B' := [Ow 43 kT_api_Step A_17 c_18 f_16]) (ks := [0, 2, 4, 5, 42, 43]) (by kernel_rfl) (by kernel_rfl) (by kernel_rfl) ?_
    refine GoO.exec (is := [2, 3]) (hs := [.p, .b 2]) (rest := []) (ks := [0, 2, 4, 5]) (env' := [(0, .string (bs s_1)), (2, .pointer (some ⟨b_2, 0, none⟩)), (4, .pointer (some ⟨b_3, 0, none⟩)), (5, .pointer (some ⟨b_5, 0, none⟩))]) (H' := [⟨41, b_3, [.string (bs r_22.2.S_), .bool r_22.2.Bad]⟩, ⟨40, b_2, [.int .i64 0, .int .u64 0, .int .u64 0, .int .u64 0, .slice none ([] : List T_api_Step).length 0, .int .i64 0, .bool false, .int .i64 0, .bool false, .int .u64 0]⟩, ⟨42, b_5, [.int .i64 r_4.1, .int .u64 r_6.1, .int .u64 r_7.1, .int .u64 r_8.1, .slice A_17 f_16.length c_18, .int .i64 r_20.1, .bool (r_21.1 == 1), .int .i64 r_22.1, .bool false, .int .u64 r_9.1]⟩]) (ps := [b_5 = b_5]) (by kernel_rfl) (And.intro rfl trivial) ?_
    refine GoO.regionEnd ?_
    refine GoO.region' (is := [0, 1, 2, 3, 4]) c37_30e (by kernel_rfl) ?_
    refine GoO.exec (is := [0]) (hs := [.p]) (rest := [1, 2, 3, 4]) (ks := [0, 2, 4, 5, 45]) (env' := [(0, .string (bs s_1)), (2, .pointer (some ⟨b_2, 0, none⟩)), (4, .pointer (some ⟨b_3, 0, none⟩)), (5, .pointer (some ⟨b_5, 0, none⟩)), (45, .pointer (some ⟨b_3, 0, none⟩))]) (H' := [⟨41, b_3, [.string (bs r_22.2.S_), .bool r_22.2.Bad]⟩, ⟨40, b_2, [.int .i64 0, .int .u64 0, .int .u64 0, .int .u64 0, .slice none ([] : List T_api_Step).length 0, .int .i64 0, .bool false, .int .i64 0, .bool false, .int .u64 0]⟩, ⟨42, b_5, [.int .i64 r_4.1, .int .u64 r_6.1, .int .u64 r_7.1, .int .u64 r_8.1, .slice A_17 f_16.length c_18, .int .i64 r_20.1, .bool (r_21.1 == 1), .int .i64 r_22.1, .bool false, .int .u64 r_9.1]⟩]) (ps := []) (by kernel_rfl) trivial ?_
    refine OpTo.go (GoO.call rfl (by kernel_rfl) (by kernel_rfl) (tontineref03_Reader_Up_ok n r_22.2 1 b_3) [[0], [41]] [(41, 1)] [(1, 0)] [] (hks := [1, 2]) (bks := [0]) (by kernel_rfl) (by kernel_rfl) (by kernel_rfl) (.inl rfl) rfl rfl (by kernel_rfl) (by kernel_rfl) _ (fun _ _ => rfl) _ _ (fun _ _ => rfl) (fun _ _ => rfl) (fun _ _ => by kernel_rfl) (fun _ _ => by kernel_rfl) (fun r_23 x_24 => ?_))
    refine GoO.shape (env' := [(0, .string (bs s_1)), (2, .pointer (some ⟨b_2, 0, none⟩)), (4, .pointer (some ⟨b_3, 0, none⟩)), (5, .pointer (some ⟨b_5, 0, none⟩)), (45, .pointer (some ⟨b_3, 0, none⟩)), (46, .int .i64 r_23.1)]) (H' := [⟨41, b_3, [.string (bs r_23.2.S_), .bool r_23.2.Bad]⟩, ⟨40, b_2, [.int .i64 0, .int .u64 0, .int .u64 0, .int .u64 0, .slice none ([] : List T_api_Step).length 0, .int .i64 0, .bool false, .int .i64 0, .bool false, .int .u64 0]⟩, ⟨42, b_5, [.int .i64 r_4.1, .int .u64 r_6.1, .int .u64 r_7.1, .int .u64 r_8.1, .slice A_17 f_16.length c_18, .int .i64 r_20.1, .bool (r_21.1 == 1), .int .i64 r_22.1, .bool false, .int .u64 r_9.1]⟩]) (B' := [Ow 43 kT_api_Step A_17 c_18 f_16]) (ks := [0, 2, 4, 5, 45, 46]) (by kernel_rfl) (by kernel_rfl) (by kernel_rfl) ?_
    refine GoO.exec (is := [2, 3, 4]) (hs := [.p, .p, .b 2]) (rest := []) (ks := [0, 2, 4, 5]) (env' := [(0, .string (bs s_1)), (2, .pointer (some ⟨b_2, 0, none⟩)), (4, .pointer (some ⟨b_3, 0, none⟩)), (5, .pointer (some ⟨b_5, 0, none⟩))]) (H' := [⟨41, b_3, [.string (bs r_23.2.S_), .bool r_23.2.Bad]⟩, ⟨40, b_2, [.int .i64 0, .int .u64 0, .int .u64 0, .int .u64 0, .slice none ([] : List T_api_Step).length 0, .int .i64 0, .bool false, .int .i64 0, .bool false, .int .u64 0]⟩, ⟨42, b_5, [.int .i64 r_4.1, .int .u64 r_6.1, .int .u64 r_7.1, .int .u64 r_8.1, .slice A_17 f_16.length c_18, .int .i64 r_20.1, .bool (r_21.1 == 1), .int .i64 r_22.1, .bool (r_23.1 == 1), .int .u64 r_9.1]⟩]) (ps := [b_5 = b_5]) (by kernel_rfl) (And.intro rfl trivial) ?_
    refine GoO.regionEnd ?_
    exact GoO.sub (ks := [0, 2, 4, 5]) (hk := [1, 0, 2]) (bk := [0]) (by kernel_rfl) (by kernel_rfl) (by kernel_rfl) (tontineref16_Decode_j1_ok n s_1 r_4 r_6 r_7 r_8 r_9 f_16 b_2 b_3 b_5 A_17 c_18 w0 S0 r_23.2.S_ r_23.2.Bad r_20.1 (r_21.1 == 1) r_22.1 (r_23.1 == 1))
  · refine GoO.skip' c37_31e ?_
    exact GoO.sub (ks := [0, 2, 4, 5]) (hk := [0, 1, 2]) (bk := [0]) (by kernel_rfl) (by kernel_rfl) (by kernel_rfl) (tontineref16_Decode_j1_ok n s_1 r_4 r_6 r_7 r_8 r_9 f_16 b_2 b_3 b_5 A_17 c_18 w0 S0 f_14 f_15 0 false 0 false)
end Go.GL
