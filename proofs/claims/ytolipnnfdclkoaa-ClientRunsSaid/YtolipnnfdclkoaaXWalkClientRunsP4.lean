import Derived.Test.YtolipnnfdclkoaaXWalkClientRunsP3
import Derived.Test.YtolipnnfdclkoaaXKindsT2
import Derived.Test.YtolipnnfdclkoaaProg
set_option linter.unusedVariables false
set_option linter.unusedSimpArgs false
set_option maxRecDepth 100000
namespace Go.GL
open Go Go.Proofs
theorem tontineref21_Client_Hear_j1_ok (n : Nat) (c_1 : T_tontineref21_Client) (x_5 : T_api_Letter) (r_11 : T_api_Reply × Int) (b_2 : Nat) (A_3 : Option Addr) (c_4 : Nat) (A_6 : Option Addr) (c_7 : Nat) (b_8 : Nat) (b_9 : Nat) (b_10 : Nat) (b_12 : Nat) (w0 : World) (S0 : Fam) (b_20 : Bool) :
    GoO (tontineref21_Client_Hear.cx b_2 A_3 c_4 A_6 c_7 w0 S0) [(0, vP b_2), (3, vP b_8), (4, vP b_9), (6, vP b_10), (8, vP b_12), (58, .bool b_20)] [⟨1, b_2, [vI c_1.Id, vU c_1.Session, vU c_1.Last, vU c_1.Calls, .bool c_1.Busy, vI c_1.Now.Kind, vU c_1.Now.Session, vU c_1.Now.Seq, vU c_1.Now.Saga, .slice A_3 c_1.Now.Steps.length c_4, vI c_1.Now.Step, .bool c_1.Now.Back, vI c_1.Now.Try, .bool c_1.Now.Ok, vU c_1.Now.Now, vI c_1.To]⟩, ⟨40, b_8, [vI x_5.Kind, vI x_5.From, vI x_5.To, vU x_5.Term, vU x_5.Index, vU x_5.Prev, vU x_5.Commit, .bool x_5.Ok, .slice A_6 x_5.Entries.length c_7, .string (bs x_5.Data)]⟩, ⟨41, b_9, [vI 0, vI 0, vU 0, vU 0, vU 0, .slice none ([] : List T_api_Step).length 0, vI 0, .bool false, vI 0, .bool false, vU 0, vI 0, vU 0, vU 0]⟩, ⟨42, b_10, [vI 0, vI 0, vI 0, vU 0, vU 0, vU 0, vU 0, .bool false, .slice none ([] : List T_api_Entry).length 0, .string (bs [])]⟩, ⟨43, b_12, [vI r_11.1.Err, vU r_11.1.Num, vU r_11.1.Extra]⟩] [Rd 0 kT_api_Step A_3 c_4 c_1.Now.Steps, Rd 0 kT_api_Entry A_6 c_7 x_5.Entries] [.code c48_15, .code c48_30] (tontineref21_Client_Hear.j1 n c_1 x_5 r_11 b_20) := by
  unfold tontineref21_Client_Hear.j1
  refine GoO.ite' c48_15e (by kernel_rfl) (fun h21 => ?_) (fun h21 => ?_)
  · refine GoO.seq' c48_16e ?_
    refine GoO.seq' c48_17e ?_
    refine GoO.draw c48_18e (by kernel_rfl) [] [⟨1, b_2, [vI c_1.Id, vU c_1.Session, vU c_1.Last, vU c_1.Calls, .bool c_1.Busy, vI c_1.Now.Kind, vU c_1.Now.Session, vU c_1.Now.Seq, vU c_1.Now.Saga, .slice A_3 c_1.Now.Steps.length c_4, vI c_1.Now.Step, .bool c_1.Now.Back, vI c_1.Now.Try, .bool c_1.Now.Ok, vU c_1.Now.Now, vI c_1.To]⟩, ⟨40, b_8, [vI x_5.Kind, vI x_5.From, vI x_5.To, vU x_5.Term, vU x_5.Index, vU x_5.Prev, vU x_5.Commit, .bool x_5.Ok, .slice A_6 x_5.Entries.length c_7, .string (bs x_5.Data)]⟩] [] (n := 19) (by kernel_rfl) ?_
    simp only [List.replicate]
    refine GoF.take [0, 1, 2, 3] [.p, .b 1, .p, .p] (ks := [0, 3, 4, 6, 62]) (fu := 15) (li := [true, true, true, true, false, false, false, false, false, false, false, false, false, false, false, false, false, false, false]) (env' := [(0, vP b_2), (3, vP b_8), (4, vP b_9), (6, vP b_10), (62, .bool (decide (x_5.Commit < 1)))]) (ps := [b_8 = b_8]) (hk := [0, 1]) (bk := []) (by kernel_rfl) (And.intro rfl trivial) rfl rfl ?_
    refine GoF.bsplit (t := 62) (by kernel_rfl) (fun h22 => ?_) (fun h22 => ?_)
    · refine GoF.take [4, 5, 6, 7, 8, 9, 10, 11, 12, 13, 14, 15, 16, 17, 18] [.p, .p, .p, .p, .p, .p, .p, .p, .p, .p, .p, .p, .p, .p, .p] (ks := [0, 3, 4, 6, 77]) (fu := 0) (li := [true, true, true, true, true, true, true, true, true, true, true, true, true, true, true, true, true, true, true]) (env' := [(0, vP b_2), (3, vP b_8), (4, vP b_9), (6, vP b_10), (77, .bool true)]) (ps := []) (hk := [0, 1]) (bk := []) (by kernel_rfl) trivial rfl rfl ?_
      refine GoF.done (by kernel_rfl) ?_
      exact GoO.sub (ks := [0, 3, 4, 6, 77]) (hk := [0, 1, 2, 3]) (bk := [0, 1]) (by kernel_rfl) (by kernel_rfl) (by kernel_rfl) (tontineref21_Client_Hear_j2_ok n c_1 x_5 b_2 A_3 c_4 A_6 c_7 b_8 b_9 b_10 w0 S0 true)
    · refine GoF.take [4, 5, 6, 7, 8] [.p, .b 1, .p, .p, .p] (ks := [0, 3, 4, 6, 67]) (fu := 10) (li := [true, true, true, true, true, true, true, true, true, false, false, false, false, false, false, false, false, false, false]) (env' := [(0, vP b_2), (3, vP b_8), (4, vP b_9), (6, vP b_10), (67, .bool (decide (x_5.Commit > 7)))]) (ps := [b_8 = b_8]) (hk := [0, 1]) (bk := []) (by kernel_rfl) (And.intro rfl trivial) rfl rfl ?_
      refine GoF.bsplit (t := 67) (by kernel_rfl) (fun h23 => ?_) (fun h23 => ?_)
      · refine GoF.take [9, 10, 11, 12, 13, 14, 15, 16, 17, 18] [.p, .p, .p, .p, .p, .p, .p, .p, .p, .p] (ks := [0, 3, 4, 6, 77]) (fu := 0) (li := [true, true, true, true, true, true, true, true, true, true, true, true, true, true, true, true, true, true, true]) (env' := [(0, vP b_2), (3, vP b_8), (4, vP b_9), (6, vP b_10), (77, .bool true)]) (ps := []) (hk := [0, 1]) (bk := []) (by kernel_rfl) trivial rfl rfl ?_
        refine GoF.done (by kernel_rfl) ?_
        exact GoO.sub (ks := [0, 3, 4, 6, 77]) (hk := [0, 1, 2, 3]) (bk := [0, 1]) (by kernel_rfl) (by kernel_rfl) (by kernel_rfl) (tontineref21_Client_Hear_j2_ok n c_1 x_5 b_2 A_3 c_4 A_6 c_7 b_8 b_9 b_10 w0 S0 true)
      · refine GoF.take [9, 10, 11, 12, 13, 14, 15, 16, 17, 18] [.p, .b 1, .p, .p, .p, .p, .b 0, .p, .p, .p] (ks := [0, 3, 4, 6, 77]) (fu := 0) (li := [true, true, true, true, true, true, true, true, true, true, true, true, true, true, true, true, true, true, true]) (env' := [(0, vP b_2), (3, vP b_8), (4, vP b_9), (6, vP b_10), (77, .bool ((wi64 x_5.Commit) == (wi64 (c_1.To + 1))))]) (ps := [b_8 = b_8, b_2 = b_2]) (hk := [0, 1]) (bk := []) (by kernel_rfl) (And.intro rfl (And.intro rfl trivial)) rfl rfl ?_
        refine GoF.done (by kernel_rfl) ?_
        exact GoO.sub (ks := [0, 3, 4, 6, 77]) (hk := [0, 1, 2, 3]) (bk := [0, 1]) (by kernel_rfl) (by kernel_rfl) (by kernel_rfl) (tontineref21_Client_Hear_j2_ok n c_1 x_5 b_2 A_3 c_4 A_6 c_7 b_8 b_9 b_10 w0 S0 ((wi64 x_5.Commit) == (wi64 (c_1.To + 1))))
  · refine GoO.skip' c48_29e ?_
    refine GoO.seq' c48_30e ?_
    refine GoO.region' (is := [0, 1, 2, 3]) c48_31e (by kernel_rfl) ?_
    refine GoO.exec (is := [0, 1, 2, 3]) (hs := [.p, .p, .p, .b 0]) (rest := []) (ks := [0, 4, 6, 8]) (env' := [(0, vP b_2), (4, vP b_9), (6, vP b_10), (8, vP b_12)]) (H' := [⟨1, b_2, [vI c_1.Id, vU c_1.Session, vU c_1.Last, vU c_1.Calls, .bool false, vI c_1.Now.Kind, vU c_1.Now.Session, vU c_1.Now.Seq, vU c_1.Now.Saga, .slice A_3 c_1.Now.Steps.length c_4, vI c_1.Now.Step, .bool c_1.Now.Back, vI c_1.Now.Try, .bool c_1.Now.Ok, vU c_1.Now.Now, vI c_1.To]⟩, ⟨40, b_8, [vI x_5.Kind, vI x_5.From, vI x_5.To, vU x_5.Term, vU x_5.Index, vU x_5.Prev, vU x_5.Commit, .bool x_5.Ok, .slice A_6 x_5.Entries.length c_7, .string (bs x_5.Data)]⟩, ⟨41, b_9, [vI 0, vI 0, vU 0, vU 0, vU 0, .slice none ([] : List T_api_Step).length 0, vI 0, .bool false, vI 0, .bool false, vU 0, vI 0, vU 0, vU 0]⟩, ⟨42, b_10, [vI 0, vI 0, vI 0, vU 0, vU 0, vU 0, vU 0, .bool false, .slice none ([] : List T_api_Entry).length 0, .string (bs [])]⟩, ⟨43, b_12, [vI r_11.1.Err, vU r_11.1.Num, vU r_11.1.Extra]⟩]) (ps := [b_2 = b_2]) (by kernel_rfl) (And.intro rfl trivial) ?_
    refine GoO.regionEnd ?_
    refine GoO.seq' c48_32e ?_
    refine GoO.seq' c48_33e ?_
    refine GoO.region' (is := [0, 1, 2, 3, 4, 5]) c48_34e (by kernel_rfl) ?_
    refine GoO.exec (is := [0, 1, 2, 3, 4, 5]) (hs := [.p, .p, .p, .p, .b 0, .p]) (rest := []) (ks := [0, 4, 6, 8, 98]) (env' := [(0, vP b_2), (4, vP b_9), (6, vP b_10), (8, vP b_12), (98, .bool (c_1.Now.Kind == 1))]) (H' := [⟨1, b_2, [vI c_1.Id, vU c_1.Session, vU c_1.Last, vU c_1.Calls, .bool false, vI c_1.Now.Kind, vU c_1.Now.Session, vU c_1.Now.Seq, vU c_1.Now.Saga, .slice A_3 c_1.Now.Steps.length c_4, vI c_1.Now.Step, .bool c_1.Now.Back, vI c_1.Now.Try, .bool c_1.Now.Ok, vU c_1.Now.Now, vI c_1.To]⟩, ⟨40, b_8, [vI x_5.Kind, vI x_5.From, vI x_5.To, vU x_5.Term, vU x_5.Index, vU x_5.Prev, vU x_5.Commit, .bool x_5.Ok, .slice A_6 x_5.Entries.length c_7, .string (bs x_5.Data)]⟩, ⟨41, b_9, [vI 0, vI 0, vU 0, vU 0, vU 0, .slice none ([] : List T_api_Step).length 0, vI 0, .bool false, vI 0, .bool false, vU 0, vI 0, vU 0, vU 0]⟩, ⟨42, b_10, [vI 0, vI 0, vI 0, vU 0, vU 0, vU 0, vU 0, .bool false, .slice none ([] : List T_api_Entry).length 0, .string (bs [])]⟩, ⟨43, b_12, [vI r_11.1.Err, vU r_11.1.Num, vU r_11.1.Extra]⟩]) (ps := [b_2 = b_2]) (by kernel_rfl) (And.intro rfl trivial) ?_
    refine GoO.regionEnd ?_
    refine GoO.ite' c48_35e (by kernel_rfl) (fun h30 => ?_) (fun h30 => ?_)
    · refine GoO.seq' c48_36e ?_
      refine GoO.region' (is := [0, 1, 2]) c48_37e (by kernel_rfl) ?_
      refine GoO.exec (is := [0, 1, 2]) (hs := [.p, .b 4, .p]) (rest := []) (ks := [0, 4, 6, 8, 101]) (env' := [(0, vP b_2), (4, vP b_9), (6, vP b_10), (8, vP b_12), (101, .bool (r_11.1.Err == 0))]) (H' := [⟨1, b_2, [vI c_1.Id, vU c_1.Session, vU c_1.Last, vU c_1.Calls, .bool false, vI c_1.Now.Kind, vU c_1.Now.Session, vU c_1.Now.Seq, vU c_1.Now.Saga, .slice A_3 c_1.Now.Steps.length c_4, vI c_1.Now.Step, .bool c_1.Now.Back, vI c_1.Now.Try, .bool c_1.Now.Ok, vU c_1.Now.Now, vI c_1.To]⟩, ⟨40, b_8, [vI x_5.Kind, vI x_5.From, vI x_5.To, vU x_5.Term, vU x_5.Index, vU x_5.Prev, vU x_5.Commit, .bool x_5.Ok, .slice A_6 x_5.Entries.length c_7, .string (bs x_5.Data)]⟩, ⟨41, b_9, [vI 0, vI 0, vU 0, vU 0, vU 0, .slice none ([] : List T_api_Step).length 0, vI 0, .bool false, vI 0, .bool false, vU 0, vI 0, vU 0, vU 0]⟩, ⟨42, b_10, [vI 0, vI 0, vI 0, vU 0, vU 0, vU 0, vU 0, .bool false, .slice none ([] : List T_api_Entry).length 0, .string (bs [])]⟩, ⟨43, b_12, [vI r_11.1.Err, vU r_11.1.Num, vU r_11.1.Extra]⟩]) (ps := [b_12 = b_12]) (by kernel_rfl) (And.intro rfl trivial) ?_
      refine GoO.regionEnd ?_
      refine GoO.ite' c48_38e (by kernel_rfl) (fun h31 => ?_) (fun h31 => ?_)
      · refine GoO.seq' c48_39e ?_
        refine GoO.region' (is := [0, 1, 2, 3, 4, 5]) c48_40e (by kernel_rfl) ?_
        refine GoO.exec (is := [0, 1, 2, 3, 4, 5]) (hs := [.p, .p, .b 4, .p, .p, .b 0]) (rest := []) (ks := [0, 4, 6, 8]) (env' := [(0, vP b_2), (4, vP b_9), (6, vP b_10), (8, vP b_12)]) (H' := [⟨1, b_2, [vI c_1.Id, vU r_11.1.Num, vU c_1.Last, vU c_1.Calls, .bool false, vI c_1.Now.Kind, vU c_1.Now.Session, vU c_1.Now.Seq, vU c_1.Now.Saga, .slice A_3 c_1.Now.Steps.length c_4, vI c_1.Now.Step, .bool c_1.Now.Back, vI c_1.Now.Try, .bool c_1.Now.Ok, vU c_1.Now.Now, vI c_1.To]⟩, ⟨40, b_8, [vI x_5.Kind, vI x_5.From, vI x_5.To, vU x_5.Term, vU x_5.Index, vU x_5.Prev, vU x_5.Commit, .bool x_5.Ok, .slice A_6 x_5.Entries.length c_7, .string (bs x_5.Data)]⟩, ⟨41, b_9, [vI 0, vI 0, vU 0, vU 0, vU 0, .slice none ([] : List T_api_Step).length 0, vI 0, .bool false, vI 0, .bool false, vU 0, vI 0, vU 0, vU 0]⟩, ⟨42, b_10, [vI 0, vI 0, vI 0, vU 0, vU 0, vU 0, vU 0, .bool false, .slice none ([] : List T_api_Entry).length 0, .string (bs [])]⟩, ⟨43, b_12, [vI r_11.1.Err, vU r_11.1.Num, vU r_11.1.Extra]⟩]) (ps := [b_12 = b_12, b_2 = b_2]) (by kernel_rfl) (And.intro rfl (And.intro rfl trivial)) ?_
        refine GoO.regionEnd ?_
        refine GoO.region' (is := [0, 1, 2, 3]) c48_41e (by kernel_rfl) ?_
        refine GoO.exec (is := [0, 1, 2, 3]) (hs := [.p, .p, .p, .b 0]) (rest := []) (ks := [0, 4, 6, 8]) (env' := [(0, vP b_2), (4, vP b_9), (6, vP b_10), (8, vP b_12)]) (H' := [⟨1, b_2, [vI c_1.Id, vU r_11.1.Num, vU 0, vU c_1.Calls, .bool false, vI c_1.Now.Kind, vU c_1.Now.Session, vU c_1.Now.Seq, vU c_1.Now.Saga, .slice A_3 c_1.Now.Steps.length c_4, vI c_1.Now.Step, .bool c_1.Now.Back, vI c_1.Now.Try, .bool c_1.Now.Ok, vU c_1.Now.Now, vI c_1.To]⟩, ⟨40, b_8, [vI x_5.Kind, vI x_5.From, vI x_5.To, vU x_5.Term, vU x_5.Index, vU x_5.Prev, vU x_5.Commit, .bool x_5.Ok, .slice A_6 x_5.Entries.length c_7, .string (bs x_5.Data)]⟩, ⟨41, b_9, [vI 0, vI 0, vU 0, vU 0, vU 0, .slice none ([] : List T_api_Step).length 0, vI 0, .bool false, vI 0, .bool false, vU 0, vI 0, vU 0, vU 0]⟩, ⟨42, b_10, [vI 0, vI 0, vI 0, vU 0, vU 0, vU 0, vU 0, .bool false, .slice none ([] : List T_api_Entry).length 0, .string (bs [])]⟩, ⟨43, b_12, [vI r_11.1.Err, vU r_11.1.Num, vU r_11.1.Extra]⟩]) (ps := [b_2 = b_2]) (by kernel_rfl) (And.intro rfl trivial) ?_
        refine GoO.regionEnd ?_
        exact GoO.sub (ks := [0, 4, 6, 8]) (hk := [0, 2, 3, 4]) (bk := [0]) (by kernel_rfl) (by kernel_rfl) (by kernel_rfl) (tontineref21_Client_Hear_j3_ok n c_1 r_11 b_2 A_3 c_4 b_9 b_10 b_12 A_6 c_7 w0 S0 r_11.1.Num 0)
      · refine GoO.skip' c48_42e ?_
        exact GoO.sub (ks := [0, 4, 6, 8]) (hk := [0, 2, 3, 4]) (bk := [0]) (by kernel_rfl) (by kernel_rfl) (by kernel_rfl) (tontineref21_Client_Hear_j3_ok n c_1 r_11 b_2 A_3 c_4 b_9 b_10 b_12 A_6 c_7 w0 S0 c_1.Session c_1.Last)
    · refine GoO.seq' c48_43e ?_
      refine GoO.region' (is := [0, 1, 2]) c48_44e (by kernel_rfl) ?_
      refine GoO.exec (is := [0, 1, 2]) (hs := [.p, .b 4, .p]) (rest := []) (ks := [0, 4, 6, 8, 112]) (env' := [(0, vP b_2), (4, vP b_9), (6, vP b_10), (8, vP b_12), (112, .bool (r_11.1.Err == 40))]) (H' := [⟨1, b_2, [vI c_1.Id, vU c_1.Session, vU c_1.Last, vU c_1.Calls, .bool false, vI c_1.Now.Kind, vU c_1.Now.Session, vU c_1.Now.Seq, vU c_1.Now.Saga, .slice A_3 c_1.Now.Steps.length c_4, vI c_1.Now.Step, .bool c_1.Now.Back, vI c_1.Now.Try, .bool c_1.Now.Ok, vU c_1.Now.Now, vI c_1.To]⟩, ⟨40, b_8, [vI x_5.Kind, vI x_5.From, vI x_5.To, vU x_5.Term, vU x_5.Index, vU x_5.Prev, vU x_5.Commit, .bool x_5.Ok, .slice A_6 x_5.Entries.length c_7, .string (bs x_5.Data)]⟩, ⟨41, b_9, [vI 0, vI 0, vU 0, vU 0, vU 0, .slice none ([] : List T_api_Step).length 0, vI 0, .bool false, vI 0, .bool false, vU 0, vI 0, vU 0, vU 0]⟩, ⟨42, b_10, [vI 0, vI 0, vI 0, vU 0, vU 0, vU 0, vU 0, .bool false, .slice none ([] : List T_api_Entry).length 0, .string (bs [])]⟩, ⟨43, b_12, [vI r_11.1.Err, vU r_11.1.Num, vU r_11.1.Extra]⟩]) (ps := [b_12 = b_12]) (by kernel_rfl) (And.intro rfl trivial) ?_
      refine GoO.regionEnd ?_
      refine GoO.ite' c48_45e (by kernel_rfl) (fun h32 => ?_) (fun h32 => ?_)
      · refine GoO.seq' c48_46e ?_
        refine GoO.region' (is := [0, 1, 2, 3]) c48_47e (by kernel_rfl) ?_
        refine GoO.exec (is := [0, 1, 2, 3]) (hs := [.p, .p, .p, .b 0]) (rest := []) (ks := [0, 4, 6, 8]) (env' := [(0, vP b_2), (4, vP b_9), (6, vP b_10), (8, vP b_12)]) (H' := [⟨1, b_2, [vI c_1.Id, vU 0, vU c_1.Last, vU c_1.Calls, .bool false, vI c_1.Now.Kind, vU c_1.Now.Session, vU c_1.Now.Seq, vU c_1.Now.Saga, .slice A_3 c_1.Now.Steps.length c_4, vI c_1.Now.Step, .bool c_1.Now.Back, vI c_1.Now.Try, .bool c_1.Now.Ok, vU c_1.Now.Now, vI c_1.To]⟩, ⟨40, b_8, [vI x_5.Kind, vI x_5.From, vI x_5.To, vU x_5.Term, vU x_5.Index, vU x_5.Prev, vU x_5.Commit, .bool x_5.Ok, .slice A_6 x_5.Entries.length c_7, .string (bs x_5.Data)]⟩, ⟨41, b_9, [vI 0, vI 0, vU 0, vU 0, vU 0, .slice none ([] : List T_api_Step).length 0, vI 0, .bool false, vI 0, .bool false, vU 0, vI 0, vU 0, vU 0]⟩, ⟨42, b_10, [vI 0, vI 0, vI 0, vU 0, vU 0, vU 0, vU 0, .bool false, .slice none ([] : List T_api_Entry).length 0, .string (bs [])]⟩, ⟨43, b_12, [vI r_11.1.Err, vU r_11.1.Num, vU r_11.1.Extra]⟩]) (ps := [b_2 = b_2]) (by kernel_rfl) (And.intro rfl trivial) ?_
        refine GoO.regionEnd ?_
        refine GoO.region' (is := [0, 1, 2, 3]) c48_48e (by kernel_rfl) ?_
        refine GoO.exec (is := [0, 1, 2, 3]) (hs := [.p, .p, .p, .b 0]) (rest := []) (ks := [0, 4, 6, 8]) (env' := [(0, vP b_2), (4, vP b_9), (6, vP b_10), (8, vP b_12)]) (H' := [⟨1, b_2, [vI c_1.Id, vU 0, vU 0, vU c_1.Calls, .bool false, vI c_1.Now.Kind, vU c_1.Now.Session, vU c_1.Now.Seq, vU c_1.Now.Saga, .slice A_3 c_1.Now.Steps.length c_4, vI c_1.Now.Step, .bool c_1.Now.Back, vI c_1.Now.Try, .bool c_1.Now.Ok, vU c_1.Now.Now, vI c_1.To]⟩, ⟨40, b_8, [vI x_5.Kind, vI x_5.From, vI x_5.To, vU x_5.Term, vU x_5.Index, vU x_5.Prev, vU x_5.Commit, .bool x_5.Ok, .slice A_6 x_5.Entries.length c_7, .string (bs x_5.Data)]⟩, ⟨41, b_9, [vI 0, vI 0, vU 0, vU 0, vU 0, .slice none ([] : List T_api_Step).length 0, vI 0, .bool false, vI 0, .bool false, vU 0, vI 0, vU 0, vU 0]⟩, ⟨42, b_10, [vI 0, vI 0, vI 0, vU 0, vU 0, vU 0, vU 0, .bool false, .slice none ([] : List T_api_Entry).length 0, .string (bs [])]⟩, ⟨43, b_12, [vI r_11.1.Err, vU r_11.1.Num, vU r_11.1.Extra]⟩]) (ps := [b_2 = b_2]) (by kernel_rfl) (And.intro rfl trivial) ?_
        refine GoO.regionEnd ?_
        exact GoO.sub (ks := [0, 4, 6, 8]) (hk := [0, 2, 3, 4]) (bk := [0]) (by kernel_rfl) (by kernel_rfl) (by kernel_rfl) (tontineref21_Client_Hear_j3_ok n c_1 r_11 b_2 A_3 c_4 b_9 b_10 b_12 A_6 c_7 w0 S0 0 0)
      · refine GoO.region' (is := [0, 1, 2, 3, 4, 5, 6, 7]) c48_49e (by kernel_rfl) ?_
        refine GoO.exec (is := [0, 1, 2, 3, 4, 5, 6, 7]) (hs := [.p, .p, .p, .b 0, .p, .p, .p, .b 0]) (rest := []) (ks := [0, 4, 6, 8]) (env' := [(0, vP b_2), (4, vP b_9), (6, vP b_10), (8, vP b_12)]) (H' := [⟨1, b_2, [vI c_1.Id, vU c_1.Session, vU (wu64 (c_1.Last + 1)), vU c_1.Calls, .bool false, vI c_1.Now.Kind, vU c_1.Now.Session, vU c_1.Now.Seq, vU c_1.Now.Saga, .slice A_3 c_1.Now.Steps.length c_4, vI c_1.Now.Step, .bool c_1.Now.Back, vI c_1.Now.Try, .bool c_1.Now.Ok, vU c_1.Now.Now, vI c_1.To]⟩, ⟨40, b_8, [vI x_5.Kind, vI x_5.From, vI x_5.To, vU x_5.Term, vU x_5.Index, vU x_5.Prev, vU x_5.Commit, .bool x_5.Ok, .slice A_6 x_5.Entries.length c_7, .string (bs x_5.Data)]⟩, ⟨41, b_9, [vI 0, vI 0, vU 0, vU 0, vU 0, .slice none ([] : List T_api_Step).length 0, vI 0, .bool false, vI 0, .bool false, vU 0, vI 0, vU 0, vU 0]⟩, ⟨42, b_10, [vI 0, vI 0, vI 0, vU 0, vU 0, vU 0, vU 0, .bool false, .slice none ([] : List T_api_Entry).length 0, .string (bs [])]⟩, ⟨43, b_12, [vI r_11.1.Err, vU r_11.1.Num, vU r_11.1.Extra]⟩]) (ps := [b_2 = b_2, b_2 = b_2]) (by kernel_rfl) (And.intro rfl (And.intro rfl trivial)) ?_
        refine GoO.regionEnd ?_
        exact GoO.sub (ks := [0, 4, 6, 8]) (hk := [0, 2, 3, 4]) (bk := [0]) (by kernel_rfl) (by kernel_rfl) (by kernel_rfl) (tontineref21_Client_Hear_j3_ok n c_1 r_11 b_2 A_3 c_4 b_9 b_10 b_12 A_6 c_7 w0 S0 c_1.Session (wu64 (c_1.Last + 1)))
theorem tontineref21_Client_Hear_j0_ok (n : Nat) (c_1 : T_tontineref21_Client) (x_5 : T_api_Letter) (r_11 : T_api_Reply × Int) (b_2 : Nat) (A_3 : Option Addr) (c_4 : Nat) (A_6 : Option Addr) (c_7 : Nat) (b_8 : Nat) (b_9 : Nat) (b_10 : Nat) (b_12 : Nat) (w0 : World) (S0 : Fam) (b_17 : Bool) :
    GoO (tontineref21_Client_Hear.cx b_2 A_3 c_4 A_6 c_7 w0 S0) [(0, vP b_2), (3, vP b_8), (4, vP b_9), (6, vP b_10), (8, vP b_12), (48, .bool b_17)] [⟨1, b_2, [vI c_1.Id, vU c_1.Session, vU c_1.Last, vU c_1.Calls, .bool c_1.Busy, vI c_1.Now.Kind, vU c_1.Now.Session, vU c_1.Now.Seq, vU c_1.Now.Saga, .slice A_3 c_1.Now.Steps.length c_4, vI c_1.Now.Step, .bool c_1.Now.Back, vI c_1.Now.Try, .bool c_1.Now.Ok, vU c_1.Now.Now, vI c_1.To]⟩, ⟨40, b_8, [vI x_5.Kind, vI x_5.From, vI x_5.To, vU x_5.Term, vU x_5.Index, vU x_5.Prev, vU x_5.Commit, .bool x_5.Ok, .slice A_6 x_5.Entries.length c_7, .string (bs x_5.Data)]⟩, ⟨41, b_9, [vI 0, vI 0, vU 0, vU 0, vU 0, .slice none ([] : List T_api_Step).length 0, vI 0, .bool false, vI 0, .bool false, vU 0, vI 0, vU 0, vU 0]⟩, ⟨42, b_10, [vI 0, vI 0, vI 0, vU 0, vU 0, vU 0, vU 0, .bool false, .slice none ([] : List T_api_Entry).length 0, .string (bs [])]⟩, ⟨43, b_12, [vI r_11.1.Err, vU r_11.1.Num, vU r_11.1.Extra]⟩] [Rd 0 kT_api_Step A_3 c_4 c_1.Now.Steps, Rd 0 kT_api_Entry A_6 c_7 x_5.Entries] [.code c48_7, .code c48_12] (tontineref21_Client_Hear.j0 n c_1 x_5 r_11 b_17) := by
  unfold tontineref21_Client_Hear.j0
  refine GoO.ite' c48_7e (by kernel_rfl) (fun h18 => ?_) (fun h18 => ?_)
  · refine GoO.seq' c48_8e ?_
    refine GoO.region' (is := [0, 1, 2, 3, 4, 5]) c48_9e (by kernel_rfl) ?_
    refine GoO.exec (is := [0, 1, 2, 3, 4, 5]) (hs := [.p, .p, .b 2, .p, .b 3, .p]) (rest := []) (ks := [4, 5, 6, 7]) (env' := [(4, vP b_9), (5, .bool false), (6, vP b_10), (7, .bool false)]) (H' := [⟨1, b_2, [vI c_1.Id, vU c_1.Session, vU c_1.Last, vU c_1.Calls, .bool c_1.Busy, vI c_1.Now.Kind, vU c_1.Now.Session, vU c_1.Now.Seq, vU c_1.Now.Saga, .slice A_3 c_1.Now.Steps.length c_4, vI c_1.Now.Step, .bool c_1.Now.Back, vI c_1.Now.Try, .bool c_1.Now.Ok, vU c_1.Now.Now, vI c_1.To]⟩, ⟨40, b_8, [vI x_5.Kind, vI x_5.From, vI x_5.To, vU x_5.Term, vU x_5.Index, vU x_5.Prev, vU x_5.Commit, .bool x_5.Ok, .slice A_6 x_5.Entries.length c_7, .string (bs x_5.Data)]⟩, ⟨41, b_9, [vI 0, vI 0, vU 0, vU 0, vU 0, .slice none ([] : List T_api_Step).length 0, vI 0, .bool false, vI 0, .bool false, vU 0, vI 0, vU 0, vU 0]⟩, ⟨42, b_10, [vI 0, vI 0, vI 0, vU 0, vU 0, vU 0, vU 0, .bool false, .slice none ([] : List T_api_Entry).length 0, .string (bs [])]⟩, ⟨43, b_12, [vI r_11.1.Err, vU r_11.1.Num, vU r_11.1.Extra]⟩]) (ps := [b_9 = b_9, b_10 = b_10]) (by kernel_rfl) (And.intro rfl (And.intro rfl trivial)) ?_
    refine GoO.regionEnd ?_
    refine GoO.nilRd kT_api_Step ?_
    refine GoO.nilRd kT_api_Entry ?_
    exact GoO.ret' (h := c48_10e) (hs := [2, 3]) (ps := [b_9 = b_9, b_10 = b_10]) (hk := [0]) (bk := [1, 0, 2]) Try.func48 (⟨none, 0, none, 0, A_3, c_4⟩ : Option Addr × Nat × Option Addr × Nat × Option Addr × Nat) (by kernel_rfl) (And.intro rfl (And.intro rfl trivial)) (by kernel_rfl) (by kernel_rfl)
  · refine GoO.skip' c48_11e ?_
    refine GoO.seq' c48_12e ?_
    refine GoO.seq' c48_13e ?_
    refine GoO.region' (is := [0, 1, 2, 3, 4, 5, 6, 7]) c48_14e (by kernel_rfl) ?_
    refine GoO.exec (is := [0, 1, 2, 3]) (hs := [.p, .b 4, .p, .p]) (rest := [4, 5, 6, 7]) (ks := [0, 3, 4, 6, 8, 54]) (env' := [(0, vP b_2), (3, vP b_8), (4, vP b_9), (6, vP b_10), (8, vP b_12), (54, .bool (r_11.1.Err == 30))]) (H' := [⟨1, b_2, [vI c_1.Id, vU c_1.Session, vU c_1.Last, vU c_1.Calls, .bool c_1.Busy, vI c_1.Now.Kind, vU c_1.Now.Session, vU c_1.Now.Seq, vU c_1.Now.Saga, .slice A_3 c_1.Now.Steps.length c_4, vI c_1.Now.Step, .bool c_1.Now.Back, vI c_1.Now.Try, .bool c_1.Now.Ok, vU c_1.Now.Now, vI c_1.To]⟩, ⟨40, b_8, [vI x_5.Kind, vI x_5.From, vI x_5.To, vU x_5.Term, vU x_5.Index, vU x_5.Prev, vU x_5.Commit, .bool x_5.Ok, .slice A_6 x_5.Entries.length c_7, .string (bs x_5.Data)]⟩, ⟨41, b_9, [vI 0, vI 0, vU 0, vU 0, vU 0, .slice none ([] : List T_api_Step).length 0, vI 0, .bool false, vI 0, .bool false, vU 0, vI 0, vU 0, vU 0]⟩, ⟨42, b_10, [vI 0, vI 0, vI 0, vU 0, vU 0, vU 0, vU 0, .bool false, .slice none ([] : List T_api_Entry).length 0, .string (bs [])]⟩, ⟨43, b_12, [vI r_11.1.Err, vU r_11.1.Num, vU r_11.1.Extra]⟩]) (ps := [b_12 = b_12]) (by kernel_rfl) (And.intro rfl trivial) ?_
    refine GoO.bsplit (t := 54) (by kernel_rfl) (fun h19 => ?_) (fun h19 => ?_)
    · refine GoO.exec (is := [4, 5, 6, 7]) (hs := [.p, .p, .p, .p]) (rest := []) (ks := [0, 3, 4, 6, 8, 58]) (env' := [(0, vP b_2), (3, vP b_8), (4, vP b_9), (6, vP b_10), (8, vP b_12), (58, .bool true)]) (H' := [⟨1, b_2, [vI c_1.Id, vU c_1.Session, vU c_1.Last, vU c_1.Calls, .bool c_1.Busy, vI c_1.Now.Kind, vU c_1.Now.Session, vU c_1.Now.Seq, vU c_1.Now.Saga, .slice A_3 c_1.Now.Steps.length c_4, vI c_1.Now.Step, .bool c_1.Now.Back, vI c_1.Now.Try, .bool c_1.Now.Ok, vU c_1.Now.Now, vI c_1.To]⟩, ⟨40, b_8, [vI x_5.Kind, vI x_5.From, vI x_5.To, vU x_5.Term, vU x_5.Index, vU x_5.Prev, vU x_5.Commit, .bool x_5.Ok, .slice A_6 x_5.Entries.length c_7, .string (bs x_5.Data)]⟩, ⟨41, b_9, [vI 0, vI 0, vU 0, vU 0, vU 0, .slice none ([] : List T_api_Step).length 0, vI 0, .bool false, vI 0, .bool false, vU 0, vI 0, vU 0, vU 0]⟩, ⟨42, b_10, [vI 0, vI 0, vI 0, vU 0, vU 0, vU 0, vU 0, .bool false, .slice none ([] : List T_api_Entry).length 0, .string (bs [])]⟩, ⟨43, b_12, [vI r_11.1.Err, vU r_11.1.Num, vU r_11.1.Extra]⟩]) (ps := []) (by kernel_rfl) trivial ?_
      refine GoO.regionEnd ?_
      exact GoO.sub (ks := [0, 3, 4, 6, 8, 58]) (hk := [0, 1, 2, 3, 4]) (bk := [0, 1]) (by kernel_rfl) (by kernel_rfl) (by kernel_rfl) (tontineref21_Client_Hear_j1_ok n c_1 x_5 r_11 b_2 A_3 c_4 A_6 c_7 b_8 b_9 b_10 b_12 w0 S0 true)
    · refine GoO.exec (is := [4, 5, 6, 7]) (hs := [.p, .b 4, .p, .p]) (rest := []) (ks := [0, 3, 4, 6, 8, 58]) (env' := [(0, vP b_2), (3, vP b_8), (4, vP b_9), (6, vP b_10), (8, vP b_12), (58, .bool (r_11.1.Err == 31))]) (H' := [⟨1, b_2, [vI c_1.Id, vU c_1.Session, vU c_1.Last, vU c_1.Calls, .bool c_1.Busy, vI c_1.Now.Kind, vU c_1.Now.Session, vU c_1.Now.Seq, vU c_1.Now.Saga, .slice A_3 c_1.Now.Steps.length c_4, vI c_1.Now.Step, .bool c_1.Now.Back, vI c_1.Now.Try, .bool c_1.Now.Ok, vU c_1.Now.Now, vI c_1.To]⟩, ⟨40, b_8, [vI x_5.Kind, vI x_5.From, vI x_5.To, vU x_5.Term, vU x_5.Index, vU x_5.Prev, vU x_5.Commit, .bool x_5.Ok, .slice A_6 x_5.Entries.length c_7, .string (bs x_5.Data)]⟩, ⟨41, b_9, [vI 0, vI 0, vU 0, vU 0, vU 0, .slice none ([] : List T_api_Step).length 0, vI 0, .bool false, vI 0, .bool false, vU 0, vI 0, vU 0, vU 0]⟩, ⟨42, b_10, [vI 0, vI 0, vI 0, vU 0, vU 0, vU 0, vU 0, .bool false, .slice none ([] : List T_api_Entry).length 0, .string (bs [])]⟩, ⟨43, b_12, [vI r_11.1.Err, vU r_11.1.Num, vU r_11.1.Extra]⟩]) (ps := [b_12 = b_12]) (by kernel_rfl) (And.intro rfl trivial) ?_
      refine GoO.regionEnd ?_
      exact GoO.sub (ks := [0, 3, 4, 6, 8, 58]) (hk := [0, 1, 2, 3, 4]) (bk := [0, 1]) (by kernel_rfl) (by kernel_rfl) (by kernel_rfl) (tontineref21_Client_Hear_j1_ok n c_1 x_5 r_11 b_2 A_3 c_4 A_6 c_7 b_8 b_9 b_10 b_12 w0 S0 (r_11.1.Err == 31))
theorem tontineref21_Client_Hear_ok (n : Nat) (c_1 : T_tontineref21_Client) (x_5 : T_api_Letter) (b_2 : Nat) (A_3 : Option Addr) (c_4 : Nat) (A_6 : Option Addr) (c_7 : Nat) :
    Meets Try.prog 48 [vP b_2, .agg ⟨[vI x_5.Kind, vI x_5.From, vI x_5.To, vU x_5.Term, vU x_5.Index, vU x_5.Prev, vU x_5.Commit, .bool x_5.Ok, .slice A_6 x_5.Entries.length c_7, .string (bs x_5.Data)]⟩] 1 [1] [⟨1, b_2, [vI c_1.Id, vU c_1.Session, vU c_1.Last, vU c_1.Calls, .bool c_1.Busy, vI c_1.Now.Kind, vU c_1.Now.Session, vU c_1.Now.Seq, vU c_1.Now.Saga, .slice A_3 c_1.Now.Steps.length c_4, vI c_1.Now.Step, .bool c_1.Now.Back, vI c_1.Now.Try, .bool c_1.Now.Ok, vU c_1.Now.Now, vI c_1.To]⟩] [Rd 0 kT_api_Step A_3 c_4 c_1.Now.Steps, Rd 0 kT_api_Entry A_6 c_7 x_5.Entries] (tontineref21_Client_Hear.f n c_1 x_5) (tontineref21_Client_Hear.R b_2 A_3 c_4 A_6 c_7) := by
  refine Meets.of (c := c48_0) (n := 137) Try.func48 (by kernel_rfl) (by kernel_rfl) (by kernel_rfl) fun w0 S0 => ?_
  unfold tontineref21_Client_Hear.f
  show GoO (tontineref21_Client_Hear.cx b_2 A_3 c_4 A_6 c_7 w0 S0) [(0, vP b_2), (1, .agg ⟨[vI x_5.Kind, vI x_5.From, vI x_5.To, vU x_5.Term, vU x_5.Index, vU x_5.Prev, vU x_5.Commit, .bool x_5.Ok, .slice A_6 x_5.Entries.length c_7, .string (bs x_5.Data)]⟩)] [⟨1, b_2, [vI c_1.Id, vU c_1.Session, vU c_1.Last, vU c_1.Calls, .bool c_1.Busy, vI c_1.Now.Kind, vU c_1.Now.Session, vU c_1.Now.Seq, vU c_1.Now.Saga, .slice A_3 c_1.Now.Steps.length c_4, vI c_1.Now.Step, .bool c_1.Now.Back, vI c_1.Now.Try, .bool c_1.Now.Ok, vU c_1.Now.Now, vI c_1.To]⟩] [Rd 0 kT_api_Step A_3 c_4 c_1.Now.Steps, Rd 0 kT_api_Entry A_6 c_7 x_5.Entries] [.code c48_0] _
  refine GoO.seq' c48_0e ?_
  refine GoO.region' (is := [0, 1, 2, 3, 4]) c48_1e (by kernel_rfl) ?_
  refine OpTo.go (GoO.new rfl 40 (cs := [vI x_5.Kind, vI x_5.From, vI x_5.To, vU x_5.Term, vU x_5.Index, vU x_5.Prev, vU x_5.Commit, .bool x_5.Ok, .slice A_6 x_5.Entries.length c_7, .string (bs x_5.Data)]) (by kernel_rfl) _ (fun _ => rfl) (fun b_8 => ?_))
  refine OpTo.go (GoO.new rfl 41 (cs := [vI 0, vI 0, vU 0, vU 0, vU 0, .slice none ([] : List T_api_Step).length 0, vI 0, .bool false, vI 0, .bool false, vU 0, vI 0, vU 0, vU 0]) (by kernel_rfl) _ (fun _ => rfl) (fun b_9 => ?_))
  refine GoO.exec (is := [2]) (hs := [.p]) (rest := [3, 4]) (ks := [0, 3, 4]) (env' := [(0, vP b_2), (3, vP b_8), (4, vP b_9)]) (H' := [⟨41, b_9, [vI 0, vI 0, vU 0, vU 0, vU 0, .slice none ([] : List T_api_Step).length 0, vI 0, .bool false, vI 0, .bool false, vU 0, vI 0, vU 0, vU 0]⟩, ⟨40, b_8, [vI x_5.Kind, vI x_5.From, vI x_5.To, vU x_5.Term, vU x_5.Index, vU x_5.Prev, vU x_5.Commit, .bool x_5.Ok, .slice A_6 x_5.Entries.length c_7, .string (bs x_5.Data)]⟩, ⟨1, b_2, [vI c_1.Id, vU c_1.Session, vU c_1.Last, vU c_1.Calls, .bool c_1.Busy, vI c_1.Now.Kind, vU c_1.Now.Session, vU c_1.Now.Seq, vU c_1.Now.Saga, .slice A_3 c_1.Now.Steps.length c_4, vI c_1.Now.Step, .bool c_1.Now.Back, vI c_1.Now.Try, .bool c_1.Now.Ok, vU c_1.Now.Now, vI c_1.To]⟩]) (ps := []) (by kernel_rfl) trivial ?_
  refine OpTo.go (GoO.new rfl 42 (cs := [vI 0, vI 0, vI 0, vU 0, vU 0, vU 0, vU 0, .bool false, .slice none ([] : List T_api_Entry).length 0, .string (bs [])]) (by kernel_rfl) _ (fun _ => rfl) (fun b_10 => ?_))
  refine GoO.exec (is := [4]) (hs := [.p]) (rest := []) (ks := [0, 3, 4, 6]) (env' := [(0, vP b_2), (3, vP b_8), (4, vP b_9), (6, vP b_10)]) (H' := [⟨42, b_10, [vI 0, vI 0, vI 0, vU 0, vU 0, vU 0, vU 0, .bool false, .slice none ([] : List T_api_Entry).length 0, .string (bs [])]⟩, ⟨41, b_9, [vI 0, vI 0, vU 0, vU 0, vU 0, .slice none ([] : List T_api_Step).length 0, vI 0, .bool false, vI 0, .bool false, vU 0, vI 0, vU 0, vU 0]⟩, ⟨40, b_8, [vI x_5.Kind, vI x_5.From, vI x_5.To, vU x_5.Term, vU x_5.Index, vU x_5.Prev, vU x_5.Commit, .bool x_5.Ok, .slice A_6 x_5.Entries.length c_7, .string (bs x_5.Data)]⟩, ⟨1, b_2, [vI c_1.Id, vU c_1.Session, vU c_1.Last, vU c_1.Calls, .bool c_1.Busy, vI c_1.Now.Kind, vU c_1.Now.Session, vU c_1.Now.Seq, vU c_1.Now.Saga, .slice A_3 c_1.Now.Steps.length c_4, vI c_1.Now.Step, .bool c_1.Now.Back, vI c_1.Now.Try, .bool c_1.Now.Ok, vU c_1.Now.Now, vI c_1.To]⟩]) (ps := []) (by kernel_rfl) trivial ?_
  refine GoO.regionEnd ?_
  refine GoO.seq' c48_2e ?_
  refine GoO.region' (is := [0, 1, 2, 3, 4, 5, 6, 7, 8]) c48_3e (by kernel_rfl) ?_
  refine GoO.exec (is := [0, 1]) (hs := [.p, .b 2]) (rest := [2, 3, 4, 5, 6, 7, 8]) (ks := [0, 3, 4, 6, 12]) (env' := [(0, vP b_2), (3, vP b_8), (4, vP b_9), (6, vP b_10), (12, .string (bs x_5.Data))]) (H' := [⟨42, b_10, [vI 0, vI 0, vI 0, vU 0, vU 0, vU 0, vU 0, .bool false, .slice none ([] : List T_api_Entry).length 0, .string (bs [])]⟩, ⟨41, b_9, [vI 0, vI 0, vU 0, vU 0, vU 0, .slice none ([] : List T_api_Step).length 0, vI 0, .bool false, vI 0, .bool false, vU 0, vI 0, vU 0, vU 0]⟩, ⟨40, b_8, [vI x_5.Kind, vI x_5.From, vI x_5.To, vU x_5.Term, vU x_5.Index, vU x_5.Prev, vU x_5.Commit, .bool x_5.Ok, .slice A_6 x_5.Entries.length c_7, .string (bs x_5.Data)]⟩, ⟨1, b_2, [vI c_1.Id, vU c_1.Session, vU c_1.Last, vU c_1.Calls, .bool c_1.Busy, vI c_1.Now.Kind, vU c_1.Now.Session, vU c_1.Now.Seq, vU c_1.Now.Saga, .slice A_3 c_1.Now.Steps.length c_4, vI c_1.Now.Step, .bool c_1.Now.Back, vI c_1.Now.Try, .bool c_1.Now.Ok, vU c_1.Now.Now, vI c_1.To]⟩]) (ps := [b_8 = b_8]) (by kernel_rfl) (And.intro rfl trivial) ?_
  refine OpTo.go (GoO.call rfl (by kernel_rfl) (by kernel_rfl) (tontineref16_Said_ok n x_5.Data) [[0]] [] [] [] (hks := [0, 1, 2, 3]) (bks := [0, 1]) (by kernel_rfl) (by kernel_rfl) (by kernel_rfl) (.inl rfl) rfl rfl (by kernel_rfl) (by kernel_rfl) _ (fun _ _ => rfl) _ _ (fun _ _ => rfl) (fun _ _ => rfl) (fun _ _ => by kernel_rfl) (fun _ _ => by kernel_rfl) (fun r_11 x_35 => ?_))
  refine GoO.shape (env' := [(0, vP b_2), (3, vP b_8), (4, vP b_9), (6, vP b_10), (12, .string (bs x_5.Data)), (13, .tuple ⟨[.agg ⟨[vI r_11.1.Err, vU r_11.1.Num, vU r_11.1.Extra]⟩, vI r_11.2]⟩)]) (H' := [⟨42, b_10, [vI 0, vI 0, vI 0, vU 0, vU 0, vU 0, vU 0, .bool false, .slice none ([] : List T_api_Entry).length 0, .string (bs [])]⟩, ⟨41, b_9, [vI 0, vI 0, vU 0, vU 0, vU 0, .slice none ([] : List T_api_Step).length 0, vI 0, .bool false, vI 0, .bool false, vU 0, vI 0, vU 0, vU 0]⟩, ⟨40, b_8, [vI x_5.Kind, vI x_5.From, vI x_5.To, vU x_5.Term, vU x_5.Index, vU x_5.Prev, vU x_5.Commit, .bool x_5.Ok, .slice A_6 x_5.Entries.length c_7, .string (bs x_5.Data)]⟩, ⟨1, b_2, [vI c_1.Id, vU c_1.Session, vU c_1.Last, vU c_1.Calls, .bool c_1.Busy, vI c_1.Now.Kind, vU c_1.Now.Session, vU c_1.Now.Seq, vU c_1.Now.Saga, .slice A_3 c_1.Now.Steps.length c_4, vI c_1.Now.Step, .bool c_1.Now.Back, vI c_1.Now.Try, .bool c_1.Now.Ok, vU c_1.Now.Now, vI c_1.To]⟩]) (B' := [Rd 0 kT_api_Step A_3 c_4 c_1.Now.Steps, Rd 0 kT_api_Entry A_6 c_7 x_5.Entries]) (ks := [0, 3, 4, 6, 12, 13]) (by kernel_rfl) (by kernel_rfl) (by kernel_rfl) ?_
  refine GoO.exec (is := [3, 4, 5]) (hs := [.p, .p, .p]) (rest := [6, 7, 8]) (ks := [0, 3, 4, 6, 14, 15]) (env' := [(0, vP b_2), (3, vP b_8), (4, vP b_9), (6, vP b_10), (14, .agg ⟨[vI r_11.1.Err, vU r_11.1.Num, vU r_11.1.Extra]⟩), (15, vI r_11.2)]) (H' := [⟨42, b_10, [vI 0, vI 0, vI 0, vU 0, vU 0, vU 0, vU 0, .bool false, .slice none ([] : List T_api_Entry).length 0, .string (bs [])]⟩, ⟨41, b_9, [vI 0, vI 0, vU 0, vU 0, vU 0, .slice none ([] : List T_api_Step).length 0, vI 0, .bool false, vI 0, .bool false, vU 0, vI 0, vU 0, vU 0]⟩, ⟨40, b_8, [vI x_5.Kind, vI x_5.From, vI x_5.To, vU x_5.Term, vU x_5.Index, vU x_5.Prev, vU x_5.Commit, .bool x_5.Ok, .slice A_6 x_5.Entries.length c_7, .string (bs x_5.Data)]⟩, ⟨1, b_2, [vI c_1.Id, vU c_1.Session, vU c_1.Last, vU c_1.Calls, .bool c_1.Busy, vI c_1.Now.Kind, vU c_1.Now.Session, vU c_1.Now.Seq, vU c_1.Now.Saga, .slice A_3 c_1.Now.Steps.length c_4, vI c_1.Now.Step, .bool c_1.Now.Back, vI c_1.Now.Try, .bool c_1.Now.Ok, vU c_1.Now.Now, vI c_1.To]⟩]) (ps := []) (by kernel_rfl) trivial ?_
  refine OpTo.go (GoO.new rfl 43 (cs := [vI 0, vU 0, vU 0]) (by kernel_rfl) _ (fun _ => rfl) (fun b_12 => ?_))
  refine GoO.exec (is := [7, 8]) (hs := [.b 0, .p]) (rest := []) (ks := [0, 3, 4, 6, 8, 9]) (env' := [(0, vP b_2), (3, vP b_8), (4, vP b_9), (6, vP b_10), (8, vP b_12), (9, vI r_11.2)]) (H' := [⟨43, b_12, [vI r_11.1.Err, vU r_11.1.Num, vU r_11.1.Extra]⟩, ⟨42, b_10, [vI 0, vI 0, vI 0, vU 0, vU 0, vU 0, vU 0, .bool false, .slice none ([] : List T_api_Entry).length 0, .string (bs [])]⟩, ⟨41, b_9, [vI 0, vI 0, vU 0, vU 0, vU 0, .slice none ([] : List T_api_Step).length 0, vI 0, .bool false, vI 0, .bool false, vU 0, vI 0, vU 0, vU 0]⟩, ⟨40, b_8, [vI x_5.Kind, vI x_5.From, vI x_5.To, vU x_5.Term, vU x_5.Index, vU x_5.Prev, vU x_5.Commit, .bool x_5.Ok, .slice A_6 x_5.Entries.length c_7, .string (bs x_5.Data)]⟩, ⟨1, b_2, [vI c_1.Id, vU c_1.Session, vU c_1.Last, vU c_1.Calls, .bool c_1.Busy, vI c_1.Now.Kind, vU c_1.Now.Session, vU c_1.Now.Seq, vU c_1.Now.Saga, .slice A_3 c_1.Now.Steps.length c_4, vI c_1.Now.Step, .bool c_1.Now.Back, vI c_1.Now.Try, .bool c_1.Now.Ok, vU c_1.Now.Now, vI c_1.To]⟩]) (ps := [b_12 = b_12]) (by kernel_rfl) (And.intro rfl trivial) ?_
  refine GoO.regionEnd ?_
  refine GoO.seq' c48_4e ?_
  refine GoO.seq' c48_5e ?_
  refine GoO.draw c48_6e (by kernel_rfl) [] [⟨40, b_8, [vI x_5.Kind, vI x_5.From, vI x_5.To, vU x_5.Term, vU x_5.Index, vU x_5.Prev, vU x_5.Commit, .bool x_5.Ok, .slice A_6 x_5.Entries.length c_7, .string (bs x_5.Data)]⟩, ⟨1, b_2, [vI c_1.Id, vU c_1.Session, vU c_1.Last, vU c_1.Calls, .bool c_1.Busy, vI c_1.Now.Kind, vU c_1.Now.Session, vU c_1.Now.Seq, vU c_1.Now.Saga, .slice A_3 c_1.Now.Steps.length c_4, vI c_1.Now.Step, .bool c_1.Now.Back, vI c_1.Now.Try, .bool c_1.Now.Ok, vU c_1.Now.Now, vI c_1.To]⟩] [] (n := 33) (by kernel_rfl) ?_
  simp only [List.replicate]
  refine GoF.take [0, 1, 2, 3, 4, 5] [.p, .p, .p, .b 1, .p, .p] (ks := [0, 3, 4, 6, 8, 9, 21]) (fu := 27) (li := [true, true, true, true, true, true, false, false, false, false, false, false, false, false, false, false, false, false, false, false, false, false, false, false, false, false, false, false, false, false, false, false, false]) (env' := [(0, vP b_2), (3, vP b_8), (4, vP b_9), (6, vP b_10), (8, vP b_12), (9, vI r_11.2), (21, .bool (!c_1.Busy))]) (ps := [b_2 = b_2]) (hk := [3, 4]) (bk := []) (by kernel_rfl) (And.intro rfl trivial) rfl rfl ?_
  refine GoF.bsplit (t := 21) (by kernel_rfl) (fun h13 => ?_) (fun h13 => ?_)
  · refine GoF.take [6, 7, 8, 9, 10, 11, 12, 13, 14, 15, 16, 17, 18, 19, 20, 21, 22, 23, 24, 25, 26, 27, 28, 29, 30, 31, 32] [.p, .p, .p, .p, .p, .p, .p, .p, .p, .p, .p, .p, .p, .p, .p, .p, .p, .p, .p, .p, .p, .p, .p, .p, .p, .p, .p] (ks := [0, 3, 4, 6, 8, 48]) (fu := 0) (li := [true, true, true, true, true, true, true, true, true, true, true, true, true, true, true, true, true, true, true, true, true, true, true, true, true, true, true, true, true, true, true, true, true]) (env' := [(0, vP b_2), (3, vP b_8), (4, vP b_9), (6, vP b_10), (8, vP b_12), (48, .bool true)]) (ps := []) (hk := [3, 4]) (bk := []) (by kernel_rfl) trivial rfl rfl ?_
    refine GoF.done (by kernel_rfl) ?_
    exact GoO.sub (ks := [0, 3, 4, 6, 8, 48]) (hk := [4, 3, 2, 1, 0]) (bk := [0, 1]) (by kernel_rfl) (by kernel_rfl) (by kernel_rfl) (tontineref21_Client_Hear_j0_ok n c_1 x_5 r_11 b_2 A_3 c_4 A_6 c_7 b_8 b_9 b_10 b_12 w0 S0 true)
  · refine GoF.take [6, 7, 8, 9, 10] [.p, .b 0, .p, .p, .p] (ks := [0, 3, 4, 6, 8, 9, 26]) (fu := 22) (li := [true, true, true, true, true, true, true, true, true, true, true, false, false, false, false, false, false, false, false, false, false, false, false, false, false, false, false, false, false, false, false, false, false]) (env' := [(0, vP b_2), (3, vP b_8), (4, vP b_9), (6, vP b_10), (8, vP b_12), (9, vI r_11.2), (26, .bool (x_5.Kind != 9))]) (ps := [b_8 = b_8]) (hk := [3, 4]) (bk := []) (by kernel_rfl) (And.intro rfl trivial) rfl rfl ?_
    refine GoF.bsplit (t := 26) (by kernel_rfl) (fun h14 => ?_) (fun h14 => ?_)
    · refine GoF.take [11, 12, 13, 14, 15, 16, 17, 18, 19, 20, 21, 22, 23, 24, 25, 26, 27, 28, 29, 30, 31, 32] [.p, .p, .p, .p, .p, .p, .p, .p, .p, .p, .p, .p, .p, .p, .p, .p, .p, .p, .p, .p, .p, .p] (ks := [0, 3, 4, 6, 8, 48]) (fu := 0) (li := [true, true, true, true, true, true, true, true, true, true, true, true, true, true, true, true, true, true, true, true, true, true, true, true, true, true, true, true, true, true, true, true, true]) (env' := [(0, vP b_2), (3, vP b_8), (4, vP b_9), (6, vP b_10), (8, vP b_12), (48, .bool true)]) (ps := []) (hk := [3, 4]) (bk := []) (by kernel_rfl) trivial rfl rfl ?_
      refine GoF.done (by kernel_rfl) ?_
      exact GoO.sub (ks := [0, 3, 4, 6, 8, 48]) (hk := [4, 3, 2, 1, 0]) (bk := [0, 1]) (by kernel_rfl) (by kernel_rfl) (by kernel_rfl) (tontineref21_Client_Hear_j0_ok n c_1 x_5 r_11 b_2 A_3 c_4 A_6 c_7 b_8 b_9 b_10 b_12 w0 S0 true)
    · refine GoF.take [11, 12, 13, 14, 15, 16, 17, 18, 19, 20] [.p, .b 0, .p, .p, .p, .b 1, .p, .p, .p, .p] (ks := [0, 3, 4, 6, 8, 9, 36]) (fu := 12) (li := [true, true, true, true, true, true, true, true, true, true, true, true, true, true, true, true, true, true, true, true, true, false, false, false, false, false, false, false, false, false, false, false, false]) (env' := [(0, vP b_2), (3, vP b_8), (4, vP b_9), (6, vP b_10), (8, vP b_12), (9, vI r_11.2), (36, .bool (x_5.To != (wi64 (200 + c_1.Id))))]) (ps := [b_8 = b_8, b_2 = b_2]) (hk := [3, 4]) (bk := []) (by kernel_rfl) (And.intro rfl (And.intro rfl trivial)) rfl rfl ?_
      refine GoF.bsplit (t := 36) (by kernel_rfl) (fun h15 => ?_) (fun h15 => ?_)
      · refine GoF.take [21, 22, 23, 24, 25, 26, 27, 28, 29, 30, 31, 32] [.p, .p, .p, .p, .p, .p, .p, .p, .p, .p, .p, .p] (ks := [0, 3, 4, 6, 8, 48]) (fu := 0) (li := [true, true, true, true, true, true, true, true, true, true, true, true, true, true, true, true, true, true, true, true, true, true, true, true, true, true, true, true, true, true, true, true, true]) (env' := [(0, vP b_2), (3, vP b_8), (4, vP b_9), (6, vP b_10), (8, vP b_12), (48, .bool true)]) (ps := []) (hk := [3, 4]) (bk := []) (by kernel_rfl) trivial rfl rfl ?_
        refine GoF.done (by kernel_rfl) ?_
        exact GoO.sub (ks := [0, 3, 4, 6, 8, 48]) (hk := [4, 3, 2, 1, 0]) (bk := [0, 1]) (by kernel_rfl) (by kernel_rfl) (by kernel_rfl) (tontineref21_Client_Hear_j0_ok n c_1 x_5 r_11 b_2 A_3 c_4 A_6 c_7 b_8 b_9 b_10 b_12 w0 S0 true)
      · refine GoF.take [21, 22, 23, 24, 25, 26, 27, 28, 29] [.p, .b 0, .p, .p, .p, .b 1, .p, .p, .p] (ks := [0, 3, 4, 6, 8, 9, 45]) (fu := 3) (li := [true, true, true, true, true, true, true, true, true, true, true, true, true, true, true, true, true, true, true, true, true, true, true, true, true, true, true, true, true, true, false, false, false]) (env' := [(0, vP b_2), (3, vP b_8), (4, vP b_9), (6, vP b_10), (8, vP b_12), (9, vI r_11.2), (45, .bool (x_5.Index != c_1.Calls))]) (ps := [b_8 = b_8, b_2 = b_2]) (hk := [3, 4]) (bk := []) (by kernel_rfl) (And.intro rfl (And.intro rfl trivial)) rfl rfl ?_
        refine GoF.bsplit (t := 45) (by kernel_rfl) (fun h16 => ?_) (fun h16 => ?_)
        · refine GoF.take [30, 31, 32] [.p, .p, .p] (ks := [0, 3, 4, 6, 8, 48]) (fu := 0) (li := [true, true, true, true, true, true, true, true, true, true, true, true, true, true, true, true, true, true, true, true, true, true, true, true, true, true, true, true, true, true, true, true, true]) (env' := [(0, vP b_2), (3, vP b_8), (4, vP b_9), (6, vP b_10), (8, vP b_12), (48, .bool true)]) (ps := []) (hk := [3, 4]) (bk := []) (by kernel_rfl) trivial rfl rfl ?_
          refine GoF.done (by kernel_rfl) ?_
          exact GoO.sub (ks := [0, 3, 4, 6, 8, 48]) (hk := [4, 3, 2, 1, 0]) (bk := [0, 1]) (by kernel_rfl) (by kernel_rfl) (by kernel_rfl) (tontineref21_Client_Hear_j0_ok n c_1 x_5 r_11 b_2 A_3 c_4 A_6 c_7 b_8 b_9 b_10 b_12 w0 S0 true)
        · refine GoF.take [30, 31, 32] [.p, .p, .p] (ks := [0, 3, 4, 6, 8, 48]) (fu := 0) (li := [true, true, true, true, true, true, true, true, true, true, true, true, true, true, true, true, true, true, true, true, true, true, true, true, true, true, true, true, true, true, true, true, true]) (env' := [(0, vP b_2), (3, vP b_8), (4, vP b_9), (6, vP b_10), (8, vP b_12), (48, .bool (r_11.2 != 0))]) (ps := []) (hk := [3, 4]) (bk := []) (by kernel_rfl) trivial rfl rfl ?_
          refine GoF.done (by kernel_rfl) ?_
          exact GoO.sub (ks := [0, 3, 4, 6, 8, 48]) (hk := [4, 3, 2, 1, 0]) (bk := [0, 1]) (by kernel_rfl) (by kernel_rfl) (by kernel_rfl) (tontineref21_Client_Hear_j0_ok n c_1 x_5 r_11 b_2 A_3 c_4 A_6 c_7 b_8 b_9 b_10 b_12 w0 S0 (r_11.2 != 0))
/-! tontine/tontineref13.Same -/
noncomputable def c95_0 : Code := bodyOf Try.f95
noncomputable def c95_1 : Code := cdL c95_0
noncomputable def c95_2 : Code := cdR c95_0
noncomputable def c95_3 : Code := cdL c95_2
noncomputable def c95_4 : Code := cdL c95_3
noncomputable def c95_5 : Code := cdR c95_3
noncomputable def c95_6 : Code := cdL c95_5
noncomputable def c95_7 : Code := cdL c95_6
noncomputable def c95_8 : Code := cdR c95_6
noncomputable def c95_9 : Code := cdR c95_5
noncomputable def c95_10 : Code := cdR c95_2
noncomputable def c95_11 : Code := cdL c95_10
noncomputable def c95_12 : Code := cdL c95_11
noncomputable def c95_13 : Code := cdR c95_11
noncomputable def c95_14 : Code := cdL c95_13
noncomputable def c95_15 : Code := cdL c95_14
noncomputable def c95_16 : Code := cdL c95_15
noncomputable def c95_17 : Code := cdL c95_16
noncomputable def c95_18 : Code := cdR c95_16
noncomputable def c95_19 : Code := cdL c95_18
noncomputable def c95_20 : Code := cdR c95_18
noncomputable def c95_21 : Code := cdR c95_15
noncomputable def c95_22 : Code := cdL c95_21
noncomputable def c95_23 : Code := cdL c95_22
noncomputable def c95_24 : Code := cdL c95_23
noncomputable def c95_25 : Code := cdR c95_23
noncomputable def c95_26 : Code := cdL c95_25
noncomputable def c95_27 : Code := cdL c95_26
noncomputable def c95_28 : Code := cdR c95_26
noncomputable def c95_29 : Code := cdR c95_25
noncomputable def c95_30 : Code := cdR c95_21
noncomputable def c95_31 : Code := cdR c95_10
noncomputable def c95_32 : Code := cdL c95_31
noncomputable def c95_33 : Code := cdR c95_31
noncomputable def r95_1 : Array Oper := cdO c95_1
noncomputable def r95_4 : Array Oper := cdO c95_4
noncomputable def r95_7 : Array Oper := cdO c95_7
noncomputable def r95_12 : Array Oper := cdO c95_12
noncomputable def r95_17 : Array Oper := cdO c95_17
noncomputable def r95_24 : Array Oper := cdO c95_24
noncomputable def r95_27 : Array Oper := cdO c95_27
noncomputable def r95_30 : Array Oper := cdO c95_30
noncomputable def r95_32 : Array Oper := cdO c95_32
theorem c95_0e : c95_0 = .seq c95_1 c95_2 := by kernel_rfl
theorem c95_1e : c95_1 = .region 0 r95_1 false := by kernel_rfl
theorem c95_2e : c95_2 = .seq c95_3 c95_10 := by kernel_rfl
theorem c95_3e : c95_3 = .seq c95_4 c95_5 := by kernel_rfl
theorem c95_4e : c95_4 = .region 1 r95_4 false := by kernel_rfl
theorem c95_5e : c95_5 = .cond (cdC c95_5) c95_6 c95_9 := by kernel_rfl
theorem c95_6e : c95_6 = .seq c95_7 c95_8 := by kernel_rfl
theorem c95_7e : c95_7 = .region 2 r95_7 false := by kernel_rfl
theorem c95_8e : c95_8 = .ret := by kernel_rfl
theorem c95_9e : c95_9 = .skip := by kernel_rfl
theorem c95_10e : c95_10 = .seq c95_11 c95_31 := by kernel_rfl
theorem c95_11e : c95_11 = .seq c95_12 c95_13 := by kernel_rfl
theorem c95_12e : c95_12 = .region 3 r95_12 false := by kernel_rfl
theorem c95_13e : c95_13 = .block 0 c95_14 := by kernel_rfl
theorem c95_14e : c95_14 = .loop c95_15 := by kernel_rfl
theorem c95_15e : c95_15 = .seq c95_16 c95_21 := by kernel_rfl
theorem c95_16e : c95_16 = .seq c95_17 c95_18 := by kernel_rfl
theorem c95_17e : c95_17 = .region 4 r95_17 false := by kernel_rfl
theorem c95_18e : c95_18 = .cond (cdC c95_18) c95_19 c95_20 := by kernel_rfl
theorem c95_19e : c95_19 = .skip := by kernel_rfl
theorem c95_20e : c95_20 = .exit 0 := by kernel_rfl
theorem c95_21e : c95_21 = .seq c95_22 c95_30 := by kernel_rfl
theorem c95_22e : c95_22 = .block 1 c95_23 := by kernel_rfl
theorem c95_23e : c95_23 = .seq c95_24 c95_25 := by kernel_rfl
theorem c95_24e : c95_24 = .region 6 r95_24 true := by kernel_rfl
theorem c95_25e : c95_25 = .cond (cdC c95_25) c95_26 c95_29 := by kernel_rfl
theorem c95_26e : c95_26 = .seq c95_27 c95_28 := by kernel_rfl
theorem c95_27e : c95_27 = .region 7 r95_27 false := by kernel_rfl
theorem c95_28e : c95_28 = .ret := by kernel_rfl
theorem c95_29e : c95_29 = .skip := by kernel_rfl
theorem c95_30e : c95_30 = .region 5 r95_30 false := by kernel_rfl
theorem c95_31e : c95_31 = .seq c95_32 c95_33 := by kernel_rfl
theorem c95_32e : c95_32 = .region 8 r95_32 false := by kernel_rfl
theorem c95_33e : c95_33 = .ret := by kernel_rfl
noncomputable def tontineref13_Same.R (A_2 : Option Addr) (c_3 : Nat) (A_5 : Option Addr) (c_6 : Nat) : Pst Bool where
  ε := Unit
  v := fun r x => .bool r
  H := fun r x => []
  B := fun r x => []
noncomputable def tontineref13_Same.cx (A_2 : Option Addr) (c_3 : Nat) (A_5 : Option Addr) (c_6 : Nat) (w0 : World) (S0 : Fam) : Cx Bool := ⟨Try.prog, 95, Try.f95, 26, w0, S0, [], 0, tontineref13_Same.R A_2 c_3 A_5 c_6⟩
theorem tontineref13_Same_l0_ok (n : Nat) (a_1 : (List T_api_Step)) (b_4 : (List T_api_Step)) (A_2 : Option Addr) (c_3 : Nat) (A_5 : Option Addr) (c_6 : Nat) (w0 : World) (S0 : Fam) :
    ∀ (k : Nat) (i_8 : Int), GoO (tontineref13_Same.cx A_2 c_3 A_5 c_6 w0 S0) [(0, .slice A_2 a_1.length c_3), (1, .slice A_5 b_4.length c_6), (5, vI i_8)] [] [Rd 0 kT_api_Step A_2 c_3 a_1, Rd 0 kT_api_Step A_5 c_6 b_4] [.code c95_15, .inLoop c95_15, .inBlock 0, .code c95_31] (tontineref13_Same.l0 n a_1 b_4 k i_8) := by
  intro k
  induction k with
  | zero => intros; rw [tontineref13_Same.l0.eq_1]; exact GoO.stop
  | succ k ih0 =>
    intro i_8
    rw [tontineref13_Same.l0.eq_2]
    refine GoO.seq' c95_15e ?_
    refine GoO.seq' c95_16e ?_
    refine GoO.region' (is := [0, 1, 2, 3]) c95_17e (by kernel_rfl) ?_
    refine GoO.exec (is := [0, 1, 2, 3]) (hs := [.p, .p, .p, .p]) (rest := []) (ks := [0, 1, 5, 14]) (env' := [(0, .slice A_2 a_1.length c_3), (1, .slice A_5 b_4.length c_6), (5, vI i_8), (14, .bool (decide (i_8 < (a_1.length : Int))))]) (H' := []) (ps := []) (by kernel_rfl) trivial ?_
    refine GoO.regionEnd ?_
    refine GoO.ite' c95_18e (by kernel_rfl) (fun h9 => ?_) (fun h9 => ?_)
    · refine GoO.skip' c95_19e ?_
      refine GoO.seq' c95_21e ?_
      refine GoO.block' c95_22e ?_
      refine GoO.seq' c95_23e ?_
      refine GoO.draw c95_24e (by kernel_rfl) [] [] [Rd 0 kT_api_Step A_2 c_3 a_1, Rd 0 kT_api_Step A_5 c_6 b_4] (n := 9) (by kernel_rfl) ?_
      simp only [List.replicate]
      refine GoF.take [0, 1, 4, 5] [.p, .p, .p, .p] (ks := [0, 1, 5, 17, 18, 21, 22]) (fu := 5) (li := [true, true, false, false, true, true, false, false, false]) (env' := [(0, .slice A_2 a_1.length c_3), (1, .slice A_5 b_4.length c_6), (5, vI i_8), (17, .slice A_2 a_1.length c_3), (18, vI i_8), (21, .slice A_5 b_4.length c_6), (22, vI i_8)]) (ps := []) (hk := []) (bk := [0, 1]) (by kernel_rfl) trivial rfl rfl ?_
      refine GoF.guard (fun h10 => ?_)
      refine GoF.idx (i := 2) (hk := []) (bk := [0, 1]) (kk := .i64) (e := 160) (K := kT_api_Step) (A := A_2) (c := c_3) (xs := a_1) (iv := i_8) (j := 0) (by kernel_rfl) rfl rfl rfl (by kernel_rfl) (by kernel_rfl) (by kernel_rfl) (by kernel_rfl) rfl Reads.rd rfl h10.1 h10.2 (by decide) rfl ?_
      refine GoF.ldE (i := 3) (hk := []) (bk := [0, 1]) (K := kT_api_Step) (A := A_2) (c := c_3) (xs := a_1) (iN := i_8.toNat) (off := 0) (j := 0) (v := .agg ⟨[vI ((rdL a_1 i_8).Part), .string (bs ((rdL a_1 i_8).Name)), vI ((rdL a_1 i_8).Budget)]⟩) (by kernel_rfl) rfl rfl rfl (hK := rfl) (by kernel_rfl) rfl Reads.rd (by first | exact idx_lt h10.1 h10.2 | (simp only [List.length_set]; exact idx_lt h10.1 h10.2)) (by decide) (by kernel_rfl) rfl ?_
      refine GoF.guard (fun h11 => ?_)
      refine GoF.idx (i := 6) (hk := []) (bk := [0, 1]) (kk := .i64) (e := 160) (K := kT_api_Step) (A := A_5) (c := c_6) (xs := b_4) (iv := i_8) (j := 1) (by kernel_rfl) rfl rfl rfl (by kernel_rfl) (by kernel_rfl) (by kernel_rfl) (by kernel_rfl) rfl Reads.rd rfl h11.1 h11.2 (by decide) rfl ?_
      refine GoF.ldE (i := 7) (hk := []) (bk := [0, 1]) (K := kT_api_Step) (A := A_5) (c := c_6) (xs := b_4) (iN := i_8.toNat) (off := 0) (j := 1) (v := .agg ⟨[vI ((rdL b_4 i_8).Part), .string (bs ((rdL b_4 i_8).Name)), vI ((rdL b_4 i_8).Budget)]⟩) (by kernel_rfl) rfl rfl rfl (hK := rfl) (by kernel_rfl) rfl Reads.rd (by first | exact idx_lt h11.1 h11.2 | (simp only [List.length_set]; exact idx_lt h11.1 h11.2)) (by decide) (by kernel_rfl) rfl ?_
      refine GoF.take [8] [.p] (ks := [0, 1, 5, 25]) (fu := 0) (li := [true, true, true, true, true, true, true, true, true]) (env' := [(0, .slice A_2 a_1.length c_3), (1, .slice A_5 b_4.length c_6), (5, vI i_8), (25, .bool (!((((rdL a_1 i_8).Part) == ((rdL b_4 i_8).Part)) && ((((rdL a_1 i_8).Name) == ((rdL b_4 i_8).Name)) && ((((rdL a_1 i_8).Budget) == ((rdL b_4 i_8).Budget)) && true)))))]) (ps := []) (hk := []) (bk := [0, 1]) (by kernel_rfl) trivial rfl rfl ?_
      refine GoF.done (by kernel_rfl) ?_
      refine GoO.ite' c95_25e (by kernel_rfl) (fun h12 => ?_) (fun h12 => ?_)
      · refine GoO.seq' c95_26e ?_
        refine GoO.region' (is := [0]) c95_27e (by kernel_rfl) ?_
        refine GoO.exec (is := [0]) (hs := [.p]) (rest := []) (ks := [4]) (env' := [(4, .bool false)]) (H' := []) (ps := []) (by kernel_rfl) trivial ?_
        refine GoO.regionEnd ?_
        exact GoO.ret' (h := c95_28e) (hs := []) (ps := []) (hk := []) (bk := []) Try.func95 () (by kernel_rfl) trivial (by kernel_rfl) (by kernel_rfl)
      · refine GoO.skip' c95_29e ?_
        refine GoO.inBlock ?_
        refine GoO.region' (is := [0, 1, 2]) c95_30e (by kernel_rfl) ?_
        refine GoO.exec (is := [0, 1, 2]) (hs := [.p, .p, .p]) (rest := []) (ks := [0, 1, 5]) (env' := [(0, .slice A_2 a_1.length c_3), (1, .slice A_5 b_4.length c_6), (5, vI (wi64 (i_8 + 1)))]) (H' := []) (ps := []) (by kernel_rfl) trivial ?_
        refine GoO.regionEnd ?_
        refine GoO.inLoop ?_
        exact GoO.sub (ks := [0, 1, 5]) (hk := []) (bk := [0, 1]) (by kernel_rfl) (by kernel_rfl) (by kernel_rfl) (ih0 (wi64 (i_8 + 1)))
    · refine GoO.exit' c95_20e rfl ?_
      refine GoO.seq' c95_31e ?_
      refine GoO.region' (is := [0]) c95_32e (by kernel_rfl) ?_
      refine GoO.exec (is := [0]) (hs := [.p]) (rest := []) (ks := [4]) (env' := [(4, .bool true)]) (H' := []) (ps := []) (by kernel_rfl) trivial ?_
      refine GoO.regionEnd ?_
      exact GoO.ret' (h := c95_33e) (hs := []) (ps := []) (hk := []) (bk := []) Try.func95 () (by kernel_rfl) trivial (by kernel_rfl) (by kernel_rfl)
theorem tontineref13_Same_ok (n : Nat) (a_1 : (List T_api_Step)) (b_4 : (List T_api_Step)) (A_2 : Option Addr) (c_3 : Nat) (A_5 : Option Addr) (c_6 : Nat) :
    Meets Try.prog 95 [.slice A_2 a_1.length c_3, .slice A_5 b_4.length c_6] 0 [] [] [Rd 0 kT_api_Step A_2 c_3 a_1, Rd 0 kT_api_Step A_5 c_6 b_4] (tontineref13_Same.f n a_1 b_4) (tontineref13_Same.R A_2 c_3 A_5 c_6) := by
  refine Meets.of (c := c95_0) (n := 26) Try.func95 (by kernel_rfl) (by kernel_rfl) (by kernel_rfl) fun w0 S0 => ?_
  unfold tontineref13_Same.f
  show GoO (tontineref13_Same.cx A_2 c_3 A_5 c_6 w0 S0) [(0, .slice A_2 a_1.length c_3), (1, .slice A_5 b_4.length c_6)] [] [Rd 0 kT_api_Step A_2 c_3 a_1, Rd 0 kT_api_Step A_5 c_6 b_4] [.code c95_0] _
  refine GoO.seq' c95_0e ?_
  refine GoO.region' (is := [0]) c95_1e (by kernel_rfl) ?_
  refine GoO.exec (is := [0]) (hs := [.p]) (rest := []) (ks := [0, 1]) (env' := [(0, .slice A_2 a_1.length c_3), (1, .slice A_5 b_4.length c_6)]) (H' := []) (ps := []) (by kernel_rfl) trivial ?_
  refine GoO.regionEnd ?_
  refine GoO.seq' c95_2e ?_
  refine GoO.seq' c95_3e ?_
  refine GoO.region' (is := [0, 1, 2, 3, 4]) c95_4e (by kernel_rfl) ?_
  refine GoO.exec (is := [0, 1, 2, 3, 4]) (hs := [.p, .p, .p, .p, .p]) (rest := []) (ks := [0, 1, 10]) (env' := [(0, .slice A_2 a_1.length c_3), (1, .slice A_5 b_4.length c_6), (10, .bool ((a_1.length : Int) != (b_4.length : Int)))]) (H' := []) (ps := []) (by kernel_rfl) trivial ?_
  refine GoO.regionEnd ?_
  refine GoO.ite' c95_5e (by kernel_rfl) (fun h7 => ?_) (fun h7 => ?_)
  · refine GoO.seq' c95_6e ?_
    refine GoO.region' (is := [0]) c95_7e (by kernel_rfl) ?_
    refine GoO.exec (is := [0]) (hs := [.p]) (rest := []) (ks := [4]) (env' := [(4, .bool false)]) (H' := []) (ps := []) (by kernel_rfl) trivial ?_
    refine GoO.regionEnd ?_
    exact GoO.ret' (h := c95_8e) (hs := []) (ps := []) (hk := []) (bk := []) Try.func95 () (by kernel_rfl) trivial (by kernel_rfl) (by kernel_rfl)
  · refine GoO.skip' c95_9e ?_
    refine GoO.seq' c95_10e ?_
    refine GoO.seq' c95_11e ?_
    refine GoO.region' (is := [0]) c95_12e (by kernel_rfl) ?_
    refine GoO.exec (is := [0]) (hs := [.p]) (rest := []) (ks := [0, 1, 5]) (env' := [(0, .slice A_2 a_1.length c_3), (1, .slice A_5 b_4.length c_6), (5, vI 0)]) (H' := []) (ps := []) (by kernel_rfl) trivial ?_
    refine GoO.regionEnd ?_
    refine GoO.block' c95_13e ?_
    refine GoO.loop' c95_14e ?_
    exact GoO.sub (ks := [0, 1, 5]) (hk := []) (bk := [0, 1]) (by kernel_rfl) (by kernel_rfl) (by kernel_rfl) (tontineref13_Same_l0_ok n a_1 b_4 A_2 c_3 A_5 c_6 w0 S0 n 0)
/-! tontine/tontineref16.Same -/
noncomputable def c79_0 : Code := bodyOf Try.f79
noncomputable def c79_1 : Code := cdL c79_0
noncomputable def c79_2 : Code := cdR c79_0
noncomputable def c79_3 : Code := cdL c79_2
noncomputable def c79_4 : Code := cdR c79_2
noncomputable def r79_1 : Array Oper := cdO c79_1
noncomputable def r79_3 : Array Oper := cdO c79_3
theorem c79_0e : c79_0 = .seq c79_1 c79_2 := by kernel_rfl
theorem c79_1e : c79_1 = .region 0 r79_1 false := by kernel_rfl
theorem c79_2e : c79_2 = .seq c79_3 c79_4 := by kernel_rfl
theorem c79_3e : c79_3 = .region 1 r79_3 false := by kernel_rfl
theorem c79_4e : c79_4 = .ret := by kernel_rfl
noncomputable def tontineref16_Same.R (A_2 : Option Addr) (c_3 : Nat) (A_5 : Option Addr) (c_6 : Nat) : Pst Bool where
  ε := Unit
  v := fun r x => .bool r
  H := fun r x => []
  B := fun r x => []
noncomputable def tontineref16_Same.cx (A_2 : Option Addr) (c_3 : Nat) (A_5 : Option Addr) (c_6 : Nat) (w0 : World) (S0 : Fam) : Cx Bool := ⟨Try.prog, 79, Try.f79, 73, w0, S0, [], 0, tontineref16_Same.R A_2 c_3 A_5 c_6⟩
theorem tontineref16_Same_ok (n : Nat) (a_1 : T_api_Command) (b_4 : T_api_Command) (A_2 : Option Addr) (c_3 : Nat) (A_5 : Option Addr) (c_6 : Nat) :
    Meets Try.prog 79 [.agg ⟨[vI a_1.Kind, vU a_1.Session, vU a_1.Seq, vU a_1.Saga, .slice A_2 a_1.Steps.length c_3, vI a_1.Step, .bool a_1.Back, vI a_1.Try, .bool a_1.Ok, vU a_1.Now]⟩, .agg ⟨[vI b_4.Kind, vU b_4.Session, vU b_4.Seq, vU b_4.Saga, .slice A_5 b_4.Steps.length c_6, vI b_4.Step, .bool b_4.Back, vI b_4.Try, .bool b_4.Ok, vU b_4.Now]⟩] 0 [] [] [Rd 0 kT_api_Step A_2 c_3 a_1.Steps, Rd 0 kT_api_Step A_5 c_6 b_4.Steps] (tontineref16_Same.f n a_1 b_4) (tontineref16_Same.R A_2 c_3 A_5 c_6) := by
  refine Meets.of (c := c79_0) (n := 73) Try.func79 (by kernel_rfl) (by kernel_rfl) (by kernel_rfl) fun w0 S0 => ?_
  unfold tontineref16_Same.f
  show GoO (tontineref16_Same.cx A_2 c_3 A_5 c_6 w0 S0) [(0, .agg ⟨[vI a_1.Kind, vU a_1.Session, vU a_1.Seq, vU a_1.Saga, .slice A_2 a_1.Steps.length c_3, vI a_1.Step, .bool a_1.Back, vI a_1.Try, .bool a_1.Ok, vU a_1.Now]⟩), (1, .agg ⟨[vI b_4.Kind, vU b_4.Session, vU b_4.Seq, vU b_4.Saga, .slice A_5 b_4.Steps.length c_6, vI b_4.Step, .bool b_4.Back, vI b_4.Try, .bool b_4.Ok, vU b_4.Now]⟩)] [] [Rd 0 kT_api_Step A_2 c_3 a_1.Steps, Rd 0 kT_api_Step A_5 c_6 b_4.Steps] [.code c79_0] _
  refine GoO.seq' c79_0e ?_
  refine GoO.region' (is := [0, 1, 2]) c79_1e (by kernel_rfl) ?_
  refine OpTo.go (GoO.new rfl 40 (cs := [vI a_1.Kind, vU a_1.Session, vU a_1.Seq, vU a_1.Saga, .slice A_2 a_1.Steps.length c_3, vI a_1.Step, .bool a_1.Back, vI a_1.Try, .bool a_1.Ok, vU a_1.Now]) (by kernel_rfl) _ (fun _ => rfl) (fun b_7 => ?_))
  refine OpTo.go (GoO.new rfl 41 (cs := [vI b_4.Kind, vU b_4.Session, vU b_4.Seq, vU b_4.Saga, .slice A_5 b_4.Steps.length c_6, vI b_4.Step, .bool b_4.Back, vI b_4.Try, .bool b_4.Ok, vU b_4.Now]) (by kernel_rfl) _ (fun _ => rfl) (fun b_8 => ?_))
  refine GoO.exec (is := [2]) (hs := [.p]) (rest := []) (ks := [2, 3]) (env' := [(2, vP b_7), (3, vP b_8)]) (H' := [⟨41, b_8, [vI b_4.Kind, vU b_4.Session, vU b_4.Seq, vU b_4.Saga, .slice A_5 b_4.Steps.length c_6, vI b_4.Step, .bool b_4.Back, vI b_4.Try, .bool b_4.Ok, vU b_4.Now]⟩, ⟨40, b_7, [vI a_1.Kind, vU a_1.Session, vU a_1.Seq, vU a_1.Saga, .slice A_2 a_1.Steps.length c_3, vI a_1.Step, .bool a_1.Back, vI a_1.Try, .bool a_1.Ok, vU a_1.Now]⟩]) (ps := []) (by kernel_rfl) trivial ?_
  refine GoO.regionEnd ?_
  refine GoO.seq' c79_2e ?_
  refine GoO.region' (is := [0, 1, 2, 3, 4, 5, 6, 7, 8, 9, 10, 11, 12, 13, 14, 15, 16, 17, 18, 19, 20, 21, 22, 23, 24, 25, 26, 27, 28, 29, 30, 31, 32, 33, 34, 35, 36, 37, 38, 39, 40, 41, 42, 43, 44, 45, 46, 47, 48, 49, 50, 51, 52, 53, 54, 55, 56, 57, 58, 59, 60, 61, 62, 63, 64, 65, 66, 67, 68]) c79_3e (by kernel_rfl) ?_
  refine GoO.exec (is := [0, 1, 2, 3, 4, 5]) (hs := [.p, .b 1, .p, .b 0, .p, .p]) (rest := [6, 7, 8, 9, 10, 11, 12, 13, 14, 15, 16, 17, 18, 19, 20, 21, 22, 23, 24, 25, 26, 27, 28, 29, 30, 31, 32, 33, 34, 35, 36, 37, 38, 39, 40, 41, 42, 43, 44, 45, 46, 47, 48, 49, 50, 51, 52, 53, 54, 55, 56, 57, 58, 59, 60, 61, 62, 63, 64, 65, 66, 67, 68]) (ks := [2, 3, 10]) (env' := [(2, vP b_7), (3, vP b_8), (10, .bool (a_1.Kind == b_4.Kind))]) (H' := [⟨41, b_8, [vI b_4.Kind, vU b_4.Session, vU b_4.Seq, vU b_4.Saga, .slice A_5 b_4.Steps.length c_6, vI b_4.Step, .bool b_4.Back, vI b_4.Try, .bool b_4.Ok, vU b_4.Now]⟩, ⟨40, b_7, [vI a_1.Kind, vU a_1.Session, vU a_1.Seq, vU a_1.Saga, .slice A_2 a_1.Steps.length c_3, vI a_1.Step, .bool a_1.Back, vI a_1.Try, .bool a_1.Ok, vU a_1.Now]⟩]) (ps := [b_7 = b_7, b_8 = b_8]) (by kernel_rfl) (And.intro rfl (And.intro rfl trivial)) ?_
  refine GoO.bsplit (t := 10) (by kernel_rfl) (fun h9 => ?_) (fun h9 => ?_)
  · refine GoO.exec (is := [6, 7, 8, 9, 10, 11, 12]) (hs := [.p, .b 1, .p, .b 0, .p, .p, .p]) (rest := [13, 14, 15, 16, 17, 18, 19, 20, 21, 22, 23, 24, 25, 26, 27, 28, 29, 30, 31, 32, 33, 34, 35, 36, 37, 38, 39, 40, 41, 42, 43, 44, 45, 46, 47, 48, 49, 50, 51, 52, 53, 54, 55, 56, 57, 58, 59, 60, 61, 62, 63, 64, 65, 66, 67, 68]) (ks := [2, 3, 17]) (env' := [(2, vP b_7), (3, vP b_8), (17, .bool (a_1.Session == b_4.Session))]) (H' := [⟨41, b_8, [vI b_4.Kind, vU b_4.Session, vU b_4.Seq, vU b_4.Saga, .slice A_5 b_4.Steps.length c_6, vI b_4.Step, .bool b_4.Back, vI b_4.Try, .bool b_4.Ok, vU b_4.Now]⟩, ⟨40, b_7, [vI a_1.Kind, vU a_1.Session, vU a_1.Seq, vU a_1.Saga, .slice A_2 a_1.Steps.length c_3, vI a_1.Step, .bool a_1.Back, vI a_1.Try, .bool a_1.Ok, vU a_1.Now]⟩]) (ps := [b_7 = b_7, b_8 = b_8]) (by kernel_rfl) (And.intro rfl (And.intro rfl trivial)) ?_
    refine GoO.bsplit (t := 17) (by kernel_rfl) (fun h10 => ?_) (fun h10 => ?_)
    · refine GoO.exec (is := [13, 14, 15, 16, 17, 18, 19]) (hs := [.p, .b 1, .p, .b 0, .p, .p, .p]) (rest := [20, 21, 22, 23, 24, 25, 26, 27, 28, 29, 30, 31, 32, 33, 34, 35, 36, 37, 38, 39, 40, 41, 42, 43, 44, 45, 46, 47, 48, 49, 50, 51, 52, 53, 54, 55, 56, 57, 58, 59, 60, 61, 62, 63, 64, 65, 66, 67, 68]) (ks := [2, 3, 24]) (env' := [(2, vP b_7), (3, vP b_8), (24, .bool (a_1.Seq == b_4.Seq))]) (H' := [⟨41, b_8, [vI b_4.Kind, vU b_4.Session, vU b_4.Seq, vU b_4.Saga, .slice A_5 b_4.Steps.length c_6, vI b_4.Step, .bool b_4.Back, vI b_4.Try, .bool b_4.Ok, vU b_4.Now]⟩, ⟨40, b_7, [vI a_1.Kind, vU a_1.Session, vU a_1.Seq, vU a_1.Saga, .slice A_2 a_1.Steps.length c_3, vI a_1.Step, .bool a_1.Back, vI a_1.Try, .bool a_1.Ok, vU a_1.Now]⟩]) (ps := [b_7 = b_7, b_8 = b_8]) (by kernel_rfl) (And.intro rfl (And.intro rfl trivial)) ?_
      refine GoO.bsplit (t := 24) (by kernel_rfl) (fun h11 => ?_) (fun h11 => ?_)
      · refine GoO.exec (is := [20, 21, 22, 23, 24, 25, 26]) (hs := [.p, .b 1, .p, .b 0, .p, .p, .p]) (rest := [27, 28, 29, 30, 31, 32, 33, 34, 35, 36, 37, 38, 39, 40, 41, 42, 43, 44, 45, 46, 47, 48, 49, 50, 51, 52, 53, 54, 55, 56, 57, 58, 59, 60, 61, 62, 63, 64, 65, 66, 67, 68]) (ks := [2, 3, 31]) (env' := [(2, vP b_7), (3, vP b_8), (31, .bool (a_1.Saga == b_4.Saga))]) (H' := [⟨41, b_8, [vI b_4.Kind, vU b_4.Session, vU b_4.Seq, vU b_4.Saga, .slice A_5 b_4.Steps.length c_6, vI b_4.Step, .bool b_4.Back, vI b_4.Try, .bool b_4.Ok, vU b_4.Now]⟩, ⟨40, b_7, [vI a_1.Kind, vU a_1.Session, vU a_1.Seq, vU a_1.Saga, .slice A_2 a_1.Steps.length c_3, vI a_1.Step, .bool a_1.Back, vI a_1.Try, .bool a_1.Ok, vU a_1.Now]⟩]) (ps := [b_7 = b_7, b_8 = b_8]) (by kernel_rfl) (And.intro rfl (And.intro rfl trivial)) ?_
        refine GoO.bsplit (t := 31) (by kernel_rfl) (fun h12 => ?_) (fun h12 => ?_)
        · refine GoO.exec (is := [27, 28, 29, 30, 31, 32, 33]) (hs := [.p, .b 1, .p, .b 0, .p, .p, .p]) (rest := [34, 35, 36, 37, 38, 39, 40, 41, 42, 43, 44, 45, 46, 47, 48, 49, 50, 51, 52, 53, 54, 55, 56, 57, 58, 59, 60, 61, 62, 63, 64, 65, 66, 67, 68]) (ks := [2, 3, 38]) (env' := [(2, vP b_7), (3, vP b_8), (38, .bool (a_1.Step == b_4.Step))]) (H' := [⟨41, b_8, [vI b_4.Kind, vU b_4.Session, vU b_4.Seq, vU b_4.Saga, .slice A_5 b_4.Steps.length c_6, vI b_4.Step, .bool b_4.Back, vI b_4.Try, .bool b_4.Ok, vU b_4.Now]⟩, ⟨40, b_7, [vI a_1.Kind, vU a_1.Session, vU a_1.Seq, vU a_1.Saga, .slice A_2 a_1.Steps.length c_3, vI a_1.Step, .bool a_1.Back, vI a_1.Try, .bool a_1.Ok, vU a_1.Now]⟩]) (ps := [b_7 = b_7, b_8 = b_8]) (by kernel_rfl) (And.intro rfl (And.intro rfl trivial)) ?_
          refine GoO.bsplit (t := 38) (by kernel_rfl) (fun h13 => ?_) (fun h13 => ?_)
          · refine GoO.exec (is := [34, 35, 36, 37, 38, 39, 40]) (hs := [.p, .b 1, .p, .b 0, .p, .p, .p]) (rest := [41, 42, 43, 44, 45, 46, 47, 48, 49, 50, 51, 52, 53, 54, 55, 56, 57, 58, 59, 60, 61, 62, 63, 64, 65, 66, 67, 68]) (ks := [2, 3, 45]) (env' := [(2, vP b_7), (3, vP b_8), (45, .bool (a_1.Back == b_4.Back))]) (H' := [⟨41, b_8, [vI b_4.Kind, vU b_4.Session, vU b_4.Seq, vU b_4.Saga, .slice A_5 b_4.Steps.length c_6, vI b_4.Step, .bool b_4.Back, vI b_4.Try, .bool b_4.Ok, vU b_4.Now]⟩, ⟨40, b_7, [vI a_1.Kind, vU a_1.Session, vU a_1.Seq, vU a_1.Saga, .slice A_2 a_1.Steps.length c_3, vI a_1.Step, .bool a_1.Back, vI a_1.Try, .bool a_1.Ok, vU a_1.Now]⟩]) (ps := [b_7 = b_7, b_8 = b_8]) (by kernel_rfl) (And.intro rfl (And.intro rfl trivial)) ?_
            refine GoO.bsplit (t := 45) (by kernel_rfl) (fun h14 => ?_) (fun h14 => ?_)
            · refine GoO.exec (is := [41, 42, 43, 44, 45, 46, 47]) (hs := [.p, .b 1, .p, .b 0, .p, .p, .p]) (rest := [48, 49, 50, 51, 52, 53, 54, 55, 56, 57, 58, 59, 60, 61, 62, 63, 64, 65, 66, 67, 68]) (ks := [2, 3, 52]) (env' := [(2, vP b_7), (3, vP b_8), (52, .bool (a_1.Try == b_4.Try))]) (H' := [⟨41, b_8, [vI b_4.Kind, vU b_4.Session, vU b_4.Seq, vU b_4.Saga, .slice A_5 b_4.Steps.length c_6, vI b_4.Step, .bool b_4.Back, vI b_4.Try, .bool b_4.Ok, vU b_4.Now]⟩, ⟨40, b_7, [vI a_1.Kind, vU a_1.Session, vU a_1.Seq, vU a_1.Saga, .slice A_2 a_1.Steps.length c_3, vI a_1.Step, .bool a_1.Back, vI a_1.Try, .bool a_1.Ok, vU a_1.Now]⟩]) (ps := [b_7 = b_7, b_8 = b_8]) (by kernel_rfl) (And.intro rfl (And.intro rfl trivial)) ?_
              refine GoO.bsplit (t := 52) (by kernel_rfl) (fun h15 => ?_) (fun h15 => ?_)
              · refine GoO.exec (is := [48, 49, 50, 51, 52, 53, 54]) (hs := [.p, .b 1, .p, .b 0, .p, .p, .p]) (rest := [55, 56, 57, 58, 59, 60, 61, 62, 63, 64, 65, 66, 67, 68]) (ks := [2, 3, 59]) (env' := [(2, vP b_7), (3, vP b_8), (59, .bool (a_1.Ok == b_4.Ok))]) (H' := [⟨41, b_8, [vI b_4.Kind, vU b_4.Session, vU b_4.Seq, vU b_4.Saga, .slice A_5 b_4.Steps.length c_6, vI b_4.Step, .bool b_4.Back, vI b_4.Try, .bool b_4.Ok, vU b_4.Now]⟩, ⟨40, b_7, [vI a_1.Kind, vU a_1.Session, vU a_1.Seq, vU a_1.Saga, .slice A_2 a_1.Steps.length c_3, vI a_1.Step, .bool a_1.Back, vI a_1.Try, .bool a_1.Ok, vU a_1.Now]⟩]) (ps := [b_7 = b_7, b_8 = b_8]) (by kernel_rfl) (And.intro rfl (And.intro rfl trivial)) ?_
                refine GoO.bsplit (t := 59) (by kernel_rfl) (fun h16 => ?_) (fun h16 => ?_)
                · refine GoO.exec (is := [55, 56, 57, 58, 59, 60, 61]) (hs := [.p, .b 1, .p, .b 0, .p, .p, .p]) (rest := [62, 63, 64, 65, 66, 67, 68]) (ks := [2, 3, 66]) (env' := [(2, vP b_7), (3, vP b_8), (66, .bool (a_1.Now == b_4.Now))]) (H' := [⟨41, b_8, [vI b_4.Kind, vU b_4.Session, vU b_4.Seq, vU b_4.Saga, .slice A_5 b_4.Steps.length c_6, vI b_4.Step, .bool b_4.Back, vI b_4.Try, .bool b_4.Ok, vU b_4.Now]⟩, ⟨40, b_7, [vI a_1.Kind, vU a_1.Session, vU a_1.Seq, vU a_1.Saga, .slice A_2 a_1.Steps.length c_3, vI a_1.Step, .bool a_1.Back, vI a_1.Try, .bool a_1.Ok, vU a_1.Now]⟩]) (ps := [b_7 = b_7, b_8 = b_8]) (by kernel_rfl) (And.intro rfl (And.intro rfl trivial)) ?_
                  refine GoO.bsplit (t := 66) (by kernel_rfl) (fun h17 => ?_) (fun h17 => ?_)
                  · refine GoO.exec (is := [62, 63, 64, 65]) (hs := [.p, .b 1, .p, .b 0]) (rest := [66, 67, 68]) (ks := [66, 68, 70]) (env' := [(66, .bool true), (68, .slice A_2 a_1.Steps.length c_3), (70, .slice A_5 b_4.Steps.length c_6)]) (H' := [⟨41, b_8, [vI b_4.Kind, vU b_4.Session, vU b_4.Seq, vU b_4.Saga, .slice A_5 b_4.Steps.length c_6, vI b_4.Step, .bool b_4.Back, vI b_4.Try, .bool b_4.Ok, vU b_4.Now]⟩, ⟨40, b_7, [vI a_1.Kind, vU a_1.Session, vU a_1.Seq, vU a_1.Saga, .slice A_2 a_1.Steps.length c_3, vI a_1.Step, .bool a_1.Back, vI a_1.Try, .bool a_1.Ok, vU a_1.Now]⟩]) (ps := [b_7 = b_7, b_8 = b_8]) (by kernel_rfl) (And.intro rfl (And.intro rfl trivial)) ?_
                    refine OpTo.go (GoO.call rfl (by kernel_rfl) (by kernel_rfl) (tontineref13_Same_ok n a_1.Steps b_4.Steps A_2 c_3 A_5 c_6) [[0]] [] [] [(0, 0), (0, 1)] (hks := [0, 1]) (bks := [0, 1]) (by kernel_rfl) (by kernel_rfl) (by kernel_rfl) (.inl rfl) rfl rfl (by kernel_rfl) (by kernel_rfl) _ (fun _ _ => rfl) _ _ (fun _ _ => rfl) (fun _ _ => rfl) (fun _ _ => by kernel_rfl) (fun _ _ => by kernel_rfl) (fun r_18 x_19 => ?_))
                    refine GoO.shape (env' := [(66, .bool true), (68, .slice A_2 a_1.Steps.length c_3), (70, .slice A_5 b_4.Steps.length c_6), (71, .bool r_18)]) (H' := [⟨41, b_8, [vI b_4.Kind, vU b_4.Session, vU b_4.Seq, vU b_4.Saga, .slice A_5 b_4.Steps.length c_6, vI b_4.Step, .bool b_4.Back, vI b_4.Try, .bool b_4.Ok, vU b_4.Now]⟩, ⟨40, b_7, [vI a_1.Kind, vU a_1.Session, vU a_1.Seq, vU a_1.Saga, .slice A_2 a_1.Steps.length c_3, vI a_1.Step, .bool a_1.Back, vI a_1.Try, .bool a_1.Ok, vU a_1.Now]⟩]) (B' := [Rd 0 kT_api_Step A_2 c_3 a_1.Steps, Rd 0 kT_api_Step A_5 c_6 b_4.Steps]) (ks := [66, 68, 70, 71]) (by kernel_rfl) (by kernel_rfl) (by kernel_rfl) ?_
                    refine GoO.exec (is := [67, 68]) (hs := [.p, .p]) (rest := []) (ks := [4]) (env' := [(4, .bool r_18)]) (H' := [⟨41, b_8, [vI b_4.Kind, vU b_4.Session, vU b_4.Seq, vU b_4.Saga, .slice A_5 b_4.Steps.length c_6, vI b_4.Step, .bool b_4.Back, vI b_4.Try, .bool b_4.Ok, vU b_4.Now]⟩, ⟨40, b_7, [vI a_1.Kind, vU a_1.Session, vU a_1.Seq, vU a_1.Saga, .slice A_2 a_1.Steps.length c_3, vI a_1.Step, .bool a_1.Back, vI a_1.Try, .bool a_1.Ok, vU a_1.Now]⟩]) (ps := []) (by kernel_rfl) trivial ?_
                    refine GoO.regionEnd ?_
                    exact GoO.ret' (h := c79_4e) (hs := []) (ps := []) (hk := []) (bk := []) Try.func79 () (by kernel_rfl) trivial (by kernel_rfl) (by kernel_rfl)
                  · refine GoO.exec (is := [62, 63, 64, 65, 66, 67, 68]) (hs := [.p, .p, .p, .p, .p, .p, .p]) (rest := []) (ks := [4]) (env' := [(4, .bool false)]) (H' := [⟨41, b_8, [vI b_4.Kind, vU b_4.Session, vU b_4.Seq, vU b_4.Saga, .slice A_5 b_4.Steps.length c_6, vI b_4.Step, .bool b_4.Back, vI b_4.Try, .bool b_4.Ok, vU b_4.Now]⟩, ⟨40, b_7, [vI a_1.Kind, vU a_1.Session, vU a_1.Seq, vU a_1.Saga, .slice A_2 a_1.Steps.length c_3, vI a_1.Step, .bool a_1.Back, vI a_1.Try, .bool a_1.Ok, vU a_1.Now]⟩]) (ps := []) (by kernel_rfl) trivial ?_
                    refine GoO.regionEnd ?_
                    exact GoO.ret' (h := c79_4e) (hs := []) (ps := []) (hk := []) (bk := []) Try.func79 () (by kernel_rfl) trivial (by kernel_rfl) (by kernel_rfl)
                · refine GoO.exec (is := [55, 56, 57, 58, 59, 60, 61, 62, 63, 64, 65, 66, 67, 68]) (hs := [.p, .p, .p, .p, .p, .p, .p, .p, .p, .p, .p, .p, .p, .p]) (rest := []) (ks := [4]) (env' := [(4, .bool false)]) (H' := [⟨41, b_8, [vI b_4.Kind, vU b_4.Session, vU b_4.Seq, vU b_4.Saga, .slice A_5 b_4.Steps.length c_6, vI b_4.Step, .bool b_4.Back, vI b_4.Try, .bool b_4.Ok, vU b_4.Now]⟩, ⟨40, b_7, [vI a_1.Kind, vU a_1.Session, vU a_1.Seq, vU a_1.Saga, .slice A_2 a_1.Steps.length c_3, vI a_1.Step, .bool a_1.Back, vI a_1.Try, .bool a_1.Ok, vU a_1.Now]⟩]) (ps := []) (by kernel_rfl) trivial ?_
                  refine GoO.regionEnd ?_
                  exact GoO.ret' (h := c79_4e) (hs := []) (ps := []) (hk := []) (bk := []) Try.func79 () (by kernel_rfl) trivial (by kernel_rfl) (by kernel_rfl)
              · refine GoO.exec (is := [48, 49, 50, 51, 52, 53, 54, 55, 56, 57, 58, 59, 60, 61, 62, 63, 64, 65, 66, 67, 68]) (hs := [.p, .p, .p, .p, .p, .p, .p, .p, .p, .p, .p, .p, .p, .p, .p, .p, .p, .p, .p, .p, .p]) (rest := []) (ks := [4]) (env' := [(4, .bool false)]) (H' := [⟨41, b_8, [vI b_4.Kind, vU b_4.Session, vU b_4.Seq, vU b_4.Saga, .slice A_5 b_4.Steps.length c_6, vI b_4.Step, .bool b_4.Back, vI b_4.Try, .bool b_4.Ok, vU b_4.Now]⟩, ⟨40, b_7, [vI a_1.Kind, vU a_1.Session, vU a_1.Seq, vU a_1.Saga, .slice A_2 a_1.Steps.length c_3, vI a_1.Step, .bool a_1.Back, vI a_1.Try, .bool a_1.Ok, vU a_1.Now]⟩]) (ps := []) (by kernel_rfl) trivial ?_
                refine GoO.regionEnd ?_
                exact GoO.ret' (h := c79_4e) (hs := []) (ps := []) (hk := []) (bk := []) Try.func79 () (by kernel_rfl) trivial (by kernel_rfl) (by kernel_rfl)
            · refine GoO.exec (is := [41, 42, 43, 44, 45, 46, 47, 48, 49, 50, 51, 52, 53, 54, 55, 56, 57, 58, 59, 60, 61, 62, 63, 64, 65, 66, 67, 68]) (hs := [.p, .p, .p, .p, .p, .p, .p, .p, .p, .p, .p, .p, .p, .p, .p, .p, .p, .p, .p, .p, .p, .p, .p, .p, .p, .p, .p, .p]) (rest := []) (ks := [4]) (env' := [(4, .bool false)]) (H' := [⟨41, b_8, [vI b_4.Kind, vU b_4.Session, vU b_4.Seq, vU b_4.Saga, .slice A_5 b_4.Steps.length c_6, vI b_4.Step, .bool b_4.Back, vI b_4.Try, .bool b_4.Ok, vU b_4.Now]⟩, ⟨40, b_7, [vI a_1.Kind, vU a_1.Session, vU a_1.Seq, vU a_1.Saga, .slice A_2 a_1.Steps.length c_3, vI a_1.Step, .bool a_1.Back, vI a_1.Try, .bool a_1.Ok, vU a_1.Now]⟩]) (ps := []) (by kernel_rfl) trivial ?_
              refine GoO.regionEnd ?_
              exact GoO.ret' (h := c79_4e) (hs := []) (ps := []) (hk := []) (bk := []) Try.func79 () (by kernel_rfl) trivial (by kernel_rfl) (by kernel_rfl)
          · refine GoO.exec (is := [34, 35, 36, 37, 38, 39, 40, 41, 42, 43, 44, 45, 46, 47, 48, 49, 50, 51, 52, 53, 54, 55, 56, 57, 58, 59, 60, 61, 62, 63, 64, 65, 66, 67, 68]) (hs := [.p, .p, .p, .p, .p, .p, .p, .p, .p, .p, .p, .p, .p, .p, .p, .p, .p, .p, .p, .p, .p, .p, .p, .p, .p, .p, .p, .p, .p, .p, .p, .p, .p, .p, .p]) (rest := []) (ks := [4]) (env' := [(4, .bool false)]) (H' := [⟨41, b_8, [vI b_4.Kind, vU b_4.Session, vU b_4.Seq, vU b_4.Saga, .slice A_5 b_4.Steps.length c_6, vI b_4.Step, .bool b_4.Back, vI b_4.Try, .bool b_4.Ok, vU b_4.Now]⟩, ⟨40, b_7, [vI a_1.Kind, vU a_1.Session, vU a_1.Seq, vU a_1.Saga, .slice A_2 a_1.Steps.length c_3, vI a_1.Step, .bool a_1.Back, vI a_1.Try, .bool a_1.Ok, vU a_1.Now]⟩]) (ps := []) (by kernel_rfl) trivial ?_
            refine GoO.regionEnd ?_
            exact GoO.ret' (h := c79_4e) (hs := []) (ps := []) (hk := []) (bk := []) Try.func79 () (by kernel_rfl) trivial (by kernel_rfl) (by kernel_rfl)
        · refine GoO.exec (is := [27, 28, 29, 30, 31, 32, 33, 34, 35, 36, 37, 38, 39, 40, 41, 42, 43, 44, 45, 46, 47, 48, 49, 50, 51, 52, 53, 54, 55, 56, 57, 58, 59, 60, 61, 62, 63, 64, 65, 66, 67, 68]) (hs := [.p, .p, .p, .p, .p, .p, .p, .p, .p, .p, .p, .p, .p, .p, .p, .p, .p, .p, .p, .p, .p, .p, .p, .p, .p, .p, .p, .p, .p, .p, .p, .p, .p, .p, .p, .p, .p, .p, .p, .p, .p, .p]) (rest := []) (ks := [4]) (env' := [(4, .bool false)]) (H' := [⟨41, b_8, [vI b_4.Kind, vU b_4.Session, vU b_4.Seq, vU b_4.Saga, .slice A_5 b_4.Steps.length c_6, vI b_4.Step, .bool b_4.Back, vI b_4.Try, .bool b_4.Ok, vU b_4.Now]⟩, ⟨40, b_7, [vI a_1.Kind, vU a_1.Session, vU a_1.Seq, vU a_1.Saga, .slice A_2 a_1.Steps.length c_3, vI a_1.Step, .bool a_1.Back, vI a_1.Try, .bool a_1.Ok, vU a_1.Now]⟩]) (ps := []) (by kernel_rfl) trivial ?_
          refine GoO.regionEnd ?_
          exact GoO.ret' (h := c79_4e) (hs := []) (ps := []) (hk := []) (bk := []) Try.func79 () (by kernel_rfl) trivial (by kernel_rfl) (by kernel_rfl)
      · refine GoO.exec (is := [20, 21, 22, 23, 24, 25, 26, 27, 28, 29, 30, 31, 32, 33, 34, 35, 36, 37, 38, 39, 40, 41, 42, 43, 44, 45, 46, 47, 48, 49, 50, 51, 52, 53, 54, 55, 56, 57, 58, 59, 60, 61, 62, 63, 64, 65, 66, 67, 68]) (hs := [.p, .p, .p, .p, .p, .p, .p, .p, .p, .p, .p, .p, .p, .p, .p, .p, .p, .p, .p, .p, .p, .p, .p, .p, .p, .p, .p, .p, .p, .p, .p, .p, .p, .p, .p, .p, .p, .p, .p, .p, .p, .p, .p, .p, .p, .p, .p, .p, .p]) (rest := []) (ks := [4]) (env' := [(4, .bool false)]) (H' := [⟨41, b_8, [vI b_4.Kind, vU b_4.Session, vU b_4.Seq, vU b_4.Saga, .slice A_5 b_4.Steps.length c_6, vI b_4.Step, .bool b_4.Back, vI b_4.Try, .bool b_4.Ok, vU b_4.Now]⟩, ⟨40, b_7, [vI a_1.Kind, vU a_1.Session, vU a_1.Seq, vU a_1.Saga, .slice A_2 a_1.Steps.length c_3, vI a_1.Step, .bool a_1.Back, vI a_1.Try, .bool a_1.Ok, vU a_1.Now]⟩]) (ps := []) (by kernel_rfl) trivial ?_
        refine GoO.regionEnd ?_
        exact GoO.ret' (h := c79_4e) (hs := []) (ps := []) (hk := []) (bk := []) Try.func79 () (by kernel_rfl) trivial (by kernel_rfl) (by kernel_rfl)
    · refine GoO.exec (is := [13, 14, 15, 16, 17, 18, 19, 20, 21, 22, 23, 24, 25, 26, 27, 28, 29, 30, 31, 32, 33, 34, 35, 36, 37, 38, 39, 40, 41, 42, 43, 44, 45, 46, 47, 48, 49, 50, 51, 52, 53, 54, 55, 56, 57, 58, 59, 60, 61, 62, 63, 64, 65, 66, 67, 68]) (hs := [.p, .p, .p, .p, .p, .p, .p, .p, .p, .p, .p, .p, .p, .p, .p, .p, .p, .p, .p, .p, .p, .p, .p, .p, .p, .p, .p, .p, .p, .p, .p, .p, .p, .p, .p, .p, .p, .p, .p, .p, .p, .p, .p, .p, .p, .p, .p, .p, .p, .p, .p, .p, .p, .p, .p, .p]) (rest := []) (ks := [4]) (env' := [(4, .bool false)]) (H' := [⟨41, b_8, [vI b_4.Kind, vU b_4.Session, vU b_4.Seq, vU b_4.Saga, .slice A_5 b_4.Steps.length c_6, vI b_4.Step, .bool b_4.Back, vI b_4.Try, .bool b_4.Ok, vU b_4.Now]⟩, ⟨40, b_7, [vI a_1.Kind, vU a_1.Session, vU a_1.Seq, vU a_1.Saga, .slice A_2 a_1.Steps.length c_3, vI a_1.Step, .bool a_1.Back, vI a_1.Try, .bool a_1.Ok, vU a_1.Now]⟩]) (ps := []) (by kernel_rfl) trivial ?_
      refine GoO.regionEnd ?_
      exact GoO.ret' (h := c79_4e) (hs := []) (ps := []) (hk := []) (bk := []) Try.func79 () (by kernel_rfl) trivial (by kernel_rfl) (by kernel_rfl)
  · refine GoO.exec (is := [6, 7, 8, 9, 10, 11, 12, 13, 14, 15, 16, 17, 18, 19, 20, 21, 22, 23, 24, 25, 26, 27, 28, 29, 30, 31, 32, 33, 34, 35, 36, 37, 38, 39, 40, 41, 42, 43, 44, 45, 46, 47, 48, 49, 50, 51, 52, 53, 54, 55, 56, 57, 58, 59, 60, 61, 62, 63, 64, 65, 66, 67, 68]) (hs := [.p, .p, .p, .p, .p, .p, .p, .p, .p, .p, .p, .p, .p, .p, .p, .p, .p, .p, .p, .p, .p, .p, .p, .p, .p, .p, .p, .p, .p, .p, .p, .p, .p, .p, .p, .p, .p, .p, .p, .p, .p, .p, .p, .p, .p, .p, .p, .p, .p, .p, .p, .p, .p, .p, .p, .p, .p, .p, .p, .p, .p, .p, .p]) (rest := []) (ks := [4]) (env' := [(4, .bool false)]) (H' := [⟨41, b_8, [vI b_4.Kind, vU b_4.Session, vU b_4.Seq, vU b_4.Saga, .slice A_5 b_4.Steps.length c_6, vI b_4.Step, .bool b_4.Back, vI b_4.Try, .bool b_4.Ok, vU b_4.Now]⟩, ⟨40, b_7, [vI a_1.Kind, vU a_1.Session, vU a_1.Seq, vU a_1.Saga, .slice A_2 a_1.Steps.length c_3, vI a_1.Step, .bool a_1.Back, vI a_1.Try, .bool a_1.Ok, vU a_1.Now]⟩]) (ps := []) (by kernel_rfl) trivial ?_
    refine GoO.regionEnd ?_
    exact GoO.ret' (h := c79_4e) (hs := []) (ps := []) (hk := []) (bk := []) Try.func79 () (by kernel_rfl) trivial (by kernel_rfl) (by kernel_rfl)
/-! tontine/tontineref21.Same -/
noncomputable def c49_0 : Code := bodyOf Try.f49
noncomputable def c49_1 : Code := cdL c49_0
noncomputable def c49_2 : Code := cdR c49_0
noncomputable def c49_3 : Code := cdL c49_2
noncomputable def c49_4 : Code := cdR c49_2
noncomputable def r49_1 : Array Oper := cdO c49_1
noncomputable def r49_3 : Array Oper := cdO c49_3
theorem c49_0e : c49_0 = .seq c49_1 c49_2 := by kernel_rfl
theorem c49_1e : c49_1 = .region 0 r49_1 false := by kernel_rfl
theorem c49_2e : c49_2 = .seq c49_3 c49_4 := by kernel_rfl
theorem c49_3e : c49_3 = .region 1 r49_3 false := by kernel_rfl
theorem c49_4e : c49_4 = .ret := by kernel_rfl
noncomputable def tontineref21_Same.R (A_2 : Option Addr) (c_3 : Nat) (A_5 : Option Addr) (c_6 : Nat) : Pst Bool where
  ε := Unit
  v := fun r x => .bool r
  H := fun r x => []
  B := fun r x => []
noncomputable def tontineref21_Same.cx (A_2 : Option Addr) (c_3 : Nat) (A_5 : Option Addr) (c_6 : Nat) (w0 : World) (S0 : Fam) : Cx Bool := ⟨Try.prog, 49, Try.f49, 24, w0, S0, [], 0, tontineref21_Same.R A_2 c_3 A_5 c_6⟩
theorem tontineref21_Same_ok (n : Nat) (a_1 : T_api_Told) (b_4 : T_api_Told) (A_2 : Option Addr) (c_3 : Nat) (A_5 : Option Addr) (c_6 : Nat) :
    Meets Try.prog 49 [.agg ⟨[vI a_1.Client, vI a_1.Command.Kind, vU a_1.Command.Session, vU a_1.Command.Seq, vU a_1.Command.Saga, .slice A_2 a_1.Command.Steps.length c_3, vI a_1.Command.Step, .bool a_1.Command.Back, vI a_1.Command.Try, .bool a_1.Command.Ok, vU a_1.Command.Now, vI a_1.Reply.Err, vU a_1.Reply.Num, vU a_1.Reply.Extra]⟩, .agg ⟨[vI b_4.Client, vI b_4.Command.Kind, vU b_4.Command.Session, vU b_4.Command.Seq, vU b_4.Command.Saga, .slice A_5 b_4.Command.Steps.length c_6, vI b_4.Command.Step, .bool b_4.Command.Back, vI b_4.Command.Try, .bool b_4.Command.Ok, vU b_4.Command.Now, vI b_4.Reply.Err, vU b_4.Reply.Num, vU b_4.Reply.Extra]⟩] 0 [] [] [Rd 0 kT_api_Step A_2 c_3 a_1.Command.Steps, Rd 0 kT_api_Step A_5 c_6 b_4.Command.Steps] (tontineref21_Same.f n a_1 b_4) (tontineref21_Same.R A_2 c_3 A_5 c_6) := by
  refine Meets.of (c := c49_0) (n := 24) Try.func49 (by kernel_rfl) (by kernel_rfl) (by kernel_rfl) fun w0 S0 => ?_
  unfold tontineref21_Same.f
  show GoO (tontineref21_Same.cx A_2 c_3 A_5 c_6 w0 S0) [(0, .agg ⟨[vI a_1.Client, vI a_1.Command.Kind, vU a_1.Command.Session, vU a_1.Command.Seq, vU a_1.Command.Saga, .slice A_2 a_1.Command.Steps.length c_3, vI a_1.Command.Step, .bool a_1.Command.Back, vI a_1.Command.Try, .bool a_1.Command.Ok, vU a_1.Command.Now, vI a_1.Reply.Err, vU a_1.Reply.Num, vU a_1.Reply.Extra]⟩), (1, .agg ⟨[vI b_4.Client, vI b_4.Command.Kind, vU b_4.Command.Session, vU b_4.Command.Seq, vU b_4.Command.Saga, .slice A_5 b_4.Command.Steps.length c_6, vI b_4.Command.Step, .bool b_4.Command.Back, vI b_4.Command.Try, .bool b_4.Command.Ok, vU b_4.Command.Now, vI b_4.Reply.Err, vU b_4.Reply.Num, vU b_4.Reply.Extra]⟩)] [] [Rd 0 kT_api_Step A_2 c_3 a_1.Command.Steps, Rd 0 kT_api_Step A_5 c_6 b_4.Command.Steps] [.code c49_0] _
  refine GoO.seq' c49_0e ?_
  refine GoO.region' (is := [0, 1, 2]) c49_1e (by kernel_rfl) ?_
  refine OpTo.go (GoO.new rfl 40 (cs := [vI a_1.Client, vI a_1.Command.Kind, vU a_1.Command.Session, vU a_1.Command.Seq, vU a_1.Command.Saga, .slice A_2 a_1.Command.Steps.length c_3, vI a_1.Command.Step, .bool a_1.Command.Back, vI a_1.Command.Try, .bool a_1.Command.Ok, vU a_1.Command.Now, vI a_1.Reply.Err, vU a_1.Reply.Num, vU a_1.Reply.Extra]) (by kernel_rfl) _ (fun _ => rfl) (fun b_7 => ?_))
  refine OpTo.go (GoO.new rfl 41 (cs := [vI b_4.Client, vI b_4.Command.Kind, vU b_4.Command.Session, vU b_4.Command.Seq, vU b_4.Command.Saga, .slice A_5 b_4.Command.Steps.length c_6, vI b_4.Command.Step, .bool b_4.Command.Back, vI b_4.Command.Try, .bool b_4.Command.Ok, vU b_4.Command.Now, vI b_4.Reply.Err, vU b_4.Reply.Num, vU b_4.Reply.Extra]) (by kernel_rfl) _ (fun _ => rfl) (fun b_8 => ?_))
  refine GoO.exec (is := [2]) (hs := [.p]) (rest := []) (ks := [2, 3]) (env' := [(2, vP b_7), (3, vP b_8)]) (H' := [⟨41, b_8, [vI b_4.Client, vI b_4.Command.Kind, vU b_4.Command.Session, vU b_4.Command.Seq, vU b_4.Command.Saga, .slice A_5 b_4.Command.Steps.length c_6, vI b_4.Command.Step, .bool b_4.Command.Back, vI b_4.Command.Try, .bool b_4.Command.Ok, vU b_4.Command.Now, vI b_4.Reply.Err, vU b_4.Reply.Num, vU b_4.Reply.Extra]⟩, ⟨40, b_7, [vI a_1.Client, vI a_1.Command.Kind, vU a_1.Command.Session, vU a_1.Command.Seq, vU a_1.Command.Saga, .slice A_2 a_1.Command.Steps.length c_3, vI a_1.Command.Step, .bool a_1.Command.Back, vI a_1.Command.Try, .bool a_1.Command.Ok, vU a_1.Command.Now, vI a_1.Reply.Err, vU a_1.Reply.Num, vU a_1.Reply.Extra]⟩]) (ps := []) (by kernel_rfl) trivial ?_
  refine GoO.regionEnd ?_
  refine GoO.seq' c49_2e ?_
  refine GoO.region' (is := [0, 1, 2, 3, 4, 5, 6, 7, 8, 9, 10, 11, 12, 13, 14, 15, 16, 17, 18, 19]) c49_3e (by kernel_rfl) ?_
  refine GoO.exec (is := [0, 1, 2, 3, 4, 5]) (hs := [.p, .b 1, .p, .b 0, .p, .p]) (rest := [6, 7, 8, 9, 10, 11, 12, 13, 14, 15, 16, 17, 18, 19]) (ks := [2, 3, 10]) (env' := [(2, vP b_7), (3, vP b_8), (10, .bool (a_1.Client == b_4.Client))]) (H' := [⟨41, b_8, [vI b_4.Client, vI b_4.Command.Kind, vU b_4.Command.Session, vU b_4.Command.Seq, vU b_4.Command.Saga, .slice A_5 b_4.Command.Steps.length c_6, vI b_4.Command.Step, .bool b_4.Command.Back, vI b_4.Command.Try, .bool b_4.Command.Ok, vU b_4.Command.Now, vI b_4.Reply.Err, vU b_4.Reply.Num, vU b_4.Reply.Extra]⟩, ⟨40, b_7, [vI a_1.Client, vI a_1.Command.Kind, vU a_1.Command.Session, vU a_1.Command.Seq, vU a_1.Command.Saga, .slice A_2 a_1.Command.Steps.length c_3, vI a_1.Command.Step, .bool a_1.Command.Back, vI a_1.Command.Try, .bool a_1.Command.Ok, vU a_1.Command.Now, vI a_1.Reply.Err, vU a_1.Reply.Num, vU a_1.Reply.Extra]⟩]) (ps := [b_7 = b_7, b_8 = b_8]) (by kernel_rfl) (And.intro rfl (And.intro rfl trivial)) ?_
  refine GoO.bsplit (t := 10) (by kernel_rfl) (fun h9 => ?_) (fun h9 => ?_)
  · refine GoO.exec (is := [6, 7, 8, 9, 10, 11, 12]) (hs := [.p, .b 1, .p, .b 0, .p, .p, .p]) (rest := [13, 14, 15, 16, 17, 18, 19]) (ks := [2, 3, 17]) (env' := [(2, vP b_7), (3, vP b_8), (17, .bool ((a_1.Reply.Err == b_4.Reply.Err) && ((a_1.Reply.Num == b_4.Reply.Num) && ((a_1.Reply.Extra == b_4.Reply.Extra) && true))))]) (H' := [⟨41, b_8, [vI b_4.Client, vI b_4.Command.Kind, vU b_4.Command.Session, vU b_4.Command.Seq, vU b_4.Command.Saga, .slice A_5 b_4.Command.Steps.length c_6, vI b_4.Command.Step, .bool b_4.Command.Back, vI b_4.Command.Try, .bool b_4.Command.Ok, vU b_4.Command.Now, vI b_4.Reply.Err, vU b_4.Reply.Num, vU b_4.Reply.Extra]⟩, ⟨40, b_7, [vI a_1.Client, vI a_1.Command.Kind, vU a_1.Command.Session, vU a_1.Command.Seq, vU a_1.Command.Saga, .slice A_2 a_1.Command.Steps.length c_3, vI a_1.Command.Step, .bool a_1.Command.Back, vI a_1.Command.Try, .bool a_1.Command.Ok, vU a_1.Command.Now, vI a_1.Reply.Err, vU a_1.Reply.Num, vU a_1.Reply.Extra]⟩]) (ps := [b_7 = b_7, b_8 = b_8]) (by kernel_rfl) (And.intro rfl (And.intro rfl trivial)) ?_
    refine GoO.bsplit (t := 17) (by kernel_rfl) (fun h10 => ?_) (fun h10 => ?_)
    · refine GoO.exec (is := [13, 14, 15, 16]) (hs := [.p, .b 1, .p, .b 0]) (rest := [17, 18, 19]) (ks := [17, 19, 21]) (env' := [(17, .bool true), (19, .agg ⟨[vI a_1.Command.Kind, vU a_1.Command.Session, vU a_1.Command.Seq, vU a_1.Command.Saga, .slice A_2 a_1.Command.Steps.length c_3, vI a_1.Command.Step, .bool a_1.Command.Back, vI a_1.Command.Try, .bool a_1.Command.Ok, vU a_1.Command.Now]⟩), (21, .agg ⟨[vI b_4.Command.Kind, vU b_4.Command.Session, vU b_4.Command.Seq, vU b_4.Command.Saga, .slice A_5 b_4.Command.Steps.length c_6, vI b_4.Command.Step, .bool b_4.Command.Back, vI b_4.Command.Try, .bool b_4.Command.Ok, vU b_4.Command.Now]⟩)]) (H' := [⟨41, b_8, [vI b_4.Client, vI b_4.Command.Kind, vU b_4.Command.Session, vU b_4.Command.Seq, vU b_4.Command.Saga, .slice A_5 b_4.Command.Steps.length c_6, vI b_4.Command.Step, .bool b_4.Command.Back, vI b_4.Command.Try, .bool b_4.Command.Ok, vU b_4.Command.Now, vI b_4.Reply.Err, vU b_4.Reply.Num, vU b_4.Reply.Extra]⟩, ⟨40, b_7, [vI a_1.Client, vI a_1.Command.Kind, vU a_1.Command.Session, vU a_1.Command.Seq, vU a_1.Command.Saga, .slice A_2 a_1.Command.Steps.length c_3, vI a_1.Command.Step, .bool a_1.Command.Back, vI a_1.Command.Try, .bool a_1.Command.Ok, vU a_1.Command.Now, vI a_1.Reply.Err, vU a_1.Reply.Num, vU a_1.Reply.Extra]⟩]) (ps := [b_7 = b_7, b_8 = b_8]) (by kernel_rfl) (And.intro rfl (And.intro rfl trivial)) ?_
      refine OpTo.go (GoO.call rfl (by kernel_rfl) (by kernel_rfl) (tontineref16_Same_ok n (⟨a_1.Command.Kind, a_1.Command.Session, a_1.Command.Seq, a_1.Command.Saga, a_1.Command.Steps, a_1.Command.Step, a_1.Command.Back, a_1.Command.Try, a_1.Command.Ok, a_1.Command.Now⟩ : T_api_Command) (⟨b_4.Command.Kind, b_4.Command.Session, b_4.Command.Seq, b_4.Command.Saga, b_4.Command.Steps, b_4.Command.Step, b_4.Command.Back, b_4.Command.Try, b_4.Command.Ok, b_4.Command.Now⟩ : T_api_Command) A_2 c_3 A_5 c_6) [[0]] [] [] [(0, 0), (0, 1)] (hks := [0, 1]) (bks := [0, 1]) (by kernel_rfl) (by kernel_rfl) (by kernel_rfl) (.inl rfl) rfl rfl (by kernel_rfl) (by kernel_rfl) _ (fun _ _ => rfl) _ _ (fun _ _ => rfl) (fun _ _ => rfl) (fun _ _ => by kernel_rfl) (fun _ _ => by kernel_rfl) (fun r_11 x_12 => ?_))
      refine GoO.shape (env' := [(17, .bool true), (19, .agg ⟨[vI a_1.Command.Kind, vU a_1.Command.Session, vU a_1.Command.Seq, vU a_1.Command.Saga, .slice A_2 a_1.Command.Steps.length c_3, vI a_1.Command.Step, .bool a_1.Command.Back, vI a_1.Command.Try, .bool a_1.Command.Ok, vU a_1.Command.Now]⟩), (21, .agg ⟨[vI b_4.Command.Kind, vU b_4.Command.Session, vU b_4.Command.Seq, vU b_4.Command.Saga, .slice A_5 b_4.Command.Steps.length c_6, vI b_4.Command.Step, .bool b_4.Command.Back, vI b_4.Command.Try, .bool b_4.Command.Ok, vU b_4.Command.Now]⟩), (22, .bool r_11)]) (H' := [⟨41, b_8, [vI b_4.Client, vI b_4.Command.Kind, vU b_4.Command.Session, vU b_4.Command.Seq, vU b_4.Command.Saga, .slice A_5 b_4.Command.Steps.length c_6, vI b_4.Command.Step, .bool b_4.Command.Back, vI b_4.Command.Try, .bool b_4.Command.Ok, vU b_4.Command.Now, vI b_4.Reply.Err, vU b_4.Reply.Num, vU b_4.Reply.Extra]⟩, ⟨40, b_7, [vI a_1.Client, vI a_1.Command.Kind, vU a_1.Command.Session, vU a_1.Command.Seq, vU a_1.Command.Saga, .slice A_2 a_1.Command.Steps.length c_3, vI a_1.Command.Step, .bool a_1.Command.Back, vI a_1.Command.Try, .bool a_1.Command.Ok, vU a_1.Command.Now, vI a_1.Reply.Err, vU a_1.Reply.Num, vU a_1.Reply.Extra]⟩]) (B' := [Rd 0 kT_api_Step A_2 c_3 a_1.Command.Steps, Rd 0 kT_api_Step A_5 c_6 b_4.Command.Steps]) (ks := [17, 19, 21, 22]) (by kernel_rfl) (by kernel_rfl) (by kernel_rfl) ?_
      refine GoO.exec (is := [18, 19]) (hs := [.p, .p]) (rest := []) (ks := [4]) (env' := [(4, .bool r_11)]) (H' := [⟨41, b_8, [vI b_4.Client, vI b_4.Command.Kind, vU b_4.Command.Session, vU b_4.Command.Seq, vU b_4.Command.Saga, .slice A_5 b_4.Command.Steps.length c_6, vI b_4.Command.Step, .bool b_4.Command.Back, vI b_4.Command.Try, .bool b_4.Command.Ok, vU b_4.Command.Now, vI b_4.Reply.Err, vU b_4.Reply.Num, vU b_4.Reply.Extra]⟩, ⟨40, b_7, [vI a_1.Client, vI a_1.Command.Kind, vU a_1.Command.Session, vU a_1.Command.Seq, vU a_1.Command.Saga, .slice A_2 a_1.Command.Steps.length c_3, vI a_1.Command.Step, .bool a_1.Command.Back, vI a_1.Command.Try, .bool a_1.Command.Ok, vU a_1.Command.Now, vI a_1.Reply.Err, vU a_1.Reply.Num, vU a_1.Reply.Extra]⟩]) (ps := []) (by kernel_rfl) trivial ?_
      refine GoO.regionEnd ?_
      exact GoO.ret' (h := c49_4e) (hs := []) (ps := []) (hk := []) (bk := []) Try.func49 () (by kernel_rfl) trivial (by kernel_rfl) (by kernel_rfl)
    · refine GoO.exec (is := [13, 14, 15, 16, 17, 18, 19]) (hs := [.p, .p, .p, .p, .p, .p, .p]) (rest := []) (ks := [4]) (env' := [(4, .bool false)]) (H' := [⟨41, b_8, [vI b_4.Client, vI b_4.Command.Kind, vU b_4.Command.Session, vU b_4.Command.Seq, vU b_4.Command.Saga, .slice A_5 b_4.Command.Steps.length c_6, vI b_4.Command.Step, .bool b_4.Command.Back, vI b_4.Command.Try, .bool b_4.Command.Ok, vU b_4.Command.Now, vI b_4.Reply.Err, vU b_4.Reply.Num, vU b_4.Reply.Extra]⟩, ⟨40, b_7, [vI a_1.Client, vI a_1.Command.Kind, vU a_1.Command.Session, vU a_1.Command.Seq, vU a_1.Command.Saga, .slice A_2 a_1.Command.Steps.length c_3, vI a_1.Command.Step, .bool a_1.Command.Back, vI a_1.Command.Try, .bool a_1.Command.Ok, vU a_1.Command.Now, vI a_1.Reply.Err, vU a_1.Reply.Num, vU a_1.Reply.Extra]⟩]) (ps := []) (by kernel_rfl) trivial ?_
      refine GoO.regionEnd ?_
      exact GoO.ret' (h := c49_4e) (hs := []) (ps := []) (hk := []) (bk := []) Try.func49 () (by kernel_rfl) trivial (by kernel_rfl) (by kernel_rfl)
  · refine GoO.exec (is := [6, 7, 8, 9, 10, 11, 12, 13, 14, 15, 16, 17, 18, 19]) (hs := [.p, .p, .p, .p, .p, .p, .p, .p, .p, .p, .p, .p, .p, .p]) (rest := []) (ks := [4]) (env' := [(4, .bool false)]) (H' := [⟨41, b_8, [vI b_4.Client, vI b_4.Command.Kind, vU b_4.Command.Session, vU b_4.Command.Seq, vU b_4.Command.Saga, .slice A_5 b_4.Command.Steps.length c_6, vI b_4.Command.Step, .bool b_4.Command.Back, vI b_4.Command.Try, .bool b_4.Command.Ok, vU b_4.Command.Now, vI b_4.Reply.Err, vU b_4.Reply.Num, vU b_4.Reply.Extra]⟩, ⟨40, b_7, [vI a_1.Client, vI a_1.Command.Kind, vU a_1.Command.Session, vU a_1.Command.Seq, vU a_1.Command.Saga, .slice A_2 a_1.Command.Steps.length c_3, vI a_1.Command.Step, .bool a_1.Command.Back, vI a_1.Command.Try, .bool a_1.Command.Ok, vU a_1.Command.Now, vI a_1.Reply.Err, vU a_1.Reply.Num, vU a_1.Reply.Extra]⟩]) (ps := []) (by kernel_rfl) trivial ?_
    refine GoO.regionEnd ?_
    exact GoO.ret' (h := c49_4e) (hs := []) (ps := []) (hk := []) (bk := []) Try.func49 () (by kernel_rfl) trivial (by kernel_rfl) (by kernel_rfl)
/-! (*tontine/client.Client).Give -/
noncomputable def c38_0 : Code := bodyOf Try.f38
noncomputable def c38_1 : Code := cdL c38_0
noncomputable def c38_2 : Code := cdR c38_0
noncomputable def c38_3 : Code := cdL c38_2
noncomputable def c38_4 : Code := cdL c38_3
noncomputable def c38_5 : Code := cdR c38_3
noncomputable def c38_6 : Code := cdL c38_5
noncomputable def c38_7 : Code := cdL c38_6
noncomputable def c38_8 : Code := cdR c38_6
noncomputable def c38_9 : Code := cdR c38_5
noncomputable def c38_10 : Code := cdR c38_2
noncomputable def c38_11 : Code := cdL c38_10
noncomputable def c38_12 : Code := cdR c38_10
noncomputable def c38_13 : Code := cdL c38_12
noncomputable def c38_14 : Code := cdR c38_12
noncomputable def c38_15 : Code := cdL c38_14
noncomputable def c38_16 : Code := cdR c38_14
noncomputable def r38_1 : Array Oper := cdO c38_1
noncomputable def r38_4 : Array Oper := cdO c38_4
noncomputable def r38_7 : Array Oper := cdO c38_7
noncomputable def r38_11 : Array Oper := cdO c38_11
noncomputable def r38_13 : Array Oper := cdO c38_13
noncomputable def r38_15 : Array Oper := cdO c38_15
theorem c38_0e : c38_0 = .seq c38_1 c38_2 := by kernel_rfl
theorem c38_1e : c38_1 = .region 0 r38_1 false := by kernel_rfl
theorem c38_2e : c38_2 = .seq c38_3 c38_10 := by kernel_rfl
theorem c38_3e : c38_3 = .seq c38_4 c38_5 := by kernel_rfl
theorem c38_4e : c38_4 = .region 1 r38_4 false := by kernel_rfl
theorem c38_5e : c38_5 = .cond (cdC c38_5) c38_6 c38_9 := by kernel_rfl
theorem c38_6e : c38_6 = .seq c38_7 c38_8 := by kernel_rfl
theorem c38_7e : c38_7 = .region 2 r38_7 false := by kernel_rfl
theorem c38_8e : c38_8 = .ret := by kernel_rfl
theorem c38_9e : c38_9 = .skip := by kernel_rfl
theorem c38_10e : c38_10 = .seq c38_11 c38_12 := by kernel_rfl
theorem c38_11e : c38_11 = .region 3 r38_11 false := by kernel_rfl
theorem c38_12e : c38_12 = .seq c38_13 c38_14 := by kernel_rfl
theorem c38_13e : c38_13 = .region 4 r38_13 false := by kernel_rfl
theorem c38_14e : c38_14 = .seq c38_15 c38_16 := by kernel_rfl
theorem c38_15e : c38_15 = .region 5 r38_15 false := by kernel_rfl
theorem c38_16e : c38_16 = .ret := by kernel_rfl
noncomputable def client_Client_Give.R (b_2 : Nat) (A_3 : Option Addr) (c_4 : Nat) : Pst (Int × T_client_Client) where
  ε := Option Addr × Nat
  v := fun r x => vI r.1
  H := fun r x => [⟨1, b_2, [vI r.2.id, vU r.2.session, vU r.2.seq, vU r.2.call, .bool r.2.busy, vI r.2.now.Kind, vU r.2.now.Session, vU r.2.now.Seq, vU r.2.now.Saga, .slice x.1 r.2.now.Steps.length x.2, vI r.2.now.Step, .bool r.2.now.Back, vI r.2.now.Try, .bool r.2.now.Ok, vU r.2.now.Now, .string (bs r.2.data), vI r.2.to_]⟩]
  B := fun r x => [Rd 0 kT_api_Step x.1 x.2 r.2.now.Steps]
noncomputable def client_Client_Give.cx (b_2 : Nat) (A_3 : Option Addr) (c_4 : Nat) (w0 : World) (S0 : Fam) : Cx (Int × T_client_Client) := ⟨Try.prog, 38, Try.f38, 21, w0, S0, [1], 1, client_Client_Give.R b_2 A_3 c_4⟩
theorem client_Client_Give_ok (n : Nat) (c_1 : T_client_Client) (b_2 : Nat) (A_3 : Option Addr) (c_4 : Nat) :
    Meets Try.prog 38 [vP b_2] 1 [1] [⟨1, b_2, [vI c_1.id, vU c_1.session, vU c_1.seq, vU c_1.call, .bool c_1.busy, vI c_1.now.Kind, vU c_1.now.Session, vU c_1.now.Seq, vU c_1.now.Saga, .slice A_3 c_1.now.Steps.length c_4, vI c_1.now.Step, .bool c_1.now.Back, vI c_1.now.Try, .bool c_1.now.Ok, vU c_1.now.Now, .string (bs c_1.data), vI c_1.to_]⟩] [Rd 0 kT_api_Step A_3 c_4 c_1.now.Steps] (client_Client_Give.f n c_1) (client_Client_Give.R b_2 A_3 c_4) := by
  refine Meets.of (c := c38_0) (n := 21) Try.func38 (by kernel_rfl) (by kernel_rfl) (by kernel_rfl) fun w0 S0 => ?_
  unfold client_Client_Give.f
  show GoO (client_Client_Give.cx b_2 A_3 c_4 w0 S0) [(0, vP b_2)] [⟨1, b_2, [vI c_1.id, vU c_1.session, vU c_1.seq, vU c_1.call, .bool c_1.busy, vI c_1.now.Kind, vU c_1.now.Session, vU c_1.now.Seq, vU c_1.now.Saga, .slice A_3 c_1.now.Steps.length c_4, vI c_1.now.Step, .bool c_1.now.Back, vI c_1.now.Try, .bool c_1.now.Ok, vU c_1.now.Now, .string (bs c_1.data), vI c_1.to_]⟩] [Rd 0 kT_api_Step A_3 c_4 c_1.now.Steps] [.code c38_0] _
  refine GoO.seq' c38_0e ?_
  refine GoO.region' (is := [0]) c38_1e (by kernel_rfl) ?_
  refine GoO.exec (is := [0]) (hs := [.p]) (rest := []) (ks := [0]) (env' := [(0, vP b_2)]) (H' := [⟨1, b_2, [vI c_1.id, vU c_1.session, vU c_1.seq, vU c_1.call, .bool c_1.busy, vI c_1.now.Kind, vU c_1.now.Session, vU c_1.now.Seq, vU c_1.now.Saga, .slice A_3 c_1.now.Steps.length c_4, vI c_1.now.Step, .bool c_1.now.Back, vI c_1.now.Try, .bool c_1.now.Ok, vU c_1.now.Now, .string (bs c_1.data), vI c_1.to_]⟩]) (ps := []) (by kernel_rfl) trivial ?_
  refine GoO.regionEnd ?_
  refine GoO.seq' c38_2e ?_
  refine GoO.seq' c38_3e ?_
  refine GoO.region' (is := [0, 1, 2, 3, 4, 5, 6, 7, 8]) c38_4e (by kernel_rfl) ?_
  refine GoO.exec (is := [0, 1, 2, 3, 4, 5, 6, 7, 8]) (hs := [.p, .p, .p, .p, .p, .p, .b 0, .p, .p]) (rest := []) (ks := [0, 11]) (env' := [(0, vP b_2), (11, .bool (!c_1.busy))]) (H' := [⟨1, b_2, [vI c_1.id, vU c_1.session, vU c_1.seq, vU c_1.call, .bool c_1.busy, vI c_1.now.Kind, vU c_1.now.Session, vU c_1.now.Seq, vU c_1.now.Saga, .slice A_3 c_1.now.Steps.length c_4, vI c_1.now.Step, .bool c_1.now.Back, vI c_1.now.Try, .bool c_1.now.Ok, vU c_1.now.Now, .string (bs c_1.data), vI c_1.to_]⟩]) (ps := [b_2 = b_2]) (by kernel_rfl) (And.intro rfl trivial) ?_
  refine GoO.regionEnd ?_
  refine GoO.ite' c38_5e (by kernel_rfl) (fun h5 => ?_) (fun h5 => ?_)
  · refine GoO.seq' c38_6e ?_
    refine GoO.region' (is := [0]) c38_7e (by kernel_rfl) ?_
    refine GoO.exec (is := [0]) (hs := [.p]) (rest := []) (ks := [2]) (env' := [(2, vI 1)]) (H' := [⟨1, b_2, [vI c_1.id, vU c_1.session, vU c_1.seq, vU c_1.call, .bool c_1.busy, vI c_1.now.Kind, vU c_1.now.Session, vU c_1.now.Seq, vU c_1.now.Saga, .slice A_3 c_1.now.Steps.length c_4, vI c_1.now.Step, .bool c_1.now.Back, vI c_1.now.Try, .bool c_1.now.Ok, vU c_1.now.Now, .string (bs c_1.data), vI c_1.to_]⟩]) (ps := []) (by kernel_rfl) trivial ?_
    refine GoO.regionEnd ?_
    exact GoO.ret' (h := c38_8e) (hs := []) (ps := []) (hk := [0]) (bk := [0]) Try.func38 (⟨A_3, c_4⟩ : Option Addr × Nat) (by kernel_rfl) trivial (by kernel_rfl) (by kernel_rfl)
  · refine GoO.skip' c38_9e ?_
    refine GoO.seq' c38_10e ?_
    refine GoO.region' (is := [0, 1, 2, 3]) c38_11e (by kernel_rfl) ?_
    refine GoO.exec (is := [0, 1, 2, 3]) (hs := [.p, .p, .p, .b 0]) (rest := []) (ks := [0]) (env' := [(0, vP b_2)]) (H' := [⟨1, b_2, [vI c_1.id, vU c_1.session, vU c_1.seq, vU c_1.call, .bool false, vI c_1.now.Kind, vU c_1.now.Session, vU c_1.now.Seq, vU c_1.now.Saga, .slice A_3 c_1.now.Steps.length c_4, vI c_1.now.Step, .bool c_1.now.Back, vI c_1.now.Try, .bool c_1.now.Ok, vU c_1.now.Now, .string (bs c_1.data), vI c_1.to_]⟩]) (ps := [b_2 = b_2]) (by kernel_rfl) (And.intro rfl trivial) ?_
    refine GoO.regionEnd ?_
    refine GoO.seq' c38_12e ?_
    refine GoO.region' (is := [0, 1, 2, 3, 4, 5, 6, 7]) c38_13e (by kernel_rfl) ?_
    refine GoO.exec (is := [0, 1, 2, 3, 4, 5, 6, 7]) (hs := [.p, .p, .p, .p, .b 0, .p, .p, .b 0]) (rest := []) (ks := []) (env' := []) (H' := [⟨1, b_2, [vI c_1.id, vU 0, vU 0, vU c_1.call, .bool false, vI c_1.now.Kind, vU c_1.now.Session, vU c_1.now.Seq, vU c_1.now.Saga, .slice A_3 c_1.now.Steps.length c_4, vI c_1.now.Step, .bool c_1.now.Back, vI c_1.now.Try, .bool c_1.now.Ok, vU c_1.now.Now, .string (bs c_1.data), vI c_1.to_]⟩]) (ps := [b_2 = b_2, b_2 = b_2]) (by kernel_rfl) (And.intro rfl (And.intro rfl trivial)) ?_
    refine GoO.regionEnd ?_
    refine GoO.seq' c38_14e ?_
    refine GoO.region' (is := [0]) c38_15e (by kernel_rfl) ?_
    refine GoO.exec (is := [0]) (hs := [.p]) (rest := []) (ks := [2]) (env' := [(2, vI 0)]) (H' := [⟨1, b_2, [vI c_1.id, vU 0, vU 0, vU c_1.call, .bool false, vI c_1.now.Kind, vU c_1.now.Session, vU c_1.now.Seq, vU c_1.now.Saga, .slice A_3 c_1.now.Steps.length c_4, vI c_1.now.Step, .bool c_1.now.Back, vI c_1.now.Try, .bool c_1.now.Ok, vU c_1.now.Now, .string (bs c_1.data), vI c_1.to_]⟩]) (ps := []) (by kernel_rfl) trivial ?_
    refine GoO.regionEnd ?_
    exact GoO.ret' (h := c38_16e) (hs := []) (ps := []) (hk := [0]) (bk := [0]) Try.func38 (⟨A_3, c_4⟩ : Option Addr × Nat) (by kernel_rfl) trivial (by kernel_rfl) (by kernel_rfl)
/-! (*tontine/tontineref21.Client).Give -/
noncomputable def c50_0 : Code := bodyOf Try.f50
noncomputable def c50_1 : Code := cdL c50_0
noncomputable def c50_2 : Code := cdR c50_0
noncomputable def c50_3 : Code := cdL c50_2
noncomputable def c50_4 : Code := cdL c50_3
noncomputable def c50_5 : Code := cdR c50_3
noncomputable def c50_6 : Code := cdL c50_5
noncomputable def c50_7 : Code := cdL c50_6
noncomputable def c50_8 : Code := cdR c50_6
noncomputable def c50_9 : Code := cdR c50_5
noncomputable def c50_10 : Code := cdR c50_2
noncomputable def c50_11 : Code := cdL c50_10
noncomputable def c50_12 : Code := cdR c50_10
noncomputable def c50_13 : Code := cdL c50_12
noncomputable def c50_14 : Code := cdR c50_12
noncomputable def c50_15 : Code := cdL c50_14
noncomputable def c50_16 : Code := cdR c50_14
noncomputable def c50_17 : Code := cdL c50_16
noncomputable def c50_18 : Code := cdR c50_16
noncomputable def r50_1 : Array Oper := cdO c50_1
noncomputable def r50_4 : Array Oper := cdO c50_4
noncomputable def r50_7 : Array Oper := cdO c50_7
noncomputable def r50_11 : Array Oper := cdO c50_11
noncomputable def r50_13 : Array Oper := cdO c50_13
noncomputable def r50_15 : Array Oper := cdO c50_15
noncomputable def r50_17 : Array Oper := cdO c50_17
theorem c50_0e : c50_0 = .seq c50_1 c50_2 := by kernel_rfl
theorem c50_1e : c50_1 = .region 0 r50_1 false := by kernel_rfl
theorem c50_2e : c50_2 = .seq c50_3 c50_10 := by kernel_rfl
theorem c50_3e : c50_3 = .seq c50_4 c50_5 := by kernel_rfl
theorem c50_4e : c50_4 = .region 1 r50_4 false := by kernel_rfl
theorem c50_5e : c50_5 = .cond (cdC c50_5) c50_6 c50_9 := by kernel_rfl
theorem c50_6e : c50_6 = .seq c50_7 c50_8 := by kernel_rfl
theorem c50_7e : c50_7 = .region 2 r50_7 false := by kernel_rfl
theorem c50_8e : c50_8 = .ret := by kernel_rfl
theorem c50_9e : c50_9 = .skip := by kernel_rfl
theorem c50_10e : c50_10 = .seq c50_11 c50_12 := by kernel_rfl
theorem c50_11e : c50_11 = .region 3 r50_11 false := by kernel_rfl
theorem c50_12e : c50_12 = .seq c50_13 c50_14 := by kernel_rfl
theorem c50_13e : c50_13 = .region 4 r50_13 false := by kernel_rfl
theorem c50_14e : c50_14 = .seq c50_15 c50_16 := by kernel_rfl
theorem c50_15e : c50_15 = .region 5 r50_15 false := by kernel_rfl
theorem c50_16e : c50_16 = .seq c50_17 c50_18 := by kernel_rfl
theorem c50_17e : c50_17 = .region 6 r50_17 false := by kernel_rfl
theorem c50_18e : c50_18 = .ret := by kernel_rfl
noncomputable def tontineref21_Client_Give.R (b_2 : Nat) (A_3 : Option Addr) (c_4 : Nat) : Pst (Int × T_tontineref21_Client) where
  ε := Option Addr × Nat
  v := fun r x => vI r.1
  H := fun r x => [⟨1, b_2, [vI r.2.Id, vU r.2.Session, vU r.2.Last, vU r.2.Calls, .bool r.2.Busy, vI r.2.Now.Kind, vU r.2.Now.Session, vU r.2.Now.Seq, vU r.2.Now.Saga, .slice x.1 r.2.Now.Steps.length x.2, vI r.2.Now.Step, .bool r.2.Now.Back, vI r.2.Now.Try, .bool r.2.Now.Ok, vU r.2.Now.Now, vI r.2.To]⟩]
  B := fun r x => [Rd 0 kT_api_Step x.1 x.2 r.2.Now.Steps]
noncomputable def tontineref21_Client_Give.cx (b_2 : Nat) (A_3 : Option Addr) (c_4 : Nat) (w0 : World) (S0 : Fam) : Cx (Int × T_tontineref21_Client) := ⟨Try.prog, 50, Try.f50, 17, w0, S0, [1], 1, tontineref21_Client_Give.R b_2 A_3 c_4⟩
theorem tontineref21_Client_Give_ok (n : Nat) (c_1 : T_tontineref21_Client) (b_2 : Nat) (A_3 : Option Addr) (c_4 : Nat) :
    Meets Try.prog 50 [vP b_2] 1 [1] [⟨1, b_2, [vI c_1.Id, vU c_1.Session, vU c_1.Last, vU c_1.Calls, .bool c_1.Busy, vI c_1.Now.Kind, vU c_1.Now.Session, vU c_1.Now.Seq, vU c_1.Now.Saga, .slice A_3 c_1.Now.Steps.length c_4, vI c_1.Now.Step, .bool c_1.Now.Back, vI c_1.Now.Try, .bool c_1.Now.Ok, vU c_1.Now.Now, vI c_1.To]⟩] [Rd 0 kT_api_Step A_3 c_4 c_1.Now.Steps] (tontineref21_Client_Give.f n c_1) (tontineref21_Client_Give.R b_2 A_3 c_4) := by
  refine Meets.of (c := c50_0) (n := 17) Try.func50 (by kernel_rfl) (by kernel_rfl) (by kernel_rfl) fun w0 S0 => ?_
  unfold tontineref21_Client_Give.f
  show GoO (tontineref21_Client_Give.cx b_2 A_3 c_4 w0 S0) [(0, vP b_2)] [⟨1, b_2, [vI c_1.Id, vU c_1.Session, vU c_1.Last, vU c_1.Calls, .bool c_1.Busy, vI c_1.Now.Kind, vU c_1.Now.Session, vU c_1.Now.Seq, vU c_1.Now.Saga, .slice A_3 c_1.Now.Steps.length c_4, vI c_1.Now.Step, .bool c_1.Now.Back, vI c_1.Now.Try, .bool c_1.Now.Ok, vU c_1.Now.Now, vI c_1.To]⟩] [Rd 0 kT_api_Step A_3 c_4 c_1.Now.Steps] [.code c50_0] _
  refine GoO.seq' c50_0e ?_
  refine GoO.region' (is := [0]) c50_1e (by kernel_rfl) ?_
  refine GoO.exec (is := [0]) (hs := [.p]) (rest := []) (ks := [0]) (env' := [(0, vP b_2)]) (H' := [⟨1, b_2, [vI c_1.Id, vU c_1.Session, vU c_1.Last, vU c_1.Calls, .bool c_1.Busy, vI c_1.Now.Kind, vU c_1.Now.Session, vU c_1.Now.Seq, vU c_1.Now.Saga, .slice A_3 c_1.Now.Steps.length c_4, vI c_1.Now.Step, .bool c_1.Now.Back, vI c_1.Now.Try, .bool c_1.Now.Ok, vU c_1.Now.Now, vI c_1.To]⟩]) (ps := []) (by kernel_rfl) trivial ?_
  refine GoO.regionEnd ?_
  refine GoO.seq' c50_2e ?_
  refine GoO.seq' c50_3e ?_
  refine GoO.region' (is := [0, 1, 2, 3, 4]) c50_4e (by kernel_rfl) ?_
  refine GoO.exec (is := [0, 1, 2, 3, 4]) (hs := [.p, .p, .p, .b 0, .p]) (rest := []) (ks := [0, 7]) (env' := [(0, vP b_2), (7, .bool (!c_1.Busy))]) (H' := [⟨1, b_2, [vI c_1.Id, vU c_1.Session, vU c_1.Last, vU c_1.Calls, .bool c_1.Busy, vI c_1.Now.Kind, vU c_1.Now.Session, vU c_1.Now.Seq, vU c_1.Now.Saga, .slice A_3 c_1.Now.Steps.length c_4, vI c_1.Now.Step, .bool c_1.Now.Back, vI c_1.Now.Try, .bool c_1.Now.Ok, vU c_1.Now.Now, vI c_1.To]⟩]) (ps := [b_2 = b_2]) (by kernel_rfl) (And.intro rfl trivial) ?_
  refine GoO.regionEnd ?_
  refine GoO.ite' c50_5e (by kernel_rfl) (fun h5 => ?_) (fun h5 => ?_)
  · refine GoO.seq' c50_6e ?_
    refine GoO.region' (is := [0]) c50_7e (by kernel_rfl) ?_
    refine GoO.exec (is := [0]) (hs := [.p]) (rest := []) (ks := [2]) (env' := [(2, vI 1)]) (H' := [⟨1, b_2, [vI c_1.Id, vU c_1.Session, vU c_1.Last, vU c_1.Calls, .bool c_1.Busy, vI c_1.Now.Kind, vU c_1.Now.Session, vU c_1.Now.Seq, vU c_1.Now.Saga, .slice A_3 c_1.Now.Steps.length c_4, vI c_1.Now.Step, .bool c_1.Now.Back, vI c_1.Now.Try, .bool c_1.Now.Ok, vU c_1.Now.Now, vI c_1.To]⟩]) (ps := []) (by kernel_rfl) trivial ?_
    refine GoO.regionEnd ?_
    exact GoO.ret' (h := c50_8e) (hs := []) (ps := []) (hk := [0]) (bk := [0]) Try.func50 (⟨A_3, c_4⟩ : Option Addr × Nat) (by kernel_rfl) trivial (by kernel_rfl) (by kernel_rfl)
  · refine GoO.skip' c50_9e ?_
    refine GoO.seq' c50_10e ?_
    refine GoO.region' (is := [0, 1, 2, 3]) c50_11e (by kernel_rfl) ?_
    refine GoO.exec (is := [0, 1, 2, 3]) (hs := [.p, .p, .p, .b 0]) (rest := []) (ks := [0]) (env' := [(0, vP b_2)]) (H' := [⟨1, b_2, [vI c_1.Id, vU c_1.Session, vU c_1.Last, vU c_1.Calls, .bool false, vI c_1.Now.Kind, vU c_1.Now.Session, vU c_1.Now.Seq, vU c_1.Now.Saga, .slice A_3 c_1.Now.Steps.length c_4, vI c_1.Now.Step, .bool c_1.Now.Back, vI c_1.Now.Try, .bool c_1.Now.Ok, vU c_1.Now.Now, vI c_1.To]⟩]) (ps := [b_2 = b_2]) (by kernel_rfl) (And.intro rfl trivial) ?_
    refine GoO.regionEnd ?_
    refine GoO.seq' c50_12e ?_
    refine GoO.region' (is := [0, 1, 2, 3]) c50_13e (by kernel_rfl) ?_
    refine GoO.exec (is := [0, 1, 2, 3]) (hs := [.p, .p, .p, .b 0]) (rest := []) (ks := [0]) (env' := [(0, vP b_2)]) (H' := [⟨1, b_2, [vI c_1.Id, vU 0, vU c_1.Last, vU c_1.Calls, .bool false, vI c_1.Now.Kind, vU c_1.Now.Session, vU c_1.Now.Seq, vU c_1.Now.Saga, .slice A_3 c_1.Now.Steps.length c_4, vI c_1.Now.Step, .bool c_1.Now.Back, vI c_1.Now.Try, .bool c_1.Now.Ok, vU c_1.Now.Now, vI c_1.To]⟩]) (ps := [b_2 = b_2]) (by kernel_rfl) (And.intro rfl trivial) ?_
    refine GoO.regionEnd ?_
    refine GoO.seq' c50_14e ?_
    refine GoO.region' (is := [0, 1, 2, 3]) c50_15e (by kernel_rfl) ?_
    refine GoO.exec (is := [0, 1, 2, 3]) (hs := [.p, .p, .p, .b 0]) (rest := []) (ks := []) (env' := []) (H' := [⟨1, b_2, [vI c_1.Id, vU 0, vU 0, vU c_1.Calls, .bool false, vI c_1.Now.Kind, vU c_1.Now.Session, vU c_1.Now.Seq, vU c_1.Now.Saga, .slice A_3 c_1.Now.Steps.length c_4, vI c_1.Now.Step, .bool c_1.Now.Back, vI c_1.Now.Try, .bool c_1.Now.Ok, vU c_1.Now.Now, vI c_1.To]⟩]) (ps := [b_2 = b_2]) (by kernel_rfl) (And.intro rfl trivial) ?_
    refine GoO.regionEnd ?_
    refine GoO.seq' c50_16e ?_
    refine GoO.region' (is := [0]) c50_17e (by kernel_rfl) ?_
    refine GoO.exec (is := [0]) (hs := [.p]) (rest := []) (ks := [2]) (env' := [(2, vI 0)]) (H' := [⟨1, b_2, [vI c_1.Id, vU 0, vU 0, vU c_1.Calls, .bool false, vI c_1.Now.Kind, vU c_1.Now.Session, vU c_1.Now.Seq, vU c_1.Now.Saga, .slice A_3 c_1.Now.Steps.length c_4, vI c_1.Now.Step, .bool c_1.Now.Back, vI c_1.Now.Try, .bool c_1.Now.Ok, vU c_1.Now.Now, vI c_1.To]⟩]) (ps := []) (by kernel_rfl) trivial ?_
    refine GoO.regionEnd ?_
    exact GoO.ret' (h := c50_18e) (hs := []) (ps := []) (hk := [0]) (bk := [0]) Try.func50 (⟨A_3, c_4⟩ : Option Addr × Nat) (by kernel_rfl) trivial (by kernel_rfl) (by kernel_rfl)
/-! tontine/tontinelaw21.ClientRuns -/
noncomputable def c11_0 : Code := bodyOf Try.f11
noncomputable def c11_1 : Code := cdL c11_0
noncomputable def c11_2 : Code := cdR c11_0
noncomputable def c11_3 : Code := cdL c11_2
noncomputable def c11_4 : Code := cdL c11_3
noncomputable def c11_5 : Code := cdR c11_3
noncomputable def c11_6 : Code := cdL c11_5
noncomputable def c11_7 : Code := cdL c11_6
noncomputable def c11_8 : Code := cdR c11_6
noncomputable def c11_9 : Code := cdR c11_5
noncomputable def c11_10 : Code := cdR c11_2
noncomputable def c11_11 : Code := cdL c11_10
noncomputable def c11_12 : Code := cdL c11_11
noncomputable def c11_13 : Code := cdR c11_11
noncomputable def c11_14 : Code := cdL c11_13
noncomputable def c11_15 : Code := cdL c11_14
noncomputable def c11_16 : Code := cdR c11_14
noncomputable def c11_17 : Code := cdR c11_13
noncomputable def c11_18 : Code := cdR c11_10
noncomputable def c11_19 : Code := cdL c11_18
noncomputable def c11_20 : Code := cdR c11_18
noncomputable def c11_21 : Code := cdL c11_20
noncomputable def c11_22 : Code := cdL c11_21
noncomputable def c11_23 : Code := cdR c11_21
noncomputable def c11_24 : Code := cdL c11_23
noncomputable def c11_25 : Code := cdL c11_24
noncomputable def c11_26 : Code := cdR c11_24
noncomputable def c11_27 : Code := cdR c11_23
noncomputable def c11_28 : Code := cdR c11_20
noncomputable def c11_29 : Code := cdL c11_28
noncomputable def c11_30 : Code := cdR c11_28
noncomputable def c11_31 : Code := cdL c11_30
noncomputable def c11_32 : Code := cdL c11_31
noncomputable def c11_33 : Code := cdR c11_31
noncomputable def c11_34 : Code := cdL c11_33
noncomputable def c11_35 : Code := cdL c11_34
noncomputable def c11_36 : Code := cdL c11_35
noncomputable def c11_37 : Code := cdR c11_35
noncomputable def c11_38 : Code := cdL c11_37
noncomputable def c11_39 : Code := cdL c11_38
noncomputable def c11_40 : Code := cdR c11_38
noncomputable def c11_41 : Code := cdR c11_37
noncomputable def c11_42 : Code := cdL c11_41
noncomputable def c11_43 : Code := cdL c11_42
noncomputable def c11_44 : Code := cdL c11_43
noncomputable def c11_45 : Code := cdR c11_43
noncomputable def c11_46 : Code := cdL c11_45
noncomputable def c11_47 : Code := cdL c11_46
noncomputable def c11_48 : Code := cdR c11_46
noncomputable def c11_49 : Code := cdL c11_48
noncomputable def c11_50 : Code := cdL c11_49
noncomputable def c11_51 : Code := cdR c11_49
noncomputable def c11_52 : Code := cdL c11_51
noncomputable def c11_53 : Code := cdL c11_52
noncomputable def c11_54 : Code := cdR c11_52
noncomputable def c11_55 : Code := cdL c11_54
noncomputable def c11_56 : Code := cdR c11_54
noncomputable def c11_57 : Code := cdL c11_56
noncomputable def c11_58 : Code := cdR c11_56
noncomputable def c11_59 : Code := cdL c11_58
noncomputable def c11_60 : Code := cdL c11_59
noncomputable def c11_61 : Code := cdR c11_59
noncomputable def c11_62 : Code := cdR c11_58
noncomputable def c11_63 : Code := cdR c11_51
noncomputable def c11_64 : Code := cdL c11_63
noncomputable def c11_65 : Code := cdR c11_63
noncomputable def c11_66 : Code := cdL c11_65
noncomputable def c11_67 : Code := cdL c11_66
noncomputable def c11_68 : Code := cdR c11_66
noncomputable def c11_69 : Code := cdL c11_68
noncomputable def c11_70 : Code := cdR c11_68
noncomputable def c11_71 : Code := cdL c11_70
noncomputable def c11_72 : Code := cdR c11_70
noncomputable def c11_73 : Code := cdL c11_72
noncomputable def c11_74 : Code := cdL c11_73
noncomputable def c11_75 : Code := cdR c11_73
noncomputable def c11_76 : Code := cdR c11_72
noncomputable def c11_77 : Code := cdR c11_65
noncomputable def c11_78 : Code := cdL c11_77
noncomputable def c11_79 : Code := cdR c11_77
noncomputable def c11_80 : Code := cdL c11_79
noncomputable def c11_81 : Code := cdL c11_80
noncomputable def c11_82 : Code := cdR c11_80
noncomputable def c11_83 : Code := cdL c11_82
noncomputable def c11_84 : Code := cdR c11_82
noncomputable def c11_85 : Code := cdL c11_84
noncomputable def c11_86 : Code := cdR c11_84
noncomputable def c11_87 : Code := cdL c11_86
noncomputable def c11_88 : Code := cdL c11_87
noncomputable def c11_89 : Code := cdR c11_87
noncomputable def c11_90 : Code := cdR c11_86
noncomputable def c11_91 : Code := cdR c11_79
noncomputable def c11_92 : Code := cdL c11_91
noncomputable def c11_93 : Code := cdR c11_91
noncomputable def c11_94 : Code := cdL c11_93
noncomputable def c11_95 : Code := cdL c11_94
noncomputable def c11_96 : Code := cdR c11_94
noncomputable def c11_97 : Code := cdR c11_93
noncomputable def c11_98 : Code := cdR c11_45
noncomputable def c11_99 : Code := cdL c11_98
noncomputable def c11_100 : Code := cdR c11_98
noncomputable def c11_101 : Code := cdL c11_100
noncomputable def c11_102 : Code := cdR c11_100
noncomputable def c11_103 : Code := cdL c11_102
noncomputable def c11_104 : Code := cdL c11_103
noncomputable def c11_105 : Code := cdR c11_103
noncomputable def c11_106 : Code := cdR c11_102
noncomputable def c11_107 : Code := cdR c11_41
noncomputable def c11_108 : Code := cdR c11_30
noncomputable def c11_109 : Code := cdL c11_108
noncomputable def c11_110 : Code := cdR c11_108
noncomputable def r11_1 : Array Oper := cdO c11_1
noncomputable def r11_4 : Array Oper := cdO c11_4
noncomputable def r11_7 : Array Oper := cdO c11_7
noncomputable def r11_12 : Array Oper := cdO c11_12
noncomputable def r11_15 : Array Oper := cdO c11_15
noncomputable def r11_19 : Array Oper := cdO c11_19
noncomputable def r11_22 : Array Oper := cdO c11_22
noncomputable def r11_25 : Array Oper := cdO c11_25
noncomputable def r11_29 : Array Oper := cdO c11_29
noncomputable def r11_32 : Array Oper := cdO c11_32
noncomputable def r11_36 : Array Oper := cdO c11_36
noncomputable def r11_44 : Array Oper := cdO c11_44
noncomputable def r11_47 : Array Oper := cdO c11_47
noncomputable def r11_50 : Array Oper := cdO c11_50
noncomputable def r11_53 : Array Oper := cdO c11_53
noncomputable def r11_55 : Array Oper := cdO c11_55
noncomputable def r11_57 : Array Oper := cdO c11_57
noncomputable def r11_60 : Array Oper := cdO c11_60
noncomputable def r11_64 : Array Oper := cdO c11_64
noncomputable def r11_67 : Array Oper := cdO c11_67
noncomputable def r11_69 : Array Oper := cdO c11_69
noncomputable def r11_71 : Array Oper := cdO c11_71
noncomputable def r11_74 : Array Oper := cdO c11_74
noncomputable def r11_78 : Array Oper := cdO c11_78
noncomputable def r11_81 : Array Oper := cdO c11_81
noncomputable def r11_83 : Array Oper := cdO c11_83
noncomputable def r11_85 : Array Oper := cdO c11_85
noncomputable def r11_88 : Array Oper := cdO c11_88
noncomputable def r11_92 : Array Oper := cdO c11_92
noncomputable def r11_95 : Array Oper := cdO c11_95
noncomputable def r11_99 : Array Oper := cdO c11_99
noncomputable def r11_101 : Array Oper := cdO c11_101
noncomputable def r11_104 : Array Oper := cdO c11_104
noncomputable def r11_107 : Array Oper := cdO c11_107
noncomputable def r11_109 : Array Oper := cdO c11_109
theorem c11_0e : c11_0 = .seq c11_1 c11_2 := by kernel_rfl
theorem c11_1e : c11_1 = .region 0 r11_1 false := by kernel_rfl
theorem c11_2e : c11_2 = .seq c11_3 c11_10 := by kernel_rfl
theorem c11_3e : c11_3 = .seq c11_4 c11_5 := by kernel_rfl
theorem c11_4e : c11_4 = .region 1 r11_4 false := by kernel_rfl
theorem c11_5e : c11_5 = .cond (cdC c11_5) c11_6 c11_9 := by kernel_rfl
theorem c11_6e : c11_6 = .seq c11_7 c11_8 := by kernel_rfl
theorem c11_7e : c11_7 = .region 2 r11_7 false := by kernel_rfl
theorem c11_8e : c11_8 = .ret := by kernel_rfl
theorem c11_9e : c11_9 = .skip := by kernel_rfl
theorem c11_10e : c11_10 = .seq c11_11 c11_18 := by kernel_rfl
theorem c11_11e : c11_11 = .seq c11_12 c11_13 := by kernel_rfl
theorem c11_12e : c11_12 = .region 3 r11_12 false := by kernel_rfl
theorem c11_13e : c11_13 = .cond (cdC c11_13) c11_14 c11_17 := by kernel_rfl
theorem c11_14e : c11_14 = .seq c11_15 c11_16 := by kernel_rfl
theorem c11_15e : c11_15 = .region 4 r11_15 false := by kernel_rfl
theorem c11_16e : c11_16 = .ret := by kernel_rfl
theorem c11_17e : c11_17 = .skip := by kernel_rfl
theorem c11_18e : c11_18 = .seq c11_19 c11_20 := by kernel_rfl
theorem c11_19e : c11_19 = .region 5 r11_19 false := by kernel_rfl
theorem c11_20e : c11_20 = .seq c11_21 c11_28 := by kernel_rfl
theorem c11_21e : c11_21 = .seq c11_22 c11_23 := by kernel_rfl
theorem c11_22e : c11_22 = .region 6 r11_22 false := by kernel_rfl
theorem c11_23e : c11_23 = .cond (cdC c11_23) c11_24 c11_27 := by kernel_rfl
theorem c11_24e : c11_24 = .seq c11_25 c11_26 := by kernel_rfl
theorem c11_25e : c11_25 = .region 7 r11_25 false := by kernel_rfl
theorem c11_26e : c11_26 = .ret := by kernel_rfl
theorem c11_27e : c11_27 = .skip := by kernel_rfl
theorem c11_28e : c11_28 = .seq c11_29 c11_30 := by kernel_rfl
theorem c11_29e : c11_29 = .region 8 r11_29 false := by kernel_rfl
theorem c11_30e : c11_30 = .seq c11_31 c11_108 := by kernel_rfl
theorem c11_31e : c11_31 = .seq c11_32 c11_33 := by kernel_rfl
theorem c11_32e : c11_32 = .region 9 r11_32 false := by kernel_rfl
theorem c11_33e : c11_33 = .block 0 c11_34 := by kernel_rfl
theorem c11_34e : c11_34 = .loop c11_35 := by kernel_rfl
theorem c11_35e : c11_35 = .seq c11_36 c11_37 := by kernel_rfl
theorem c11_36e : c11_36 = .region 10 r11_36 false := by kernel_rfl
theorem c11_37e : c11_37 = .seq c11_38 c11_41 := by kernel_rfl
theorem c11_38e : c11_38 = .cond (cdC c11_38) c11_39 c11_40 := by kernel_rfl
theorem c11_39e : c11_39 = .skip := by kernel_rfl
theorem c11_40e : c11_40 = .exit 0 := by kernel_rfl
theorem c11_41e : c11_41 = .seq c11_42 c11_107 := by kernel_rfl
theorem c11_42e : c11_42 = .block 1 c11_43 := by kernel_rfl
theorem c11_43e : c11_43 = .seq c11_44 c11_45 := by kernel_rfl
theorem c11_44e : c11_44 = .region 11 r11_44 false := by kernel_rfl
theorem c11_45e : c11_45 = .seq c11_46 c11_98 := by kernel_rfl
theorem c11_46e : c11_46 = .seq c11_47 c11_48 := by kernel_rfl
theorem c11_47e : c11_47 = .region 12 r11_47 false := by kernel_rfl
theorem c11_48e : c11_48 = .block 2 c11_49 := by kernel_rfl
theorem c11_49e : c11_49 = .seq c11_50 c11_51 := by kernel_rfl
theorem c11_50e : c11_50 = .region 15 r11_50 false := by kernel_rfl
theorem c11_51e : c11_51 = .cond (cdC c11_51) c11_52 c11_63 := by kernel_rfl
theorem c11_52e : c11_52 = .seq c11_53 c11_54 := by kernel_rfl
theorem c11_53e : c11_53 = .region 16 r11_53 false := by kernel_rfl
theorem c11_54e : c11_54 = .seq c11_55 c11_56 := by kernel_rfl
theorem c11_55e : c11_55 = .region 17 r11_55 false := by kernel_rfl
theorem c11_56e : c11_56 = .seq c11_57 c11_58 := by kernel_rfl
theorem c11_57e : c11_57 = .region 18 r11_57 false := by kernel_rfl
theorem c11_58e : c11_58 = .cond (cdC c11_58) c11_59 c11_62 := by kernel_rfl
theorem c11_59e : c11_59 = .seq c11_60 c11_61 := by kernel_rfl
theorem c11_60e : c11_60 = .region 19 r11_60 false := by kernel_rfl
theorem c11_61e : c11_61 = .ret := by kernel_rfl
theorem c11_62e : c11_62 = .skip := by kernel_rfl
theorem c11_63e : c11_63 = .seq c11_64 c11_65 := by kernel_rfl
theorem c11_64e : c11_64 = .region 20 r11_64 false := by kernel_rfl
theorem c11_65e : c11_65 = .cond (cdC c11_65) c11_66 c11_77 := by kernel_rfl
theorem c11_66e : c11_66 = .seq c11_67 c11_68 := by kernel_rfl
theorem c11_67e : c11_67 = .region 21 r11_67 false := by kernel_rfl
theorem c11_68e : c11_68 = .seq c11_69 c11_70 := by kernel_rfl
theorem c11_69e : c11_69 = .region 22 r11_69 false := by kernel_rfl
theorem c11_70e : c11_70 = .seq c11_71 c11_72 := by kernel_rfl
theorem c11_71e : c11_71 = .region 23 r11_71 false := by kernel_rfl
theorem c11_72e : c11_72 = .cond (cdC c11_72) c11_73 c11_76 := by kernel_rfl
theorem c11_73e : c11_73 = .seq c11_74 c11_75 := by kernel_rfl
theorem c11_74e : c11_74 = .region 24 r11_74 false := by kernel_rfl
theorem c11_75e : c11_75 = .ret := by kernel_rfl
theorem c11_76e : c11_76 = .skip := by kernel_rfl
theorem c11_77e : c11_77 = .seq c11_78 c11_79 := by kernel_rfl
theorem c11_78e : c11_78 = .region 25 r11_78 false := by kernel_rfl
theorem c11_79e : c11_79 = .cond (cdC c11_79) c11_80 c11_91 := by kernel_rfl
theorem c11_80e : c11_80 = .seq c11_81 c11_82 := by kernel_rfl
theorem c11_81e : c11_81 = .region 26 r11_81 false := by kernel_rfl
theorem c11_82e : c11_82 = .seq c11_83 c11_84 := by kernel_rfl
theorem c11_83e : c11_83 = .region 27 r11_83 false := by kernel_rfl
theorem c11_84e : c11_84 = .seq c11_85 c11_86 := by kernel_rfl
theorem c11_85e : c11_85 = .region 28 r11_85 false := by kernel_rfl
theorem c11_86e : c11_86 = .cond (cdC c11_86) c11_87 c11_90 := by kernel_rfl
theorem c11_87e : c11_87 = .seq c11_88 c11_89 := by kernel_rfl
theorem c11_88e : c11_88 = .region 29 r11_88 false := by kernel_rfl
theorem c11_89e : c11_89 = .ret := by kernel_rfl
theorem c11_90e : c11_90 = .skip := by kernel_rfl
theorem c11_91e : c11_91 = .seq c11_92 c11_93 := by kernel_rfl
theorem c11_92e : c11_92 = .region 13 r11_92 false := by kernel_rfl
theorem c11_93e : c11_93 = .cond (cdC c11_93) c11_94 c11_97 := by kernel_rfl
theorem c11_94e : c11_94 = .seq c11_95 c11_96 := by kernel_rfl
theorem c11_95e : c11_95 = .region 14 r11_95 false := by kernel_rfl
theorem c11_96e : c11_96 = .ret := by kernel_rfl
theorem c11_97e : c11_97 = .skip := by kernel_rfl
theorem c11_98e : c11_98 = .seq c11_99 c11_100 := by kernel_rfl
theorem c11_99e : c11_99 = .region 30 r11_99 false := by kernel_rfl
theorem c11_100e : c11_100 = .seq c11_101 c11_102 := by kernel_rfl
theorem c11_101e : c11_101 = .region 31 r11_101 false := by kernel_rfl
theorem c11_102e : c11_102 = .cond (cdC c11_102) c11_103 c11_106 := by kernel_rfl
theorem c11_103e : c11_103 = .seq c11_104 c11_105 := by kernel_rfl
theorem c11_104e : c11_104 = .region 32 r11_104 false := by kernel_rfl
theorem c11_105e : c11_105 = .ret := by kernel_rfl
theorem c11_106e : c11_106 = .skip := by kernel_rfl
theorem c11_107e : c11_107 = .region 33 r11_107 false := by kernel_rfl
theorem c11_108e : c11_108 = .seq c11_109 c11_110 := by kernel_rfl
theorem c11_109e : c11_109 = .region 34 r11_109 false := by kernel_rfl
theorem c11_110e : c11_110 = .ret := by kernel_rfl
noncomputable def tontinelaw21_ClientRuns.R (A_3 : Option Addr) (c_4 : Nat) : Pst Bool where
  ε := Unit
  v := fun r x => .bool r
  H := fun r x => []
  B := fun r x => []
noncomputable def tontinelaw21_ClientRuns.cx (A_3 : Option Addr) (c_4 : Nat) (w0 : World) (S0 : Fam) : Cx Bool := ⟨Try.prog, 11, Try.f11, 182, w0, S0, [], 0, tontinelaw21_ClientRuns.R A_3 c_4⟩
theorem tontinelaw21_ClientRuns_j1_ok (n : Nat) (A_3 : Option Addr) (c_4 : Nat) (w0 : World) (S0 : Fam) (b_18 : Bool) :
    GoO (tontinelaw21_ClientRuns.cx A_3 c_4 w0 S0) [(4, .bool b_18)] [] [] [.code c11_26, .code c11_28] (tontinelaw21_ClientRuns.j1 n b_18) := by
  unfold tontinelaw21_ClientRuns.j1
  exact GoO.ret' (h := c11_26e) (hs := []) (ps := []) (hk := []) (bk := []) Try.func11 () (by kernel_rfl) trivial (by kernel_rfl) (by kernel_rfl)
theorem tontinelaw21_ClientRuns_l0_ok (n : Nat) (id_1 : Int) (calls_2 : (List T_tontinelaw21_Call)) (A_3 : Option Addr) (c_4 : Nat) (b_19 : Nat) (w0 : World) (S0 : Fam) :
    ∀ (k : Nat), GoO (tontinelaw21_ClientRuns.cx A_3 c_4 w0 S0) [(5, .pointer none), (7, vP b_19), (54, .slice A_3 calls_2.length c_4), (55, vI (calls_2.length : Int)), (56, vI 0)] [⟨41, b_19, [vI id_1, vU 0, vU 0, vU 0, .bool false, vI 0, vU 0, vU 0, vU 0, .slice none ([] : List T_api_Step).length 0, vI 0, .bool false, vI 0, .bool false, vU 0, vI 0]⟩] [Rd 0 kT_tontinelaw21_Call A_3 c_4 calls_2] [.code c11_35, .inLoop c11_35, .inBlock 0, .code c11_108] (tontinelaw21_ClientRuns.l0 n calls_2 k) := by
  intro k
  induction k with
  | zero => intros; rw [tontinelaw21_ClientRuns.l0.eq_1]; exact GoO.stop
  | succ k ih0 =>
    rw [tontinelaw21_ClientRuns.l0.eq_2]
    refine GoO.seq' c11_35e ?_
    refine GoO.region' (is := [0]) c11_36e (by kernel_rfl) ?_
    refine GoO.exec (is := [0]) (hs := [.p]) (rest := []) (ks := [5, 7, 54, 55, 56, 57]) (env' := [(5, .pointer none), (7, vP b_19), (54, .slice A_3 calls_2.length c_4), (55, vI (calls_2.length : Int)), (56, vI 0), (57, .bool (decide (0 < (calls_2.length : Int))))]) (H' := [⟨41, b_19, [vI id_1, vU 0, vU 0, vU 0, .bool false, vI 0, vU 0, vU 0, vU 0, .slice none ([] : List T_api_Step).length 0, vI 0, .bool false, vI 0, .bool false, vU 0, vI 0]⟩]) (ps := []) (by kernel_rfl) trivial ?_
    refine GoO.regionEnd ?_
    refine GoO.seq' c11_37e ?_
    refine GoO.ite' c11_38e (by kernel_rfl) (fun h20 => ?_) (fun h20 => ?_)
    · refine GoO.skip' c11_39e ?_
      refine GoO.seq' c11_41e ?_
      refine GoO.block' c11_42e ?_
      refine GoO.seq' c11_43e ?_
      refine GoO.region' (is := [0, 1, 2, 3]) c11_44e (by kernel_rfl) ?_
      refine GoO.guard (fun h21 => ?_)
      refine OpTo.go (GoO.idx (kk := .i64) (e := 99) (K := kT_tontinelaw21_Call) (A := A_3) (c := c_4) (xs := calls_2) (iv := 0) (j := 0) rfl (by kernel_rfl) (by kernel_rfl) (by kernel_rfl) (by kernel_rfl) rfl Reads.rd rfl h21.1 h21.2 (by decide) rfl ?_)
      refine OpTo.go (GoO.ldE' (K := kT_tontinelaw21_Call) (A := A_3) (c := c_4) (xs := calls_2) (iN := (0 : Int).toNat) (off := 0) (j := 0) rfl (by kernel_rfl) rfl Reads.rd (by first | exact idx_lt h21.1 h21.2 | (simp only [List.length_set]; exact idx_lt h21.1 h21.2)) (by decide) (oT_tontinelaw21_Call _) (v := fun e => .agg ⟨[vI ((rdL calls_2 (0 : Int)).Kind), vI ((rdL calls_2 (0 : Int)).Command.Kind), vU ((rdL calls_2 (0 : Int)).Command.Session), vU ((rdL calls_2 (0 : Int)).Command.Seq), vU ((rdL calls_2 (0 : Int)).Command.Saga), .slice e.1 ((rdL calls_2 (0 : Int)).Command.Steps).length e.2.1, vI ((rdL calls_2 (0 : Int)).Command.Step), .bool ((rdL calls_2 (0 : Int)).Command.Back), vI ((rdL calls_2 (0 : Int)).Command.Try), .bool ((rdL calls_2 (0 : Int)).Command.Ok), vU ((rdL calls_2 (0 : Int)).Command.Now), vI ((rdL calls_2 (0 : Int)).Letter.Kind), vI ((rdL calls_2 (0 : Int)).Letter.From), vI ((rdL calls_2 (0 : Int)).Letter.To), vU ((rdL calls_2 (0 : Int)).Letter.Term), vU ((rdL calls_2 (0 : Int)).Letter.Index), vU ((rdL calls_2 (0 : Int)).Letter.Prev), vU ((rdL calls_2 (0 : Int)).Letter.Commit), .bool ((rdL calls_2 (0 : Int)).Letter.Ok), .slice e.2.2.1 ((rdL calls_2 (0 : Int)).Letter.Entries).length e.2.2.2, .string (bs ((rdL calls_2 (0 : Int)).Letter.Data))]⟩) (fun _ => by kernel_rfl) _ (fun _ => rfl) ?_)
      rintro ⟨A_22, c_23, A_24, c_25⟩
      refine OpTo.go (GoO.new rfl 42 (cs := [vI 0, vI 0, vU 0, vU 0, vU 0, .slice none ([] : List T_api_Step).length 0, vI 0, .bool false, vI 0, .bool false, vU 0, vI 0, vI 0, vI 0, vU 0, vU 0, vU 0, vU 0, .bool false, .slice none ([] : List T_api_Entry).length 0, .string (bs [])]) (by kernel_rfl) _ (fun _ => rfl) (fun b_26 => ?_))
      refine GoO.exec (is := [3]) (hs := [.b 0]) (rest := []) (ks := [5, 7, 9, 54, 55, 56]) (env' := [(5, .pointer none), (7, vP b_19), (9, vP b_26), (54, .slice A_3 calls_2.length c_4), (55, vI (calls_2.length : Int)), (56, vI 0)]) (H' := [⟨42, b_26, [vI ((rdL calls_2 (0 : Int)).Kind), vI ((rdL calls_2 (0 : Int)).Command.Kind), vU ((rdL calls_2 (0 : Int)).Command.Session), vU ((rdL calls_2 (0 : Int)).Command.Seq), vU ((rdL calls_2 (0 : Int)).Command.Saga), .slice A_22 ((rdL calls_2 (0 : Int)).Command.Steps).length c_23, vI ((rdL calls_2 (0 : Int)).Command.Step), .bool ((rdL calls_2 (0 : Int)).Command.Back), vI ((rdL calls_2 (0 : Int)).Command.Try), .bool ((rdL calls_2 (0 : Int)).Command.Ok), vU ((rdL calls_2 (0 : Int)).Command.Now), vI ((rdL calls_2 (0 : Int)).Letter.Kind), vI ((rdL calls_2 (0 : Int)).Letter.From), vI ((rdL calls_2 (0 : Int)).Letter.To), vU ((rdL calls_2 (0 : Int)).Letter.Term), vU ((rdL calls_2 (0 : Int)).Letter.Index), vU ((rdL calls_2 (0 : Int)).Letter.Prev), vU ((rdL calls_2 (0 : Int)).Letter.Commit), .bool ((rdL calls_2 (0 : Int)).Letter.Ok), .slice A_24 ((rdL calls_2 (0 : Int)).Letter.Entries).length c_25, .string (bs ((rdL calls_2 (0 : Int)).Letter.Data))]⟩, ⟨41, b_19, [vI id_1, vU 0, vU 0, vU 0, .bool false, vI 0, vU 0, vU 0, vU 0, .slice none ([] : List T_api_Step).length 0, vI 0, .bool false, vI 0, .bool false, vU 0, vI 0]⟩]) (ps := [b_26 = b_26]) (by kernel_rfl) (And.intro rfl trivial) ?_
      refine GoO.regionEnd ?_
      refine GoO.seq' c11_45e ?_
      refine GoO.seq' c11_46e ?_
      refine GoO.region' (is := [0, 1]) c11_47e (by kernel_rfl) ?_
      refine GoO.exec (is := [0, 1]) (hs := [.p, .b 0]) (rest := []) (ks := [5, 7, 9, 54, 55, 56, 61]) (env' := [(5, .pointer none), (7, vP b_19), (9, vP b_26), (54, .slice A_3 calls_2.length c_4), (55, vI (calls_2.length : Int)), (56, vI 0), (61, vI ((rdL calls_2 (0 : Int)).Kind))]) (H' := [⟨42, b_26, [vI ((rdL calls_2 (0 : Int)).Kind), vI ((rdL calls_2 (0 : Int)).Command.Kind), vU ((rdL calls_2 (0 : Int)).Command.Session), vU ((rdL calls_2 (0 : Int)).Command.Seq), vU ((rdL calls_2 (0 : Int)).Command.Saga), .slice A_22 ((rdL calls_2 (0 : Int)).Command.Steps).length c_23, vI ((rdL calls_2 (0 : Int)).Command.Step), .bool ((rdL calls_2 (0 : Int)).Command.Back), vI ((rdL calls_2 (0 : Int)).Command.Try), .bool ((rdL calls_2 (0 : Int)).Command.Ok), vU ((rdL calls_2 (0 : Int)).Command.Now), vI ((rdL calls_2 (0 : Int)).Letter.Kind), vI ((rdL calls_2 (0 : Int)).Letter.From), vI ((rdL calls_2 (0 : Int)).Letter.To), vU ((rdL calls_2 (0 : Int)).Letter.Term), vU ((rdL calls_2 (0 : Int)).Letter.Index), vU ((rdL calls_2 (0 : Int)).Letter.Prev), vU ((rdL calls_2 (0 : Int)).Letter.Commit), .bool ((rdL calls_2 (0 : Int)).Letter.Ok), .slice A_24 ((rdL calls_2 (0 : Int)).Letter.Entries).length c_25, .string (bs ((rdL calls_2 (0 : Int)).Letter.Data))]⟩, ⟨41, b_19, [vI id_1, vU 0, vU 0, vU 0, .bool false, vI 0, vU 0, vU 0, vU 0, .slice none ([] : List T_api_Step).length 0, vI 0, .bool false, vI 0, .bool false, vU 0, vI 0]⟩]) (ps := [b_26 = b_26]) (by kernel_rfl) (And.intro rfl trivial) ?_
      refine GoO.regionEnd ?_
      refine GoO.block' c11_48e ?_
      refine GoO.seq' c11_49e ?_
      refine GoO.region' (is := [0, 1]) c11_50e (by kernel_rfl) ?_
      refine GoO.exec (is := [0, 1]) (hs := [.p, .p]) (rest := []) (ks := [5, 7, 9, 54, 55, 56, 61, 67]) (env' := [(5, .pointer none), (7, vP b_19), (9, vP b_26), (54, .slice A_3 calls_2.length c_4), (55, vI (calls_2.length : Int)), (56, vI 0), (61, vI ((rdL calls_2 (0 : Int)).Kind)), (67, .bool (((rdL calls_2 (0 : Int)).Kind) == 0))]) (H' := [⟨42, b_26, [vI ((rdL calls_2 (0 : Int)).Kind), vI ((rdL calls_2 (0 : Int)).Command.Kind), vU ((rdL calls_2 (0 : Int)).Command.Session), vU ((rdL calls_2 (0 : Int)).Command.Seq), vU ((rdL calls_2 (0 : Int)).Command.Saga), .slice A_22 ((rdL calls_2 (0 : Int)).Command.Steps).length c_23, vI ((rdL calls_2 (0 : Int)).Command.Step), .bool ((rdL calls_2 (0 : Int)).Command.Back), vI ((rdL calls_2 (0 : Int)).Command.Try), .bool ((rdL calls_2 (0 : Int)).Command.Ok), vU ((rdL calls_2 (0 : Int)).Command.Now), vI ((rdL calls_2 (0 : Int)).Letter.Kind), vI ((rdL calls_2 (0 : Int)).Letter.From), vI ((rdL calls_2 (0 : Int)).Letter.To), vU ((rdL calls_2 (0 : Int)).Letter.Term), vU ((rdL calls_2 (0 : Int)).Letter.Index), vU ((rdL calls_2 (0 : Int)).Letter.Prev), vU ((rdL calls_2 (0 : Int)).Letter.Commit), .bool ((rdL calls_2 (0 : Int)).Letter.Ok), .slice A_24 ((rdL calls_2 (0 : Int)).Letter.Entries).length c_25, .string (bs ((rdL calls_2 (0 : Int)).Letter.Data))]⟩, ⟨41, b_19, [vI id_1, vU 0, vU 0, vU 0, .bool false, vI 0, vU 0, vU 0, vU 0, .slice none ([] : List T_api_Step).length 0, vI 0, .bool false, vI 0, .bool false, vU 0, vI 0]⟩]) (ps := []) (by kernel_rfl) trivial ?_
      refine GoO.regionEnd ?_
      refine GoO.ite' c11_51e (by kernel_rfl) (fun h27 => ?_) (fun h27 => ?_)
      · refine GoO.seq' c11_52e ?_
        refine GoO.region' (is := [0, 1, 2, 3, 4, 5, 6, 7, 8, 9]) c11_53e (by kernel_rfl) ?_
        refine GoO.exec (is := [0, 1, 2]) (hs := [.p, .p, .b 0]) (rest := [3, 4, 5, 6, 7, 8, 9]) (ks := [5, 7, 9, 54, 55, 56, 70, 72]) (env' := [(5, .pointer none), (7, vP b_19), (9, vP b_26), (54, .slice A_3 calls_2.length c_4), (55, vI (calls_2.length : Int)), (56, vI 0), (70, .pointer none), (72, .agg ⟨[vI ((rdL calls_2 (0 : Int)).Command.Kind), vU ((rdL calls_2 (0 : Int)).Command.Session), vU ((rdL calls_2 (0 : Int)).Command.Seq), vU ((rdL calls_2 (0 : Int)).Command.Saga), .slice A_22 ((rdL calls_2 (0 : Int)).Command.Steps).length c_23, vI ((rdL calls_2 (0 : Int)).Command.Step), .bool ((rdL calls_2 (0 : Int)).Command.Back), vI ((rdL calls_2 (0 : Int)).Command.Try), .bool ((rdL calls_2 (0 : Int)).Command.Ok), vU ((rdL calls_2 (0 : Int)).Command.Now)]⟩)]) (H' := [⟨42, b_26, [vI ((rdL calls_2 (0 : Int)).Kind), vI ((rdL calls_2 (0 : Int)).Command.Kind), vU ((rdL calls_2 (0 : Int)).Command.Session), vU ((rdL calls_2 (0 : Int)).Command.Seq), vU ((rdL calls_2 (0 : Int)).Command.Saga), .slice A_22 ((rdL calls_2 (0 : Int)).Command.Steps).length c_23, vI ((rdL calls_2 (0 : Int)).Command.Step), .bool ((rdL calls_2 (0 : Int)).Command.Back), vI ((rdL calls_2 (0 : Int)).Command.Try), .bool ((rdL calls_2 (0 : Int)).Command.Ok), vU ((rdL calls_2 (0 : Int)).Command.Now), vI ((rdL calls_2 (0 : Int)).Letter.Kind), vI ((rdL calls_2 (0 : Int)).Letter.From), vI ((rdL calls_2 (0 : Int)).Letter.To), vU ((rdL calls_2 (0 : Int)).Letter.Term), vU ((rdL calls_2 (0 : Int)).Letter.Index), vU ((rdL calls_2 (0 : Int)).Letter.Prev), vU ((rdL calls_2 (0 : Int)).Letter.Commit), .bool ((rdL calls_2 (0 : Int)).Letter.Ok), .slice A_24 ((rdL calls_2 (0 : Int)).Letter.Entries).length c_25, .string (bs ((rdL calls_2 (0 : Int)).Letter.Data))]⟩, ⟨41, b_19, [vI id_1, vU 0, vU 0, vU 0, .bool false, vI 0, vU 0, vU 0, vU 0, .slice none ([] : List T_api_Step).length 0, vI 0, .bool false, vI 0, .bool false, vU 0, vI 0]⟩]) (ps := [b_26 = b_26]) (by kernel_rfl) (And.intro rfl trivial) ?_
        exact GoO.stop
      · refine GoO.seq' c11_63e ?_
        refine GoO.region' (is := [0, 1]) c11_64e (by kernel_rfl) ?_
        refine GoO.exec (is := [0, 1]) (hs := [.p, .p]) (rest := []) (ks := [5, 7, 9, 54, 55, 56, 61, 92]) (env' := [(5, .pointer none), (7, vP b_19), (9, vP b_26), (54, .slice A_3 calls_2.length c_4), (55, vI (calls_2.length : Int)), (56, vI 0), (61, vI ((rdL calls_2 (0 : Int)).Kind)), (92, .bool (((rdL calls_2 (0 : Int)).Kind) == 1))]) (H' := [⟨42, b_26, [vI ((rdL calls_2 (0 : Int)).Kind), vI ((rdL calls_2 (0 : Int)).Command.Kind), vU ((rdL calls_2 (0 : Int)).Command.Session), vU ((rdL calls_2 (0 : Int)).Command.Seq), vU ((rdL calls_2 (0 : Int)).Command.Saga), .slice A_22 ((rdL calls_2 (0 : Int)).Command.Steps).length c_23, vI ((rdL calls_2 (0 : Int)).Command.Step), .bool ((rdL calls_2 (0 : Int)).Command.Back), vI ((rdL calls_2 (0 : Int)).Command.Try), .bool ((rdL calls_2 (0 : Int)).Command.Ok), vU ((rdL calls_2 (0 : Int)).Command.Now), vI ((rdL calls_2 (0 : Int)).Letter.Kind), vI ((rdL calls_2 (0 : Int)).Letter.From), vI ((rdL calls_2 (0 : Int)).Letter.To), vU ((rdL calls_2 (0 : Int)).Letter.Term), vU ((rdL calls_2 (0 : Int)).Letter.Index), vU ((rdL calls_2 (0 : Int)).Letter.Prev), vU ((rdL calls_2 (0 : Int)).Letter.Commit), .bool ((rdL calls_2 (0 : Int)).Letter.Ok), .slice A_24 ((rdL calls_2 (0 : Int)).Letter.Entries).length c_25, .string (bs ((rdL calls_2 (0 : Int)).Letter.Data))]⟩, ⟨41, b_19, [vI id_1, vU 0, vU 0, vU 0, .bool false, vI 0, vU 0, vU 0, vU 0, .slice none ([] : List T_api_Step).length 0, vI 0, .bool false, vI 0, .bool false, vU 0, vI 0]⟩]) (ps := []) (by kernel_rfl) trivial ?_
        refine GoO.regionEnd ?_
        refine GoO.ite' c11_65e (by kernel_rfl) (fun h28 => ?_) (fun h28 => ?_)
        · refine GoO.seq' c11_66e ?_
          refine GoO.region' (is := [0, 1, 2, 3, 4, 5, 6, 7]) c11_67e (by kernel_rfl) ?_
          refine GoO.exec (is := [0]) (hs := [.p]) (rest := [1, 2, 3, 4, 5, 6, 7]) (ks := [5, 7, 54, 55, 56, 95]) (env' := [(5, .pointer none), (7, vP b_19), (54, .slice A_3 calls_2.length c_4), (55, vI (calls_2.length : Int)), (56, vI 0), (95, .pointer none)]) (H' := [⟨42, b_26, [vI ((rdL calls_2 (0 : Int)).Kind), vI ((rdL calls_2 (0 : Int)).Command.Kind), vU ((rdL calls_2 (0 : Int)).Command.Session), vU ((rdL calls_2 (0 : Int)).Command.Seq), vU ((rdL calls_2 (0 : Int)).Command.Saga), .slice A_22 ((rdL calls_2 (0 : Int)).Command.Steps).length c_23, vI ((rdL calls_2 (0 : Int)).Command.Step), .bool ((rdL calls_2 (0 : Int)).Command.Back), vI ((rdL calls_2 (0 : Int)).Command.Try), .bool ((rdL calls_2 (0 : Int)).Command.Ok), vU ((rdL calls_2 (0 : Int)).Command.Now), vI ((rdL calls_2 (0 : Int)).Letter.Kind), vI ((rdL calls_2 (0 : Int)).Letter.From), vI ((rdL calls_2 (0 : Int)).Letter.To), vU ((rdL calls_2 (0 : Int)).Letter.Term), vU ((rdL calls_2 (0 : Int)).Letter.Index), vU ((rdL calls_2 (0 : Int)).Letter.Prev), vU ((rdL calls_2 (0 : Int)).Letter.Commit), .bool ((rdL calls_2 (0 : Int)).Letter.Ok), .slice A_24 ((rdL calls_2 (0 : Int)).Letter.Entries).length c_25, .string (bs ((rdL calls_2 (0 : Int)).Letter.Data))]⟩, ⟨41, b_19, [vI id_1, vU 0, vU 0, vU 0, .bool false, vI 0, vU 0, vU 0, vU 0, .slice none ([] : List T_api_Step).length 0, vI 0, .bool false, vI 0, .bool false, vU 0, vI 0]⟩]) (ps := []) (by kernel_rfl) trivial ?_
          exact GoO.stop
        · refine GoO.seq' c11_77e ?_
          refine GoO.region' (is := [0, 1]) c11_78e (by kernel_rfl) ?_
          refine GoO.exec (is := [0, 1]) (hs := [.p, .p]) (rest := []) (ks := [5, 7, 9, 54, 55, 56, 113]) (env' := [(5, .pointer none), (7, vP b_19), (9, vP b_26), (54, .slice A_3 calls_2.length c_4), (55, vI (calls_2.length : Int)), (56, vI 0), (113, .bool (((rdL calls_2 (0 : Int)).Kind) == 2))]) (H' := [⟨42, b_26, [vI ((rdL calls_2 (0 : Int)).Kind), vI ((rdL calls_2 (0 : Int)).Command.Kind), vU ((rdL calls_2 (0 : Int)).Command.Session), vU ((rdL calls_2 (0 : Int)).Command.Seq), vU ((rdL calls_2 (0 : Int)).Command.Saga), .slice A_22 ((rdL calls_2 (0 : Int)).Command.Steps).length c_23, vI ((rdL calls_2 (0 : Int)).Command.Step), .bool ((rdL calls_2 (0 : Int)).Command.Back), vI ((rdL calls_2 (0 : Int)).Command.Try), .bool ((rdL calls_2 (0 : Int)).Command.Ok), vU ((rdL calls_2 (0 : Int)).Command.Now), vI ((rdL calls_2 (0 : Int)).Letter.Kind), vI ((rdL calls_2 (0 : Int)).Letter.From), vI ((rdL calls_2 (0 : Int)).Letter.To), vU ((rdL calls_2 (0 : Int)).Letter.Term), vU ((rdL calls_2 (0 : Int)).Letter.Index), vU ((rdL calls_2 (0 : Int)).Letter.Prev), vU ((rdL calls_2 (0 : Int)).Letter.Commit), .bool ((rdL calls_2 (0 : Int)).Letter.Ok), .slice A_24 ((rdL calls_2 (0 : Int)).Letter.Entries).length c_25, .string (bs ((rdL calls_2 (0 : Int)).Letter.Data))]⟩, ⟨41, b_19, [vI id_1, vU 0, vU 0, vU 0, .bool false, vI 0, vU 0, vU 0, vU 0, .slice none ([] : List T_api_Step).length 0, vI 0, .bool false, vI 0, .bool false, vU 0, vI 0]⟩]) (ps := []) (by kernel_rfl) trivial ?_
          refine GoO.regionEnd ?_
          refine GoO.ite' c11_79e (by kernel_rfl) (fun h29 => ?_) (fun h29 => ?_)
          · refine GoO.seq' c11_80e ?_
            refine GoO.region' (is := [0, 1, 2, 3, 4, 5, 6, 7, 8, 9, 10, 11, 12, 13, 14]) c11_81e (by kernel_rfl) ?_
            refine GoO.exec (is := [0, 1, 2]) (hs := [.p, .p, .b 0]) (rest := [3, 4, 5, 6, 7, 8, 9, 10, 11, 12, 13, 14]) (ks := [5, 7, 9, 54, 55, 56, 116, 118]) (env' := [(5, .pointer none), (7, vP b_19), (9, vP b_26), (54, .slice A_3 calls_2.length c_4), (55, vI (calls_2.length : Int)), (56, vI 0), (116, .pointer none), (118, .agg ⟨[vI ((rdL calls_2 (0 : Int)).Letter.Kind), vI ((rdL calls_2 (0 : Int)).Letter.From), vI ((rdL calls_2 (0 : Int)).Letter.To), vU ((rdL calls_2 (0 : Int)).Letter.Term), vU ((rdL calls_2 (0 : Int)).Letter.Index), vU ((rdL calls_2 (0 : Int)).Letter.Prev), vU ((rdL calls_2 (0 : Int)).Letter.Commit), .bool ((rdL calls_2 (0 : Int)).Letter.Ok), .slice A_24 ((rdL calls_2 (0 : Int)).Letter.Entries).length c_25, .string (bs ((rdL calls_2 (0 : Int)).Letter.Data))]⟩)]) (H' := [⟨42, b_26, [vI ((rdL calls_2 (0 : Int)).Kind), vI ((rdL calls_2 (0 : Int)).Command.Kind), vU ((rdL calls_2 (0 : Int)).Command.Session), vU ((rdL calls_2 (0 : Int)).Command.Seq), vU ((rdL calls_2 (0 : Int)).Command.Saga), .slice A_22 ((rdL calls_2 (0 : Int)).Command.Steps).length c_23, vI ((rdL calls_2 (0 : Int)).Command.Step), .bool ((rdL calls_2 (0 : Int)).Command.Back), vI ((rdL calls_2 (0 : Int)).Command.Try), .bool ((rdL calls_2 (0 : Int)).Command.Ok), vU ((rdL calls_2 (0 : Int)).Command.Now), vI ((rdL calls_2 (0 : Int)).Letter.Kind), vI ((rdL calls_2 (0 : Int)).Letter.From), vI ((rdL calls_2 (0 : Int)).Letter.To), vU ((rdL calls_2 (0 : Int)).Letter.Term), vU ((rdL calls_2 (0 : Int)).Letter.Index), vU ((rdL calls_2 (0 : Int)).Letter.Prev), vU ((rdL calls_2 (0 : Int)).Letter.Commit), .bool ((rdL calls_2 (0 : Int)).Letter.Ok), .slice A_24 ((rdL calls_2 (0 : Int)).Letter.Entries).length c_25, .string (bs ((rdL calls_2 (0 : Int)).Letter.Data))]⟩, ⟨41, b_19, [vI id_1, vU 0, vU 0, vU 0, .bool false, vI 0, vU 0, vU 0, vU 0, .slice none ([] : List T_api_Step).length 0, vI 0, .bool false, vI 0, .bool false, vU 0, vI 0]⟩]) (ps := [b_26 = b_26]) (by kernel_rfl) (And.intro rfl trivial) ?_
            exact GoO.stop
          · refine GoO.seq' c11_91e ?_
            refine GoO.region' (is := [0, 1, 2, 3, 4]) c11_92e (by kernel_rfl) ?_
            refine GoO.exec (is := [0]) (hs := [.p]) (rest := [1, 2, 3, 4]) (ks := [5, 7, 54, 55, 56, 62]) (env' := [(5, .pointer none), (7, vP b_19), (54, .slice A_3 calls_2.length c_4), (55, vI (calls_2.length : Int)), (56, vI 0), (62, .pointer none)]) (H' := [⟨42, b_26, [vI ((rdL calls_2 (0 : Int)).Kind), vI ((rdL calls_2 (0 : Int)).Command.Kind), vU ((rdL calls_2 (0 : Int)).Command.Session), vU ((rdL calls_2 (0 : Int)).Command.Seq), vU ((rdL calls_2 (0 : Int)).Command.Saga), .slice A_22 ((rdL calls_2 (0 : Int)).Command.Steps).length c_23, vI ((rdL calls_2 (0 : Int)).Command.Step), .bool ((rdL calls_2 (0 : Int)).Command.Back), vI ((rdL calls_2 (0 : Int)).Command.Try), .bool ((rdL calls_2 (0 : Int)).Command.Ok), vU ((rdL calls_2 (0 : Int)).Command.Now), vI ((rdL calls_2 (0 : Int)).Letter.Kind), vI ((rdL calls_2 (0 : Int)).Letter.From), vI ((rdL calls_2 (0 : Int)).Letter.To), vU ((rdL calls_2 (0 : Int)).Letter.Term), vU ((rdL calls_2 (0 : Int)).Letter.Index), vU ((rdL calls_2 (0 : Int)).Letter.Prev), vU ((rdL calls_2 (0 : Int)).Letter.Commit), .bool ((rdL calls_2 (0 : Int)).Letter.Ok), .slice A_24 ((rdL calls_2 (0 : Int)).Letter.Entries).length c_25, .string (bs ((rdL calls_2 (0 : Int)).Letter.Data))]⟩, ⟨41, b_19, [vI id_1, vU 0, vU 0, vU 0, .bool false, vI 0, vU 0, vU 0, vU 0, .slice none ([] : List T_api_Step).length 0, vI 0, .bool false, vI 0, .bool false, vU 0, vI 0]⟩]) (ps := []) (by kernel_rfl) trivial ?_
            exact GoO.stop
    · refine GoO.exit' c11_40e rfl ?_
      refine GoO.seq' c11_108e ?_
      refine GoO.region' (is := [0]) c11_109e (by kernel_rfl) ?_
      refine GoO.exec (is := [0]) (hs := [.p]) (rest := []) (ks := [4]) (env' := [(4, .bool true)]) (H' := [⟨41, b_19, [vI id_1, vU 0, vU 0, vU 0, .bool false, vI 0, vU 0, vU 0, vU 0, .slice none ([] : List T_api_Step).length 0, vI 0, .bool false, vI 0, .bool false, vU 0, vI 0]⟩]) (ps := []) (by kernel_rfl) trivial ?_
      refine GoO.regionEnd ?_
      exact GoO.ret' (h := c11_110e) (hs := []) (ps := []) (hk := []) (bk := []) Try.func11 () (by kernel_rfl) trivial (by kernel_rfl) (by kernel_rfl)
theorem tontinelaw21_ClientRuns_j0_ok (n : Nat) (id_1 : Int) (calls_2 : (List T_tontinelaw21_Call)) (r_9 : Option T_client_Client × Int) (A_3 : Option Addr) (c_4 : Nat) (w0 : World) (S0 : Fam) (b_15 : Bool) :
    GoO (tontinelaw21_ClientRuns.cx A_3 c_4 w0 S0) [(0, vI id_1), (1, .slice A_3 calls_2.length c_4), (5, .pointer none), (6, vI r_9.2), (44, .bool b_15)] [] [Rd 0 kT_tontinelaw21_Call A_3 c_4 calls_2] [.code c11_23, .code c11_28] (tontinelaw21_ClientRuns.j0 n calls_2 r_9 b_15) := by
  unfold tontinelaw21_ClientRuns.j0
  refine GoO.ite' c11_23e (by kernel_rfl) (fun h16 => ?_) (fun h16 => ?_)
  · refine GoO.seq' c11_24e ?_
    refine GoO.region' (is := [0, 1, 2, 3, 4, 5, 6]) c11_25e (by kernel_rfl) ?_
    refine GoO.exec (is := [0, 1, 2]) (hs := [.p, .p, .p]) (rest := [3, 4, 5, 6]) (ks := [5, 47]) (env' := [(5, .pointer none), (47, .bool (r_9.2 == 1))]) (H' := []) (ps := []) (by kernel_rfl) trivial ?_
    refine GoO.bsplit (t := 47) (by kernel_rfl) (fun h17 => ?_) (fun h17 => ?_)
    · refine GoO.exec (is := [3, 4, 5, 6]) (hs := [.p, .p, .p, .p]) (rest := []) (ks := [4]) (env' := [(4, .bool true)]) (H' := []) (ps := []) (by kernel_rfl) trivial ?_
      refine GoO.regionEnd ?_
      exact GoO.sub (ks := [4]) (hk := []) (bk := []) (by kernel_rfl) (by kernel_rfl) (by kernel_rfl) (tontinelaw21_ClientRuns_j1_ok n A_3 c_4 w0 S0 true)
    · refine GoO.exec (is := [3, 4, 5, 6]) (hs := [.p, .p, .p, .p]) (rest := []) (ks := [4]) (env' := [(4, .bool false)]) (H' := []) (ps := []) (by kernel_rfl) trivial ?_
      refine GoO.regionEnd ?_
      exact GoO.sub (ks := [4]) (hk := []) (bk := []) (by kernel_rfl) (by kernel_rfl) (by kernel_rfl) (tontinelaw21_ClientRuns_j1_ok n A_3 c_4 w0 S0 false)
  · refine GoO.skip' c11_27e ?_
    refine GoO.seq' c11_28e ?_
    refine GoO.region' (is := [0, 1, 2, 3]) c11_29e (by kernel_rfl) ?_
    refine GoO.exec (is := [0, 1]) (hs := [.p, .p]) (rest := [2, 3]) (ks := [1, 5, 52]) (env' := [(1, .slice A_3 calls_2.length c_4), (5, .pointer none), (52, .agg ⟨[vI id_1, vU 0, vU 0, vU 0, .bool false, vI 0, vU 0, vU 0, vU 0, .slice none ([] : List T_api_Step).length 0, vI 0, .bool false, vI 0, .bool false, vU 0, vI 0]⟩)]) (H' := []) (ps := []) (by kernel_rfl) trivial ?_
    refine OpTo.go (GoO.new rfl 41 (cs := [vI id_1, vU 0, vU 0, vU 0, .bool false, vI 0, vU 0, vU 0, vU 0, .slice none ([] : List T_api_Step).length 0, vI 0, .bool false, vI 0, .bool false, vU 0, vI 0]) (by kernel_rfl) _ (fun _ => rfl) (fun b_19 => ?_))
    refine GoO.exec (is := [3]) (hs := [.p]) (rest := []) (ks := [1, 5, 7]) (env' := [(1, .slice A_3 calls_2.length c_4), (5, .pointer none), (7, vP b_19)]) (H' := [⟨41, b_19, [vI id_1, vU 0, vU 0, vU 0, .bool false, vI 0, vU 0, vU 0, vU 0, .slice none ([] : List T_api_Step).length 0, vI 0, .bool false, vI 0, .bool false, vU 0, vI 0]⟩]) (ps := []) (by kernel_rfl) trivial ?_
    refine GoO.regionEnd ?_
    refine GoO.seq' c11_30e ?_
    refine GoO.seq' c11_31e ?_
    refine GoO.region' (is := [0, 1, 2]) c11_32e (by kernel_rfl) ?_
    refine GoO.exec (is := [0, 1, 2]) (hs := [.p, .p, .p]) (rest := []) (ks := [5, 7, 54, 55, 56]) (env' := [(5, .pointer none), (7, vP b_19), (54, .slice A_3 calls_2.length c_4), (55, vI (calls_2.length : Int)), (56, vI 0)]) (H' := [⟨41, b_19, [vI id_1, vU 0, vU 0, vU 0, .bool false, vI 0, vU 0, vU 0, vU 0, .slice none ([] : List T_api_Step).length 0, vI 0, .bool false, vI 0, .bool false, vU 0, vI 0]⟩]) (ps := []) (by kernel_rfl) trivial ?_
    refine GoO.regionEnd ?_
    refine GoO.block' c11_33e ?_
    refine GoO.loop' c11_34e ?_
    exact GoO.sub (ks := [5, 7, 54, 55, 56]) (hk := [0]) (bk := [0]) (by kernel_rfl) (by kernel_rfl) (by kernel_rfl) (tontinelaw21_ClientRuns_l0_ok n id_1 calls_2 A_3 c_4 b_19 w0 S0 n)
theorem tontinelaw21_ClientRuns_j3_ok (n : Nat) (A_3 : Option Addr) (c_4 : Nat) (w0 : World) (S0 : Fam) :
    GoO (tontinelaw21_ClientRuns.cx A_3 c_4 w0 S0) [(4, .bool false)] [] [] [.code c11_26, .code c11_28] (tontinelaw21_ClientRuns.j3 n) := by
  unfold tontinelaw21_ClientRuns.j3
  exact GoO.ret' (h := c11_26e) (hs := []) (ps := []) (hk := []) (bk := []) Try.func11 () (by kernel_rfl) trivial (by kernel_rfl) (by kernel_rfl)
theorem tontinelaw21_ClientRuns_j5_ok (n : Nat) (L1 : Int → Int → Int → Int → Bool → Int → Int → Int → Int → (List T_api_Step) → Int → Bool → Int → Bool → Int → (List UInt8) → Int → Int → Int → Int → Int → Bool → Int → Int → Int → Int → (List T_api_Step) → Int → Bool → Int → Bool → Int → Int → Int → Option Bool) (calls_2 : (List T_tontinelaw21_Call)) (f_35 : Int) (f_36 : Int) (f_37 : Int) (f_38 : Int) (f_39 : Bool) (f_40 : Int) (f_41 : Int) (f_42 : Int) (f_43 : Int) (f_44 : (List T_api_Step)) (f_47 : Int) (f_48 : Bool) (f_49 : Int) (f_50 : Bool) (f_51 : Int) (f_52 : (List UInt8)) (f_53 : Int) (f_54 : Int) (f_55 : Int) (f_56 : Int) (f_57 : Int) (f_58 : Bool) (f_59 : Int) (f_60 : Int) (f_61 : Int) (f_62 : Int) (f_63 : (List T_api_Step)) (f_66 : Int) (f_67 : Bool) (f_68 : Int) (f_69 : Bool) (f_70 : Int) (f_71 : Int) (x_72 : Int) (f_147 : Int) (f_148 : Int) (f_149 : Int) (f_150 : Int) (f_151 : Bool) (f_152 : Int) (f_153 : Int) (f_154 : Int) (f_155 : Int) (f_156 : (List T_api_Step)) (f_159 : Int) (f_160 : Bool) (f_161 : Int) (f_162 : Bool) (f_163 : Int) (f_164 : (List UInt8)) (f_165 : Int) (f_166 : Int) (f_167 : Int) (f_168 : Int) (f_169 : Int) (f_170 : Bool) (f_171 : Int) (f_172 : Int) (f_173 : Int) (f_174 : Int) (f_175 : (List T_api_Step)) (f_178 : Int) (f_179 : Bool) (f_180 : Int) (f_181 : Bool) (f_182 : Int) (f_183 : Int) (A_3 : Option Addr) (c_4 : Nat) (c_10 : Nat) (b_34 : Nat) (A_45 : Option Addr) (c_46 : Nat) (A_64 : Option Addr) (c_65 : Nat) (A_157 : Option Addr) (c_158 : Nat) (A_176 : Option Addr) (c_177 : Nat) (w0 : World) (S0 : Fam) (ih1 : ∀ (f_35 : Int) (f_36 : Int) (f_37 : Int) (f_38 : Int) (f_39 : Bool) (f_40 : Int) (f_41 : Int) (f_42 : Int) (f_43 : Int) (f_44 : (List T_api_Step)) (f_47 : Int) (f_48 : Bool) (f_49 : Int) (f_50 : Bool) (f_51 : Int) (f_52 : (List UInt8)) (f_53 : Int) (f_54 : Int) (f_55 : Int) (f_56 : Int) (f_57 : Int) (f_58 : Bool) (f_59 : Int) (f_60 : Int) (f_61 : Int) (f_62 : Int) (f_63 : (List T_api_Step)) (f_66 : Int) (f_67 : Bool) (f_68 : Int) (f_69 : Bool) (f_70 : Int) (f_71 : Int) (x_72 : Int) (A_45 : Option Addr) (c_46 : Nat) (A_64 : Option Addr) (c_65 : Nat), GoO (tontinelaw21_ClientRuns.cx A_3 c_4 w0 S0) [(5, vP c_10), (7, vP b_34), (54, .slice A_3 calls_2.length c_4), (55, vI (calls_2.length : Int)), (56, vI x_72)] [⟨40, c_10, [vI f_35, vU f_36, vU f_37, vU f_38, .bool f_39, vI f_40, vU f_41, vU f_42, vU f_43, .slice A_45 f_44.length c_46, vI f_47, .bool f_48, vI f_49, .bool f_50, vU f_51, .string (bs f_52), vI f_53]⟩, ⟨41, b_34, [vI f_54, vU f_55, vU f_56, vU f_57, .bool f_58, vI f_59, vU f_60, vU f_61, vU f_62, .slice A_64 f_63.length c_65, vI f_66, .bool f_67, vI f_68, .bool f_69, vU f_70, vI f_71]⟩] [Rd 0 kT_api_Step A_45 c_46 f_44, Rd 0 kT_api_Step A_64 c_65 f_63, Rd 0 kT_tontinelaw21_Call A_3 c_4 calls_2] [.code c11_35, .inLoop c11_35, .inBlock 0, .code c11_108] (L1 f_35 f_36 f_37 f_38 f_39 f_40 f_41 f_42 f_43 f_44 f_47 f_48 f_49 f_50 f_51 f_52 f_53 f_54 f_55 f_56 f_57 f_58 f_59 f_60 f_61 f_62 f_63 f_66 f_67 f_68 f_69 f_70 f_71 x_72)) (b_187 : Bool) :
    GoO (tontinelaw21_ClientRuns.cx A_3 c_4 w0 S0) [(5, vP c_10), (7, vP b_34), (54, .slice A_3 calls_2.length c_4), (55, vI (calls_2.length : Int)), (56, vI x_72), (180, .bool b_187)] [⟨40, c_10, [vI f_147, vU f_148, vU f_149, vU f_150, .bool f_151, vI f_152, vU f_153, vU f_154, vU f_155, .slice A_157 f_156.length c_158, vI f_159, .bool f_160, vI f_161, .bool f_162, vU f_163, .string (bs f_164), vI f_165]⟩, ⟨41, b_34, [vI f_166, vU f_167, vU f_168, vU f_169, .bool f_170, vI f_171, vU f_172, vU f_173, vU f_174, .slice A_176 f_175.length c_177, vI f_178, .bool f_179, vI f_180, .bool f_181, vU f_182, vI f_183]⟩] [Rd 0 kT_api_Step A_157 c_158 f_156, Rd 0 kT_api_Step A_176 c_177 f_175, Rd 0 kT_tontinelaw21_Call A_3 c_4 calls_2] [.code c11_102, .inBlock 1, .code c11_107, .inLoop c11_35, .inBlock 0, .code c11_108] (tontinelaw21_ClientRuns.j5 n L1 x_72 f_147 f_148 f_149 f_150 f_151 f_152 f_153 f_154 f_155 f_156 f_159 f_160 f_161 f_162 f_163 f_164 f_165 f_166 f_167 f_168 f_169 f_170 f_171 f_172 f_173 f_174 f_175 f_178 f_179 f_180 f_181 f_182 f_183 b_187) := by
  unfold tontinelaw21_ClientRuns.j5
  refine GoO.ite' c11_102e (by kernel_rfl) (fun h188 => ?_) (fun h188 => ?_)
  · refine GoO.seq' c11_103e ?_
    refine GoO.region' (is := [0]) c11_104e (by kernel_rfl) ?_
    refine GoO.exec (is := [0]) (hs := [.p]) (rest := []) (ks := [4]) (env' := [(4, .bool false)]) (H' := [⟨40, c_10, [vI f_147, vU f_148, vU f_149, vU f_150, .bool f_151, vI f_152, vU f_153, vU f_154, vU f_155, .slice A_157 f_156.length c_158, vI f_159, .bool f_160, vI f_161, .bool f_162, vU f_163, .string (bs f_164), vI f_165]⟩, ⟨41, b_34, [vI f_166, vU f_167, vU f_168, vU f_169, .bool f_170, vI f_171, vU f_172, vU f_173, vU f_174, .slice A_176 f_175.length c_177, vI f_178, .bool f_179, vI f_180, .bool f_181, vU f_182, vI f_183]⟩]) (ps := []) (by kernel_rfl) trivial ?_
    refine GoO.regionEnd ?_
    exact GoO.ret' (h := c11_105e) (hs := []) (ps := []) (hk := []) (bk := []) Try.func11 () (by kernel_rfl) trivial (by kernel_rfl) (by kernel_rfl)
  · refine GoO.skip' c11_106e ?_
    refine GoO.inBlock ?_
    refine GoO.region' (is := [0, 1]) c11_107e (by kernel_rfl) ?_
    refine GoO.exec (is := [0, 1]) (hs := [.p, .p]) (rest := []) (ks := [5, 7, 54, 55, 56]) (env' := [(5, vP c_10), (7, vP b_34), (54, .slice A_3 calls_2.length c_4), (55, vI (calls_2.length : Int)), (56, vI (wi64 (x_72 + 1)))]) (H' := [⟨40, c_10, [vI f_147, vU f_148, vU f_149, vU f_150, .bool f_151, vI f_152, vU f_153, vU f_154, vU f_155, .slice A_157 f_156.length c_158, vI f_159, .bool f_160, vI f_161, .bool f_162, vU f_163, .string (bs f_164), vI f_165]⟩, ⟨41, b_34, [vI f_166, vU f_167, vU f_168, vU f_169, .bool f_170, vI f_171, vU f_172, vU f_173, vU f_174, .slice A_176 f_175.length c_177, vI f_178, .bool f_179, vI f_180, .bool f_181, vU f_182, vI f_183]⟩]) (ps := []) (by kernel_rfl) trivial ?_
    refine GoO.regionEnd ?_
    refine GoO.inLoop ?_
    exact GoO.sub (ks := [5, 7, 54, 55, 56]) (hk := [0, 1]) (bk := [0, 1, 2]) (by kernel_rfl) (by kernel_rfl) (by kernel_rfl) (ih1 f_147 f_148 f_149 f_150 f_151 f_152 f_153 f_154 f_155 f_156 f_159 f_160 f_161 f_162 f_163 f_164 f_165 f_166 f_167 f_168 f_169 f_170 f_171 f_172 f_173 f_174 f_175 f_178 f_179 f_180 f_181 f_182 f_183 (wi64 (x_72 + 1)) A_157 c_158 A_176 c_177)
theorem tontinelaw21_ClientRuns_j4_ok (n : Nat) (L1 : Int → Int → Int → Int → Bool → Int → Int → Int → Int → (List T_api_Step) → Int → Bool → Int → Bool → Int → (List UInt8) → Int → Int → Int → Int → Int → Bool → Int → Int → Int → Int → (List T_api_Step) → Int → Bool → Int → Bool → Int → Int → Int → Option Bool) (calls_2 : (List T_tontinelaw21_Call)) (f_35 : Int) (f_36 : Int) (f_37 : Int) (f_38 : Int) (f_39 : Bool) (f_40 : Int) (f_41 : Int) (f_42 : Int) (f_43 : Int) (f_44 : (List T_api_Step)) (f_47 : Int) (f_48 : Bool) (f_49 : Int) (f_50 : Bool) (f_51 : Int) (f_52 : (List UInt8)) (f_53 : Int) (f_54 : Int) (f_55 : Int) (f_56 : Int) (f_57 : Int) (f_58 : Bool) (f_59 : Int) (f_60 : Int) (f_61 : Int) (f_62 : Int) (f_63 : (List T_api_Step)) (f_66 : Int) (f_67 : Bool) (f_68 : Int) (f_69 : Bool) (f_70 : Int) (f_71 : Int) (x_72 : Int) (A_3 : Option Addr) (c_4 : Nat) (c_10 : Nat) (b_34 : Nat) (A_45 : Option Addr) (c_46 : Nat) (A_64 : Option Addr) (c_65 : Nat) (w0 : World) (S0 : Fam) (ih1 : ∀ (f_35 : Int) (f_36 : Int) (f_37 : Int) (f_38 : Int) (f_39 : Bool) (f_40 : Int) (f_41 : Int) (f_42 : Int) (f_43 : Int) (f_44 : (List T_api_Step)) (f_47 : Int) (f_48 : Bool) (f_49 : Int) (f_50 : Bool) (f_51 : Int) (f_52 : (List UInt8)) (f_53 : Int) (f_54 : Int) (f_55 : Int) (f_56 : Int) (f_57 : Int) (f_58 : Bool) (f_59 : Int) (f_60 : Int) (f_61 : Int) (f_62 : Int) (f_63 : (List T_api_Step)) (f_66 : Int) (f_67 : Bool) (f_68 : Int) (f_69 : Bool) (f_70 : Int) (f_71 : Int) (x_72 : Int) (A_45 : Option Addr) (c_46 : Nat) (A_64 : Option Addr) (c_65 : Nat), GoO (tontinelaw21_ClientRuns.cx A_3 c_4 w0 S0) [(5, vP c_10), (7, vP b_34), (54, .slice A_3 calls_2.length c_4), (55, vI (calls_2.length : Int)), (56, vI x_72)] [⟨40, c_10, [vI f_35, vU f_36, vU f_37, vU f_38, .bool f_39, vI f_40, vU f_41, vU f_42, vU f_43, .slice A_45 f_44.length c_46, vI f_47, .bool f_48, vI f_49, .bool f_50, vU f_51, .string (bs f_52), vI f_53]⟩, ⟨41, b_34, [vI f_54, vU f_55, vU f_56, vU f_57, .bool f_58, vI f_59, vU f_60, vU f_61, vU f_62, .slice A_64 f_63.length c_65, vI f_66, .bool f_67, vI f_68, .bool f_69, vU f_70, vI f_71]⟩] [Rd 0 kT_api_Step A_45 c_46 f_44, Rd 0 kT_api_Step A_64 c_65 f_63, Rd 0 kT_tontinelaw21_Call A_3 c_4 calls_2] [.code c11_35, .inLoop c11_35, .inBlock 0, .code c11_108] (L1 f_35 f_36 f_37 f_38 f_39 f_40 f_41 f_42 f_43 f_44 f_47 f_48 f_49 f_50 f_51 f_52 f_53 f_54 f_55 f_56 f_57 f_58 f_59 f_60 f_61 f_62 f_63 f_66 f_67 f_68 f_69 f_70 f_71 x_72)) (f_147 : Int) (f_148 : Int) (f_149 : Int) (f_150 : Int) (f_151 : Bool) (f_152 : Int) (f_153 : Int) (f_154 : Int) (f_155 : Int) (f_156 : (List T_api_Step)) (f_159 : Int) (f_160 : Bool) (f_161 : Int) (f_162 : Bool) (f_163 : Int) (f_164 : (List UInt8)) (f_165 : Int) (f_166 : Int) (f_167 : Int) (f_168 : Int) (f_169 : Int) (f_170 : Bool) (f_171 : Int) (f_172 : Int) (f_173 : Int) (f_174 : Int) (f_175 : (List T_api_Step)) (f_178 : Int) (f_179 : Bool) (f_180 : Int) (f_181 : Bool) (f_182 : Int) (f_183 : Int) (A_157 : Option Addr) (c_158 : Nat) (A_176 : Option Addr) (c_177 : Nat) :
    GoO (tontinelaw21_ClientRuns.cx A_3 c_4 w0 S0) [(5, vP c_10), (7, vP b_34), (54, .slice A_3 calls_2.length c_4), (55, vI (calls_2.length : Int)), (56, vI x_72)] [⟨40, c_10, [vI f_147, vU f_148, vU f_149, vU f_150, .bool f_151, vI f_152, vU f_153, vU f_154, vU f_155, .slice A_157 f_156.length c_158, vI f_159, .bool f_160, vI f_161, .bool f_162, vU f_163, .string (bs f_164), vI f_165]⟩, ⟨41, b_34, [vI f_166, vU f_167, vU f_168, vU f_169, .bool f_170, vI f_171, vU f_172, vU f_173, vU f_174, .slice A_176 f_175.length c_177, vI f_178, .bool f_179, vI f_180, .bool f_181, vU f_182, vI f_183]⟩] [Rd 0 kT_api_Step A_157 c_158 f_156, Rd 0 kT_api_Step A_176 c_177 f_175, Rd 0 kT_tontinelaw21_Call A_3 c_4 calls_2] [.inBlock 2, .code c11_98, .inBlock 1, .code c11_107, .inLoop c11_35, .inBlock 0, .code c11_108] (tontinelaw21_ClientRuns.j4 n L1 x_72 f_147 f_148 f_149 f_150 f_151 f_152 f_153 f_154 f_155 f_156 f_159 f_160 f_161 f_162 f_163 f_164 f_165 f_166 f_167 f_168 f_169 f_170 f_171 f_172 f_173 f_174 f_175 f_178 f_179 f_180 f_181 f_182 f_183) := by
  unfold tontinelaw21_ClientRuns.j4
  refine GoO.inBlock ?_
  refine GoO.seq' c11_98e ?_
  refine GoO.region' (is := [0, 1, 2, 3, 4, 5, 6, 7, 8]) c11_99e (by kernel_rfl) ?_
  refine GoO.exec (is := [0]) (hs := [.p]) (rest := [1, 2, 3, 4, 5, 6, 7, 8]) (ks := [5, 7, 54, 55, 56, 154]) (env' := [(5, vP c_10), (7, vP b_34), (54, .slice A_3 calls_2.length c_4), (55, vI (calls_2.length : Int)), (56, vI x_72), (154, vP c_10)]) (H' := [⟨40, c_10, [vI f_147, vU f_148, vU f_149, vU f_150, .bool f_151, vI f_152, vU f_153, vU f_154, vU f_155, .slice A_157 f_156.length c_158, vI f_159, .bool f_160, vI f_161, .bool f_162, vU f_163, .string (bs f_164), vI f_165]⟩, ⟨41, b_34, [vI f_166, vU f_167, vU f_168, vU f_169, .bool f_170, vI f_171, vU f_172, vU f_173, vU f_174, .slice A_176 f_175.length c_177, vI f_178, .bool f_179, vI f_180, .bool f_181, vU f_182, vI f_183]⟩]) (ps := []) (by kernel_rfl) trivial ?_
  refine OpTo.go (GoO.call rfl (by kernel_rfl) (by kernel_rfl) (client_Client_Status_ok n (⟨f_147, f_148, f_149, f_150, f_151, (⟨f_152, f_153, f_154, f_155, f_156, f_159, f_160, f_161, f_162, f_163⟩ : T_api_Command), f_164, f_165⟩ : T_client_Client) c_10 A_157 c_158) [[0], [40]] [] [(1, 0)] [(0, 0)] (hks := [0, 1]) (bks := [0, 1, 2]) (by kernel_rfl) (by kernel_rfl) (by kernel_rfl) (.inl rfl) rfl rfl (by kernel_rfl) (by kernel_rfl) _ (fun _ _ => rfl) _ _ (fun _ _ => rfl) (fun _ _ => rfl) (fun _ _ => by kernel_rfl) (fun _ _ => by kernel_rfl) (fun r_184 x_189 => ?_))
  refine GoO.shape (env' := [(5, vP c_10), (7, vP b_34), (54, .slice A_3 calls_2.length c_4), (55, vI (calls_2.length : Int)), (56, vI x_72), (154, vP c_10), (155, .tuple ⟨[vU r_184.1, vU r_184.2.1, .bool r_184.2.2]⟩)]) (H' := [⟨40, c_10, [vI f_147, vU f_148, vU f_149, vU f_150, .bool f_151, vI f_152, vU f_153, vU f_154, vU f_155, .slice A_157 f_156.length c_158, vI f_159, .bool f_160, vI f_161, .bool f_162, vU f_163, .string (bs f_164), vI f_165]⟩, ⟨41, b_34, [vI f_166, vU f_167, vU f_168, vU f_169, .bool f_170, vI f_171, vU f_172, vU f_173, vU f_174, .slice A_176 f_175.length c_177, vI f_178, .bool f_179, vI f_180, .bool f_181, vU f_182, vI f_183]⟩]) (B' := [Rd 0 kT_api_Step A_157 c_158 f_156, Rd 0 kT_api_Step A_176 c_177 f_175, Rd 0 kT_tontinelaw21_Call A_3 c_4 calls_2]) (ks := [5, 7, 54, 55, 56, 154, 155]) (by kernel_rfl) (by kernel_rfl) (by kernel_rfl) ?_
  refine GoO.exec (is := [2, 3, 4, 5, 6, 7, 8]) (hs := [.p, .p, .p, .p, .p, .p, .p]) (rest := []) (ks := [5, 7, 26, 27, 28, 54, 55, 56]) (env' := [(5, vP c_10), (7, vP b_34), (26, vU r_184.1), (27, vU r_184.2.1), (28, .bool r_184.2.2), (54, .slice A_3 calls_2.length c_4), (55, vI (calls_2.length : Int)), (56, vI x_72)]) (H' := [⟨40, c_10, [vI f_147, vU f_148, vU f_149, vU f_150, .bool f_151, vI f_152, vU f_153, vU f_154, vU f_155, .slice A_157 f_156.length c_158, vI f_159, .bool f_160, vI f_161, .bool f_162, vU f_163, .string (bs f_164), vI f_165]⟩, ⟨41, b_34, [vI f_166, vU f_167, vU f_168, vU f_169, .bool f_170, vI f_171, vU f_172, vU f_173, vU f_174, .slice A_176 f_175.length c_177, vI f_178, .bool f_179, vI f_180, .bool f_181, vU f_182, vI f_183]⟩]) (ps := []) (by kernel_rfl) trivial ?_
  refine GoO.regionEnd ?_
  refine GoO.seq' c11_100e ?_
  refine GoO.region' (is := [0, 1, 2, 3, 4, 5, 6, 7, 8, 9, 10, 11, 12, 13, 14, 15, 16, 17, 18, 19, 20, 21]) c11_101e (by kernel_rfl) ?_
  refine GoO.exec (is := [0, 1, 2, 3, 4, 5, 6]) (hs := [.p, .p, .p, .p, .b 1, .p, .p]) (rest := [7, 8, 9, 10, 11, 12, 13, 14, 15, 16, 17, 18, 19, 20, 21]) (ks := [5, 7, 27, 28, 54, 55, 56, 165]) (env' := [(5, vP c_10), (7, vP b_34), (27, vU r_184.2.1), (28, .bool r_184.2.2), (54, .slice A_3 calls_2.length c_4), (55, vI (calls_2.length : Int)), (56, vI x_72), (165, .bool (r_184.1 != f_167))]) (H' := [⟨40, c_10, [vI f_147, vU f_148, vU f_149, vU f_150, .bool f_151, vI f_152, vU f_153, vU f_154, vU f_155, .slice A_157 f_156.length c_158, vI f_159, .bool f_160, vI f_161, .bool f_162, vU f_163, .string (bs f_164), vI f_165]⟩, ⟨41, b_34, [vI f_166, vU f_167, vU f_168, vU f_169, .bool f_170, vI f_171, vU f_172, vU f_173, vU f_174, .slice A_176 f_175.length c_177, vI f_178, .bool f_179, vI f_180, .bool f_181, vU f_182, vI f_183]⟩]) (ps := [b_34 = b_34]) (by kernel_rfl) (And.intro rfl trivial) ?_
  refine GoO.bsplit (t := 165) (by kernel_rfl) (fun h185 => ?_) (fun h185 => ?_)
  · refine GoO.exec (is := [7, 8, 9, 10, 11, 12, 13, 14, 15, 16, 17, 18, 19, 20, 21]) (hs := [.p, .p, .p, .p, .p, .p, .p, .p, .p, .p, .p, .p, .p, .p, .p]) (rest := []) (ks := [5, 7, 54, 55, 56, 180]) (env' := [(5, vP c_10), (7, vP b_34), (54, .slice A_3 calls_2.length c_4), (55, vI (calls_2.length : Int)), (56, vI x_72), (180, .bool true)]) (H' := [⟨40, c_10, [vI f_147, vU f_148, vU f_149, vU f_150, .bool f_151, vI f_152, vU f_153, vU f_154, vU f_155, .slice A_157 f_156.length c_158, vI f_159, .bool f_160, vI f_161, .bool f_162, vU f_163, .string (bs f_164), vI f_165]⟩, ⟨41, b_34, [vI f_166, vU f_167, vU f_168, vU f_169, .bool f_170, vI f_171, vU f_172, vU f_173, vU f_174, .slice A_176 f_175.length c_177, vI f_178, .bool f_179, vI f_180, .bool f_181, vU f_182, vI f_183]⟩]) (ps := []) (by kernel_rfl) trivial ?_
    refine GoO.regionEnd ?_
    exact GoO.sub (ks := [5, 7, 54, 55, 56, 180]) (hk := [0, 1]) (bk := [0, 1, 2]) (by kernel_rfl) (by kernel_rfl) (by kernel_rfl) (tontinelaw21_ClientRuns_j5_ok n L1 calls_2 f_35 f_36 f_37 f_38 f_39 f_40 f_41 f_42 f_43 f_44 f_47 f_48 f_49 f_50 f_51 f_52 f_53 f_54 f_55 f_56 f_57 f_58 f_59 f_60 f_61 f_62 f_63 f_66 f_67 f_68 f_69 f_70 f_71 x_72 f_147 f_148 f_149 f_150 f_151 f_152 f_153 f_154 f_155 f_156 f_159 f_160 f_161 f_162 f_163 f_164 f_165 f_166 f_167 f_168 f_169 f_170 f_171 f_172 f_173 f_174 f_175 f_178 f_179 f_180 f_181 f_182 f_183 A_3 c_4 c_10 b_34 A_45 c_46 A_64 c_65 A_157 c_158 A_176 c_177 w0 S0 ih1 true)
  · refine GoO.exec (is := [7, 8, 9, 10, 11, 12, 13, 14]) (hs := [.p, .p, .p, .p, .b 1, .p, .p, .p]) (rest := [15, 16, 17, 18, 19, 20, 21]) (ks := [5, 7, 28, 54, 55, 56, 173]) (env' := [(5, vP c_10), (7, vP b_34), (28, .bool r_184.2.2), (54, .slice A_3 calls_2.length c_4), (55, vI (calls_2.length : Int)), (56, vI x_72), (173, .bool (r_184.2.1 != f_168))]) (H' := [⟨40, c_10, [vI f_147, vU f_148, vU f_149, vU f_150, .bool f_151, vI f_152, vU f_153, vU f_154, vU f_155, .slice A_157 f_156.length c_158, vI f_159, .bool f_160, vI f_161, .bool f_162, vU f_163, .string (bs f_164), vI f_165]⟩, ⟨41, b_34, [vI f_166, vU f_167, vU f_168, vU f_169, .bool f_170, vI f_171, vU f_172, vU f_173, vU f_174, .slice A_176 f_175.length c_177, vI f_178, .bool f_179, vI f_180, .bool f_181, vU f_182, vI f_183]⟩]) (ps := [b_34 = b_34]) (by kernel_rfl) (And.intro rfl trivial) ?_
    refine GoO.bsplit (t := 173) (by kernel_rfl) (fun h186 => ?_) (fun h186 => ?_)
    · refine GoO.exec (is := [15, 16, 17, 18, 19, 20, 21]) (hs := [.p, .p, .p, .p, .p, .p, .p]) (rest := []) (ks := [5, 7, 54, 55, 56, 180]) (env' := [(5, vP c_10), (7, vP b_34), (54, .slice A_3 calls_2.length c_4), (55, vI (calls_2.length : Int)), (56, vI x_72), (180, .bool true)]) (H' := [⟨40, c_10, [vI f_147, vU f_148, vU f_149, vU f_150, .bool f_151, vI f_152, vU f_153, vU f_154, vU f_155, .slice A_157 f_156.length c_158, vI f_159, .bool f_160, vI f_161, .bool f_162, vU f_163, .string (bs f_164), vI f_165]⟩, ⟨41, b_34, [vI f_166, vU f_167, vU f_168, vU f_169, .bool f_170, vI f_171, vU f_172, vU f_173, vU f_174, .slice A_176 f_175.length c_177, vI f_178, .bool f_179, vI f_180, .bool f_181, vU f_182, vI f_183]⟩]) (ps := []) (by kernel_rfl) trivial ?_
      refine GoO.regionEnd ?_
      exact GoO.sub (ks := [5, 7, 54, 55, 56, 180]) (hk := [0, 1]) (bk := [0, 1, 2]) (by kernel_rfl) (by kernel_rfl) (by kernel_rfl) (tontinelaw21_ClientRuns_j5_ok n L1 calls_2 f_35 f_36 f_37 f_38 f_39 f_40 f_41 f_42 f_43 f_44 f_47 f_48 f_49 f_50 f_51 f_52 f_53 f_54 f_55 f_56 f_57 f_58 f_59 f_60 f_61 f_62 f_63 f_66 f_67 f_68 f_69 f_70 f_71 x_72 f_147 f_148 f_149 f_150 f_151 f_152 f_153 f_154 f_155 f_156 f_159 f_160 f_161 f_162 f_163 f_164 f_165 f_166 f_167 f_168 f_169 f_170 f_171 f_172 f_173 f_174 f_175 f_178 f_179 f_180 f_181 f_182 f_183 A_3 c_4 c_10 b_34 A_45 c_46 A_64 c_65 A_157 c_158 A_176 c_177 w0 S0 ih1 true)
    · refine GoO.exec (is := [15, 16, 17, 18, 19, 20, 21]) (hs := [.p, .p, .p, .p, .b 1, .p, .p]) (rest := []) (ks := [5, 7, 54, 55, 56, 180]) (env' := [(5, vP c_10), (7, vP b_34), (54, .slice A_3 calls_2.length c_4), (55, vI (calls_2.length : Int)), (56, vI x_72), (180, .bool (!(r_184.2.2 == f_170)))]) (H' := [⟨40, c_10, [vI f_147, vU f_148, vU f_149, vU f_150, .bool f_151, vI f_152, vU f_153, vU f_154, vU f_155, .slice A_157 f_156.length c_158, vI f_159, .bool f_160, vI f_161, .bool f_162, vU f_163, .string (bs f_164), vI f_165]⟩, ⟨41, b_34, [vI f_166, vU f_167, vU f_168, vU f_169, .bool f_170, vI f_171, vU f_172, vU f_173, vU f_174, .slice A_176 f_175.length c_177, vI f_178, .bool f_179, vI f_180, .bool f_181, vU f_182, vI f_183]⟩]) (ps := [b_34 = b_34]) (by kernel_rfl) (And.intro rfl trivial) ?_
      refine GoO.regionEnd ?_
      exact GoO.sub (ks := [5, 7, 54, 55, 56, 180]) (hk := [0, 1]) (bk := [0, 1, 2]) (by kernel_rfl) (by kernel_rfl) (by kernel_rfl) (tontinelaw21_ClientRuns_j5_ok n L1 calls_2 f_35 f_36 f_37 f_38 f_39 f_40 f_41 f_42 f_43 f_44 f_47 f_48 f_49 f_50 f_51 f_52 f_53 f_54 f_55 f_56 f_57 f_58 f_59 f_60 f_61 f_62 f_63 f_66 f_67 f_68 f_69 f_70 f_71 x_72 f_147 f_148 f_149 f_150 f_151 f_152 f_153 f_154 f_155 f_156 f_159 f_160 f_161 f_162 f_163 f_164 f_165 f_166 f_167 f_168 f_169 f_170 f_171 f_172 f_173 f_174 f_175 f_178 f_179 f_180 f_181 f_182 f_183 A_3 c_4 c_10 b_34 A_45 c_46 A_64 c_65 A_157 c_158 A_176 c_177 w0 S0 ih1 (!(r_184.2.2 == f_170)))
theorem tontinelaw21_ClientRuns_j6_ok (n : Nat) (L1 : Int → Int → Int → Int → Bool → Int → Int → Int → Int → (List T_api_Step) → Int → Bool → Int → Bool → Int → (List UInt8) → Int → Int → Int → Int → Int → Bool → Int → Int → Int → Int → (List T_api_Step) → Int → Bool → Int → Bool → Int → Int → Int → Option Bool) (calls_2 : (List T_tontinelaw21_Call)) (f_35 : Int) (f_36 : Int) (f_37 : Int) (f_38 : Int) (f_39 : Bool) (f_40 : Int) (f_41 : Int) (f_42 : Int) (f_43 : Int) (f_44 : (List T_api_Step)) (f_47 : Int) (f_48 : Bool) (f_49 : Int) (f_50 : Bool) (f_51 : Int) (f_52 : (List UInt8)) (f_53 : Int) (f_54 : Int) (f_55 : Int) (f_56 : Int) (f_57 : Int) (f_58 : Bool) (f_59 : Int) (f_60 : Int) (f_61 : Int) (f_62 : Int) (f_63 : (List T_api_Step)) (f_66 : Int) (f_67 : Bool) (f_68 : Int) (f_69 : Bool) (f_70 : Int) (f_71 : Int) (x_72 : Int) (r_81 : T_api_Letter × Int × T_client_Client) (r_87 : T_api_Letter × Int × T_tontineref21_Client) (A_3 : Option Addr) (c_4 : Nat) (c_10 : Nat) (b_34 : Nat) (A_45 : Option Addr) (c_46 : Nat) (A_64 : Option Addr) (c_65 : Nat) (A_84 : Option Addr) (c_85 : Nat) (A_90 : Option Addr) (c_91 : Nat) (w0 : World) (S0 : Fam) (ih1 : ∀ (f_35 : Int) (f_36 : Int) (f_37 : Int) (f_38 : Int) (f_39 : Bool) (f_40 : Int) (f_41 : Int) (f_42 : Int) (f_43 : Int) (f_44 : (List T_api_Step)) (f_47 : Int) (f_48 : Bool) (f_49 : Int) (f_50 : Bool) (f_51 : Int) (f_52 : (List UInt8)) (f_53 : Int) (f_54 : Int) (f_55 : Int) (f_56 : Int) (f_57 : Int) (f_58 : Bool) (f_59 : Int) (f_60 : Int) (f_61 : Int) (f_62 : Int) (f_63 : (List T_api_Step)) (f_66 : Int) (f_67 : Bool) (f_68 : Int) (f_69 : Bool) (f_70 : Int) (f_71 : Int) (x_72 : Int) (A_45 : Option Addr) (c_46 : Nat) (A_64 : Option Addr) (c_65 : Nat), GoO (tontinelaw21_ClientRuns.cx A_3 c_4 w0 S0) [(5, vP c_10), (7, vP b_34), (54, .slice A_3 calls_2.length c_4), (55, vI (calls_2.length : Int)), (56, vI x_72)] [⟨40, c_10, [vI f_35, vU f_36, vU f_37, vU f_38, .bool f_39, vI f_40, vU f_41, vU f_42, vU f_43, .slice A_45 f_44.length c_46, vI f_47, .bool f_48, vI f_49, .bool f_50, vU f_51, .string (bs f_52), vI f_53]⟩, ⟨41, b_34, [vI f_54, vU f_55, vU f_56, vU f_57, .bool f_58, vI f_59, vU f_60, vU f_61, vU f_62, .slice A_64 f_63.length c_65, vI f_66, .bool f_67, vI f_68, .bool f_69, vU f_70, vI f_71]⟩] [Rd 0 kT_api_Step A_45 c_46 f_44, Rd 0 kT_api_Step A_64 c_65 f_63, Rd 0 kT_tontinelaw21_Call A_3 c_4 calls_2] [.code c11_35, .inLoop c11_35, .inBlock 0, .code c11_108] (L1 f_35 f_36 f_37 f_38 f_39 f_40 f_41 f_42 f_43 f_44 f_47 f_48 f_49 f_50 f_51 f_52 f_53 f_54 f_55 f_56 f_57 f_58 f_59 f_60 f_61 f_62 f_63 f_66 f_67 f_68 f_69 f_70 f_71 x_72)) (b_95 : Bool) :
    GoO (tontinelaw21_ClientRuns.cx A_3 c_4 w0 S0) [(5, vP c_10), (7, vP b_34), (54, .slice A_3 calls_2.length c_4), (55, vI (calls_2.length : Int)), (56, vI x_72), (91, .bool b_95)] [⟨40, c_10, [vI r_81.2.2.id, vU r_81.2.2.session, vU r_81.2.2.seq, vU r_81.2.2.call, .bool r_81.2.2.busy, vI r_81.2.2.now.Kind, vU r_81.2.2.now.Session, vU r_81.2.2.now.Seq, vU r_81.2.2.now.Saga, .slice A_84 r_81.2.2.now.Steps.length c_85, vI r_81.2.2.now.Step, .bool r_81.2.2.now.Back, vI r_81.2.2.now.Try, .bool r_81.2.2.now.Ok, vU r_81.2.2.now.Now, .string (bs r_81.2.2.data), vI r_81.2.2.to_]⟩, ⟨41, b_34, [vI r_87.2.2.Id, vU r_87.2.2.Session, vU r_87.2.2.Last, vU r_87.2.2.Calls, .bool r_87.2.2.Busy, vI r_87.2.2.Now.Kind, vU r_87.2.2.Now.Session, vU r_87.2.2.Now.Seq, vU r_87.2.2.Now.Saga, .slice A_90 r_87.2.2.Now.Steps.length c_91, vI r_87.2.2.Now.Step, .bool r_87.2.2.Now.Back, vI r_87.2.2.Now.Try, .bool r_87.2.2.Now.Ok, vU r_87.2.2.Now.Now, vI r_87.2.2.To]⟩] [Rd 0 kT_api_Step A_84 c_85 r_81.2.2.now.Steps, Rd 0 kT_api_Step A_90 c_91 r_87.2.2.Now.Steps, Rd 0 kT_tontinelaw21_Call A_3 c_4 calls_2] [.code c11_58, .inBlock 2, .code c11_98, .inBlock 1, .code c11_107, .inLoop c11_35, .inBlock 0, .code c11_108] (tontinelaw21_ClientRuns.j6 n L1 x_72 r_81 r_87 b_95) := by
  unfold tontinelaw21_ClientRuns.j6
  refine GoO.ite' c11_58e (by kernel_rfl) (fun h96 => ?_) (fun h96 => ?_)
  · refine GoO.seq' c11_59e ?_
    refine GoO.region' (is := [0]) c11_60e (by kernel_rfl) ?_
    refine GoO.exec (is := [0]) (hs := [.p]) (rest := []) (ks := [4]) (env' := [(4, .bool false)]) (H' := [⟨40, c_10, [vI r_81.2.2.id, vU r_81.2.2.session, vU r_81.2.2.seq, vU r_81.2.2.call, .bool r_81.2.2.busy, vI r_81.2.2.now.Kind, vU r_81.2.2.now.Session, vU r_81.2.2.now.Seq, vU r_81.2.2.now.Saga, .slice A_84 r_81.2.2.now.Steps.length c_85, vI r_81.2.2.now.Step, .bool r_81.2.2.now.Back, vI r_81.2.2.now.Try, .bool r_81.2.2.now.Ok, vU r_81.2.2.now.Now, .string (bs r_81.2.2.data), vI r_81.2.2.to_]⟩, ⟨41, b_34, [vI r_87.2.2.Id, vU r_87.2.2.Session, vU r_87.2.2.Last, vU r_87.2.2.Calls, .bool r_87.2.2.Busy, vI r_87.2.2.Now.Kind, vU r_87.2.2.Now.Session, vU r_87.2.2.Now.Seq, vU r_87.2.2.Now.Saga, .slice A_90 r_87.2.2.Now.Steps.length c_91, vI r_87.2.2.Now.Step, .bool r_87.2.2.Now.Back, vI r_87.2.2.Now.Try, .bool r_87.2.2.Now.Ok, vU r_87.2.2.Now.Now, vI r_87.2.2.To]⟩]) (ps := []) (by kernel_rfl) trivial ?_
    refine GoO.regionEnd ?_
    exact GoO.ret' (h := c11_61e) (hs := []) (ps := []) (hk := []) (bk := []) Try.func11 () (by kernel_rfl) trivial (by kernel_rfl) (by kernel_rfl)
  · refine GoO.skip' c11_62e ?_
    exact GoO.sub (ks := [5, 7, 54, 55, 56]) (hk := [0, 1]) (bk := [0, 1, 2]) (by kernel_rfl) (by kernel_rfl) (by kernel_rfl) (tontinelaw21_ClientRuns_j4_ok n L1 calls_2 f_35 f_36 f_37 f_38 f_39 f_40 f_41 f_42 f_43 f_44 f_47 f_48 f_49 f_50 f_51 f_52 f_53 f_54 f_55 f_56 f_57 f_58 f_59 f_60 f_61 f_62 f_63 f_66 f_67 f_68 f_69 f_70 f_71 x_72 A_3 c_4 c_10 b_34 A_45 c_46 A_64 c_65 w0 S0 ih1 r_81.2.2.id r_81.2.2.session r_81.2.2.seq r_81.2.2.call r_81.2.2.busy r_81.2.2.now.Kind r_81.2.2.now.Session r_81.2.2.now.Seq r_81.2.2.now.Saga r_81.2.2.now.Steps r_81.2.2.now.Step r_81.2.2.now.Back r_81.2.2.now.Try r_81.2.2.now.Ok r_81.2.2.now.Now r_81.2.2.data r_81.2.2.to_ r_87.2.2.Id r_87.2.2.Session r_87.2.2.Last r_87.2.2.Calls r_87.2.2.Busy r_87.2.2.Now.Kind r_87.2.2.Now.Session r_87.2.2.Now.Seq r_87.2.2.Now.Saga r_87.2.2.Now.Steps r_87.2.2.Now.Step r_87.2.2.Now.Back r_87.2.2.Now.Try r_87.2.2.Now.Ok r_87.2.2.Now.Now r_87.2.2.To A_84 c_85 A_90 c_91)
theorem tontinelaw21_ClientRuns_j7_ok (n : Nat) (L1 : Int → Int → Int → Int → Bool → Int → Int → Int → Int → (List T_api_Step) → Int → Bool → Int → Bool → Int → (List UInt8) → Int → Int → Int → Int → Int → Bool → Int → Int → Int → Int → (List T_api_Step) → Int → Bool → Int → Bool → Int → Int → Int → Option Bool) (calls_2 : (List T_tontinelaw21_Call)) (f_35 : Int) (f_36 : Int) (f_37 : Int) (f_38 : Int) (f_39 : Bool) (f_40 : Int) (f_41 : Int) (f_42 : Int) (f_43 : Int) (f_44 : (List T_api_Step)) (f_47 : Int) (f_48 : Bool) (f_49 : Int) (f_50 : Bool) (f_51 : Int) (f_52 : (List UInt8)) (f_53 : Int) (f_54 : Int) (f_55 : Int) (f_56 : Int) (f_57 : Int) (f_58 : Bool) (f_59 : Int) (f_60 : Int) (f_61 : Int) (f_62 : Int) (f_63 : (List T_api_Step)) (f_66 : Int) (f_67 : Bool) (f_68 : Int) (f_69 : Bool) (f_70 : Int) (f_71 : Int) (x_72 : Int) (r_100 : T_api_Letter × Int × T_client_Client) (r_106 : T_api_Letter × Int × T_tontineref21_Client) (A_3 : Option Addr) (c_4 : Nat) (c_10 : Nat) (b_34 : Nat) (A_45 : Option Addr) (c_46 : Nat) (A_64 : Option Addr) (c_65 : Nat) (A_103 : Option Addr) (c_104 : Nat) (A_109 : Option Addr) (c_110 : Nat) (w0 : World) (S0 : Fam) (ih1 : ∀ (f_35 : Int) (f_36 : Int) (f_37 : Int) (f_38 : Int) (f_39 : Bool) (f_40 : Int) (f_41 : Int) (f_42 : Int) (f_43 : Int) (f_44 : (List T_api_Step)) (f_47 : Int) (f_48 : Bool) (f_49 : Int) (f_50 : Bool) (f_51 : Int) (f_52 : (List UInt8)) (f_53 : Int) (f_54 : Int) (f_55 : Int) (f_56 : Int) (f_57 : Int) (f_58 : Bool) (f_59 : Int) (f_60 : Int) (f_61 : Int) (f_62 : Int) (f_63 : (List T_api_Step)) (f_66 : Int) (f_67 : Bool) (f_68 : Int) (f_69 : Bool) (f_70 : Int) (f_71 : Int) (x_72 : Int) (A_45 : Option Addr) (c_46 : Nat) (A_64 : Option Addr) (c_65 : Nat), GoO (tontinelaw21_ClientRuns.cx A_3 c_4 w0 S0) [(5, vP c_10), (7, vP b_34), (54, .slice A_3 calls_2.length c_4), (55, vI (calls_2.length : Int)), (56, vI x_72)] [⟨40, c_10, [vI f_35, vU f_36, vU f_37, vU f_38, .bool f_39, vI f_40, vU f_41, vU f_42, vU f_43, .slice A_45 f_44.length c_46, vI f_47, .bool f_48, vI f_49, .bool f_50, vU f_51, .string (bs f_52), vI f_53]⟩, ⟨41, b_34, [vI f_54, vU f_55, vU f_56, vU f_57, .bool f_58, vI f_59, vU f_60, vU f_61, vU f_62, .slice A_64 f_63.length c_65, vI f_66, .bool f_67, vI f_68, .bool f_69, vU f_70, vI f_71]⟩] [Rd 0 kT_api_Step A_45 c_46 f_44, Rd 0 kT_api_Step A_64 c_65 f_63, Rd 0 kT_tontinelaw21_Call A_3 c_4 calls_2] [.code c11_35, .inLoop c11_35, .inBlock 0, .code c11_108] (L1 f_35 f_36 f_37 f_38 f_39 f_40 f_41 f_42 f_43 f_44 f_47 f_48 f_49 f_50 f_51 f_52 f_53 f_54 f_55 f_56 f_57 f_58 f_59 f_60 f_61 f_62 f_63 f_66 f_67 f_68 f_69 f_70 f_71 x_72)) (b_114 : Bool) :
    GoO (tontinelaw21_ClientRuns.cx A_3 c_4 w0 S0) [(5, vP c_10), (7, vP b_34), (54, .slice A_3 calls_2.length c_4), (55, vI (calls_2.length : Int)), (56, vI x_72), (112, .bool b_114)] [⟨40, c_10, [vI r_100.2.2.id, vU r_100.2.2.session, vU r_100.2.2.seq, vU r_100.2.2.call, .bool r_100.2.2.busy, vI r_100.2.2.now.Kind, vU r_100.2.2.now.Session, vU r_100.2.2.now.Seq, vU r_100.2.2.now.Saga, .slice A_103 r_100.2.2.now.Steps.length c_104, vI r_100.2.2.now.Step, .bool r_100.2.2.now.Back, vI r_100.2.2.now.Try, .bool r_100.2.2.now.Ok, vU r_100.2.2.now.Now, .string (bs r_100.2.2.data), vI r_100.2.2.to_]⟩, ⟨41, b_34, [vI r_106.2.2.Id, vU r_106.2.2.Session, vU r_106.2.2.Last, vU r_106.2.2.Calls, .bool r_106.2.2.Busy, vI r_106.2.2.Now.Kind, vU r_106.2.2.Now.Session, vU r_106.2.2.Now.Seq, vU r_106.2.2.Now.Saga, .slice A_109 r_106.2.2.Now.Steps.length c_110, vI r_106.2.2.Now.Step, .bool r_106.2.2.Now.Back, vI r_106.2.2.Now.Try, .bool r_106.2.2.Now.Ok, vU r_106.2.2.Now.Now, vI r_106.2.2.To]⟩] [Rd 0 kT_api_Step A_103 c_104 r_100.2.2.now.Steps, Rd 0 kT_api_Step A_109 c_110 r_106.2.2.Now.Steps, Rd 0 kT_tontinelaw21_Call A_3 c_4 calls_2] [.code c11_72, .inBlock 2, .code c11_98, .inBlock 1, .code c11_107, .inLoop c11_35, .inBlock 0, .code c11_108] (tontinelaw21_ClientRuns.j7 n L1 x_72 r_100 r_106 b_114) := by
  unfold tontinelaw21_ClientRuns.j7
  refine GoO.ite' c11_72e (by kernel_rfl) (fun h115 => ?_) (fun h115 => ?_)
  · refine GoO.seq' c11_73e ?_
    refine GoO.region' (is := [0]) c11_74e (by kernel_rfl) ?_
    refine GoO.exec (is := [0]) (hs := [.p]) (rest := []) (ks := [4]) (env' := [(4, .bool false)]) (H' := [⟨40, c_10, [vI r_100.2.2.id, vU r_100.2.2.session, vU r_100.2.2.seq, vU r_100.2.2.call, .bool r_100.2.2.busy, vI r_100.2.2.now.Kind, vU r_100.2.2.now.Session, vU r_100.2.2.now.Seq, vU r_100.2.2.now.Saga, .slice A_103 r_100.2.2.now.Steps.length c_104, vI r_100.2.2.now.Step, .bool r_100.2.2.now.Back, vI r_100.2.2.now.Try, .bool r_100.2.2.now.Ok, vU r_100.2.2.now.Now, .string (bs r_100.2.2.data), vI r_100.2.2.to_]⟩, ⟨41, b_34, [vI r_106.2.2.Id, vU r_106.2.2.Session, vU r_106.2.2.Last, vU r_106.2.2.Calls, .bool r_106.2.2.Busy, vI r_106.2.2.Now.Kind, vU r_106.2.2.Now.Session, vU r_106.2.2.Now.Seq, vU r_106.2.2.Now.Saga, .slice A_109 r_106.2.2.Now.Steps.length c_110, vI r_106.2.2.Now.Step, .bool r_106.2.2.Now.Back, vI r_106.2.2.Now.Try, .bool r_106.2.2.Now.Ok, vU r_106.2.2.Now.Now, vI r_106.2.2.To]⟩]) (ps := []) (by kernel_rfl) trivial ?_
    refine GoO.regionEnd ?_
    exact GoO.ret' (h := c11_75e) (hs := []) (ps := []) (hk := []) (bk := []) Try.func11 () (by kernel_rfl) trivial (by kernel_rfl) (by kernel_rfl)
  · refine GoO.skip' c11_76e ?_
    exact GoO.sub (ks := [5, 7, 54, 55, 56]) (hk := [0, 1]) (bk := [0, 1, 2]) (by kernel_rfl) (by kernel_rfl) (by kernel_rfl) (tontinelaw21_ClientRuns_j4_ok n L1 calls_2 f_35 f_36 f_37 f_38 f_39 f_40 f_41 f_42 f_43 f_44 f_47 f_48 f_49 f_50 f_51 f_52 f_53 f_54 f_55 f_56 f_57 f_58 f_59 f_60 f_61 f_62 f_63 f_66 f_67 f_68 f_69 f_70 f_71 x_72 A_3 c_4 c_10 b_34 A_45 c_46 A_64 c_65 w0 S0 ih1 r_100.2.2.id r_100.2.2.session r_100.2.2.seq r_100.2.2.call r_100.2.2.busy r_100.2.2.now.Kind r_100.2.2.now.Session r_100.2.2.now.Seq r_100.2.2.now.Saga r_100.2.2.now.Steps r_100.2.2.now.Step r_100.2.2.now.Back r_100.2.2.now.Try r_100.2.2.now.Ok r_100.2.2.now.Now r_100.2.2.data r_100.2.2.to_ r_106.2.2.Id r_106.2.2.Session r_106.2.2.Last r_106.2.2.Calls r_106.2.2.Busy r_106.2.2.Now.Kind r_106.2.2.Now.Session r_106.2.2.Now.Seq r_106.2.2.Now.Saga r_106.2.2.Now.Steps r_106.2.2.Now.Step r_106.2.2.Now.Back r_106.2.2.Now.Try r_106.2.2.Now.Ok r_106.2.2.Now.Now r_106.2.2.To A_103 c_104 A_109 c_110)
theorem tontinelaw21_ClientRuns_j8_ok (n : Nat) (L1 : Int → Int → Int → Int → Bool → Int → Int → Int → Int → (List T_api_Step) → Int → Bool → Int → Bool → Int → (List UInt8) → Int → Int → Int → Int → Int → Bool → Int → Int → Int → Int → (List T_api_Step) → Int → Bool → Int → Bool → Int → Int → Int → Option Bool) (calls_2 : (List T_tontinelaw21_Call)) (f_35 : Int) (f_36 : Int) (f_37 : Int) (f_38 : Int) (f_39 : Bool) (f_40 : Int) (f_41 : Int) (f_42 : Int) (f_43 : Int) (f_44 : (List T_api_Step)) (f_47 : Int) (f_48 : Bool) (f_49 : Int) (f_50 : Bool) (f_51 : Int) (f_52 : (List UInt8)) (f_53 : Int) (f_54 : Int) (f_55 : Int) (f_56 : Int) (f_57 : Int) (f_58 : Bool) (f_59 : Int) (f_60 : Int) (f_61 : Int) (f_62 : Int) (f_63 : (List T_api_Step)) (f_66 : Int) (f_67 : Bool) (f_68 : Int) (f_69 : Bool) (f_70 : Int) (f_71 : Int) (x_72 : Int) (r_119 : T_api_Told × Bool × T_api_Letter × Bool × T_client_Client) (r_128 : T_api_Told × Bool × T_api_Letter × Bool × T_tontineref21_Client) (A_3 : Option Addr) (c_4 : Nat) (c_10 : Nat) (b_34 : Nat) (A_45 : Option Addr) (c_46 : Nat) (A_64 : Option Addr) (c_65 : Nat) (A_124 : Option Addr) (c_125 : Nat) (A_133 : Option Addr) (c_134 : Nat) (w0 : World) (S0 : Fam) (ih1 : ∀ (f_35 : Int) (f_36 : Int) (f_37 : Int) (f_38 : Int) (f_39 : Bool) (f_40 : Int) (f_41 : Int) (f_42 : Int) (f_43 : Int) (f_44 : (List T_api_Step)) (f_47 : Int) (f_48 : Bool) (f_49 : Int) (f_50 : Bool) (f_51 : Int) (f_52 : (List UInt8)) (f_53 : Int) (f_54 : Int) (f_55 : Int) (f_56 : Int) (f_57 : Int) (f_58 : Bool) (f_59 : Int) (f_60 : Int) (f_61 : Int) (f_62 : Int) (f_63 : (List T_api_Step)) (f_66 : Int) (f_67 : Bool) (f_68 : Int) (f_69 : Bool) (f_70 : Int) (f_71 : Int) (x_72 : Int) (A_45 : Option Addr) (c_46 : Nat) (A_64 : Option Addr) (c_65 : Nat), GoO (tontinelaw21_ClientRuns.cx A_3 c_4 w0 S0) [(5, vP c_10), (7, vP b_34), (54, .slice A_3 calls_2.length c_4), (55, vI (calls_2.length : Int)), (56, vI x_72)] [⟨40, c_10, [vI f_35, vU f_36, vU f_37, vU f_38, .bool f_39, vI f_40, vU f_41, vU f_42, vU f_43, .slice A_45 f_44.length c_46, vI f_47, .bool f_48, vI f_49, .bool f_50, vU f_51, .string (bs f_52), vI f_53]⟩, ⟨41, b_34, [vI f_54, vU f_55, vU f_56, vU f_57, .bool f_58, vI f_59, vU f_60, vU f_61, vU f_62, .slice A_64 f_63.length c_65, vI f_66, .bool f_67, vI f_68, .bool f_69, vU f_70, vI f_71]⟩] [Rd 0 kT_api_Step A_45 c_46 f_44, Rd 0 kT_api_Step A_64 c_65 f_63, Rd 0 kT_tontinelaw21_Call A_3 c_4 calls_2] [.code c11_35, .inLoop c11_35, .inBlock 0, .code c11_108] (L1 f_35 f_36 f_37 f_38 f_39 f_40 f_41 f_42 f_43 f_44 f_47 f_48 f_49 f_50 f_51 f_52 f_53 f_54 f_55 f_56 f_57 f_58 f_59 f_60 f_61 f_62 f_63 f_66 f_67 f_68 f_69 f_70 f_71 x_72)) (b_142 : Bool) :
    GoO (tontinelaw21_ClientRuns.cx A_3 c_4 w0 S0) [(5, vP c_10), (7, vP b_34), (54, .slice A_3 calls_2.length c_4), (55, vI (calls_2.length : Int)), (56, vI x_72), (152, .bool b_142)] [⟨40, c_10, [vI r_119.2.2.2.2.id, vU r_119.2.2.2.2.session, vU r_119.2.2.2.2.seq, vU r_119.2.2.2.2.call, .bool r_119.2.2.2.2.busy, vI r_119.2.2.2.2.now.Kind, vU r_119.2.2.2.2.now.Session, vU r_119.2.2.2.2.now.Seq, vU r_119.2.2.2.2.now.Saga, .slice A_124 r_119.2.2.2.2.now.Steps.length c_125, vI r_119.2.2.2.2.now.Step, .bool r_119.2.2.2.2.now.Back, vI r_119.2.2.2.2.now.Try, .bool r_119.2.2.2.2.now.Ok, vU r_119.2.2.2.2.now.Now, .string (bs r_119.2.2.2.2.data), vI r_119.2.2.2.2.to_]⟩, ⟨41, b_34, [vI r_128.2.2.2.2.Id, vU r_128.2.2.2.2.Session, vU r_128.2.2.2.2.Last, vU r_128.2.2.2.2.Calls, .bool r_128.2.2.2.2.Busy, vI r_128.2.2.2.2.Now.Kind, vU r_128.2.2.2.2.Now.Session, vU r_128.2.2.2.2.Now.Seq, vU r_128.2.2.2.2.Now.Saga, .slice A_133 r_128.2.2.2.2.Now.Steps.length c_134, vI r_128.2.2.2.2.Now.Step, .bool r_128.2.2.2.2.Now.Back, vI r_128.2.2.2.2.Now.Try, .bool r_128.2.2.2.2.Now.Ok, vU r_128.2.2.2.2.Now.Now, vI r_128.2.2.2.2.To]⟩] [Rd 0 kT_api_Step A_124 c_125 r_119.2.2.2.2.now.Steps, Rd 0 kT_api_Step A_133 c_134 r_128.2.2.2.2.Now.Steps, Rd 0 kT_tontinelaw21_Call A_3 c_4 calls_2] [.code c11_86, .inBlock 2, .code c11_98, .inBlock 1, .code c11_107, .inLoop c11_35, .inBlock 0, .code c11_108] (tontinelaw21_ClientRuns.j8 n L1 x_72 r_119 r_128 b_142) := by
  unfold tontinelaw21_ClientRuns.j8
  refine GoO.ite' c11_86e (by kernel_rfl) (fun h143 => ?_) (fun h143 => ?_)
  · refine GoO.seq' c11_87e ?_
    refine GoO.region' (is := [0]) c11_88e (by kernel_rfl) ?_
    refine GoO.exec (is := [0]) (hs := [.p]) (rest := []) (ks := [4]) (env' := [(4, .bool false)]) (H' := [⟨40, c_10, [vI r_119.2.2.2.2.id, vU r_119.2.2.2.2.session, vU r_119.2.2.2.2.seq, vU r_119.2.2.2.2.call, .bool r_119.2.2.2.2.busy, vI r_119.2.2.2.2.now.Kind, vU r_119.2.2.2.2.now.Session, vU r_119.2.2.2.2.now.Seq, vU r_119.2.2.2.2.now.Saga, .slice A_124 r_119.2.2.2.2.now.Steps.length c_125, vI r_119.2.2.2.2.now.Step, .bool r_119.2.2.2.2.now.Back, vI r_119.2.2.2.2.now.Try, .bool r_119.2.2.2.2.now.Ok, vU r_119.2.2.2.2.now.Now, .string (bs r_119.2.2.2.2.data), vI r_119.2.2.2.2.to_]⟩, ⟨41, b_34, [vI r_128.2.2.2.2.Id, vU r_128.2.2.2.2.Session, vU r_128.2.2.2.2.Last, vU r_128.2.2.2.2.Calls, .bool r_128.2.2.2.2.Busy, vI r_128.2.2.2.2.Now.Kind, vU r_128.2.2.2.2.Now.Session, vU r_128.2.2.2.2.Now.Seq, vU r_128.2.2.2.2.Now.Saga, .slice A_133 r_128.2.2.2.2.Now.Steps.length c_134, vI r_128.2.2.2.2.Now.Step, .bool r_128.2.2.2.2.Now.Back, vI r_128.2.2.2.2.Now.Try, .bool r_128.2.2.2.2.Now.Ok, vU r_128.2.2.2.2.Now.Now, vI r_128.2.2.2.2.To]⟩]) (ps := []) (by kernel_rfl) trivial ?_
    refine GoO.regionEnd ?_
    exact GoO.ret' (h := c11_89e) (hs := []) (ps := []) (hk := []) (bk := []) Try.func11 () (by kernel_rfl) trivial (by kernel_rfl) (by kernel_rfl)
  · refine GoO.skip' c11_90e ?_
    exact GoO.sub (ks := [5, 7, 54, 55, 56]) (hk := [0, 1]) (bk := [0, 1, 2]) (by kernel_rfl) (by kernel_rfl) (by kernel_rfl) (tontinelaw21_ClientRuns_j4_ok n L1 calls_2 f_35 f_36 f_37 f_38 f_39 f_40 f_41 f_42 f_43 f_44 f_47 f_48 f_49 f_50 f_51 f_52 f_53 f_54 f_55 f_56 f_57 f_58 f_59 f_60 f_61 f_62 f_63 f_66 f_67 f_68 f_69 f_70 f_71 x_72 A_3 c_4 c_10 b_34 A_45 c_46 A_64 c_65 w0 S0 ih1 r_119.2.2.2.2.id r_119.2.2.2.2.session r_119.2.2.2.2.seq r_119.2.2.2.2.call r_119.2.2.2.2.busy r_119.2.2.2.2.now.Kind r_119.2.2.2.2.now.Session r_119.2.2.2.2.now.Seq r_119.2.2.2.2.now.Saga r_119.2.2.2.2.now.Steps r_119.2.2.2.2.now.Step r_119.2.2.2.2.now.Back r_119.2.2.2.2.now.Try r_119.2.2.2.2.now.Ok r_119.2.2.2.2.now.Now r_119.2.2.2.2.data r_119.2.2.2.2.to_ r_128.2.2.2.2.Id r_128.2.2.2.2.Session r_128.2.2.2.2.Last r_128.2.2.2.2.Calls r_128.2.2.2.2.Busy r_128.2.2.2.2.Now.Kind r_128.2.2.2.2.Now.Session r_128.2.2.2.2.Now.Seq r_128.2.2.2.2.Now.Saga r_128.2.2.2.2.Now.Steps r_128.2.2.2.2.Now.Step r_128.2.2.2.2.Now.Back r_128.2.2.2.2.Now.Try r_128.2.2.2.2.Now.Ok r_128.2.2.2.2.Now.Now r_128.2.2.2.2.To A_124 c_125 A_133 c_134)
end Go.GL
