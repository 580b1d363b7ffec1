import Derived.Test.YtolipnnfdclkoaaXG13
set_option linter.unusedVariables false
namespace Go.GL
open Go
structure T_api_Snapshot where
  Index : Int
  Term : Int
  Config : Int
  Data : (List UInt8)
  deriving DecidableEq
instance : Inhabited T_api_Snapshot := ⟨⟨0, 0, 0, []⟩⟩
structure T_api_Entry where
  Term : Int
  Index : Int
  Kind : Int
  Data : (List UInt8)
  deriving DecidableEq
instance : Inhabited T_api_Entry := ⟨⟨0, 0, 0, []⟩⟩
structure T_tontinelaw07_Call where
  Kind : Int
  Index : Int
  Term : Int
  What : Int
  Data : (List UInt8)
  L : (List T_api_Entry)
  Snap : T_api_Snapshot
  deriving DecidableEq
instance : Inhabited T_tontinelaw07_Call := ⟨⟨0, 0, 0, 0, [], [], ⟨0, 0, 0, []⟩⟩⟩
structure T_rlog_Log where
  snap : T_api_Snapshot
  entries : (List T_api_Entry)
  deriving DecidableEq
instance : Inhabited T_rlog_Log := ⟨⟨⟨0, 0, 0, []⟩, []⟩⟩
structure T_pack_Reader where
  s : (List UInt8)
  bad : Bool
  deriving DecidableEq
instance : Inhabited T_pack_Reader := ⟨⟨[], false⟩⟩
structure T_tontineref03_Reader where
  S_ : (List UInt8)
  Bad : Bool
  deriving DecidableEq
instance : Inhabited T_tontineref03_Reader := ⟨⟨[], false⟩⟩
structure T_tontineref07_Log where
  Snap : T_api_Snapshot
  L : (List T_api_Entry)
  deriving DecidableEq
instance : Inhabited T_tontineref07_Log := ⟨⟨⟨0, 0, 0, []⟩, []⟩⟩
structure T_pack_Writer where
  b : (List UInt8)
  deriving DecidableEq
instance : Inhabited T_pack_Writer := ⟨⟨[]⟩⟩
structure T_api_Step where
  Part : Int
  Name : (List UInt8)
  Budget : Int
  deriving DecidableEq
instance : Inhabited T_api_Step := ⟨⟨0, [], 0⟩⟩
structure T_api_Command where
  Kind : Int
  Session : Int
  Seq : Int
  Saga : Int
  Steps : (List T_api_Step)
  Step : Int
  Back : Bool
  Try : Int
  Ok : Bool
  Now : Int
  deriving DecidableEq
instance : Inhabited T_api_Command := ⟨⟨0, 0, 0, 0, [], 0, false, 0, false, 0⟩⟩
structure T_client_Client where
  id : Int
  session : Int
  seq : Int
  call : Int
  busy : Bool
  now : T_api_Command
  data : (List UInt8)
  to_ : Int
  deriving DecidableEq
instance : Inhabited T_client_Client := ⟨⟨0, 0, 0, 0, false, ⟨0, 0, 0, 0, [], 0, false, 0, false, 0⟩, [], 0⟩⟩
structure T_api_Letter where
  Kind : Int
  From : Int
  To : Int
  Term : Int
  Index : Int
  Prev : Int
  Commit : Int
  Ok : Bool
  Entries : (List T_api_Entry)
  Data : (List UInt8)
  deriving DecidableEq
instance : Inhabited T_api_Letter := ⟨⟨0, 0, 0, 0, 0, 0, 0, false, [], []⟩⟩
structure T_api_Reply where
  Err : Int
  Num : Int
  Extra : Int
  deriving DecidableEq
instance : Inhabited T_api_Reply := ⟨⟨0, 0, 0⟩⟩
structure T_api_Told where
  Client : Int
  Command : T_api_Command
  Reply : T_api_Reply
  deriving DecidableEq
instance : Inhabited T_api_Told := ⟨⟨0, ⟨0, 0, 0, 0, [], 0, false, 0, false, 0⟩, ⟨0, 0, 0⟩⟩⟩
structure T_tontinelaw21_Call where
  Kind : Int
  Command : T_api_Command
  Letter : T_api_Letter
  deriving DecidableEq
instance : Inhabited T_tontinelaw21_Call := ⟨⟨0, ⟨0, 0, 0, 0, [], 0, false, 0, false, 0⟩, ⟨0, 0, 0, 0, 0, 0, 0, false, [], []⟩⟩⟩
structure T_tontineref21_Client where
  Id : Int
  Session : Int
  Last : Int
  Calls : Int
  Busy : Bool
  Now : T_api_Command
  To : Int
  deriving DecidableEq
instance : Inhabited T_tontineref21_Client := ⟨⟨0, 0, 0, 0, false, ⟨0, 0, 0, 0, [], 0, false, 0, false, 0⟩, 0⟩⟩
def quorum_Sound.f (n : Nat) (c_1 : Int) : Option Bool :=
  (if (c_1 != 0) then (some ((bAndNot .u64 c_1 127) == 0)) else (some false))
def rlog_Log_Last.f (n : Nat) (g_1 : T_rlog_Log) : Option (Int × Int) :=
  (if decide ((g_1.entries.length : Int) > 0) then (if (0 : Int) ≤ (wi64 ((g_1.entries.length : Int) - 1)) ∧ (wi64 ((g_1.entries.length : Int) - 1)) < (g_1.entries.length : Int) then (if (0 : Int) ≤ (wi64 ((g_1.entries.length : Int) - 1)) ∧ (wi64 ((g_1.entries.length : Int) - 1)) < (g_1.entries.length : Int) then (some ((rdL g_1.entries (wi64 ((g_1.entries.length : Int) - 1))).Index, (rdL g_1.entries (wi64 ((g_1.entries.length : Int) - 1))).Term)) else none) else none) else (some (g_1.snap.Index, g_1.snap.Term)))
def pack_From.f (n : Nat) (s_1 : (List UInt8)) : Option T_pack_Reader :=
  (some (⟨s_1, false⟩ : T_pack_Reader))
def pack_Reader_fail.f (n : Nat) (r_1 : T_pack_Reader) : Option (Int × T_pack_Reader) :=
  (some (0, (⟨[], true⟩ : T_pack_Reader)))
def pack_Reader_Num.l0 (n : Nat) (r_1 : T_pack_Reader) : Nat → Int → Int → Option (Int × T_pack_Reader)
  | 0, _, _ => none
  | k + 1, x_15, i_16 => (if decide (i_16 ≤ (wi64 ((rdB r_1.s 0).toNat : Int))) then (if (0 : Int) ≤ i_16 ∧ i_16 < (r_1.s.length : Int) then ((pack_Reader_Num.l0 n r_1 k) (bOr .u64 (shL .u64 x_15 8) (wu64 ((rdB r_1.s i_16).toNat : Int))) (wi64 (i_16 + 1))) else none) else (if (0 : Int) ≤ (wi64 ((wi64 ((rdB r_1.s 0).toNat : Int)) + 1)) ∧ (wi64 ((wi64 ((rdB r_1.s 0).toNat : Int)) + 1)) ≤ (r_1.s.length : Int) then (some (x_15, (⟨r_1.s.drop (wi64 ((wi64 ((rdB r_1.s 0).toNat : Int)) + 1)).toNat, r_1.bad⟩ : T_pack_Reader))) else none))
def pack_Reader_Num.j0 (n : Nat) (r_1 : T_pack_Reader) (b_11 : Bool) : Option (Int × T_pack_Reader) :=
  (if b_11 then ((pack_Reader_fail.f n r_1).bind fun r_13 => (some (r_13.1, r_13.2))) else (pack_Reader_Num.l0 n r_1 n 0 1))
def pack_Reader_Num.f (n : Nat) (r_1 : T_pack_Reader) : Option (Int × T_pack_Reader) :=
  (if (r_1.s == ([] : List UInt8)) then ((pack_Reader_fail.f n r_1).bind fun r_4 => (some (r_4.1, r_4.2))) else (if (0 : Int) ≤ 0 ∧ 0 < (r_1.s.length : Int) then (if decide ((wi64 ((rdB r_1.s 0).toNat : Int)) > 8) then (pack_Reader_Num.j0 n r_1 true) else (if decide ((wi64 ((rdB r_1.s 0).toNat : Int)) > (wi64 ((r_1.s.length : Int) - 1))) then (pack_Reader_Num.j0 n r_1 true) else (if decide ((wi64 ((rdB r_1.s 0).toNat : Int)) > 0) then (if (0 : Int) ≤ 1 ∧ 1 < (r_1.s.length : Int) then (pack_Reader_Num.j0 n r_1 (((rdB r_1.s 1).toNat : Int) == 0)) else none) else (pack_Reader_Num.j0 n r_1 false)))) else none))
def pack_Reader_Left.f (n : Nat) (r_1 : T_pack_Reader) : Option (Int × Bool) :=
  (some ((r_1.s.length : Int), (!r_1.bad)))
def pack_Reader_Done.f (n : Nat) (r_1 : T_pack_Reader) : Option Bool :=
  ((pack_Reader_Left.f n r_1).bind fun r_3 => (if (r_3.1 == 0) then (some r_3.2) else (some false)))
def rlog_configOf.f (n : Nat) (s_1 : (List UInt8)) : Option (Int × Bool) :=
  ((pack_From.f n s_1).bind fun r_2 => ((pack_Reader_Num.f n r_2).bind fun r_4 => ((pack_Reader_Done.f n r_4.2).bind fun r_5 => (if r_5 then ((quorum_Sound.f n r_4.1).bind fun r_7 => (some (r_4.1, r_7))) else (some (r_4.1, false))))))
def rlog_sound.j0 (n : Nat) (e_1 : T_api_Entry) (b_10 : Bool) : Option Bool :=
  (if b_10 then (some false) else ((rlog_configOf.f n e_1.Data).bind fun r_12 => (if (e_1.Kind != 2) then (some true) else (some r_12.2))))
def rlog_sound.f (n : Nat) (e_1 : T_api_Entry) (index_2 : Int) (term_3 : Int) : Option Bool :=
  (if (index_2 == 0) then (rlog_sound.j0 n e_1 true) else (if (e_1.Index != index_2) then (rlog_sound.j0 n e_1 true) else (if decide (e_1.Term < term_3) then (rlog_sound.j0 n e_1 true) else (if decide (e_1.Kind < 0) then (rlog_sound.j0 n e_1 true) else (if decide (e_1.Kind > 2) then (rlog_sound.j0 n e_1 true) else (rlog_sound.j0 n e_1 (decide ((e_1.Data.length : Int) > 32768))))))))
def rlog_New.l0 (n : Nat) (s_1 : T_api_Snapshot) (l_2 : (List T_api_Entry)) : Nat → (List T_api_Entry) → Int → Option (Option T_rlog_Log × Int)
  | 0, _, _ => none
  | k + 1, f_9, x_12 => (if decide (x_12 < (l_2.length : Int)) then (if (0 : Int) ≤ x_12 ∧ x_12 < (l_2.length : Int) then ((rlog_Log_Last.f n (⟨s_1, f_9⟩ : T_rlog_Log)).bind fun r_16 => ((rlog_sound.f n (rdL l_2 x_12) (wu64 (r_16.1 + 1)) r_16.2).bind fun r_17 => (if (!r_17) then (some (none, 1)) else (if capOk 40 (f_9 ++ [(rdL l_2 x_12)]).length then ((rlog_New.l0 n s_1 l_2 k) (f_9 ++ [(rdL l_2 x_12)]) (wi64 (x_12 + 1))) else none)))) else none) else (some ((some (⟨s_1, f_9⟩ : T_rlog_Log)), 0)))
def rlog_New.f (n : Nat) (s_1 : T_api_Snapshot) (l_2 : (List T_api_Entry)) : Option (Option T_rlog_Log × Int) :=
  ((quorum_Sound.f n s_1.Config).bind fun r_6 => (if (!r_6) then (some (none, 1)) else (rlog_New.l0 n s_1 l_2 n ([] : List T_api_Entry) 0)))
def rlog_Log_at.j0 (n : Nat) (g_1 : T_rlog_Log) (i_5 : Int) (b_7 : Bool) : Option Int :=
  (if b_7 then (some (-1)) else (some (wi64 (wu64 ((wu64 (i_5 - g_1.snap.Index)) - 1)))))
def rlog_Log_at.f (n : Nat) (g_1 : T_rlog_Log) (i_5 : Int) : Option Int :=
  (if decide (i_5 ≤ g_1.snap.Index) then (rlog_Log_at.j0 n g_1 i_5 true) else (rlog_Log_at.j0 n g_1 i_5 (decide ((wu64 (i_5 - g_1.snap.Index)) > (wu64 (g_1.entries.length : Int))))))
def rlog_Log_Term.f (n : Nat) (g_1 : T_rlog_Log) (i_5 : Int) : Option (Int × Int) :=
  ((rlog_Log_at.f n (⟨(⟨g_1.snap.Index, g_1.snap.Term, g_1.snap.Config, g_1.snap.Data⟩ : T_api_Snapshot), g_1.entries⟩ : T_rlog_Log) i_5).bind fun r_6 => (if decide (r_6 ≥ 0) then (if (0 : Int) ≤ r_6 ∧ r_6 < (g_1.entries.length : Int) then (some ((rdL g_1.entries r_6).Term, 0)) else none) else (if (i_5 == g_1.snap.Index) then (some (g_1.snap.Term, 0)) else (some (0, 20)))))
def rlog_Log_Merge.j0 (n : Nat) (L0 : Int → Option ((List T_api_Entry) × Bool × T_rlog_Log)) (g_1 : T_rlog_Log) (index_5 : Int) (l_7 : (List T_api_Entry)) (x_10 : Int) (p_16 : Int) : Option ((List T_api_Entry) × Bool × T_rlog_Log) :=
  ((rlog_sound.f n (rdL l_7 x_10) (wu64 ((wu64 (index_5 + 1)) + (wu64 x_10))) p_16).bind fun r_17 => (if (!r_17) then (some (([] : List T_api_Entry), false, (⟨(⟨g_1.snap.Index, g_1.snap.Term, g_1.snap.Config, g_1.snap.Data⟩ : T_api_Snapshot), g_1.entries⟩ : T_rlog_Log))) else (L0 (wi64 (x_10 + 1)))))
def rlog_Log_Merge.j4 (n : Nat) (g_1 : T_rlog_Log) (l_22 : (List T_api_Entry)) (x_43 : Int) (f_59 : (List T_api_Entry)) : Option ((List T_api_Entry) × Bool × T_rlog_Log) :=
  (if (0 : Int) ≤ x_43 ∧ x_43 ≤ (l_22.length : Int) ∧ (l_22.length : Int) ≤ (l_22.length : Int) then (if capOk 40 (f_59 ++ ((l_22.take (l_22.length : Int).toNat).drop x_43.toNat)).length then (if (0 : Int) ≤ x_43 ∧ x_43 ≤ (l_22.length : Int) ∧ (l_22.length : Int) ≤ (l_22.length : Int) then (if capOk 40 (([] : List T_api_Entry) ++ ((l_22.take (l_22.length : Int).toNat).drop x_43.toNat)).length then (some (([] : List T_api_Entry) ++ ((l_22.take (l_22.length : Int).toNat).drop x_43.toNat), true, (⟨(⟨g_1.snap.Index, g_1.snap.Term, g_1.snap.Config, g_1.snap.Data⟩ : T_api_Snapshot), f_59 ++ ((l_22.take (l_22.length : Int).toNat).drop x_43.toNat)⟩ : T_rlog_Log))) else none) else none) else none) else none)
def rlog_Log_Merge.j3 (n : Nat) (L2 : Int → Option ((List T_api_Entry) × Bool × T_rlog_Log)) (g_1 : T_rlog_Log) (l_22 : (List T_api_Entry)) (x_43 : Int) (r_47 : Int) (b_50 : Bool) : Option ((List T_api_Entry) × Bool × T_rlog_Log) :=
  (if b_50 then (L2 (wi64 (x_43 + 1))) else (if decide (r_47 ≥ 0) then (if (0 : Int) ≤ (0 : Int) ∧ (0 : Int) ≤ r_47 ∧ r_47 ≤ (g_1.entries.length : Int) then (if capOk 40 (([] : List T_api_Entry) ++ ((g_1.entries.take r_47.toNat).drop (0 : Int).toNat)).length then (rlog_Log_Merge.j4 n g_1 l_22 x_43 (([] : List T_api_Entry) ++ ((g_1.entries.take r_47.toNat).drop (0 : Int).toNat))) else none) else none) else (rlog_Log_Merge.j4 n g_1 l_22 x_43 g_1.entries)))
def rlog_Log_Merge.l2 (n : Nat) (g_1 : T_rlog_Log) (l_22 : (List T_api_Entry)) : Nat → Int → Option ((List T_api_Entry) × Bool × T_rlog_Log)
  | 0, _ => none
  | k + 1, x_43 => (if decide (x_43 < (l_22.length : Int)) then (if (0 : Int) ≤ x_43 ∧ x_43 < (l_22.length : Int) then ((rlog_Log_at.f n (⟨(⟨g_1.snap.Index, g_1.snap.Term, g_1.snap.Config, g_1.snap.Data⟩ : T_api_Snapshot), g_1.entries⟩ : T_rlog_Log) ((rdL l_22 x_43).Index)).bind fun r_47 => (if decide (r_47 ≥ 0) then (if (0 : Int) ≤ r_47 ∧ r_47 < (g_1.entries.length : Int) then (rlog_Log_Merge.j3 n (rlog_Log_Merge.l2 n g_1 l_22 k) g_1 l_22 x_43 r_47 (((rdL g_1.entries r_47).Term) == ((rdL l_22 x_43).Term))) else none) else (rlog_Log_Merge.j3 n (rlog_Log_Merge.l2 n g_1 l_22 k) g_1 l_22 x_43 r_47 false))) else none) else (some (([] : List T_api_Entry), true, (⟨(⟨g_1.snap.Index, g_1.snap.Term, g_1.snap.Config, g_1.snap.Data⟩ : T_api_Snapshot), g_1.entries⟩ : T_rlog_Log))))
def rlog_Log_Merge.j2 (n : Nat) (g_1 : T_rlog_Log) (l_22 : (List T_api_Entry)) (b_41 : Bool) : Option ((List T_api_Entry) × Bool × T_rlog_Log) :=
  (if b_41 then (some (([] : List T_api_Entry), false, (⟨(⟨g_1.snap.Index, g_1.snap.Term, g_1.snap.Config, g_1.snap.Data⟩ : T_api_Snapshot), g_1.entries⟩ : T_rlog_Log))) else (rlog_Log_Merge.l2 n g_1 l_22 n 0))
def rlog_Log_Merge.j1 (n : Nat) (L1 : Int → Int → (List T_api_Entry) → Option ((List T_api_Entry) × Bool × T_rlog_Log)) (g_1 : T_rlog_Log) (index_20 : Int) (term_21 : Int) (l_22 : (List T_api_Entry)) (b_27 : Bool) : Option ((List T_api_Entry) × Bool × T_rlog_Log) :=
  (if b_27 then (if (0 : Int) ≤ 0 ∧ 0 < (l_22.length : Int) then (if (0 : Int) ≤ 0 ∧ 0 < (l_22.length : Int) then (if (0 : Int) ≤ (1 : Int) ∧ (1 : Int) ≤ (l_22.length : Int) ∧ (l_22.length : Int) ≤ (l_22.length : Int) then (L1 ((rdL l_22 (0 : Int)).Index) ((rdL l_22 (0 : Int)).Term) ((l_22.take (l_22.length : Int).toNat).drop (1 : Int).toNat)) else none) else none) else none) else (if decide (index_20 < g_1.snap.Index) then (some (([] : List T_api_Entry), true, (⟨(⟨g_1.snap.Index, g_1.snap.Term, g_1.snap.Config, g_1.snap.Data⟩ : T_api_Snapshot), g_1.entries⟩ : T_rlog_Log))) else ((rlog_Log_Term.f n (⟨(⟨g_1.snap.Index, g_1.snap.Term, g_1.snap.Config, g_1.snap.Data⟩ : T_api_Snapshot), g_1.entries⟩ : T_rlog_Log) index_20).bind fun r_35 => (if decide (index_20 > g_1.snap.Index) then (if (r_35.2 != 0) then (rlog_Log_Merge.j2 n g_1 l_22 true) else (if (r_35.1 != term_21) then (rlog_Log_Merge.j2 n g_1 l_22 true) else (if (index_20 == g_1.snap.Index) then (rlog_Log_Merge.j2 n g_1 l_22 (term_21 != g_1.snap.Term)) else (rlog_Log_Merge.j2 n g_1 l_22 false)))) else (if (index_20 == g_1.snap.Index) then (rlog_Log_Merge.j2 n g_1 l_22 (term_21 != g_1.snap.Term)) else (rlog_Log_Merge.j2 n g_1 l_22 false))))))
def rlog_Log_Merge.l1 (n : Nat) (g_1 : T_rlog_Log) : Nat → Int → Int → (List T_api_Entry) → Option ((List T_api_Entry) × Bool × T_rlog_Log)
  | 0, _, _, _ => none
  | k + 1, index_20, term_21, l_22 => (if decide ((l_22.length : Int) > 0) then (if (0 : Int) ≤ 0 ∧ 0 < (l_22.length : Int) then (rlog_Log_Merge.j1 n (rlog_Log_Merge.l1 n g_1 k) g_1 index_20 term_21 l_22 (decide (((rdL l_22 (0 : Int)).Index) ≤ g_1.snap.Index))) else none) else (rlog_Log_Merge.j1 n (rlog_Log_Merge.l1 n g_1 k) g_1 index_20 term_21 l_22 false))
def rlog_Log_Merge.l0 (n : Nat) (g_1 : T_rlog_Log) (index_5 : Int) (term_6 : Int) (l_7 : (List T_api_Entry)) : Nat → Int → Option ((List T_api_Entry) × Bool × T_rlog_Log)
  | 0, _ => none
  | k + 1, x_10 => (if decide (x_10 < (l_7.length : Int)) then (if (0 : Int) ≤ x_10 ∧ x_10 < (l_7.length : Int) then (if decide (x_10 > 0) then (if (0 : Int) ≤ (wi64 (x_10 - 1)) ∧ (wi64 (x_10 - 1)) < (l_7.length : Int) then (rlog_Log_Merge.j0 n (rlog_Log_Merge.l0 n g_1 index_5 term_6 l_7 k) g_1 index_5 l_7 x_10 ((rdL l_7 (wi64 (x_10 - 1))).Term)) else none) else (rlog_Log_Merge.j0 n (rlog_Log_Merge.l0 n g_1 index_5 term_6 l_7 k) g_1 index_5 l_7 x_10 term_6)) else none) else (rlog_Log_Merge.l1 n g_1 n index_5 term_6 l_7))
def rlog_Log_Merge.f (n : Nat) (g_1 : T_rlog_Log) (index_5 : Int) (term_6 : Int) (l_7 : (List T_api_Entry)) : Option ((List T_api_Entry) × Bool × T_rlog_Log) :=
  (rlog_Log_Merge.l0 n g_1 index_5 term_6 l_7 n 0)
def tontinelaw07_begun.f (n : Nat) : Option Bool :=
  ((rlog_New.f n (⟨0, 0, 7, []⟩ : T_api_Snapshot) [(⟨1, 1, 0, []⟩ : T_api_Entry), (⟨1, 2, 0, []⟩ : T_api_Entry), (⟨2, 3, 0, []⟩ : T_api_Entry)]).bind fun r_3 => (match r_3.1 with | none => none | some o_7 => ((rlog_Log_Merge.f n (⟨(⟨o_7.snap.Index, o_7.snap.Term, o_7.snap.Config, o_7.snap.Data⟩ : T_api_Snapshot), o_7.entries⟩ : T_rlog_Log) 2 1 [(⟨3, 3, 0, []⟩ : T_api_Entry)]).bind fun r_12 => ((rlog_Log_Merge.f n (⟨(⟨r_12.2.2.snap.Index, r_12.2.2.snap.Term, r_12.2.2.snap.Config, r_12.2.2.snap.Data⟩ : T_api_Snapshot), r_12.2.2.entries⟩ : T_rlog_Log) 2 2 ([] : List T_api_Entry)).bind fun r_17 => ((rlog_Log_Last.f n (⟨(⟨r_17.2.2.snap.Index, r_17.2.2.snap.Term, r_17.2.2.snap.Config, r_17.2.2.snap.Data⟩ : T_api_Snapshot), r_17.2.2.entries⟩ : T_rlog_Log)).bind fun r_22 => (if (r_3.2 == 0) then (if r_12.2.1 then (if (!r_17.2.1) then (if ((r_12.1.length : Int) == 1) then (if (r_22.1 == 3) then (some (r_22.2 == 3)) else (some false)) else (some false)) else (some false)) else (some false)) else (some false)))))))
def tontinelaw07_light.l1 (n : Nat) (L0 : Int → Int → Option Bool) (calls_4 : (List T_tontinelaw07_Call)) (x_8 : Int) : Nat → Int → Int → Option Bool
  | 0, _, _ => none
  | k + 1, n_14, x_15 => (if decide (x_15 < (((rdL calls_4 x_8).L).length : Int)) then (if (0 : Int) ≤ x_15 ∧ x_15 < (((rdL calls_4 x_8).L).length : Int) then ((tontinelaw07_light.l1 n L0 calls_4 x_8 k) (wi64 (n_14 + (wi64 ((((rdL ((rdL calls_4 x_8).L) x_15).Data).length : Int).tdiv 100)))) (wi64 (x_15 + 1))) else none) else (L0 n_14 (wi64 (x_8 + 1))))
def tontinelaw07_light.l2 (n : Nat) (l_1 : (List T_api_Entry)) : Nat → Int → Int → Option Bool
  | 0, _, _ => none
  | k + 1, n_19, x_20 => (if decide (x_20 < (l_1.length : Int)) then (if (0 : Int) ≤ x_20 ∧ x_20 < (l_1.length : Int) then ((tontinelaw07_light.l2 n l_1 k) (wi64 (n_19 + (wi64 ((((rdL l_1 x_20).Data).length : Int).tdiv 100)))) (wi64 (x_20 + 1))) else none) else (some (decide (n_19 ≤ 800))))
def tontinelaw07_light.l0 (n : Nat) (l_1 : (List T_api_Entry)) (calls_4 : (List T_tontinelaw07_Call)) : Nat → Int → Int → Option Bool
  | 0, _, _ => none
  | k + 1, n_7, x_8 => (if decide (x_8 < (calls_4.length : Int)) then (if (0 : Int) ≤ x_8 ∧ x_8 < (calls_4.length : Int) then (tontinelaw07_light.l1 n (tontinelaw07_light.l0 n l_1 calls_4 k) calls_4 x_8 n (wi64 (n_7 + (wi64 ((((rdL calls_4 x_8).L).length : Int) + (wi64 ((((rdL calls_4 x_8).Data).length : Int).tdiv 100)))))) 0) else none) else (tontinelaw07_light.l2 n l_1 n n_7 0))
def tontinelaw07_light.f (n : Nat) (l_1 : (List T_api_Entry)) (calls_4 : (List T_tontinelaw07_Call)) : Option Bool :=
  (tontinelaw07_light.l0 n l_1 calls_4 n (wi64 ((l_1.length : Int) + (calls_4.length : Int))) 0)
def rlog_Log_Get.j0 (n : Nat) (g_1 : T_rlog_Log) (n_6 : Int) (r_7 : Int) (b_9 : Bool) : Option (List T_api_Entry) :=
  (if b_9 then (some ([] : List T_api_Entry)) else (if (0 : Int) ≤ r_7 ∧ r_7 ≤ (if (wi64 (r_7 + (if (g_1.entries.length : Int) < n_6 then (g_1.entries.length : Int) else n_6))) < (g_1.entries.length : Int) then (wi64 (r_7 + (if (g_1.entries.length : Int) < n_6 then (g_1.entries.length : Int) else n_6))) else (g_1.entries.length : Int)) ∧ (if (wi64 (r_7 + (if (g_1.entries.length : Int) < n_6 then (g_1.entries.length : Int) else n_6))) < (g_1.entries.length : Int) then (wi64 (r_7 + (if (g_1.entries.length : Int) < n_6 then (g_1.entries.length : Int) else n_6))) else (g_1.entries.length : Int)) ≤ (g_1.entries.length : Int) then (if capOk 40 (([] : List T_api_Entry) ++ ((g_1.entries.take (if (wi64 (r_7 + (if (g_1.entries.length : Int) < n_6 then (g_1.entries.length : Int) else n_6))) < (g_1.entries.length : Int) then (wi64 (r_7 + (if (g_1.entries.length : Int) < n_6 then (g_1.entries.length : Int) else n_6))) else (g_1.entries.length : Int)).toNat).drop r_7.toNat)).length then (some (([] : List T_api_Entry) ++ ((g_1.entries.take (if (wi64 (r_7 + (if (g_1.entries.length : Int) < n_6 then (g_1.entries.length : Int) else n_6))) < (g_1.entries.length : Int) then (wi64 (r_7 + (if (g_1.entries.length : Int) < n_6 then (g_1.entries.length : Int) else n_6))) else (g_1.entries.length : Int)).toNat).drop r_7.toNat))) else none) else none))
def rlog_Log_Get.f (n : Nat) (g_1 : T_rlog_Log) (i_5 : Int) (n_6 : Int) : Option (List T_api_Entry) :=
  ((rlog_Log_at.f n (⟨(⟨g_1.snap.Index, g_1.snap.Term, g_1.snap.Config, g_1.snap.Data⟩ : T_api_Snapshot), g_1.entries⟩ : T_rlog_Log) i_5).bind fun r_7 => (if decide (r_7 < 0) then (rlog_Log_Get.j0 n g_1 n_6 r_7 true) else (rlog_Log_Get.j0 n g_1 n_6 r_7 (decide (n_6 ≤ 0)))))
def tontineref07_Same.l0 (n : Nat) (a_1 : (List T_api_Entry)) (b_4 : (List T_api_Entry)) : Nat → Int → Option Bool
  | 0, _ => none
  | k + 1, i_8 => (if decide (i_8 < (a_1.length : Int)) then (if (0 : Int) ≤ i_8 ∧ i_8 < (a_1.length : Int) then (if (0 : Int) ≤ i_8 ∧ i_8 < (b_4.length : Int) then (if (!((((rdL a_1 i_8).Term) == ((rdL b_4 i_8).Term)) && ((((rdL a_1 i_8).Index) == ((rdL b_4 i_8).Index)) && ((((rdL a_1 i_8).Kind) == ((rdL b_4 i_8).Kind)) && ((((rdL a_1 i_8).Data) == ((rdL b_4 i_8).Data)) && true))))) then (some false) else ((tontineref07_Same.l0 n a_1 b_4 k) (wi64 (i_8 + 1)))) else none) else none) else (some true))
def tontineref07_Same.f (n : Nat) (a_1 : (List T_api_Entry)) (b_4 : (List T_api_Entry)) : Option Bool :=
  (if ((a_1.length : Int) != (b_4.length : Int)) then (some false) else (tontineref07_Same.l0 n a_1 b_4 n 0))
def rlog_Log_MembersAt.j0 (n : Nat) (L0 : Int → Option (Int × Int)) (g_1 : T_rlog_Log) (k_6 : Int) (b_11 : Bool) : Option (Int × Int) :=
  (if b_11 then ((rlog_configOf.f n ((rdL g_1.entries k_6).Data)).bind fun r_13 => (some (r_13.1, (rdL g_1.entries k_6).Index))) else (L0 (wi64 (k_6 - 1))))
def rlog_Log_MembersAt.l0 (n : Nat) (g_1 : T_rlog_Log) (i_5 : Int) : Nat → Int → Option (Int × Int)
  | 0, _ => none
  | k + 1, k_6 => (if decide (k_6 ≥ 0) then (if (0 : Int) ≤ k_6 ∧ k_6 < (g_1.entries.length : Int) then (if (((rdL g_1.entries k_6).Kind) == 2) then (rlog_Log_MembersAt.j0 n (rlog_Log_MembersAt.l0 n g_1 i_5 k) g_1 k_6 (decide (((rdL g_1.entries k_6).Index) ≤ i_5))) else (rlog_Log_MembersAt.j0 n (rlog_Log_MembersAt.l0 n g_1 i_5 k) g_1 k_6 false)) else none) else (some (g_1.snap.Config, g_1.snap.Index)))
def rlog_Log_MembersAt.f (n : Nat) (g_1 : T_rlog_Log) (i_5 : Int) : Option (Int × Int) :=
  (rlog_Log_MembersAt.l0 n g_1 i_5 n (wi64 ((g_1.entries.length : Int) - 1)))
def rlog_Log_Members.f (n : Nat) (g_1 : T_rlog_Log) : Option (Int × Int) :=
  ((rlog_Log_MembersAt.f n (⟨(⟨g_1.snap.Index, g_1.snap.Term, g_1.snap.Config, g_1.snap.Data⟩ : T_api_Snapshot), g_1.entries⟩ : T_rlog_Log) 18446744073709551615).bind fun r_5 => (some (r_5.1, r_5.2)))
def rlog_Log_Compact.f (n : Nat) (g_1 : T_rlog_Log) (i_5 : Int) (data_6 : (List UInt8)) : Option (Int × T_rlog_Log) :=
  ((rlog_Log_at.f n (⟨(⟨g_1.snap.Index, g_1.snap.Term, g_1.snap.Config, g_1.snap.Data⟩ : T_api_Snapshot), g_1.entries⟩ : T_rlog_Log) i_5).bind fun r_7 => (if decide (r_7 < 0) then (some (20, (⟨(⟨g_1.snap.Index, g_1.snap.Term, g_1.snap.Config, g_1.snap.Data⟩ : T_api_Snapshot), g_1.entries⟩ : T_rlog_Log))) else ((rlog_Log_MembersAt.f n (⟨(⟨g_1.snap.Index, g_1.snap.Term, g_1.snap.Config, g_1.snap.Data⟩ : T_api_Snapshot), g_1.entries⟩ : T_rlog_Log) i_5).bind fun r_9 => (if (0 : Int) ≤ r_7 ∧ r_7 < (g_1.entries.length : Int) then (if (0 : Int) ≤ (wi64 (r_7 + 1)) ∧ (wi64 (r_7 + 1)) ≤ (g_1.entries.length : Int) ∧ (g_1.entries.length : Int) ≤ (g_1.entries.length : Int) then (if capOk 40 (([] : List T_api_Entry) ++ ((g_1.entries.take (g_1.entries.length : Int).toNat).drop (wi64 (r_7 + 1)).toNat)).length then (some (0, (⟨(⟨i_5, (rdL g_1.entries r_7).Term, r_9.1, data_6⟩ : T_api_Snapshot), ([] : List T_api_Entry) ++ ((g_1.entries.take (g_1.entries.length : Int).toNat).drop (wi64 (r_7 + 1)).toNat)⟩ : T_rlog_Log))) else none) else none) else none))))
def rlog_Log_First.f (n : Nat) (g_1 : T_rlog_Log) : Option T_api_Snapshot :=
  (some (⟨g_1.snap.Index, g_1.snap.Term, g_1.snap.Config, g_1.snap.Data⟩ : T_api_Snapshot))
def tontineref06_Sound.f (n : Nat) (c_1 : Int) : Option Bool :=
  (if decide (c_1 > 0) then (some (decide (c_1 < 128))) else (some false))
def tontineref03_Reader_Fail.f (n : Nat) (r_1 : T_tontineref03_Reader) : Option T_tontineref03_Reader :=
  (some (⟨[], true⟩ : T_tontineref03_Reader))
def tontineref03_Reader_Num.l0 (n : Nat) (r_1 : T_tontineref03_Reader) (n_5 : Int) : Nat → Int → Int → Option (Int × T_tontineref03_Reader)
  | 0, _, _ => none
  | k + 1, x_15, i_16 => (if decide (i_16 ≤ n_5) then (if (0 : Int) ≤ i_16 ∧ i_16 < (r_1.S_.length : Int) then ((tontineref03_Reader_Num.l0 n r_1 n_5 k) (wu64 ((wu64 (256 * x_15)) + (wu64 ((rdB r_1.S_ i_16).toNat : Int)))) (wi64 (i_16 + 1))) else none) else (if (0 : Int) ≤ (wi64 (n_5 + 1)) ∧ (wi64 (n_5 + 1)) ≤ (r_1.S_.length : Int) then (some (x_15, (⟨r_1.S_.drop (wi64 (n_5 + 1)).toNat, r_1.Bad⟩ : T_tontineref03_Reader))) else none))
def tontineref03_Reader_Num.j1 (n : Nat) (r_1 : T_tontineref03_Reader) (n_5 : Int) (b_11 : Bool) : Option (Int × T_tontineref03_Reader) :=
  (if b_11 then ((tontineref03_Reader_Fail.f n r_1).bind fun r_13 => (some (0, r_13))) else (tontineref03_Reader_Num.l0 n r_1 n_5 n 0 1))
def tontineref03_Reader_Num.j0 (n : Nat) (r_1 : T_tontineref03_Reader) (n_5 : Int) : Option (Int × T_tontineref03_Reader) :=
  (if decide (n_5 < 0) then (tontineref03_Reader_Num.j1 n r_1 n_5 true) else (if decide (n_5 > 8) then (tontineref03_Reader_Num.j1 n r_1 n_5 true) else (if decide ((r_1.S_.length : Int) < (wi64 (n_5 + 1))) then (tontineref03_Reader_Num.j1 n r_1 n_5 true) else (if decide (n_5 > 0) then (if (0 : Int) ≤ 1 ∧ 1 < (r_1.S_.length : Int) then (tontineref03_Reader_Num.j1 n r_1 n_5 (((rdB r_1.S_ 1).toNat : Int) == 0)) else none) else (tontineref03_Reader_Num.j1 n r_1 n_5 false)))))
def tontineref03_Reader_Num.f (n : Nat) (r_1 : T_tontineref03_Reader) : Option (Int × T_tontineref03_Reader) :=
  (if decide ((r_1.S_.length : Int) > 0) then (if (0 : Int) ≤ 0 ∧ 0 < (r_1.S_.length : Int) then (tontineref03_Reader_Num.j0 n r_1 (wi64 ((rdB r_1.S_ 0).toNat : Int))) else none) else (tontineref03_Reader_Num.j0 n r_1 (-1)))
def tontineref07_Said.f (n : Nat) (s_1 : (List UInt8)) : Option (Int × Bool) :=
  ((tontineref03_Reader_Num.f n (⟨s_1, false⟩ : T_tontineref03_Reader)).bind fun r_3 => (if (!r_3.2.Bad) then (if (r_3.2.S_ == ([] : List UInt8)) then ((tontineref06_Sound.f n r_3.1).bind fun r_6 => (some (r_3.1, r_6))) else (some (r_3.1, false))) else (some (r_3.1, false))))
def tontineref07_May.j0 (n : Nat) (e_1 : T_api_Entry) (index_2 : Int) (term_3 : Int) : Option Bool :=
  (if decide (index_2 > 0) then (if (e_1.Index == index_2) then (if decide (e_1.Term ≥ term_3) then (if decide (e_1.Kind ≥ 0) then (if decide (e_1.Kind ≤ 2) then (some (decide ((e_1.Data.length : Int) ≤ 32768))) else (some false)) else (some false)) else (some false)) else (some false)) else (some false))
def tontineref07_May.f (n : Nat) (e_1 : T_api_Entry) (index_2 : Int) (term_3 : Int) : Option Bool :=
  (if (e_1.Kind == 2) then ((tontineref07_Said.f n e_1.Data).bind fun r_6 => (if (!r_6.2) then (some false) else (tontineref07_May.j0 n e_1 index_2 term_3))) else (tontineref07_May.j0 n e_1 index_2 term_3))
def tontineref07_New.l0 (n : Nat) (s_1 : T_api_Snapshot) (l_2 : (List T_api_Entry)) : Nat → Int → Int → Int → Option (Option T_tontineref07_Log × Int)
  | 0, _, _, _ => none
  | k + 1, index_8, term_9, i_10 => (if decide (i_10 < (l_2.length : Int)) then (if (0 : Int) ≤ i_10 ∧ i_10 < (l_2.length : Int) then ((tontineref07_May.f n (rdL l_2 i_10) (wu64 (index_8 + 1)) term_9).bind fun r_13 => (if (!r_13) then (some (none, 1)) else (if (0 : Int) ≤ i_10 ∧ i_10 < (l_2.length : Int) then (if (0 : Int) ≤ i_10 ∧ i_10 < (l_2.length : Int) then ((tontineref07_New.l0 n s_1 l_2 k) ((rdL l_2 i_10).Index) ((rdL l_2 i_10).Term) (wi64 (i_10 + 1))) else none) else none))) else none) else (if capOk 40 (([] : List T_api_Entry) ++ l_2).length then (some ((some (⟨s_1, ([] : List T_api_Entry) ++ l_2⟩ : T_tontineref07_Log)), 0)) else none))
def tontineref07_New.f (n : Nat) (s_1 : T_api_Snapshot) (l_2 : (List T_api_Entry)) : Option (Option T_tontineref07_Log × Int) :=
  ((tontineref06_Sound.f n s_1.Config).bind fun r_6 => (if (!r_6) then (some (none, 1)) else (tontineref07_New.l0 n s_1 l_2 n s_1.Index s_1.Term 0)))
def rlog_Log_Add.f (n : Nat) (g_1 : T_rlog_Log) (term_5 : Int) (kind_6 : Int) (data_7 : (List UInt8)) : Option (T_api_Entry × Int × T_rlog_Log) :=
  ((rlog_Log_Last.f n (⟨(⟨g_1.snap.Index, g_1.snap.Term, g_1.snap.Config, g_1.snap.Data⟩ : T_api_Snapshot), g_1.entries⟩ : T_rlog_Log)).bind fun r_9 => ((rlog_sound.f n (⟨term_5, wu64 (r_9.1 + 1), kind_6, data_7⟩ : T_api_Entry) (wu64 (r_9.1 + 1)) r_9.2).bind fun r_11 => (if (!r_11) then (some ((⟨0, 0, 0, []⟩ : T_api_Entry), 1, (⟨(⟨g_1.snap.Index, g_1.snap.Term, g_1.snap.Config, g_1.snap.Data⟩ : T_api_Snapshot), g_1.entries⟩ : T_rlog_Log))) else (if capOk 40 (g_1.entries ++ [(⟨term_5, wu64 (r_9.1 + 1), kind_6, data_7⟩ : T_api_Entry)]).length then (some ((⟨term_5, wu64 (r_9.1 + 1), kind_6, data_7⟩ : T_api_Entry), 0, (⟨(⟨g_1.snap.Index, g_1.snap.Term, g_1.snap.Config, g_1.snap.Data⟩ : T_api_Snapshot), g_1.entries ++ [(⟨term_5, wu64 (r_9.1 + 1), kind_6, data_7⟩ : T_api_Entry)]⟩ : T_rlog_Log))) else none))))
def tontineref07_Log_Last.f (n : Nat) (g_1 : T_tontineref07_Log) : Option (Int × Int) :=
  (if ((g_1.L.length : Int) == 0) then (some (g_1.Snap.Index, g_1.Snap.Term)) else (if (0 : Int) ≤ (wi64 ((g_1.L.length : Int) - 1)) ∧ (wi64 ((g_1.L.length : Int) - 1)) < (g_1.L.length : Int) then (if (0 : Int) ≤ (wi64 ((g_1.L.length : Int) - 1)) ∧ (wi64 ((g_1.L.length : Int) - 1)) < (g_1.L.length : Int) then (some ((rdL g_1.L (wi64 ((g_1.L.length : Int) - 1))).Index, (rdL g_1.L (wi64 ((g_1.L.length : Int) - 1))).Term)) else none) else none))
def tontineref07_Log_Add.f (n : Nat) (g_1 : T_tontineref07_Log) (term_5 : Int) (kind_6 : Int) (data_7 : (List UInt8)) : Option (T_api_Entry × Int × T_tontineref07_Log) :=
  ((tontineref07_Log_Last.f n (⟨(⟨g_1.Snap.Index, g_1.Snap.Term, g_1.Snap.Config, g_1.Snap.Data⟩ : T_api_Snapshot), g_1.L⟩ : T_tontineref07_Log)).bind fun r_9 => ((tontineref07_May.f n (⟨term_5, wu64 (r_9.1 + 1), kind_6, data_7⟩ : T_api_Entry) (wu64 (r_9.1 + 1)) r_9.2).bind fun r_11 => (if (!r_11) then (some ((⟨0, 0, 0, []⟩ : T_api_Entry), 1, (⟨(⟨g_1.Snap.Index, g_1.Snap.Term, g_1.Snap.Config, g_1.Snap.Data⟩ : T_api_Snapshot), g_1.L⟩ : T_tontineref07_Log))) else (if capOk 40 (g_1.L ++ [(⟨term_5, wu64 (r_9.1 + 1), kind_6, data_7⟩ : T_api_Entry)]).length then (some ((⟨term_5, wu64 (r_9.1 + 1), kind_6, data_7⟩ : T_api_Entry), 0, (⟨(⟨g_1.Snap.Index, g_1.Snap.Term, g_1.Snap.Config, g_1.Snap.Data⟩ : T_api_Snapshot), g_1.L ++ [(⟨term_5, wu64 (r_9.1 + 1), kind_6, data_7⟩ : T_api_Entry)]⟩ : T_tontineref07_Log))) else none))))
def tontineref07_Log_Term.l0 (n : Nat) (g_1 : T_tontineref07_Log) (i_5 : Int) : Nat → Int → Option (Int × Int)
  | 0, _ => none
  | k + 1, k_6 => (if decide (k_6 < (g_1.L.length : Int)) then (if (0 : Int) ≤ k_6 ∧ k_6 < (g_1.L.length : Int) then (if (((rdL g_1.L k_6).Index) == i_5) then (if (0 : Int) ≤ k_6 ∧ k_6 < (g_1.L.length : Int) then (some ((rdL g_1.L k_6).Term, 0)) else none) else ((tontineref07_Log_Term.l0 n g_1 i_5 k) (wi64 (k_6 + 1)))) else none) else (if (i_5 == g_1.Snap.Index) then (some (g_1.Snap.Term, 0)) else (some (0, 20))))
def tontineref07_Log_Term.f (n : Nat) (g_1 : T_tontineref07_Log) (i_5 : Int) : Option (Int × Int) :=
  (tontineref07_Log_Term.l0 n g_1 i_5 n 0)
def tontineref07_Log_Cut.l0 (n : Nat) (g_1 : T_tontineref07_Log) (i_5 : Int) : Nat → (List T_api_Entry) → Int → Option T_tontineref07_Log
  | 0, _, _ => none
  | k + 1, l_6, k_9 => (if decide (k_9 < (g_1.L.length : Int)) then (if (0 : Int) ≤ k_9 ∧ k_9 < (g_1.L.length : Int) then (if (((rdL g_1.L k_9).Index) == i_5) then (some (⟨(⟨g_1.Snap.Index, g_1.Snap.Term, g_1.Snap.Config, g_1.Snap.Data⟩ : T_api_Snapshot), l_6⟩ : T_tontineref07_Log)) else (if (0 : Int) ≤ k_9 ∧ k_9 < (g_1.L.length : Int) then (if capOk 40 (l_6 ++ [(rdL g_1.L k_9)]).length then ((tontineref07_Log_Cut.l0 n g_1 i_5 k) (l_6 ++ [(rdL g_1.L k_9)]) (wi64 (k_9 + 1))) else none) else none)) else none) else (some (⟨(⟨g_1.Snap.Index, g_1.Snap.Term, g_1.Snap.Config, g_1.Snap.Data⟩ : T_api_Snapshot), g_1.L⟩ : T_tontineref07_Log)))
def tontineref07_Log_Cut.f (n : Nat) (g_1 : T_tontineref07_Log) (i_5 : Int) : Option T_tontineref07_Log :=
  (tontineref07_Log_Cut.l0 n g_1 i_5 n ([] : List T_api_Entry) 0)
def tontineref07_Log_Merge.j2 (n : Nat) (L2 : Int → Option ((List T_api_Entry) × Bool × T_tontineref07_Log)) (g_1 : T_tontineref07_Log) (l_22 : (List T_api_Entry)) (i_39 : Int) (b_45 : Bool) : Option ((List T_api_Entry) × Bool × T_tontineref07_Log) :=
  (if b_45 then (L2 (wi64 (i_39 + 1))) else (if (0 : Int) ≤ i_39 ∧ i_39 < (l_22.length : Int) then ((tontineref07_Log_Cut.f n (⟨(⟨g_1.Snap.Index, g_1.Snap.Term, g_1.Snap.Config, g_1.Snap.Data⟩ : T_api_Snapshot), g_1.L⟩ : T_tontineref07_Log) ((rdL l_22 i_39).Index)).bind fun r_48 => (if (0 : Int) ≤ i_39 ∧ i_39 ≤ (l_22.length : Int) ∧ (l_22.length : Int) ≤ (l_22.length : Int) then (if capOk 40 (r_48.L ++ ((l_22.take (l_22.length : Int).toNat).drop i_39.toNat)).length then (if (0 : Int) ≤ i_39 ∧ i_39 ≤ (l_22.length : Int) ∧ (l_22.length : Int) ≤ (l_22.length : Int) then (if capOk 40 (([] : List T_api_Entry) ++ ((l_22.take (l_22.length : Int).toNat).drop i_39.toNat)).length then (some (([] : List T_api_Entry) ++ ((l_22.take (l_22.length : Int).toNat).drop i_39.toNat), true, (⟨(⟨r_48.Snap.Index, r_48.Snap.Term, r_48.Snap.Config, r_48.Snap.Data⟩ : T_api_Snapshot), r_48.L ++ ((l_22.take (l_22.length : Int).toNat).drop i_39.toNat)⟩ : T_tontineref07_Log))) else none) else none) else none) else none)) else none))
def tontineref07_Log_Merge.l2 (n : Nat) (g_1 : T_tontineref07_Log) (l_22 : (List T_api_Entry)) : Nat → Int → Option ((List T_api_Entry) × Bool × T_tontineref07_Log)
  | 0, _ => none
  | k + 1, i_39 => (if decide (i_39 < (l_22.length : Int)) then (if (0 : Int) ≤ i_39 ∧ i_39 < (l_22.length : Int) then ((tontineref07_Log_Term.f n (⟨(⟨g_1.Snap.Index, g_1.Snap.Term, g_1.Snap.Config, g_1.Snap.Data⟩ : T_api_Snapshot), g_1.L⟩ : T_tontineref07_Log) ((rdL l_22 i_39).Index)).bind fun r_42 => (if (r_42.2 == 0) then (if (0 : Int) ≤ i_39 ∧ i_39 < (l_22.length : Int) then (tontineref07_Log_Merge.j2 n (tontineref07_Log_Merge.l2 n g_1 l_22 k) g_1 l_22 i_39 (r_42.1 == ((rdL l_22 i_39).Term))) else none) else (tontineref07_Log_Merge.j2 n (tontineref07_Log_Merge.l2 n g_1 l_22 k) g_1 l_22 i_39 false))) else none) else (some (([] : List T_api_Entry), true, (⟨(⟨g_1.Snap.Index, g_1.Snap.Term, g_1.Snap.Config, g_1.Snap.Data⟩ : T_api_Snapshot), g_1.L⟩ : T_tontineref07_Log))))
def tontineref07_Log_Merge.j1 (n : Nat) (g_1 : T_tontineref07_Log) (l_22 : (List T_api_Entry)) (b_37 : Bool) : Option ((List T_api_Entry) × Bool × T_tontineref07_Log) :=
  (if b_37 then (some (([] : List T_api_Entry), false, (⟨(⟨g_1.Snap.Index, g_1.Snap.Term, g_1.Snap.Config, g_1.Snap.Data⟩ : T_api_Snapshot), g_1.L⟩ : T_tontineref07_Log))) else (tontineref07_Log_Merge.l2 n g_1 l_22 n 0))
def tontineref07_Log_Merge.j0 (n : Nat) (L1 : Int → Int → (List T_api_Entry) → Option ((List T_api_Entry) × Bool × T_tontineref07_Log)) (g_1 : T_tontineref07_Log) (index_20 : Int) (term_21 : Int) (l_22 : (List T_api_Entry)) (b_27 : Bool) : Option ((List T_api_Entry) × Bool × T_tontineref07_Log) :=
  (if b_27 then (if (0 : Int) ≤ 0 ∧ 0 < (l_22.length : Int) then (if (0 : Int) ≤ 0 ∧ 0 < (l_22.length : Int) then (if (0 : Int) ≤ (1 : Int) ∧ (1 : Int) ≤ (l_22.length : Int) ∧ (l_22.length : Int) ≤ (l_22.length : Int) then (L1 ((rdL l_22 (0 : Int)).Index) ((rdL l_22 (0 : Int)).Term) ((l_22.take (l_22.length : Int).toNat).drop (1 : Int).toNat)) else none) else none) else none) else (if decide (index_20 < g_1.Snap.Index) then (some (([] : List T_api_Entry), true, (⟨(⟨g_1.Snap.Index, g_1.Snap.Term, g_1.Snap.Config, g_1.Snap.Data⟩ : T_api_Snapshot), g_1.L⟩ : T_tontineref07_Log))) else ((tontineref07_Log_Term.f n (⟨(⟨g_1.Snap.Index, g_1.Snap.Term, g_1.Snap.Config, g_1.Snap.Data⟩ : T_api_Snapshot), g_1.L⟩ : T_tontineref07_Log) index_20).bind fun r_35 => (if (r_35.2 != 0) then (tontineref07_Log_Merge.j1 n g_1 l_22 true) else (tontineref07_Log_Merge.j1 n g_1 l_22 (r_35.1 != term_21))))))
def tontineref07_Log_Merge.l1 (n : Nat) (g_1 : T_tontineref07_Log) : Nat → Int → Int → (List T_api_Entry) → Option ((List T_api_Entry) × Bool × T_tontineref07_Log)
  | 0, _, _, _ => none
  | k + 1, index_20, term_21, l_22 => (if decide ((l_22.length : Int) > 0) then (if (0 : Int) ≤ 0 ∧ 0 < (l_22.length : Int) then (tontineref07_Log_Merge.j0 n (tontineref07_Log_Merge.l1 n g_1 k) g_1 index_20 term_21 l_22 (decide (((rdL l_22 (0 : Int)).Index) ≤ g_1.Snap.Index))) else none) else (tontineref07_Log_Merge.j0 n (tontineref07_Log_Merge.l1 n g_1 k) g_1 index_20 term_21 l_22 false))
def tontineref07_Log_Merge.l0 (n : Nat) (g_1 : T_tontineref07_Log) (index_5 : Int) (term_6 : Int) (l_7 : (List T_api_Entry)) : Nat → Int → Int → Int → Option ((List T_api_Entry) × Bool × T_tontineref07_Log)
  | 0, _, _, _ => none
  | k + 1, at_10, t_11, i_12 => (if decide (i_12 < (l_7.length : Int)) then (if (0 : Int) ≤ i_12 ∧ i_12 < (l_7.length : Int) then ((tontineref07_May.f n (rdL l_7 i_12) (wu64 (at_10 + 1)) t_11).bind fun r_15 => (if (!r_15) then (some (([] : List T_api_Entry), false, (⟨(⟨g_1.Snap.Index, g_1.Snap.Term, g_1.Snap.Config, g_1.Snap.Data⟩ : T_api_Snapshot), g_1.L⟩ : T_tontineref07_Log))) else (if (0 : Int) ≤ i_12 ∧ i_12 < (l_7.length : Int) then (if (0 : Int) ≤ i_12 ∧ i_12 < (l_7.length : Int) then ((tontineref07_Log_Merge.l0 n g_1 index_5 term_6 l_7 k) ((rdL l_7 i_12).Index) ((rdL l_7 i_12).Term) (wi64 (i_12 + 1))) else none) else none))) else none) else (tontineref07_Log_Merge.l1 n g_1 n index_5 term_6 l_7))
def tontineref07_Log_Merge.f (n : Nat) (g_1 : T_tontineref07_Log) (index_5 : Int) (term_6 : Int) (l_7 : (List T_api_Entry)) : Option ((List T_api_Entry) × Bool × T_tontineref07_Log) :=
  (tontineref07_Log_Merge.l0 n g_1 index_5 term_6 l_7 n index_5 term_6 0)
def rlog_Log_Cut.f (n : Nat) (g_1 : T_rlog_Log) (i_5 : Int) : Option T_rlog_Log :=
  ((rlog_Log_at.f n (⟨(⟨g_1.snap.Index, g_1.snap.Term, g_1.snap.Config, g_1.snap.Data⟩ : T_api_Snapshot), g_1.entries⟩ : T_rlog_Log) i_5).bind fun r_6 => (if decide (r_6 ≥ 0) then (if (0 : Int) ≤ (0 : Int) ∧ (0 : Int) ≤ r_6 ∧ r_6 ≤ (g_1.entries.length : Int) then (if capOk 40 (([] : List T_api_Entry) ++ ((g_1.entries.take r_6.toNat).drop (0 : Int).toNat)).length then (some (⟨(⟨g_1.snap.Index, g_1.snap.Term, g_1.snap.Config, g_1.snap.Data⟩ : T_api_Snapshot), ([] : List T_api_Entry) ++ ((g_1.entries.take r_6.toNat).drop (0 : Int).toNat)⟩ : T_rlog_Log)) else none) else none) else (some (⟨(⟨g_1.snap.Index, g_1.snap.Term, g_1.snap.Config, g_1.snap.Data⟩ : T_api_Snapshot), g_1.entries⟩ : T_rlog_Log))))
def tontineref07_Log_MembersAt.j0 (n : Nat) (L0 : Int → Int → Int → Option (Int × Int)) (g_1 : T_tontineref07_Log) (c_6 : Int) (at_7 : Int) (k_8 : Int) (b_13 : Bool) : Option (Int × Int) :=
  (if b_13 then (if (0 : Int) ≤ k_8 ∧ k_8 < (g_1.L.length : Int) then ((tontineref07_Said.f n ((rdL g_1.L k_8).Data)).bind fun r_16 => (if (0 : Int) ≤ k_8 ∧ k_8 < (g_1.L.length : Int) then (L0 r_16.1 ((rdL g_1.L k_8).Index) (wi64 (k_8 + 1))) else none)) else none) else (L0 c_6 at_7 (wi64 (k_8 + 1))))
def tontineref07_Log_MembersAt.l0 (n : Nat) (g_1 : T_tontineref07_Log) (i_5 : Int) : Nat → Int → Int → Int → Option (Int × Int)
  | 0, _, _, _ => none
  | k + 1, c_6, at_7, k_8 => (if decide (k_8 < (g_1.L.length : Int)) then (if (0 : Int) ≤ k_8 ∧ k_8 < (g_1.L.length : Int) then (if (((rdL g_1.L k_8).Kind) == 2) then (if (0 : Int) ≤ k_8 ∧ k_8 < (g_1.L.length : Int) then (tontineref07_Log_MembersAt.j0 n (tontineref07_Log_MembersAt.l0 n g_1 i_5 k) g_1 c_6 at_7 k_8 (decide (((rdL g_1.L k_8).Index) ≤ i_5))) else none) else (tontineref07_Log_MembersAt.j0 n (tontineref07_Log_MembersAt.l0 n g_1 i_5 k) g_1 c_6 at_7 k_8 false)) else none) else (some (c_6, at_7)))
def tontineref07_Log_MembersAt.f (n : Nat) (g_1 : T_tontineref07_Log) (i_5 : Int) : Option (Int × Int) :=
  (tontineref07_Log_MembersAt.l0 n g_1 i_5 n g_1.Snap.Config g_1.Snap.Index 0)
def tontineref07_Log_Compact.l0 (n : Nat) (g_1 : T_tontineref07_Log) (i_5 : Int) (data_6 : (List UInt8)) : Nat → Int → Option (Int × T_tontineref07_Log)
  | 0, _ => none
  | k + 1, k_7 => (if decide (k_7 < (g_1.L.length : Int)) then (if (0 : Int) ≤ k_7 ∧ k_7 < (g_1.L.length : Int) then (if (((rdL g_1.L k_7).Index) == i_5) then ((tontineref07_Log_MembersAt.f n (⟨(⟨g_1.Snap.Index, g_1.Snap.Term, g_1.Snap.Config, g_1.Snap.Data⟩ : T_api_Snapshot), g_1.L⟩ : T_tontineref07_Log) i_5).bind fun r_11 => (if (0 : Int) ≤ k_7 ∧ k_7 < (g_1.L.length : Int) then (if (0 : Int) ≤ (wi64 (k_7 + 1)) ∧ (wi64 (k_7 + 1)) ≤ (g_1.L.length : Int) ∧ (g_1.L.length : Int) ≤ (g_1.L.length : Int) then (if capOk 40 (([] : List T_api_Entry) ++ ((g_1.L.take (g_1.L.length : Int).toNat).drop (wi64 (k_7 + 1)).toNat)).length then (some (0, (⟨(⟨i_5, (rdL g_1.L k_7).Term, r_11.1, data_6⟩ : T_api_Snapshot), ([] : List T_api_Entry) ++ ((g_1.L.take (g_1.L.length : Int).toNat).drop (wi64 (k_7 + 1)).toNat)⟩ : T_tontineref07_Log))) else none) else none) else none)) else ((tontineref07_Log_Compact.l0 n g_1 i_5 data_6 k) (wi64 (k_7 + 1)))) else none) else (some (20, (⟨(⟨g_1.Snap.Index, g_1.Snap.Term, g_1.Snap.Config, g_1.Snap.Data⟩ : T_api_Snapshot), g_1.L⟩ : T_tontineref07_Log))))
def tontineref07_Log_Compact.f (n : Nat) (g_1 : T_tontineref07_Log) (i_5 : Int) (data_6 : (List UInt8)) : Option (Int × T_tontineref07_Log) :=
  (tontineref07_Log_Compact.l0 n g_1 i_5 data_6 n 0)
def rlog_Log_Install.j0 (n : Nat) (g_1 : T_rlog_Log) (s_5 : T_api_Snapshot) (b_12 : Bool) : Option (Int × T_rlog_Log) :=
  (if b_12 then ((rlog_Log_at.f n (⟨(⟨g_1.snap.Index, g_1.snap.Term, g_1.snap.Config, g_1.snap.Data⟩ : T_api_Snapshot), g_1.entries⟩ : T_rlog_Log) s_5.Index).bind fun r_14 => (if (0 : Int) ≤ (wi64 (r_14 + 1)) ∧ (wi64 (r_14 + 1)) ≤ (g_1.entries.length : Int) ∧ (g_1.entries.length : Int) ≤ (g_1.entries.length : Int) then (if capOk 40 (([] : List T_api_Entry) ++ ((g_1.entries.take (g_1.entries.length : Int).toNat).drop (wi64 (r_14 + 1)).toNat)).length then (some (0, (⟨s_5, ([] : List T_api_Entry) ++ ((g_1.entries.take (g_1.entries.length : Int).toNat).drop (wi64 (r_14 + 1)).toNat)⟩ : T_rlog_Log))) else none) else none)) else (some (0, (⟨s_5, []⟩ : T_rlog_Log))))
def rlog_Log_Install.f (n : Nat) (g_1 : T_rlog_Log) (s_5 : T_api_Snapshot) : Option (Int × T_rlog_Log) :=
  ((quorum_Sound.f n s_5.Config).bind fun r_7 => (if (!r_7) then (some (1, (⟨(⟨g_1.snap.Index, g_1.snap.Term, g_1.snap.Config, g_1.snap.Data⟩ : T_api_Snapshot), g_1.entries⟩ : T_rlog_Log))) else (if decide (s_5.Index ≤ g_1.snap.Index) then (some (20, (⟨(⟨g_1.snap.Index, g_1.snap.Term, g_1.snap.Config, g_1.snap.Data⟩ : T_api_Snapshot), g_1.entries⟩ : T_rlog_Log))) else ((rlog_Log_Term.f n (⟨(⟨g_1.snap.Index, g_1.snap.Term, g_1.snap.Config, g_1.snap.Data⟩ : T_api_Snapshot), g_1.entries⟩ : T_rlog_Log) s_5.Index).bind fun r_10 => (if (r_10.2 == 0) then (rlog_Log_Install.j0 n g_1 s_5 (r_10.1 == s_5.Term)) else (rlog_Log_Install.j0 n g_1 s_5 false))))))
def tontineref07_Log_Install.j0 (n : Nat) (L0 : (List T_api_Entry) → Int → Option (Int × T_tontineref07_Log)) (g_1 : T_tontineref07_Log) (rest_11 : (List T_api_Entry)) (k_14 : Int) (b_19 : Bool) : Option (Int × T_tontineref07_Log) :=
  (if b_19 then (if (0 : Int) ≤ k_14 ∧ k_14 < (g_1.L.length : Int) then (if capOk 40 (rest_11 ++ [(rdL g_1.L k_14)]).length then (L0 (rest_11 ++ [(rdL g_1.L k_14)]) (wi64 (k_14 + 1))) else none) else none) else (L0 rest_11 (wi64 (k_14 + 1))))
def tontineref07_Log_Install.l0 (n : Nat) (g_1 : T_tontineref07_Log) (s_5 : T_api_Snapshot) (r_10 : Int × Int) : Nat → (List T_api_Entry) → Int → Option (Int × T_tontineref07_Log)
  | 0, _, _ => none
  | k + 1, rest_11, k_14 => (if decide (k_14 < (g_1.L.length : Int)) then (if (0 : Int) ≤ k_14 ∧ k_14 < (g_1.L.length : Int) then (if decide (((rdL g_1.L k_14).Index) > s_5.Index) then (if (r_10.2 == 0) then (tontineref07_Log_Install.j0 n (tontineref07_Log_Install.l0 n g_1 s_5 r_10 k) g_1 rest_11 k_14 (r_10.1 == s_5.Term)) else (tontineref07_Log_Install.j0 n (tontineref07_Log_Install.l0 n g_1 s_5 r_10 k) g_1 rest_11 k_14 false)) else (tontineref07_Log_Install.j0 n (tontineref07_Log_Install.l0 n g_1 s_5 r_10 k) g_1 rest_11 k_14 false)) else none) else (some (0, (⟨s_5, rest_11⟩ : T_tontineref07_Log))))
def tontineref07_Log_Install.f (n : Nat) (g_1 : T_tontineref07_Log) (s_5 : T_api_Snapshot) : Option (Int × T_tontineref07_Log) :=
  ((tontineref06_Sound.f n s_5.Config).bind fun r_7 => (if (!r_7) then (some (1, (⟨(⟨g_1.Snap.Index, g_1.Snap.Term, g_1.Snap.Config, g_1.Snap.Data⟩ : T_api_Snapshot), g_1.L⟩ : T_tontineref07_Log))) else (if decide (s_5.Index ≤ g_1.Snap.Index) then (some (20, (⟨(⟨g_1.Snap.Index, g_1.Snap.Term, g_1.Snap.Config, g_1.Snap.Data⟩ : T_api_Snapshot), g_1.L⟩ : T_tontineref07_Log))) else ((tontineref07_Log_Term.f n (⟨(⟨g_1.Snap.Index, g_1.Snap.Term, g_1.Snap.Config, g_1.Snap.Data⟩ : T_api_Snapshot), g_1.L⟩ : T_tontineref07_Log) s_5.Index).bind fun r_10 => (tontineref07_Log_Install.l0 n g_1 s_5 r_10 n ([] : List T_api_Entry) 0)))))
def tontinelaw07_both.f (n : Nat) (g_1 : T_rlog_Log) (m_5 : T_tontineref07_Log) (c_9 : T_tontinelaw07_Call) : Option (Bool × T_rlog_Log × T_tontineref07_Log) :=
  (if (c_9.Kind == 0) then ((rlog_Log_Add.f n (⟨(⟨g_1.snap.Index, g_1.snap.Term, g_1.snap.Config, g_1.snap.Data⟩ : T_api_Snapshot), g_1.entries⟩ : T_rlog_Log) c_9.Term c_9.What c_9.Data).bind fun r_14 => ((tontineref07_Log_Add.f n (⟨(⟨m_5.Snap.Index, m_5.Snap.Term, m_5.Snap.Config, m_5.Snap.Data⟩ : T_api_Snapshot), m_5.L⟩ : T_tontineref07_Log) c_9.Term c_9.What c_9.Data).bind fun r_18 => (if ((r_14.1.Term == r_18.1.Term) && ((r_14.1.Index == r_18.1.Index) && ((r_14.1.Kind == r_18.1.Kind) && ((r_14.1.Data == r_18.1.Data) && true)))) then (some ((r_14.2.1 == r_18.2.1), (⟨(⟨r_14.2.2.snap.Index, r_14.2.2.snap.Term, r_14.2.2.snap.Config, r_14.2.2.snap.Data⟩ : T_api_Snapshot), r_14.2.2.entries⟩ : T_rlog_Log), (⟨(⟨r_18.2.2.Snap.Index, r_18.2.2.Snap.Term, r_18.2.2.Snap.Config, r_18.2.2.Snap.Data⟩ : T_api_Snapshot), r_18.2.2.L⟩ : T_tontineref07_Log))) else (some (false, (⟨(⟨r_14.2.2.snap.Index, r_14.2.2.snap.Term, r_14.2.2.snap.Config, r_14.2.2.snap.Data⟩ : T_api_Snapshot), r_14.2.2.entries⟩ : T_rlog_Log), (⟨(⟨r_18.2.2.Snap.Index, r_18.2.2.Snap.Term, r_18.2.2.Snap.Config, r_18.2.2.Snap.Data⟩ : T_api_Snapshot), r_18.2.2.L⟩ : T_tontineref07_Log)))))) else (if (c_9.Kind == 1) then ((rlog_Log_Merge.f n (⟨(⟨g_1.snap.Index, g_1.snap.Term, g_1.snap.Config, g_1.snap.Data⟩ : T_api_Snapshot), g_1.entries⟩ : T_rlog_Log) c_9.Index c_9.Term c_9.L).bind fun r_26 => ((tontineref07_Log_Merge.f n (⟨(⟨m_5.Snap.Index, m_5.Snap.Term, m_5.Snap.Config, m_5.Snap.Data⟩ : T_api_Snapshot), m_5.L⟩ : T_tontineref07_Log) c_9.Index c_9.Term c_9.L).bind fun r_31 => ((tontineref07_Same.f n r_26.1 r_31.1).bind fun r_36 => (if r_36 then (some ((r_26.2.1 == r_31.2.1), (⟨(⟨r_26.2.2.snap.Index, r_26.2.2.snap.Term, r_26.2.2.snap.Config, r_26.2.2.snap.Data⟩ : T_api_Snapshot), r_26.2.2.entries⟩ : T_rlog_Log), (⟨(⟨r_31.2.2.Snap.Index, r_31.2.2.Snap.Term, r_31.2.2.Snap.Config, r_31.2.2.Snap.Data⟩ : T_api_Snapshot), r_31.2.2.L⟩ : T_tontineref07_Log))) else (some (false, (⟨(⟨r_26.2.2.snap.Index, r_26.2.2.snap.Term, r_26.2.2.snap.Config, r_26.2.2.snap.Data⟩ : T_api_Snapshot), r_26.2.2.entries⟩ : T_rlog_Log), (⟨(⟨r_31.2.2.Snap.Index, r_31.2.2.Snap.Term, r_31.2.2.Snap.Config, r_31.2.2.Snap.Data⟩ : T_api_Snapshot), r_31.2.2.L⟩ : T_tontineref07_Log))))))) else (if (c_9.Kind == 2) then ((rlog_Log_Cut.f n (⟨(⟨g_1.snap.Index, g_1.snap.Term, g_1.snap.Config, g_1.snap.Data⟩ : T_api_Snapshot), g_1.entries⟩ : T_rlog_Log) c_9.Index).bind fun r_42 => ((tontineref07_Log_Cut.f n (⟨(⟨m_5.Snap.Index, m_5.Snap.Term, m_5.Snap.Config, m_5.Snap.Data⟩ : T_api_Snapshot), m_5.L⟩ : T_tontineref07_Log) c_9.Index).bind fun r_45 => (some (true, (⟨(⟨r_42.snap.Index, r_42.snap.Term, r_42.snap.Config, r_42.snap.Data⟩ : T_api_Snapshot), r_42.entries⟩ : T_rlog_Log), (⟨(⟨r_45.Snap.Index, r_45.Snap.Term, r_45.Snap.Config, r_45.Snap.Data⟩ : T_api_Snapshot), r_45.L⟩ : T_tontineref07_Log))))) else (if (c_9.Kind == 3) then ((rlog_Log_Compact.f n (⟨(⟨g_1.snap.Index, g_1.snap.Term, g_1.snap.Config, g_1.snap.Data⟩ : T_api_Snapshot), g_1.entries⟩ : T_rlog_Log) c_9.Index c_9.Data).bind fun r_51 => ((tontineref07_Log_Compact.f n (⟨(⟨m_5.Snap.Index, m_5.Snap.Term, m_5.Snap.Config, m_5.Snap.Data⟩ : T_api_Snapshot), m_5.L⟩ : T_tontineref07_Log) c_9.Index c_9.Data).bind fun r_54 => (some ((r_51.1 == r_54.1), (⟨(⟨r_51.2.snap.Index, r_51.2.snap.Term, r_51.2.snap.Config, r_51.2.snap.Data⟩ : T_api_Snapshot), r_51.2.entries⟩ : T_rlog_Log), (⟨(⟨r_54.2.Snap.Index, r_54.2.Snap.Term, r_54.2.Snap.Config, r_54.2.Snap.Data⟩ : T_api_Snapshot), r_54.2.L⟩ : T_tontineref07_Log))))) else (if (c_9.Kind == 4) then ((rlog_Log_Install.f n (⟨(⟨g_1.snap.Index, g_1.snap.Term, g_1.snap.Config, g_1.snap.Data⟩ : T_api_Snapshot), g_1.entries⟩ : T_rlog_Log) (⟨c_9.Snap.Index, c_9.Snap.Term, c_9.Snap.Config, c_9.Snap.Data⟩ : T_api_Snapshot)).bind fun r_60 => ((tontineref07_Log_Install.f n (⟨(⟨m_5.Snap.Index, m_5.Snap.Term, m_5.Snap.Config, m_5.Snap.Data⟩ : T_api_Snapshot), m_5.L⟩ : T_tontineref07_Log) (⟨c_9.Snap.Index, c_9.Snap.Term, c_9.Snap.Config, c_9.Snap.Data⟩ : T_api_Snapshot)).bind fun r_63 => (some ((r_60.1 == r_63.1), (⟨(⟨r_60.2.snap.Index, r_60.2.snap.Term, r_60.2.snap.Config, r_60.2.snap.Data⟩ : T_api_Snapshot), r_60.2.entries⟩ : T_rlog_Log), (⟨(⟨r_63.2.Snap.Index, r_63.2.Snap.Term, r_63.2.Snap.Config, r_63.2.Snap.Data⟩ : T_api_Snapshot), r_63.2.L⟩ : T_tontineref07_Log))))) else (some (true, (⟨(⟨g_1.snap.Index, g_1.snap.Term, g_1.snap.Config, g_1.snap.Data⟩ : T_api_Snapshot), g_1.entries⟩ : T_rlog_Log), (⟨(⟨m_5.Snap.Index, m_5.Snap.Term, m_5.Snap.Config, m_5.Snap.Data⟩ : T_api_Snapshot), m_5.L⟩ : T_tontineref07_Log))))))))
def tontineref07_Log_Get.j1 (n : Nat) (L0 : (List T_api_Entry) → Int → Option (List T_api_Entry)) (g_1 : T_tontineref07_Log) (l_7 : (List T_api_Entry)) (k_10 : Int) (b_18 : Bool) : Option (List T_api_Entry) :=
  (if b_18 then (if (0 : Int) ≤ k_10 ∧ k_10 < (g_1.L.length : Int) then (if capOk 40 (l_7 ++ [(rdL g_1.L k_10)]).length then (L0 (l_7 ++ [(rdL g_1.L k_10)]) (wi64 (k_10 + 1))) else none) else none) else (L0 l_7 (wi64 (k_10 + 1))))
def tontineref07_Log_Get.j0 (n : Nat) (L0 : (List T_api_Entry) → Int → Option (List T_api_Entry)) (g_1 : T_tontineref07_Log) (i_5 : Int) (l_7 : (List T_api_Entry)) (k_10 : Int) (b_12 : Bool) : Option (List T_api_Entry) :=
  (if b_12 then (if (0 : Int) ≤ k_10 ∧ k_10 < (g_1.L.length : Int) then (if decide (((rdL g_1.L k_10).Index) ≥ i_5) then (if decide ((l_7.length : Int) > 0) then (tontineref07_Log_Get.j1 n L0 g_1 l_7 k_10 true) else (if (0 : Int) ≤ k_10 ∧ k_10 < (g_1.L.length : Int) then (tontineref07_Log_Get.j1 n L0 g_1 l_7 k_10 (((rdL g_1.L k_10).Index) == i_5)) else none)) else (tontineref07_Log_Get.j1 n L0 g_1 l_7 k_10 false)) else none) else (some l_7))
def tontineref07_Log_Get.l0 (n : Nat) (g_1 : T_tontineref07_Log) (i_5 : Int) (n_6 : Int) : Nat → (List T_api_Entry) → Int → Option (List T_api_Entry)
  | 0, _, _ => none
  | k + 1, l_7, k_10 => (if decide (k_10 < (g_1.L.length : Int)) then (tontineref07_Log_Get.j0 n (tontineref07_Log_Get.l0 n g_1 i_5 n_6 k) g_1 i_5 l_7 k_10 (decide ((l_7.length : Int) < n_6))) else (tontineref07_Log_Get.j0 n (tontineref07_Log_Get.l0 n g_1 i_5 n_6 k) g_1 i_5 l_7 k_10 false))
def tontineref07_Log_Get.f (n : Nat) (g_1 : T_tontineref07_Log) (i_5 : Int) (n_6 : Int) : Option (List T_api_Entry) :=
  (tontineref07_Log_Get.l0 n g_1 i_5 n_6 n ([] : List T_api_Entry) 0)
def tontinelaw07_alike.j7 (n : Nat) (g_1 : T_rlog_Log) (m_5 : T_tontineref07_Log) (i_9 : Int) (n_10 : Int) (b_35 : Bool) : Option Bool :=
  (if b_35 then ((rlog_Log_Get.f n (⟨(⟨g_1.snap.Index, g_1.snap.Term, g_1.snap.Config, g_1.snap.Data⟩ : T_api_Snapshot), g_1.entries⟩ : T_rlog_Log) (wu64 (m_5.Snap.Index + 1)) 1000).bind fun r_37 => ((tontineref07_Same.f n r_37 m_5.L).bind fun r_40 => (if r_40 then ((rlog_Log_Get.f n (⟨(⟨g_1.snap.Index, g_1.snap.Term, g_1.snap.Config, g_1.snap.Data⟩ : T_api_Snapshot), g_1.entries⟩ : T_rlog_Log) i_9 n_10).bind fun r_42 => ((tontineref07_Log_Get.f n (⟨(⟨m_5.Snap.Index, m_5.Snap.Term, m_5.Snap.Config, m_5.Snap.Data⟩ : T_api_Snapshot), m_5.L⟩ : T_tontineref07_Log) i_9 n_10).bind fun r_45 => ((tontineref07_Same.f n r_42 r_45).bind fun r_48 => (some r_48)))) else (some false)))) else (some false))
def tontinelaw07_alike.j6 (n : Nat) (g_1 : T_rlog_Log) (m_5 : T_tontineref07_Log) (i_9 : Int) (n_10 : Int) (b_32 : Bool) : Option Bool :=
  (if b_32 then ((rlog_Log_First.f n (⟨(⟨g_1.snap.Index, g_1.snap.Term, g_1.snap.Config, g_1.snap.Data⟩ : T_api_Snapshot), g_1.entries⟩ : T_rlog_Log)).bind fun r_34 => (tontinelaw07_alike.j7 n g_1 m_5 i_9 n_10 ((r_34.Index == m_5.Snap.Index) && ((r_34.Term == m_5.Snap.Term) && ((r_34.Config == m_5.Snap.Config) && ((r_34.Data == m_5.Snap.Data) && true)))))) else (tontinelaw07_alike.j7 n g_1 m_5 i_9 n_10 false))
def tontinelaw07_alike.j5 (n : Nat) (g_1 : T_rlog_Log) (m_5 : T_tontineref07_Log) (i_9 : Int) (n_10 : Int) (r_17 : Int × Int) (r_18 : Int × Int) (b_30 : Bool) : Option Bool :=
  (if b_30 then (tontinelaw07_alike.j6 n g_1 m_5 i_9 n_10 (r_17.2 == r_18.2)) else (tontinelaw07_alike.j6 n g_1 m_5 i_9 n_10 false))
def tontinelaw07_alike.j4 (n : Nat) (g_1 : T_rlog_Log) (m_5 : T_tontineref07_Log) (i_9 : Int) (n_10 : Int) (r_17 : Int × Int) (r_18 : Int × Int) (b_28 : Bool) : Option Bool :=
  (if b_28 then (tontinelaw07_alike.j5 n g_1 m_5 i_9 n_10 r_17 r_18 (r_17.1 == r_18.1)) else (tontinelaw07_alike.j5 n g_1 m_5 i_9 n_10 r_17 r_18 false))
def tontinelaw07_alike.j3 (n : Nat) (g_1 : T_rlog_Log) (m_5 : T_tontineref07_Log) (i_9 : Int) (n_10 : Int) (r_15 : Int × Int) (r_16 : Int × Int) (r_17 : Int × Int) (r_18 : Int × Int) (b_26 : Bool) : Option Bool :=
  (if b_26 then (tontinelaw07_alike.j4 n g_1 m_5 i_9 n_10 r_17 r_18 (r_15.2 == r_16.2)) else (tontinelaw07_alike.j4 n g_1 m_5 i_9 n_10 r_17 r_18 false))
def tontinelaw07_alike.j2 (n : Nat) (g_1 : T_rlog_Log) (m_5 : T_tontineref07_Log) (i_9 : Int) (n_10 : Int) (r_15 : Int × Int) (r_16 : Int × Int) (r_17 : Int × Int) (r_18 : Int × Int) (b_24 : Bool) : Option Bool :=
  (if b_24 then (tontinelaw07_alike.j3 n g_1 m_5 i_9 n_10 r_15 r_16 r_17 r_18 (r_15.1 == r_16.1)) else (tontinelaw07_alike.j3 n g_1 m_5 i_9 n_10 r_15 r_16 r_17 r_18 false))
def tontinelaw07_alike.j1 (n : Nat) (g_1 : T_rlog_Log) (m_5 : T_tontineref07_Log) (i_9 : Int) (n_10 : Int) (r_13 : Int × Int) (r_14 : Int × Int) (r_15 : Int × Int) (r_16 : Int × Int) (r_17 : Int × Int) (r_18 : Int × Int) (b_22 : Bool) : Option Bool :=
  (if b_22 then (tontinelaw07_alike.j2 n g_1 m_5 i_9 n_10 r_15 r_16 r_17 r_18 (r_13.2 == r_14.2)) else (tontinelaw07_alike.j2 n g_1 m_5 i_9 n_10 r_15 r_16 r_17 r_18 false))
def tontinelaw07_alike.j0 (n : Nat) (g_1 : T_rlog_Log) (m_5 : T_tontineref07_Log) (i_9 : Int) (n_10 : Int) (r_13 : Int × Int) (r_14 : Int × Int) (r_15 : Int × Int) (r_16 : Int × Int) (r_17 : Int × Int) (r_18 : Int × Int) (b_20 : Bool) : Option Bool :=
  (if b_20 then (tontinelaw07_alike.j1 n g_1 m_5 i_9 n_10 r_13 r_14 r_15 r_16 r_17 r_18 (r_13.1 == r_14.1)) else (tontinelaw07_alike.j1 n g_1 m_5 i_9 n_10 r_13 r_14 r_15 r_16 r_17 r_18 false))
def tontinelaw07_alike.f (n : Nat) (g_1 : T_rlog_Log) (m_5 : T_tontineref07_Log) (i_9 : Int) (n_10 : Int) : Option Bool :=
  ((rlog_Log_Last.f n (⟨(⟨g_1.snap.Index, g_1.snap.Term, g_1.snap.Config, g_1.snap.Data⟩ : T_api_Snapshot), g_1.entries⟩ : T_rlog_Log)).bind fun r_11 => ((tontineref07_Log_Last.f n (⟨(⟨m_5.Snap.Index, m_5.Snap.Term, m_5.Snap.Config, m_5.Snap.Data⟩ : T_api_Snapshot), m_5.L⟩ : T_tontineref07_Log)).bind fun r_12 => ((rlog_Log_Term.f n (⟨(⟨g_1.snap.Index, g_1.snap.Term, g_1.snap.Config, g_1.snap.Data⟩ : T_api_Snapshot), g_1.entries⟩ : T_rlog_Log) i_9).bind fun r_13 => ((tontineref07_Log_Term.f n (⟨(⟨m_5.Snap.Index, m_5.Snap.Term, m_5.Snap.Config, m_5.Snap.Data⟩ : T_api_Snapshot), m_5.L⟩ : T_tontineref07_Log) i_9).bind fun r_14 => ((rlog_Log_Members.f n (⟨(⟨g_1.snap.Index, g_1.snap.Term, g_1.snap.Config, g_1.snap.Data⟩ : T_api_Snapshot), g_1.entries⟩ : T_rlog_Log)).bind fun r_15 => ((tontineref07_Log_MembersAt.f n (⟨(⟨m_5.Snap.Index, m_5.Snap.Term, m_5.Snap.Config, m_5.Snap.Data⟩ : T_api_Snapshot), m_5.L⟩ : T_tontineref07_Log) 18446744073709551615).bind fun r_16 => ((rlog_Log_MembersAt.f n (⟨(⟨g_1.snap.Index, g_1.snap.Term, g_1.snap.Config, g_1.snap.Data⟩ : T_api_Snapshot), g_1.entries⟩ : T_rlog_Log) i_9).bind fun r_17 => ((tontineref07_Log_MembersAt.f n (⟨(⟨m_5.Snap.Index, m_5.Snap.Term, m_5.Snap.Config, m_5.Snap.Data⟩ : T_api_Snapshot), m_5.L⟩ : T_tontineref07_Log) i_9).bind fun r_18 => (if (r_11.1 == r_12.1) then (tontinelaw07_alike.j0 n g_1 m_5 i_9 n_10 r_13 r_14 r_15 r_16 r_17 r_18 (r_11.2 == r_12.2)) else (tontinelaw07_alike.j0 n g_1 m_5 i_9 n_10 r_13 r_14 r_15 r_16 r_17 r_18 false))))))))))
def tontinelaw07_RlogStays.l0 (n : Nat) (calls_5 : (List T_tontinelaw07_Call)) : Nat → Option Bool
  | 0 => none
  | k + 1 => (if decide (0 < (calls_5.length : Int)) then (if (0 : Int) ≤ 0 ∧ 0 < (calls_5.length : Int) then none else none) else (some true))
def tontinelaw07_RlogStays.j0 (n : Nat) (calls_5 : (List T_tontinelaw07_Call)) (r_13 : Option T_rlog_Log × Int) (r_18 : Option T_tontineref07_Log × Int) (b_24 : Bool) : Option Bool :=
  (if b_24 then (some (r_13.2 == r_18.2)) else (tontinelaw07_RlogStays.l0 n calls_5 n))
def tontinelaw07_RlogStays.l1 (n : Nat) (calls_5 : (List T_tontinelaw07_Call)) : Nat → Option Bool
  | 0 => none
  | k + 1 => (if decide (0 < (calls_5.length : Int)) then (if (0 : Int) ≤ 0 ∧ 0 < (calls_5.length : Int) then none else none) else (some true))
def tontinelaw07_RlogStays.j1 (n : Nat) (calls_5 : (List T_tontinelaw07_Call)) (r_13 : Option T_rlog_Log × Int) (r_18 : Option T_tontineref07_Log × Int) (b_32 : Bool) : Option Bool :=
  (if b_32 then (some (r_13.2 == r_18.2)) else (tontinelaw07_RlogStays.l1 n calls_5 n))
def tontinelaw07_RlogStays.l2 (n : Nat) (calls_5 : (List T_tontinelaw07_Call)) : Nat → Option Bool
  | 0 => none
  | k + 1 => (if decide (0 < (calls_5.length : Int)) then (if (0 : Int) ≤ 0 ∧ 0 < (calls_5.length : Int) then none else none) else (some true))
def tontinelaw07_RlogStays.j2 (n : Nat) (calls_5 : (List T_tontinelaw07_Call)) (r_13 : Option T_rlog_Log × Int) (r_40 : Option T_tontineref07_Log × Int) (b_46 : Bool) : Option Bool :=
  (if b_46 then (some (r_13.2 == r_40.2)) else (tontinelaw07_RlogStays.l2 n calls_5 n))
def tontinelaw07_RlogStays.l3 (n : Nat) (calls_5 : (List T_tontinelaw07_Call)) : Nat → Int → Int → Int → (List UInt8) → (List T_api_Entry) → Int → Int → Int → (List UInt8) → (List T_api_Entry) → Int → Option Bool
  | 0, _, _, _, _, _, _, _, _, _, _, _ => none
  | k + 1, f_56, f_57, f_58, f_59, f_60, f_63, f_64, f_65, f_66, f_67, x_70 => (if decide (x_70 < (calls_5.length : Int)) then (if (0 : Int) ≤ x_70 ∧ x_70 < (calls_5.length : Int) then ((tontinelaw07_both.f n (⟨(⟨f_56, f_57, f_58, f_59⟩ : T_api_Snapshot), f_60⟩ : T_rlog_Log) (⟨(⟨f_63, f_64, f_65, f_66⟩ : T_api_Snapshot), f_67⟩ : T_tontineref07_Log) (⟨(rdL calls_5 x_70).Kind, (rdL calls_5 x_70).Index, (rdL calls_5 x_70).Term, (rdL calls_5 x_70).What, (rdL calls_5 x_70).Data, (rdL calls_5 x_70).L, (⟨(rdL calls_5 x_70).Snap.Index, (rdL calls_5 x_70).Snap.Term, (rdL calls_5 x_70).Snap.Config, (rdL calls_5 x_70).Snap.Data⟩ : T_api_Snapshot)⟩ : T_tontinelaw07_Call)).bind fun r_76 => ((rlog_Log_First.f n (⟨(⟨r_76.2.1.snap.Index, r_76.2.1.snap.Term, r_76.2.1.snap.Config, r_76.2.1.snap.Data⟩ : T_api_Snapshot), r_76.2.1.entries⟩ : T_rlog_Log)).bind fun r_81 => ((rlog_Log_First.f n (⟨(⟨r_76.2.1.snap.Index, r_76.2.1.snap.Term, r_76.2.1.snap.Config, r_76.2.1.snap.Data⟩ : T_api_Snapshot), r_76.2.1.entries⟩ : T_rlog_Log)).bind fun r_82 => ((rlog_Log_Get.f n (⟨(⟨r_76.2.1.snap.Index, r_76.2.1.snap.Term, r_76.2.1.snap.Config, r_76.2.1.snap.Data⟩ : T_api_Snapshot), r_76.2.1.entries⟩ : T_rlog_Log) (wu64 (r_82.Index + 1)) 2000).bind fun r_83 => ((rlog_New.f n r_81 r_83).bind fun r_86 => (match r_86.1 with | none => (if (r_86.2 != 0) then (some false) else none) | some o_90 => (if (r_86.2 != 0) then (some false) else ((tontinelaw07_alike.f n (⟨(⟨o_90.snap.Index, o_90.snap.Term, o_90.snap.Config, o_90.snap.Data⟩ : T_api_Snapshot), o_90.entries⟩ : T_rlog_Log) (⟨(⟨r_76.2.2.Snap.Index, r_76.2.2.Snap.Term, r_76.2.2.Snap.Config, r_76.2.2.Snap.Data⟩ : T_api_Snapshot), r_76.2.2.L⟩ : T_tontineref07_Log) ((rdL calls_5 x_70).Index) ((rdL calls_5 x_70).What)).bind fun r_93 => (if (!r_93) then (some false) else ((tontinelaw07_RlogStays.l3 n calls_5 k) r_76.2.1.snap.Index r_76.2.1.snap.Term r_76.2.1.snap.Config r_76.2.1.snap.Data r_76.2.1.entries r_76.2.2.Snap.Index r_76.2.2.Snap.Term r_76.2.2.Snap.Config r_76.2.2.Snap.Data r_76.2.2.L (wi64 (x_70 + 1)))))))))))) else none) else (some true))
def tontinelaw07_RlogStays.j3 (n : Nat) (calls_5 : (List T_tontinelaw07_Call)) (r_13 : Option T_rlog_Log × Int) (o_17 : T_rlog_Log) (r_40 : Option T_tontineref07_Log × Int) (o_44 : T_tontineref07_Log) (b_54 : Bool) : Option Bool :=
  (if b_54 then (some (r_13.2 == r_40.2)) else (tontinelaw07_RlogStays.l3 n calls_5 n o_17.snap.Index o_17.snap.Term o_17.snap.Config o_17.snap.Data o_17.entries o_44.Snap.Index o_44.Snap.Term o_44.Snap.Config o_44.Snap.Data o_44.L 0))
def tontinelaw07_RlogStays.f (n : Nat) (s_1 : T_api_Snapshot) (l_2 : (List T_api_Entry)) (calls_5 : (List T_tontinelaw07_Call)) : Option Bool :=
  ((tontinelaw07_begun.f n).bind fun r_9 => (if (!r_9) then (some false) else ((tontinelaw07_light.f n l_2 calls_5).bind fun r_11 => (if (!r_11) then (some true) else ((rlog_New.f n s_1 l_2).bind fun r_13 => (match r_13.1 with | none => ((tontineref07_New.f n s_1 l_2).bind fun r_18 => (match r_18.1 with | none => (if (r_13.2 != 0) then (tontinelaw07_RlogStays.j0 n calls_5 r_13 r_18 true) else (tontinelaw07_RlogStays.j0 n calls_5 r_13 r_18 (r_18.2 != 0))) | some o_22 => (if (r_13.2 != 0) then (tontinelaw07_RlogStays.j1 n calls_5 r_13 r_18 true) else (tontinelaw07_RlogStays.j1 n calls_5 r_13 r_18 (r_18.2 != 0))))) | some o_17 => ((tontineref07_New.f n s_1 l_2).bind fun r_40 => (match r_40.1 with | none => (if (r_13.2 != 0) then (tontinelaw07_RlogStays.j2 n calls_5 r_13 r_40 true) else (tontinelaw07_RlogStays.j2 n calls_5 r_13 r_40 (r_40.2 != 0))) | some o_44 => (if (r_13.2 != 0) then (tontinelaw07_RlogStays.j3 n calls_5 r_13 o_17 r_40 o_44 true) else (tontinelaw07_RlogStays.j3 n calls_5 r_13 o_17 r_40 o_44 (r_40.2 != 0)))))))))))
end Go.GL
