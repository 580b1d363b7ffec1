import Derived.Test.YtolipnnfdclkoaaG13
set_option linter.unusedVariables false
namespace Go.GL
open Go

structure T_api_Snapshot where
  Index : Int
  Term : Int
  Config : Int
  Data : (List UInt8)
  deriving DecidableEq
instance : Inhabited T_api_Snapshot := ⟨⟨0, 0, 0, []⟩⟩
structure T_api_Entry where
  Term : Int
  Index : Int
  Kind : Int
  Data : (List UInt8)
  deriving DecidableEq
instance : Inhabited T_api_Entry := ⟨⟨0, 0, 0, []⟩⟩
structure T_tontinelaw07_Call where
  Kind : Int
  Index : Int
  Term : Int
  What : Int
  Data : (List UInt8)
  L : (List T_api_Entry)
  Snap : T_api_Snapshot
  deriving DecidableEq
instance : Inhabited T_tontinelaw07_Call := ⟨⟨0, 0, 0, 0, [], [], ⟨0, 0, 0, []⟩⟩⟩
structure T_rlog_Log where
  snap : T_api_Snapshot
  entries : (List T_api_Entry)
  deriving DecidableEq
instance : Inhabited T_rlog_Log := ⟨⟨⟨0, 0, 0, []⟩, []⟩⟩
structure T_pack_Reader where
  s : (List UInt8)
  bad : Bool
  deriving DecidableEq
instance : Inhabited T_pack_Reader := ⟨⟨[], false⟩⟩
structure T_tontineref03_Reader where
  S_ : (List UInt8)
  Bad : Bool
  deriving DecidableEq
instance : Inhabited T_tontineref03_Reader := ⟨⟨[], false⟩⟩
structure T_tontineref07_Log where
  Snap : T_api_Snapshot
  L : (List T_api_Entry)
  deriving DecidableEq
instance : Inhabited T_tontineref07_Log := ⟨⟨⟨0, 0, 0, []⟩, []⟩⟩
structure T_pack_Writer where
  b : (List UInt8)
  deriving DecidableEq
instance : Inhabited T_pack_Writer := ⟨⟨[]⟩⟩
structure T_api_Step where
  Part : Int
  Name : (List UInt8)
  Budget : Int
  deriving DecidableEq
instance : Inhabited T_api_Step := ⟨⟨0, [], 0⟩⟩
structure T_api_Command where
  Kind : Int
  Session : Int
  Seq : Int
  Saga : Int
  Steps : (List T_api_Step)
  Step : Int
  Back : Bool
  Try : Int
  Ok : Bool
  Now : Int
  deriving DecidableEq
instance : Inhabited T_api_Command := ⟨⟨0, 0, 0, 0, [], 0, false, 0, false, 0⟩⟩
structure T_client_Client where
  id : Int
  session : Int
  seq : Int
  call : Int
  busy : Bool
  now : T_api_Command
  data : (List UInt8)
  to_ : Int
  deriving DecidableEq
instance : Inhabited T_client_Client := ⟨⟨0, 0, 0, 0, false, ⟨0, 0, 0, 0, [], 0, false, 0, false, 0⟩, [], 0⟩⟩
structure T_api_Letter where
  Kind : Int
  From : Int
  To : Int
  Term : Int
  Index : Int
  Prev : Int
  Commit : Int
  Ok : Bool
  Entries : (List T_api_Entry)
  Data : (List UInt8)
  deriving DecidableEq
instance : Inhabited T_api_Letter := ⟨⟨0, 0, 0, 0, 0, 0, 0, false, [], []⟩⟩
structure T_api_Reply where
  Err : Int
  Num : Int
  Extra : Int
  deriving DecidableEq
instance : Inhabited T_api_Reply := ⟨⟨0, 0, 0⟩⟩
structure T_api_Told where
  Client : Int
  Command : T_api_Command
  Reply : T_api_Reply
  deriving DecidableEq
instance : Inhabited T_api_Told := ⟨⟨0, ⟨0, 0, 0, 0, [], 0, false, 0, false, 0⟩, ⟨0, 0, 0⟩⟩⟩
structure T_tontinelaw21_Call where
  Kind : Int
  Command : T_api_Command
  Letter : T_api_Letter
  deriving DecidableEq
instance : Inhabited T_tontinelaw21_Call := ⟨⟨0, ⟨0, 0, 0, 0, [], 0, false, 0, false, 0⟩, ⟨0, 0, 0, 0, 0, 0, 0, false, [], []⟩⟩⟩
structure T_tontineref21_Client where
  Id : Int
  Session : Int
  Last : Int
  Calls : Int
  Busy : Bool
  Now : T_api_Command
  To : Int
  deriving DecidableEq
instance : Inhabited T_tontineref21_Client := ⟨⟨0, 0, 0, 0, false, ⟨0, 0, 0, 0, [], 0, false, 0, false, 0⟩, 0⟩⟩

def quorum_Sound.f (n : Nat) (c_1 : Int) : Option Bool :=
  (if (c_1 != 0) then (some ((bAndNot .u64 c_1 127) == 0)) else (some false))

def rlog_Log_Last.f (n : Nat) (g_1 : T_rlog_Log) : Option (Int × Int) :=
  (if decide ((g_1.entries.length : Int) > 0) then (if (0 : Int) ≤ (wi64 ((g_1.entries.length : Int) - 1)) ∧ (wi64 ((g_1.entries.length : Int) - 1)) < (g_1.entries.length : Int) then (if (0 : Int) ≤ (wi64 ((g_1.entries.length : Int) - 1)) ∧ (wi64 ((g_1.entries.length : Int) - 1)) < (g_1.entries.length : Int) then (some ((rdL g_1.entries (wi64 ((g_1.entries.length : Int) - 1))).Index, (rdL g_1.entries (wi64 ((g_1.entries.length : Int) - 1))).Term)) else none) else none) else (some (g_1.snap.Index, g_1.snap.Term)))

def pack_From.f (n : Nat) (s_1 : (List UInt8)) : Option T_pack_Reader :=
  (some (⟨s_1, false⟩ : T_pack_Reader))

def pack_Reader_fail.f (n : Nat) (r_1 : T_pack_Reader) : Option (Int × T_pack_Reader) :=
  (some (0, (⟨[], true⟩ : T_pack_Reader)))

def pack_Reader_Num.l0 (n : Nat) (r_1 : T_pack_Reader) : Nat → Int → Int → Option (Int × T_pack_Reader)
  | 0, _, _ => none
  | k + 1, x_15, i_16 => (if decide (i_16 ≤ (wi64 ((rdB r_1.s 0).toNat : Int))) then (if (0 : Int) ≤ i_16 ∧ i_16 < (r_1.s.length : Int) then ((pack_Reader_Num.l0 n r_1 k) (bOr .u64 (shL .u64 x_15 8) (wu64 ((rdB r_1.s i_16).toNat : Int))) (wi64 (i_16 + 1))) else none) else (if (0 : Int) ≤ (wi64 ((wi64 ((rdB r_1.s 0).toNat : Int)) + 1)) ∧ (wi64 ((wi64 ((rdB r_1.s 0).toNat : Int)) + 1)) ≤ (r_1.s.length : Int) then (some (x_15, (⟨r_1.s.drop (wi64 ((wi64 ((rdB r_1.s 0).toNat : Int)) + 1)).toNat, r_1.bad⟩ : T_pack_Reader))) else none))
def pack_Reader_Num.j0 (n : Nat) (r_1 : T_pack_Reader) (b_11 : Bool) : Option (Int × T_pack_Reader) :=
  (if b_11 then ((pack_Reader_fail.f n r_1).bind fun r_13 => (some (r_13.1, r_13.2))) else (pack_Reader_Num.l0 n r_1 n 0 1))
def pack_Reader_Num.f (n : Nat) (r_1 : T_pack_Reader) : Option (Int × T_pack_Reader) :=
  (if (r_1.s == ([] : List UInt8)) then ((pack_Reader_fail.f n r_1).bind fun r_4 => (some (r_4.1, r_4.2))) else (if (0 : Int) ≤ 0 ∧ 0 < (r_1.s.length : Int) then (if decide ((wi64 ((rdB r_1.s 0).toNat : Int)) > 8) then (pack_Reader_Num.j0 n r_1 true) else (if decide ((wi64 ((rdB r_1.s 0).toNat : Int)) > (wi64 ((r_1.s.length : Int) - 1))) then (pack_Reader_Num.j0 n r_1 true) else (if decide ((wi64 ((rdB r_1.s 0).toNat : Int)) > 0) then (if (0 : Int) ≤ 1 ∧ 1 < (r_1.s.length : Int) then (pack_Reader_Num.j0 n r_1 (((rdB r_1.s 1).toNat : Int) == 0)) else none) else (pack_Reader_Num.j0 n r_1 false)))) else none))

def pack_Reader_Left.f (n : Nat) (r_1 : T_pack_Reader) : Option (Int × Bool) :=
  (some ((r_1.s.length : Int), (!r_1.bad)))

def pack_Reader_Done.f (n : Nat) (r_1 : T_pack_Reader) : Option Bool :=
  ((pack_Reader_Left.f n r_1).bind fun r_3 => (if (r_3.1 == 0) then (some r_3.2) else (some false)))

def rlog_configOf.f (n : Nat) (s_1 : (List UInt8)) : Option (Int × Bool) :=
  ((pack_From.f n s_1).bind fun r_2 => ((pack_Reader_Num.f n r_2).bind fun r_4 => ((pack_Reader_Done.f n r_4.2).bind fun r_5 => (if r_5 then ((quorum_Sound.f n r_4.1).bind fun r_7 => (some (r_4.1, r_7))) else (some (r_4.1, false))))))

def rlog_sound.j0 (n : Nat) (e_1 : T_api_Entry) (b_10 : Bool) : Option Bool :=
  (if b_10 then (some false) else ((rlog_configOf.f n e_1.Data).bind fun r_12 => (if (e_1.Kind != 2) then (some true) else (some r_12.2))))
def rlog_sound.f (n : Nat) (e_1 : T_api_Entry) (index_2 : Int) (term_3 : Int) : Option Bool :=
  (if (index_2 == 0) then (rlog_sound.j0 n e_1 true) else (if (e_1.Index != index_2) then (rlog_sound.j0 n e_1 true) else (if decide (e_1.Term < term_3) then (rlog_sound.j0 n e_1 true) else (if decide (e_1.Kind < 0) then (rlog_sound.j0 n e_1 true) else (if decide (e_1.Kind > 2) then (rlog_sound.j0 n e_1 true) else (rlog_sound.j0 n e_1 (decide ((e_1.Data.length : Int) > 32768))))))))

def rlog_New.l0 (n : Nat) (s_1 : T_api_Snapshot) (l_2 : (List T_api_Entry)) : Nat → (List T_api_Entry) → Int → Option (Option T_rlog_Log × Int)
  | 0, _, _ => none
  | k + 1, f_9, x_12 => (if decide (x_12 < (l_2.length : Int)) then (if (0 : Int) ≤ x_12 ∧ x_12 < (l_2.length : Int) then ((rlog_Log_Last.f n (⟨s_1, f_9⟩ : T_rlog_Log)).bind fun r_16 => ((rlog_sound.f n (rdL l_2 x_12) (wu64 (r_16.1 + 1)) r_16.2).bind fun r_17 => (if (!r_17) then (some (none, 1)) else (if capOk 40 (f_9 ++ [(rdL l_2 x_12)]).length then ((rlog_New.l0 n s_1 l_2 k) (f_9 ++ [(rdL l_2 x_12)]) (wi64 (x_12 + 1))) else none)))) else none) else (some ((some (⟨s_1, f_9⟩ : T_rlog_Log)), 0)))
def rlog_New.f (n : Nat) (s_1 : T_api_Snapshot) (l_2 : (List T_api_Entry)) : Option (Option T_rlog_Log × Int) :=
  ((quorum_Sound.f n s_1.Config).bind fun r_6 => (if (!r_6) then (some (none, 1)) else (rlog_New.l0 n s_1 l_2 n ([] : List T_api_Entry) 0)))

def rlog_Log_at.j0 (n : Nat) (g_1 : T_rlog_Log) (i_5 : Int) (b_7 : Bool) : Option Int :=
  (if b_7 then (some (-1)) else (some (wi64 (wu64 ((wu64 (i_5 - g_1.snap.Index)) - 1)))))
def rlog_Log_at.f (n : Nat) (g_1 : T_rlog_Log) (i_5 : Int) : Option Int :=
  (if decide (i_5 ≤ g_1.snap.Index) then (rlog_Log_at.j0 n g_1 i_5 true) else (rlog_Log_at.j0 n g_1 i_5 (decide ((wu64 (i_5 - g_1.snap.Index)) > (wu64 (g_1.entries.length : Int))))))

def rlog_Log_Term.f (n : Nat) (g_1 : T_rlog_Log) (i_5 : Int) : Option (Int × Int) :=
  ((rlog_Log_at.f n (⟨(⟨g_1.snap.Index, g_1.snap.Term, g_1.snap.Config, g_1.snap.Data⟩ : T_api_Snapshot), g_1.entries⟩ : T_rlog_Log) i_5).bind fun r_6 => (if decide (r_6 ≥ 0) then (if (0 : Int) ≤ r_6 ∧ r_6 < (g_1.entries.length : Int) then (some ((rdL g_1.entries r_6).Term, 0)) else none) else (if (i_5 == g_1.snap.Index) then (some (g_1.snap.Term, 0)) else (some (0, 20)))))

def rlog_Log_Merge.j0 (n : Nat) (L0 : Int → Option ((List T_api_Entry) × Bool × T_rlog_Log)) (g_1 : T_rlog_Log) (index_5 : Int) (l_7 : (List T_api_Entry)) (x_10 : Int) (p_16 : Int) : Option ((List T_api_Entry) × Bool × T_rlog_Log) :=
  ((rlog_sound.f n (rdL l_7 x_10) (wu64 ((wu64 (index_5 + 1)) + (wu64 x_10))) p_16).bind fun r_17 => (if (!r_17) then (some (([] : List T_api_Entry), false, (⟨(⟨g_1.snap.Index, g_1.snap.Term, g_1.snap.Config, g_1.snap.Data⟩ : T_api_Snapshot), g_1.entries⟩ : T_rlog_Log))) else (L0 (wi64 (x_10 + 1)))))
def rlog_Log_Merge.j4 (n : Nat) (g_1 : T_rlog_Log) (l_22 : (List T_api_Entry)) (x_43 : Int) (f_59 : (List T_api_Entry)) : Option ((List T_api_Entry) × Bool × T_rlog_Log) :=
  (if (0 : Int) ≤ x_43 ∧ x_43 ≤ (l_22.length : Int) ∧ (l_22.length : Int) ≤ (l_22.length : Int) then (if capOk 40 (f_59 ++ ((l_22.take (l_22.length : Int).toNat).drop x_43.toNat)).length then (if (0 : Int) ≤ x_43 ∧ x_43 ≤ (l_22.length : Int) ∧ (l_22.length : Int) ≤ (l_22.length : Int) then (if capOk 40 (([] : List T_api_Entry) ++ ((l_22.take (l_22.length : Int).toNat).drop x_43.toNat)).length then (some (([] : List T_api_Entry) ++ ((l_22.take (l_22.length : Int).toNat).drop x_43.toNat), true, (⟨(⟨g_1.snap.Index, g_1.snap.Term, g_1.snap.Config, g_1.snap.Data⟩ : T_api_Snapshot), f_59 ++ ((l_22.take (l_22.length : Int).toNat).drop x_43.toNat)⟩ : T_rlog_Log))) else none) else none) else none) else none)
def rlog_Log_Merge.j3 (n : Nat) (L2 : Int → Option ((List T_api_Entry) × Bool × T_rlog_Log)) (g_1 : T_rlog_Log) (l_22 : (List T_api_Entry)) (x_43 : Int) (r_47 : Int) (b_50 : Bool) : Option ((List T_api_Entry) × Bool × T_rlog_Log) :=
  (if b_50 then (L2 (wi64 (x_43 + 1))) else (if decide (r_47 ≥ 0) then (if (0 : Int) ≤ (0 : Int) ∧ (0 : Int) ≤ r_47 ∧ r_47 ≤ (g_1.entries.length : Int) then (if capOk 40 (([] : List T_api_Entry) ++ ((g_1.entries.take r_47.toNat).drop (0 : Int).toNat)).length then (rlog_Log_Merge.j4 n g_1 l_22 x_43 (([] : List T_api_Entry) ++ ((g_1.entries.take r_47.toNat).drop (0 : Int).toNat))) else none) else none) else (rlog_Log_Merge.j4 n g_1 l_22 x_43 g_1.entries)))
def rlog_Log_Merge.l2 (n : Nat) (g_1 : T_rlog_Log) (l_22 : (List T_api_Entry)) : Nat → Int → Option ((List T_api_Entry) × Bool × T_rlog_Log)
  | 0, _ => none
  | k + 1, x_43 => (if decide (x_43 < (l_22.length : Int)) then (if (0 : Int) ≤ x_43 ∧ x_43 < (l_22.length : Int) then ((rlog_Log_at.f n (⟨(⟨g_1.snap.Index, g_1.snap.Term, g_1.snap.Config, g_1.snap.Data⟩ : T_api_Snapshot), g_1.entries⟩ : T_rlog_Log) ((rdL l_22 x_43).Index)).bind fun r_47 => (if decide (r_47 ≥ 0) then (if (0 : Int) ≤ r_47 ∧ r_47 < (g_1.entries.length : Int) then (rlog_Log_Merge.j3 n (rlog_Log_Merge.l2 n g_1 l_22 k) g_1 l_22 x_43 r_47 (((rdL g_1.entries r_47).Term) == ((rdL l_22 x_43).Term))) else none) else (rlog_Log_Merge.j3 n (rlog_Log_Merge.l2 n g_1 l_22 k) g_1 l_22 x_43 r_47 false))) else none) else (some (([] : List T_api_Entry), true, (⟨(⟨g_1.snap.Index, g_1.snap.Term, g_1.snap.Config, g_1.snap.Data⟩ : T_api_Snapshot), g_1.entries⟩ : T_rlog_Log))))
def rlog_Log_Merge.j2 (n : Nat) (g_1 : T_rlog_Log) (l_22 : (List T_api_Entry)) (b_41 : Bool) : Option ((List T_api_Entry) × Bool × T_rlog_Log) :=
  (if b_41 then (some (([] : List T_api_Entry), false, (⟨(⟨g_1.snap.Index, g_1.snap.Term, g_1.snap.Config, g_1.snap.Data⟩ : T_api_Snapshot), g_1.entries⟩ : T_rlog_Log))) else (rlog_Log_Merge.l2 n g_1 l_22 n 0))
def rlog_Log_Merge.j1 (n : Nat) (L1 : Int → Int → (List T_api_Entry) → Option ((List T_api_Entry) × Bool × T_rlog_Log)) (g_1 : T_rlog_Log) (index_20 : Int) (term_21 : Int) (l_22 : (List T_api_Entry)) (b_27 : Bool) : Option ((List T_api_Entry) × Bool × T_rlog_Log) :=
  (if b_27 then (if (0 : Int) ≤ 0 ∧ 0 < (l_22.length : Int) then (if (0 : Int) ≤ 0 ∧ 0 < (l_22.length : Int) then (if (0 : Int) ≤ (1 : Int) ∧ (1 : Int) ≤ (l_22.length : Int) ∧ (l_22.length : Int) ≤ (l_22.length : Int) then (L1 ((rdL l_22 (0 : Int)).Index) ((rdL l_22 (0 : Int)).Term) ((l_22.take (l_22.length : Int).toNat).drop (1 : Int).toNat)) else none) else none) else none) else (if decide (index_20 < g_1.snap.Index) then (some (([] : List T_api_Entry), true, (⟨(⟨g_1.snap.Index, g_1.snap.Term, g_1.snap.Config, g_1.snap.Data⟩ : T_api_Snapshot), g_1.entries⟩ : T_rlog_Log))) else ((rlog_Log_Term.f n (⟨(⟨g_1.snap.Index, g_1.snap.Term, g_1.snap.Config, g_1.snap.Data⟩ : T_api_Snapshot), g_1.entries⟩ : T_rlog_Log) index_20).bind fun r_35 => (if decide (index_20 > g_1.snap.Index) then (if (r_35.2 != 0) then (rlog_Log_Merge.j2 n g_1 l_22 true) else (if (r_35.1 != term_21) then (rlog_Log_Merge.j2 n g_1 l_22 true) else (if (index_20 == g_1.snap.Index) then (rlog_Log_Merge.j2 n g_1 l_22 (term_21 != g_1.snap.Term)) else (rlog_Log_Merge.j2 n g_1 l_22 false)))) else (if (index_20 == g_1.snap.Index) then (rlog_Log_Merge.j2 n g_1 l_22 (term_21 != g_1.snap.Term)) else (rlog_Log_Merge.j2 n g_1 l_22 false))))))
def rlog_Log_Merge.l1 (n : Nat) (g_1 : T_rlog_Log) : Nat → Int → Int → (List T_api_Entry) → Option ((List T_api_Entry) × Bool × T_rlog_Log)
  | 0, _, _, _ => none
  | k + 1, index_20, term_21, l_22 => (if decide ((l_22.length : Int) > 0) then (if (0 : Int) ≤ 0 ∧ 0 < (l_22.length : Int) then (rlog_Log_Merge.j1 n (rlog_Log_Merge.l1 n g_1 k) g_1 index_20 term_21 l_22 (decide (((rdL l_22 (0 : Int)).Index) ≤ g_1.snap.Index))) else none) else (rlog_Log_Merge.j1 n (rlog_Log_Merge.l1 n g_1 k) g_1 index_20 term_21 l_22 false))
def rlog_Log_Merge.l0 (n : Nat) (g_1 : T_rlog_Log) (index_5 : Int) (term_6 : Int) (l_7 : (List T_api_Entry)) : Nat → Int → Option ((List T_api_Entry) × Bool × T_rlog_Log)
  | 0, _ => none
  | k + 1, x_10 => (if decide (x_10 < (l_7.length : Int)) then (if (0 : Int) ≤ x_10 ∧ x_10 < (l_7.length : Int) then (if decide (x_10 > 0) then (if (0 : Int) ≤ (wi64 (x_10 - 1)) ∧ (wi64 (x_10 - 1)) < (l_7.length : Int) then (rlog_Log_Merge.j0 n (rlog_Log_Merge.l0 n g_1 index_5 term_6 l_7 k) g_1 index_5 l_7 x_10 ((rdL l_7 (wi64 (x_10 - 1))).Term)) else none) else (rlog_Log_Merge.j0 n (rlog_Log_Merge.l0 n g_1 index_5 term_6 l_7 k) g_1 index_5 l_7 x_10 term_6)) else none) else (rlog_Log_Merge.l1 n g_1 n index_5 term_6 l_7))
def rlog_Log_Merge.f (n : Nat) (g_1 : T_rlog_Log) (index_5 : Int) (term_6 : Int) (l_7 : (List T_api_Entry)) : Option ((List T_api_Entry) × Bool × T_rlog_Log) :=
  (rlog_Log_Merge.l0 n g_1 index_5 term_6 l_7 n 0)

def tontinelaw07_begun.f (n : Nat) : Option Bool :=
  ((rlog_New.f n (⟨0, 0, 7, []⟩ : T_api_Snapshot) [(⟨1, 1, 0, []⟩ : T_api_Entry), (⟨1, 2, 0, []⟩ : T_api_Entry), (⟨2, 3, 0, []⟩ : T_api_Entry)]).bind fun r_3 => (match r_3.1 with | none => none | some o_7 => ((rlog_Log_Merge.f n (⟨(⟨o_7.snap.Index, o_7.snap.Term, o_7.snap.Config, o_7.snap.Data⟩ : T_api_Snapshot), o_7.entries⟩ : T_rlog_Log) 2 1 [(⟨3, 3, 0, []⟩ : T_api_Entry)]).bind fun r_12 => ((rlog_Log_Merge.f n (⟨(⟨r_12.2.2.snap.Index, r_12.2.2.snap.Term, r_12.2.2.snap.Config, r_12.2.2.snap.Data⟩ : T_api_Snapshot), r_12.2.2.entries⟩ : T_rlog_Log) 2 2 ([] : List T_api_Entry)).bind fun r_17 => ((rlog_Log_Last.f n (⟨(⟨r_17.2.2.snap.Index, r_17.2.2.snap.Term, r_17.2.2.snap.Config, r_17.2.2.snap.Data⟩ : T_api_Snapshot), r_17.2.2.entries⟩ : T_rlog_Log)).bind fun r_22 => (if (r_3.2 == 0) then (if r_12.2.1 then (if (!r_17.2.1) then (if ((r_12.1.length : Int) == 1) then (if (r_22.1 == 3) then (some (r_22.2 == 3)) else (some false)) else (some false)) else (some false)) else (some false)) else (some false)))))))

def tontinelaw07_light.l1 (n : Nat) (L0 : Int → Int → Option Bool) (calls_4 : (List T_tontinelaw07_Call)) (x_8 : Int) : Nat → Int → Int → Option Bool
  | 0, _, _ => none
  | k + 1, n_14, x_15 => (if decide (x_15 < (((rdL calls_4 x_8).L).length : Int)) then (if (0 : Int) ≤ x_15 ∧ x_15 < (((rdL calls_4 x_8).L).length : Int) then ((tontinelaw07_light.l1 n L0 calls_4 x_8 k) (wi64 (n_14 + (wi64 ((((rdL ((rdL calls_4 x_8).L) x_15).Data).length : Int).tdiv 100)))) (wi64 (x_15 + 1))) else none) else (L0 n_14 (wi64 (x_8 + 1))))
def tontinelaw07_light.l2 (n : Nat) (l_1 : (List T_api_Entry)) : Nat → Int → Int → Option Bool
  | 0, _, _ => none
  | k + 1, n_19, x_20 => (if decide (x_20 < (l_1.length : Int)) then (if (0 : Int) ≤ x_20 ∧ x_20 < (l_1.length : Int) then ((tontinelaw07_light.l2 n l_1 k) (wi64 (n_19 + (wi64 ((((rdL l_1 x_20).Data).length : Int).tdiv 100)))) (wi64 (x_20 + 1))) else none) else (some (decide (n_19 ≤ 800))))
def tontinelaw07_light.l0 (n : Nat) (l_1 : (List T_api_Entry)) (calls_4 : (List T_tontinelaw07_Call)) : Nat → Int → Int → Option Bool
  | 0, _, _ => none
  | k + 1, n_7, x_8 => (if decide (x_8 < (calls_4.length : Int)) then (if (0 : Int) ≤ x_8 ∧ x_8 < (calls_4.length : Int) then (tontinelaw07_light.l1 n (tontinelaw07_light.l0 n l_1 calls_4 k) calls_4 x_8 n (wi64 (n_7 + (wi64 ((((rdL calls_4 x_8).L).length : Int) + (wi64 ((((rdL calls_4 x_8).Data).length : Int).tdiv 100)))))) 0) else none) else (tontinelaw07_light.l2 n l_1 n n_7 0))
def tontinelaw07_light.f (n : Nat) (l_1 : (List T_api_Entry)) (calls_4 : (List T_tontinelaw07_Call)) : Option Bool :=
  (tontinelaw07_light.l0 n l_1 calls_4 n (wi64 ((l_1.length : Int) + (calls_4.length : Int))) 0)

def rlog_Log_Get.j0 (n : Nat) (g_1 : T_rlog_Log) (n_6 : Int) (r_7 : Int) (b_9 : Bool) : Option (List T_api_Entry) :=
  (if b_9 then (some ([] : List T_api_Entry)) else (if (0 : Int) ≤ r_7 ∧ r_7 ≤ (if (wi64 (r_7 + (if (g_1.entries.length : Int) < n_6 then (g_1.entries.length : Int) else n_6))) < (g_1.entries.length : Int) then (wi64 (r_7 + (if (g_1.entries.length : Int) < n_6 then (g_1.entries.length : Int) else n_6))) else (g_1.entries.length : Int)) ∧ (if (wi64 (r_7 + (if (g_1.entries.length : Int) < n_6 then (g_1.entries.length : Int) else n_6))) < (g_1.entries.length : Int) then (wi64 (r_7 + (if (g_1.entries.length : Int) < n_6 then (g_1.entries.length : Int) else n_6))) else (g_1.entries.length : Int)) ≤ (g_1.entries.length : Int) then (if capOk 40 (([] : List T_api_Entry) ++ ((g_1.entries.take (if (wi64 (r_7 + (if (g_1.entries.length : Int) < n_6 then (g_1.entries.length : Int) else n_6))) < (g_1.entries.length : Int) then (wi64 (r_7 + (if (g_1.entries.length : Int) < n_6 then (g_1.entries.length : Int) else n_6))) else (g_1.entries.length : Int)).toNat).drop r_7.toNat)).length then (some (([] : List T_api_Entry) ++ ((g_1.entries.take (if (wi64 (r_7 + (if (g_1.entries.length : Int) < n_6 then (g_1.entries.length : Int) else n_6))) < (g_1.entries.length : Int) then (wi64 (r_7 + (if (g_1.entries.length : Int) < n_6 then (g_1.entries.length : Int) else n_6))) else (g_1.entries.length : Int)).toNat).drop r_7.toNat))) else none) else none))
def rlog_Log_Get.f (n : Nat) (g_1 : T_rlog_Log) (i_5 : Int) (n_6 : Int) : Option (List T_api_Entry) :=
  ((rlog_Log_at.f n (⟨(⟨g_1.snap.Index, g_1.snap.Term, g_1.snap.Config, g_1.snap.Data⟩ : T_api_Snapshot), g_1.entries⟩ : T_rlog_Log) i_5).bind fun r_7 => (if decide (r_7 < 0) then (rlog_Log_Get.j0 n g_1 n_6 r_7 true) else (rlog_Log_Get.j0 n g_1 n_6 r_7 (decide (n_6 ≤ 0)))))

def tontineref07_Same.l0 (n : Nat) (a_1 : (List T_api_Entry)) (b_4 : (List T_api_Entry)) : Nat → Int → Option Bool
  | 0, _ => none
  | k + 1, i_8 => (if decide (i_8 < (a_1.length : Int)) then (if (0 : Int) ≤ i_8 ∧ i_8 < (a_1.length : Int) then (if (0 : Int) ≤ i_8 ∧ i_8 < (b_4.length : Int) then (if (!((((rdL a_1 i_8).Term) == ((rdL b_4 i_8).Term)) && ((((rdL a_1 i_8).Index) == ((rdL b_4 i_8).Index)) && ((((rdL a_1 i_8).Kind) == ((rdL b_4 i_8).Kind)) && ((((rdL a_1 i_8).Data) == ((rdL b_4 i_8).Data)) && true))))) then (some false) else ((tontineref07_Same.l0 n a_1 b_4 k) (wi64 (i_8 + 1)))) else none) else none) else (some true))
def tontineref07_Same.f (n : Nat) (a_1 : (List T_api_Entry)) (b_4 : (List T_api_Entry)) : Option Bool :=
  (if ((a_1.length : Int) != (b_4.length : Int)) then (some false) else (tontineref07_Same.l0 n a_1 b_4 n 0))

def tontinelaw07_RlogMerges.j0 (n : Nat) (b_37 : Bool) : Option Bool :=
  (some b_37)
def tontinelaw07_RlogMerges.j1 (n : Nat) (L0 : Int → Option Bool) (x_39 : Int) (b_46 : Bool) : Option Bool :=
  (if b_46 then (some false) else (L0 (wi64 (x_39 + 1))))
def tontinelaw07_RlogMerges.j2 (n : Nat) (L1 : Int → Option Bool) (x_49 : Int) (b_56 : Bool) : Option Bool :=
  (if b_56 then (some false) else (L1 (wi64 (x_49 + 1))))
def tontinelaw07_RlogMerges.l1 (n : Nat) (s_1 : T_api_Snapshot) (c_5 : T_tontinelaw07_Call) (r_23 : (List T_api_Entry)) (r_26 : (List T_api_Entry) × Bool × T_rlog_Log) : Nat → Int → Option Bool
  | 0, _ => none
  | k + 1, x_49 => (if decide (x_49 < (r_23.length : Int)) then (if (0 : Int) ≤ x_49 ∧ x_49 < (r_23.length : Int) then ((rlog_Log_Term.f n (⟨(⟨r_26.2.2.snap.Index, r_26.2.2.snap.Term, r_26.2.2.snap.Config, r_26.2.2.snap.Data⟩ : T_api_Snapshot), r_26.2.2.entries⟩ : T_rlog_Log) ((rdL r_23 x_49).Index)).bind fun r_53 => (if decide (((rdL r_23 x_49).Index) ≤ c_5.Index) then (if (r_53.2 != 0) then (tontinelaw07_RlogMerges.j2 n (tontinelaw07_RlogMerges.l1 n s_1 c_5 r_23 r_26 k) x_49 true) else (tontinelaw07_RlogMerges.j2 n (tontinelaw07_RlogMerges.l1 n s_1 c_5 r_23 r_26 k) x_49 (r_53.1 != ((rdL r_23 x_49).Term)))) else (tontinelaw07_RlogMerges.j2 n (tontinelaw07_RlogMerges.l1 n s_1 c_5 r_23 r_26 k) x_49 false))) else none) else ((rlog_Log_Get.f n (⟨(⟨r_26.2.2.snap.Index, r_26.2.2.snap.Term, r_26.2.2.snap.Config, r_26.2.2.snap.Data⟩ : T_api_Snapshot), r_26.2.2.entries⟩ : T_rlog_Log) (wu64 (s_1.Index + 1)) 2000).bind fun r_59 => ((rlog_Log_Merge.f n (⟨(⟨r_26.2.2.snap.Index, r_26.2.2.snap.Term, r_26.2.2.snap.Config, r_26.2.2.snap.Data⟩ : T_api_Snapshot), r_26.2.2.entries⟩ : T_rlog_Log) c_5.Index c_5.Term c_5.L).bind fun r_62 => (if r_62.2.1 then (if ((r_62.1.length : Int) == 0) then ((rlog_Log_Get.f n (⟨(⟨r_62.2.2.snap.Index, r_62.2.2.snap.Term, r_62.2.2.snap.Config, r_62.2.2.snap.Data⟩ : T_api_Snapshot), r_62.2.2.entries⟩ : T_rlog_Log) (wu64 (s_1.Index + 1)) 2000).bind fun r_69 => ((tontineref07_Same.f n r_59 r_69).bind fun r_72 => (some r_72))) else (some false)) else (some false)))))
def tontinelaw07_RlogMerges.l0 (n : Nat) (s_1 : T_api_Snapshot) (c_5 : T_tontinelaw07_Call) (r_23 : (List T_api_Entry)) (r_26 : (List T_api_Entry) × Bool × T_rlog_Log) : Nat → Int → Option Bool
  | 0, _ => none
  | k + 1, x_39 => (if decide (x_39 < (c_5.L.length : Int)) then (if (0 : Int) ≤ x_39 ∧ x_39 < (c_5.L.length : Int) then ((rlog_Log_Term.f n (⟨(⟨r_26.2.2.snap.Index, r_26.2.2.snap.Term, r_26.2.2.snap.Config, r_26.2.2.snap.Data⟩ : T_api_Snapshot), r_26.2.2.entries⟩ : T_rlog_Log) ((rdL c_5.L x_39).Index)).bind fun r_43 => (if decide (((rdL c_5.L x_39).Index) > s_1.Index) then (if (r_43.2 != 0) then (tontinelaw07_RlogMerges.j1 n (tontinelaw07_RlogMerges.l0 n s_1 c_5 r_23 r_26 k) x_39 true) else (tontinelaw07_RlogMerges.j1 n (tontinelaw07_RlogMerges.l0 n s_1 c_5 r_23 r_26 k) x_39 (r_43.1 != ((rdL c_5.L x_39).Term)))) else (tontinelaw07_RlogMerges.j1 n (tontinelaw07_RlogMerges.l0 n s_1 c_5 r_23 r_26 k) x_39 false))) else none) else (tontinelaw07_RlogMerges.l1 n s_1 c_5 r_23 r_26 n 0))
def tontinelaw07_RlogMerges.f (n : Nat) (s_1 : T_api_Snapshot) (l_2 : (List T_api_Entry)) (c_5 : T_tontinelaw07_Call) : Option Bool :=
  ((tontinelaw07_begun.f n).bind fun r_10 => (if (!r_10) then (some false) else ((tontinelaw07_light.f n l_2 [(⟨c_5.Kind, c_5.Index, c_5.Term, c_5.What, c_5.Data, c_5.L, (⟨c_5.Snap.Index, c_5.Snap.Term, c_5.Snap.Config, c_5.Snap.Data⟩ : T_api_Snapshot)⟩ : T_tontinelaw07_Call)]).bind fun r_14 => (if (!r_14) then (some true) else ((rlog_New.f n s_1 l_2).bind fun r_16 => (match r_16.1 with | none => (if (r_16.2 != 0) then (some true) else none) | some o_20 => (if (r_16.2 != 0) then (some true) else ((rlog_Log_Get.f n (⟨(⟨o_20.snap.Index, o_20.snap.Term, o_20.snap.Config, o_20.snap.Data⟩ : T_api_Snapshot), o_20.entries⟩ : T_rlog_Log) (wu64 (s_1.Index + 1)) 2000).bind fun r_23 => ((rlog_Log_Merge.f n (⟨(⟨o_20.snap.Index, o_20.snap.Term, o_20.snap.Config, o_20.snap.Data⟩ : T_api_Snapshot), o_20.entries⟩ : T_rlog_Log) c_5.Index c_5.Term c_5.L).bind fun r_26 => (if (!r_26.2.1) then (if ((r_26.1.length : Int) == 0) then ((rlog_Log_Get.f n (⟨(⟨r_26.2.2.snap.Index, r_26.2.2.snap.Term, r_26.2.2.snap.Config, r_26.2.2.snap.Data⟩ : T_api_Snapshot), r_26.2.2.entries⟩ : T_rlog_Log) (wu64 (s_1.Index + 1)) 2000).bind fun r_33 => ((tontineref07_Same.f n r_23 r_33).bind fun r_36 => (tontinelaw07_RlogMerges.j0 n r_36))) else (tontinelaw07_RlogMerges.j0 n false)) else (tontinelaw07_RlogMerges.l0 n s_1 c_5 r_23 r_26 n 0)))))))))))

def rlog_Log_MembersAt.j0 (n : Nat) (L0 : Int → Option (Int × Int)) (g_1 : T_rlog_Log) (k_6 : Int) (b_11 : Bool) : Option (Int × Int) :=
  (if b_11 then ((rlog_configOf.f n ((rdL g_1.entries k_6).Data)).bind fun r_13 => (some (r_13.1, (rdL g_1.entries k_6).Index))) else (L0 (wi64 (k_6 - 1))))
def rlog_Log_MembersAt.l0 (n : Nat) (g_1 : T_rlog_Log) (i_5 : Int) : Nat → Int → Option (Int × Int)
  | 0, _ => none
  | k + 1, k_6 => (if decide (k_6 ≥ 0) then (if (0 : Int) ≤ k_6 ∧ k_6 < (g_1.entries.length : Int) then (if (((rdL g_1.entries k_6).Kind) == 2) then (rlog_Log_MembersAt.j0 n (rlog_Log_MembersAt.l0 n g_1 i_5 k) g_1 k_6 (decide (((rdL g_1.entries k_6).Index) ≤ i_5))) else (rlog_Log_MembersAt.j0 n (rlog_Log_MembersAt.l0 n g_1 i_5 k) g_1 k_6 false)) else none) else (some (g_1.snap.Config, g_1.snap.Index)))
def rlog_Log_MembersAt.f (n : Nat) (g_1 : T_rlog_Log) (i_5 : Int) : Option (Int × Int) :=
  (rlog_Log_MembersAt.l0 n g_1 i_5 n (wi64 ((g_1.entries.length : Int) - 1)))

def rlog_Log_Members.f (n : Nat) (g_1 : T_rlog_Log) : Option (Int × Int) :=
  ((rlog_Log_MembersAt.f n (⟨(⟨g_1.snap.Index, g_1.snap.Term, g_1.snap.Config, g_1.snap.Data⟩ : T_api_Snapshot), g_1.entries⟩ : T_rlog_Log) 18446744073709551615).bind fun r_5 => (some (r_5.1, r_5.2)))

def rlog_Log_Compact.f (n : Nat) (g_1 : T_rlog_Log) (i_5 : Int) (data_6 : (List UInt8)) : Option (Int × T_rlog_Log) :=
  ((rlog_Log_at.f n (⟨(⟨g_1.snap.Index, g_1.snap.Term, g_1.snap.Config, g_1.snap.Data⟩ : T_api_Snapshot), g_1.entries⟩ : T_rlog_Log) i_5).bind fun r_7 => (if decide (r_7 < 0) then (some (20, (⟨(⟨g_1.snap.Index, g_1.snap.Term, g_1.snap.Config, g_1.snap.Data⟩ : T_api_Snapshot), g_1.entries⟩ : T_rlog_Log))) else ((rlog_Log_MembersAt.f n (⟨(⟨g_1.snap.Index, g_1.snap.Term, g_1.snap.Config, g_1.snap.Data⟩ : T_api_Snapshot), g_1.entries⟩ : T_rlog_Log) i_5).bind fun r_9 => (if (0 : Int) ≤ r_7 ∧ r_7 < (g_1.entries.length : Int) then (if (0 : Int) ≤ (wi64 (r_7 + 1)) ∧ (wi64 (r_7 + 1)) ≤ (g_1.entries.length : Int) ∧ (g_1.entries.length : Int) ≤ (g_1.entries.length : Int) then (if capOk 40 (([] : List T_api_Entry) ++ ((g_1.entries.take (g_1.entries.length : Int).toNat).drop (wi64 (r_7 + 1)).toNat)).length then (some (0, (⟨(⟨i_5, (rdL g_1.entries r_7).Term, r_9.1, data_6⟩ : T_api_Snapshot), ([] : List T_api_Entry) ++ ((g_1.entries.take (g_1.entries.length : Int).toNat).drop (wi64 (r_7 + 1)).toNat)⟩ : T_rlog_Log))) else none) else none) else none))))

def rlog_Log_First.f (n : Nat) (g_1 : T_rlog_Log) : Option T_api_Snapshot :=
  (some (⟨g_1.snap.Index, g_1.snap.Term, g_1.snap.Config, g_1.snap.Data⟩ : T_api_Snapshot))

def tontinelaw07_RlogCompacts.j0 (n : Nat) (l_2 : (List T_api_Entry)) (at_5 : Int) (b_17 : Bool) : Option Bool :=
  (if b_17 then (some true) else (if (l_2.length : Int) ≠ 0 then (if (0 : Int) ≤ ((wi64 ((at_5.tmod (l_2.length : Int)) + (l_2.length : Int))).tmod (l_2.length : Int)) ∧ ((wi64 ((at_5.tmod (l_2.length : Int)) + (l_2.length : Int))).tmod (l_2.length : Int)) < (l_2.length : Int) then none else none) else none))
def tontinelaw07_RlogCompacts.j2 (n : Nat) (l_2 : (List T_api_Entry)) (at_5 : Int) (r_28 : Int × Int) (r_29 : Int × Int) (r_30 : Int × Int) (r_31 : (List T_api_Entry)) (r_34 : Int × Int) (f_42 : Int) (f_43 : Int) (f_44 : Int) (f_45 : (List UInt8)) (f_46 : (List T_api_Entry)) (b_49 : Bool) : Option Bool :=
  (if b_49 then (some false) else ((rlog_Log_Last.f n (⟨(⟨f_42, f_43, f_44, f_45⟩ : T_api_Snapshot), f_46⟩ : T_rlog_Log)).bind fun r_51 => ((rlog_Log_Members.f n (⟨(⟨f_42, f_43, f_44, f_45⟩ : T_api_Snapshot), f_46⟩ : T_rlog_Log)).bind fun r_52 => ((rlog_Log_Term.f n (⟨(⟨f_42, f_43, f_44, f_45⟩ : T_api_Snapshot), f_46⟩ : T_rlog_Log) ((rdL l_2 ((wi64 ((at_5.tmod (l_2.length : Int)) + (l_2.length : Int))).tmod (l_2.length : Int))).Index)).bind fun r_53 => (if (r_51.1 == r_28.1) then (if (r_51.2 == r_28.2) then (if (r_52.1 == r_29.1) then (if (r_52.2 == r_29.2) then (if (r_53.1 == r_34.1) then (if (r_53.2 == 0) then ((rlog_Log_First.f n (⟨(⟨f_42, f_43, f_44, f_45⟩ : T_api_Snapshot), f_46⟩ : T_rlog_Log)).bind fun r_60 => (if ((r_60.Index == ((rdL l_2 ((wi64 ((at_5.tmod (l_2.length : Int)) + (l_2.length : Int))).tmod (l_2.length : Int))).Index)) && ((r_60.Term == r_34.1) && ((r_60.Config == r_30.1) && ((r_60.Data == ([100, 97, 116, 97] : List UInt8)) && true)))) then ((rlog_Log_Get.f n (⟨(⟨f_42, f_43, f_44, f_45⟩ : T_api_Snapshot), f_46⟩ : T_rlog_Log) (wu64 (((rdL l_2 ((wi64 ((at_5.tmod (l_2.length : Int)) + (l_2.length : Int))).tmod (l_2.length : Int))).Index) + 1)) 2000).bind fun r_62 => ((tontineref07_Same.f n r_62 r_31).bind fun r_65 => (some r_65))) else (some false))) else (some false)) else (some false)) else (if decide (r_29.2 ≤ ((rdL l_2 ((wi64 ((at_5.tmod (l_2.length : Int)) + (l_2.length : Int))).tmod (l_2.length : Int))).Index)) then (if (r_52.2 == ((rdL l_2 ((wi64 ((at_5.tmod (l_2.length : Int)) + (l_2.length : Int))).tmod (l_2.length : Int))).Index)) then (if (r_53.1 == r_34.1) then (if (r_53.2 == 0) then ((rlog_Log_First.f n (⟨(⟨f_42, f_43, f_44, f_45⟩ : T_api_Snapshot), f_46⟩ : T_rlog_Log)).bind fun r_73 => (if ((r_73.Index == ((rdL l_2 ((wi64 ((at_5.tmod (l_2.length : Int)) + (l_2.length : Int))).tmod (l_2.length : Int))).Index)) && ((r_73.Term == r_34.1) && ((r_73.Config == r_30.1) && ((r_73.Data == ([100, 97, 116, 97] : List UInt8)) && true)))) then ((rlog_Log_Get.f n (⟨(⟨f_42, f_43, f_44, f_45⟩ : T_api_Snapshot), f_46⟩ : T_rlog_Log) (wu64 (((rdL l_2 ((wi64 ((at_5.tmod (l_2.length : Int)) + (l_2.length : Int))).tmod (l_2.length : Int))).Index) + 1)) 2000).bind fun r_75 => ((tontineref07_Same.f n r_75 r_31).bind fun r_78 => (some r_78))) else (some false))) else (some false)) else (some false)) else (some false)) else (some false))) else (some false)) else (some false)) else (some false))))))
def tontinelaw07_RlogCompacts.j1 (n : Nat) (l_2 : (List T_api_Entry)) (at_5 : Int) (o_13 : T_rlog_Log) (b_24 : Bool) : Option Bool :=
  (if b_24 then (some true) else (if (l_2.length : Int) ≠ 0 then (if (0 : Int) ≤ ((wi64 ((at_5.tmod (l_2.length : Int)) + (l_2.length : Int))).tmod (l_2.length : Int)) ∧ ((wi64 ((at_5.tmod (l_2.length : Int)) + (l_2.length : Int))).tmod (l_2.length : Int)) < (l_2.length : Int) then ((rlog_Log_Last.f n (⟨(⟨o_13.snap.Index, o_13.snap.Term, o_13.snap.Config, o_13.snap.Data⟩ : T_api_Snapshot), o_13.entries⟩ : T_rlog_Log)).bind fun r_28 => ((rlog_Log_Members.f n (⟨(⟨o_13.snap.Index, o_13.snap.Term, o_13.snap.Config, o_13.snap.Data⟩ : T_api_Snapshot), o_13.entries⟩ : T_rlog_Log)).bind fun r_29 => ((rlog_Log_MembersAt.f n (⟨(⟨o_13.snap.Index, o_13.snap.Term, o_13.snap.Config, o_13.snap.Data⟩ : T_api_Snapshot), o_13.entries⟩ : T_rlog_Log) ((rdL l_2 ((wi64 ((at_5.tmod (l_2.length : Int)) + (l_2.length : Int))).tmod (l_2.length : Int))).Index)).bind fun r_30 => ((rlog_Log_Get.f n (⟨(⟨o_13.snap.Index, o_13.snap.Term, o_13.snap.Config, o_13.snap.Data⟩ : T_api_Snapshot), o_13.entries⟩ : T_rlog_Log) (wu64 (((rdL l_2 ((wi64 ((at_5.tmod (l_2.length : Int)) + (l_2.length : Int))).tmod (l_2.length : Int))).Index) + 1)) 2000).bind fun r_31 => ((rlog_Log_Term.f n (⟨(⟨o_13.snap.Index, o_13.snap.Term, o_13.snap.Config, o_13.snap.Data⟩ : T_api_Snapshot), o_13.entries⟩ : T_rlog_Log) ((rdL l_2 ((wi64 ((at_5.tmod (l_2.length : Int)) + (l_2.length : Int))).tmod (l_2.length : Int))).Index)).bind fun r_34 => ((rlog_Log_Compact.f n (⟨(⟨o_13.snap.Index, o_13.snap.Term, o_13.snap.Config, o_13.snap.Data⟩ : T_api_Snapshot), o_13.entries⟩ : T_rlog_Log) ((rdL l_2 ((wi64 ((at_5.tmod (l_2.length : Int)) + (l_2.length : Int))).tmod (l_2.length : Int))).Index) [100, 97, 116, 97]).bind fun r_35 => (if (r_35.1 != 0) then (tontinelaw07_RlogCompacts.j2 n l_2 at_5 r_28 r_29 r_30 r_31 r_34 r_35.2.snap.Index r_35.2.snap.Term r_35.2.snap.Config r_35.2.snap.Data r_35.2.entries true) else ((rlog_Log_Compact.f n (⟨(⟨r_35.2.snap.Index, r_35.2.snap.Term, r_35.2.snap.Config, r_35.2.snap.Data⟩ : T_api_Snapshot), r_35.2.entries⟩ : T_rlog_Log) ((rdL l_2 ((wi64 ((at_5.tmod (l_2.length : Int)) + (l_2.length : Int))).tmod (l_2.length : Int))).Index) [97, 103, 97, 105, 110]).bind fun r_39 => (tontinelaw07_RlogCompacts.j2 n l_2 at_5 r_28 r_29 r_30 r_31 r_34 r_39.2.snap.Index r_39.2.snap.Term r_39.2.snap.Config r_39.2.snap.Data r_39.2.entries (r_39.1 != 20)))))))))) else none) else none))
def tontinelaw07_RlogCompacts.f (n : Nat) (s_1 : T_api_Snapshot) (l_2 : (List T_api_Entry)) (at_5 : Int) : Option Bool :=
  ((tontinelaw07_begun.f n).bind fun r_7 => (if (!r_7) then (some false) else ((rlog_New.f n s_1 l_2).bind fun r_9 => (match r_9.1 with | none => (if (r_9.2 != 0) then (tontinelaw07_RlogCompacts.j0 n l_2 at_5 true) else ((tontinelaw07_light.f n l_2 ([] : List T_tontinelaw07_Call)).bind fun r_15 => (if (!r_15) then (tontinelaw07_RlogCompacts.j0 n l_2 at_5 true) else (tontinelaw07_RlogCompacts.j0 n l_2 at_5 ((l_2.length : Int) == 0))))) | some o_13 => (if (r_9.2 != 0) then (tontinelaw07_RlogCompacts.j1 n l_2 at_5 o_13 true) else ((tontinelaw07_light.f n l_2 ([] : List T_tontinelaw07_Call)).bind fun r_22 => (if (!r_22) then (tontinelaw07_RlogCompacts.j1 n l_2 at_5 o_13 true) else (tontinelaw07_RlogCompacts.j1 n l_2 at_5 o_13 ((l_2.length : Int) == 0)))))))))

def tontineref06_Sound.f (n : Nat) (c_1 : Int) : Option Bool :=
  (if decide (c_1 > 0) then (some (decide (c_1 < 128))) else (some false))

def tontineref03_Reader_Fail.f (n : Nat) (r_1 : T_tontineref03_Reader) : Option T_tontineref03_Reader :=
  (some (⟨[], true⟩ : T_tontineref03_Reader))

def tontineref03_Reader_Num.l0 (n : Nat) (r_1 : T_tontineref03_Reader) (n_5 : Int) : Nat → Int → Int → Option (Int × T_tontineref03_Reader)
  | 0, _, _ => none
  | k + 1, x_15, i_16 => (if decide (i_16 ≤ n_5) then (if (0 : Int) ≤ i_16 ∧ i_16 < (r_1.S_.length : Int) then ((tontineref03_Reader_Num.l0 n r_1 n_5 k) (wu64 ((wu64 (256 * x_15)) + (wu64 ((rdB r_1.S_ i_16).toNat : Int)))) (wi64 (i_16 + 1))) else none) else (if (0 : Int) ≤ (wi64 (n_5 + 1)) ∧ (wi64 (n_5 + 1)) ≤ (r_1.S_.length : Int) then (some (x_15, (⟨r_1.S_.drop (wi64 (n_5 + 1)).toNat, r_1.Bad⟩ : T_tontineref03_Reader))) else none))
def tontineref03_Reader_Num.j1 (n : Nat) (r_1 : T_tontineref03_Reader) (n_5 : Int) (b_11 : Bool) : Option (Int × T_tontineref03_Reader) :=
  (if b_11 then ((tontineref03_Reader_Fail.f n r_1).bind fun r_13 => (some (0, r_13))) else (tontineref03_Reader_Num.l0 n r_1 n_5 n 0 1))
def tontineref03_Reader_Num.j0 (n : Nat) (r_1 : T_tontineref03_Reader) (n_5 : Int) : Option (Int × T_tontineref03_Reader) :=
  (if decide (n_5 < 0) then (tontineref03_Reader_Num.j1 n r_1 n_5 true) else (if decide (n_5 > 8) then (tontineref03_Reader_Num.j1 n r_1 n_5 true) else (if decide ((r_1.S_.length : Int) < (wi64 (n_5 + 1))) then (tontineref03_Reader_Num.j1 n r_1 n_5 true) else (if decide (n_5 > 0) then (if (0 : Int) ≤ 1 ∧ 1 < (r_1.S_.length : Int) then (tontineref03_Reader_Num.j1 n r_1 n_5 (((rdB r_1.S_ 1).toNat : Int) == 0)) else none) else (tontineref03_Reader_Num.j1 n r_1 n_5 false)))))
def tontineref03_Reader_Num.f (n : Nat) (r_1 : T_tontineref03_Reader) : Option (Int × T_tontineref03_Reader) :=
  (if decide ((r_1.S_.length : Int) > 0) then (if (0 : Int) ≤ 0 ∧ 0 < (r_1.S_.length : Int) then (tontineref03_Reader_Num.j0 n r_1 (wi64 ((rdB r_1.S_ 0).toNat : Int))) else none) else (tontineref03_Reader_Num.j0 n r_1 (-1)))

def tontineref07_Said.f (n : Nat) (s_1 : (List UInt8)) : Option (Int × Bool) :=
  ((tontineref03_Reader_Num.f n (⟨s_1, false⟩ : T_tontineref03_Reader)).bind fun r_3 => (if (!r_3.2.Bad) then (if (r_3.2.S_ == ([] : List UInt8)) then ((tontineref06_Sound.f n r_3.1).bind fun r_6 => (some (r_3.1, r_6))) else (some (r_3.1, false))) else (some (r_3.1, false))))

def tontineref07_May.j0 (n : Nat) (e_1 : T_api_Entry) (index_2 : Int) (term_3 : Int) : Option Bool :=
  (if decide (index_2 > 0) then (if (e_1.Index == index_2) then (if decide (e_1.Term ≥ term_3) then (if decide (e_1.Kind ≥ 0) then (if decide (e_1.Kind ≤ 2) then (some (decide ((e_1.Data.length : Int) ≤ 32768))) else (some false)) else (some false)) else (some false)) else (some false)) else (some false))
def tontineref07_May.f (n : Nat) (e_1 : T_api_Entry) (index_2 : Int) (term_3 : Int) : Option Bool :=
  (if (e_1.Kind == 2) then ((tontineref07_Said.f n e_1.Data).bind fun r_6 => (if (!r_6.2) then (some false) else (tontineref07_May.j0 n e_1 index_2 term_3))) else (tontineref07_May.j0 n e_1 index_2 term_3))

def tontineref07_New.l0 (n : Nat) (s_1 : T_api_Snapshot) (l_2 : (List T_api_Entry)) : Nat → Int → Int → Int → Option (Option T_tontineref07_Log × Int)
  | 0, _, _, _ => none
  | k + 1, index_8, term_9, i_10 => (if decide (i_10 < (l_2.length : Int)) then (if (0 : Int) ≤ i_10 ∧ i_10 < (l_2.length : Int) then ((tontineref07_May.f n (rdL l_2 i_10) (wu64 (index_8 + 1)) term_9).bind fun r_13 => (if (!r_13) then (some (none, 1)) else (if (0 : Int) ≤ i_10 ∧ i_10 < (l_2.length : Int) then (if (0 : Int) ≤ i_10 ∧ i_10 < (l_2.length : Int) then ((tontineref07_New.l0 n s_1 l_2 k) ((rdL l_2 i_10).Index) ((rdL l_2 i_10).Term) (wi64 (i_10 + 1))) else none) else none))) else none) else (if capOk 40 (([] : List T_api_Entry) ++ l_2).length then (some ((some (⟨s_1, ([] : List T_api_Entry) ++ l_2⟩ : T_tontineref07_Log)), 0)) else none))
def tontineref07_New.f (n : Nat) (s_1 : T_api_Snapshot) (l_2 : (List T_api_Entry)) : Option (Option T_tontineref07_Log × Int) :=
  ((tontineref06_Sound.f n s_1.Config).bind fun r_6 => (if (!r_6) then (some (none, 1)) else (tontineref07_New.l0 n s_1 l_2 n s_1.Index s_1.Term 0)))

def rlog_Log_Add.f (n : Nat) (g_1 : T_rlog_Log) (term_5 : Int) (kind_6 : Int) (data_7 : (List UInt8)) : Option (T_api_Entry × Int × T_rlog_Log) :=
  ((rlog_Log_Last.f n (⟨(⟨g_1.snap.Index, g_1.snap.Term, g_1.snap.Config, g_1.snap.Data⟩ : T_api_Snapshot), g_1.entries⟩ : T_rlog_Log)).bind fun r_9 => ((rlog_sound.f n (⟨term_5, wu64 (r_9.1 + 1), kind_6, data_7⟩ : T_api_Entry) (wu64 (r_9.1 + 1)) r_9.2).bind fun r_11 => (if (!r_11) then (some ((⟨0, 0, 0, []⟩ : T_api_Entry), 1, (⟨(⟨g_1.snap.Index, g_1.snap.Term, g_1.snap.Config, g_1.snap.Data⟩ : T_api_Snapshot), g_1.entries⟩ : T_rlog_Log))) else (if capOk 40 (g_1.entries ++ [(⟨term_5, wu64 (r_9.1 + 1), kind_6, data_7⟩ : T_api_Entry)]).length then (some ((⟨term_5, wu64 (r_9.1 + 1), kind_6, data_7⟩ : T_api_Entry), 0, (⟨(⟨g_1.snap.Index, g_1.snap.Term, g_1.snap.Config, g_1.snap.Data⟩ : T_api_Snapshot), g_1.entries ++ [(⟨term_5, wu64 (r_9.1 + 1), kind_6, data_7⟩ : T_api_Entry)]⟩ : T_rlog_Log))) else none))))

def tontineref07_Log_Last.f (n : Nat) (g_1 : T_tontineref07_Log) : Option (Int × Int) :=
  (if ((g_1.L.length : Int) == 0) then (some (g_1.Snap.Index, g_1.Snap.Term)) else (if (0 : Int) ≤ (wi64 ((g_1.L.length : Int) - 1)) ∧ (wi64 ((g_1.L.length : Int) - 1)) < (g_1.L.length : Int) then (if (0 : Int) ≤ (wi64 ((g_1.L.length : Int) - 1)) ∧ (wi64 ((g_1.L.length : Int) - 1)) < (g_1.L.length : Int) then (some ((rdL g_1.L (wi64 ((g_1.L.length : Int) - 1))).Index, (rdL g_1.L (wi64 ((g_1.L.length : Int) - 1))).Term)) else none) else none))

def tontineref07_Log_Add.f (n : Nat) (g_1 : T_tontineref07_Log) (term_5 : Int) (kind_6 : Int) (data_7 : (List UInt8)) : Option (T_api_Entry × Int × T_tontineref07_Log) :=
  ((tontineref07_Log_Last.f n (⟨(⟨g_1.Snap.Index, g_1.Snap.Term, g_1.Snap.Config, g_1.Snap.Data⟩ : T_api_Snapshot), g_1.L⟩ : T_tontineref07_Log)).bind fun r_9 => ((tontineref07_May.f n (⟨term_5, wu64 (r_9.1 + 1), kind_6, data_7⟩ : T_api_Entry) (wu64 (r_9.1 + 1)) r_9.2).bind fun r_11 => (if (!r_11) then (some ((⟨0, 0, 0, []⟩ : T_api_Entry), 1, (⟨(⟨g_1.Snap.Index, g_1.Snap.Term, g_1.Snap.Config, g_1.Snap.Data⟩ : T_api_Snapshot), g_1.L⟩ : T_tontineref07_Log))) else (if capOk 40 (g_1.L ++ [(⟨term_5, wu64 (r_9.1 + 1), kind_6, data_7⟩ : T_api_Entry)]).length then (some ((⟨term_5, wu64 (r_9.1 + 1), kind_6, data_7⟩ : T_api_Entry), 0, (⟨(⟨g_1.Snap.Index, g_1.Snap.Term, g_1.Snap.Config, g_1.Snap.Data⟩ : T_api_Snapshot), g_1.L ++ [(⟨term_5, wu64 (r_9.1 + 1), kind_6, data_7⟩ : T_api_Entry)]⟩ : T_tontineref07_Log))) else none))))

def tontineref07_Log_Term.l0 (n : Nat) (g_1 : T_tontineref07_Log) (i_5 : Int) : Nat → Int → Option (Int × Int)
  | 0, _ => none
  | k + 1, k_6 => (if decide (k_6 < (g_1.L.length : Int)) then (if (0 : Int) ≤ k_6 ∧ k_6 < (g_1.L.length : Int) then (if (((rdL g_1.L k_6).Index) == i_5) then (if (0 : Int) ≤ k_6 ∧ k_6 < (g_1.L.length : Int) then (some ((rdL g_1.L k_6).Term, 0)) else none) else ((tontineref07_Log_Term.l0 n g_1 i_5 k) (wi64 (k_6 + 1)))) else none) else (if (i_5 == g_1.Snap.Index) then (some (g_1.Snap.Term, 0)) else (some (0, 20))))
def tontineref07_Log_Term.f (n : Nat) (g_1 : T_tontineref07_Log) (i_5 : Int) : Option (Int × Int) :=
  (tontineref07_Log_Term.l0 n g_1 i_5 n 0)

def tontineref07_Log_Cut.l0 (n : Nat) (g_1 : T_tontineref07_Log) (i_5 : Int) : Nat → (List T_api_Entry) → Int → Option T_tontineref07_Log
  | 0, _, _ => none
  | k + 1, l_6, k_9 => (if decide (k_9 < (g_1.L.length : Int)) then (if (0 : Int) ≤ k_9 ∧ k_9 < (g_1.L.length : Int) then (if (((rdL g_1.L k_9).Index) == i_5) then (some (⟨(⟨g_1.Snap.Index, g_1.Snap.Term, g_1.Snap.Config, g_1.Snap.Data⟩ : T_api_Snapshot), l_6⟩ : T_tontineref07_Log)) else (if (0 : Int) ≤ k_9 ∧ k_9 < (g_1.L.length : Int) then (if capOk 40 (l_6 ++ [(rdL g_1.L k_9)]).length then ((tontineref07_Log_Cut.l0 n g_1 i_5 k) (l_6 ++ [(rdL g_1.L k_9)]) (wi64 (k_9 + 1))) else none) else none)) else none) else (some (⟨(⟨g_1.Snap.Index, g_1.Snap.Term, g_1.Snap.Config, g_1.Snap.Data⟩ : T_api_Snapshot), g_1.L⟩ : T_tontineref07_Log)))
def tontineref07_Log_Cut.f (n : Nat) (g_1 : T_tontineref07_Log) (i_5 : Int) : Option T_tontineref07_Log :=
  (tontineref07_Log_Cut.l0 n g_1 i_5 n ([] : List T_api_Entry) 0)

def tontineref07_Log_Merge.j2 (n : Nat) (L2 : Int → Option ((List T_api_Entry) × Bool × T_tontineref07_Log)) (g_1 : T_tontineref07_Log) (l_22 : (List T_api_Entry)) (i_39 : Int) (b_45 : Bool) : Option ((List T_api_Entry) × Bool × T_tontineref07_Log) :=
  (if b_45 then (L2 (wi64 (i_39 + 1))) else (if (0 : Int) ≤ i_39 ∧ i_39 < (l_22.length : Int) then ((tontineref07_Log_Cut.f n (⟨(⟨g_1.Snap.Index, g_1.Snap.Term, g_1.Snap.Config, g_1.Snap.Data⟩ : T_api_Snapshot), g_1.L⟩ : T_tontineref07_Log) ((rdL l_22 i_39).Index)).bind fun r_48 => (if (0 : Int) ≤ i_39 ∧ i_39 ≤ (l_22.length : Int) ∧ (l_22.length : Int) ≤ (l_22.length : Int) then (if capOk 40 (r_48.L ++ ((l_22.take (l_22.length : Int).toNat).drop i_39.toNat)).length then (if (0 : Int) ≤ i_39 ∧ i_39 ≤ (l_22.length : Int) ∧ (l_22.length : Int) ≤ (l_22.length : Int) then (if capOk 40 (([] : List T_api_Entry) ++ ((l_22.take (l_22.length : Int).toNat).drop i_39.toNat)).length then (some (([] : List T_api_Entry) ++ ((l_22.take (l_22.length : Int).toNat).drop i_39.toNat), true, (⟨(⟨r_48.Snap.Index, r_48.Snap.Term, r_48.Snap.Config, r_48.Snap.Data⟩ : T_api_Snapshot), r_48.L ++ ((l_22.take (l_22.length : Int).toNat).drop i_39.toNat)⟩ : T_tontineref07_Log))) else none) else none) else none) else none)) else none))
def tontineref07_Log_Merge.l2 (n : Nat) (g_1 : T_tontineref07_Log) (l_22 : (List T_api_Entry)) : Nat → Int → Option ((List T_api_Entry) × Bool × T_tontineref07_Log)
  | 0, _ => none
  | k + 1, i_39 => (if decide (i_39 < (l_22.length : Int)) then (if (0 : Int) ≤ i_39 ∧ i_39 < (l_22.length : Int) then ((tontineref07_Log_Term.f n (⟨(⟨g_1.Snap.Index, g_1.Snap.Term, g_1.Snap.Config, g_1.Snap.Data⟩ : T_api_Snapshot), g_1.L⟩ : T_tontineref07_Log) ((rdL l_22 i_39).Index)).bind fun r_42 => (if (r_42.2 == 0) then (if (0 : Int) ≤ i_39 ∧ i_39 < (l_22.length : Int) then (tontineref07_Log_Merge.j2 n (tontineref07_Log_Merge.l2 n g_1 l_22 k) g_1 l_22 i_39 (r_42.1 == ((rdL l_22 i_39).Term))) else none) else (tontineref07_Log_Merge.j2 n (tontineref07_Log_Merge.l2 n g_1 l_22 k) g_1 l_22 i_39 false))) else none) else (some (([] : List T_api_Entry), true, (⟨(⟨g_1.Snap.Index, g_1.Snap.Term, g_1.Snap.Config, g_1.Snap.Data⟩ : T_api_Snapshot), g_1.L⟩ : T_tontineref07_Log))))
def tontineref07_Log_Merge.j1 (n : Nat) (g_1 : T_tontineref07_Log) (l_22 : (List T_api_Entry)) (b_37 : Bool) : Option ((List T_api_Entry) × Bool × T_tontineref07_Log) :=
  (if b_37 then (some (([] : List T_api_Entry), false, (⟨(⟨g_1.Snap.Index, g_1.Snap.Term, g_1.Snap.Config, g_1.Snap.Data⟩ : T_api_Snapshot), g_1.L⟩ : T_tontineref07_Log))) else (tontineref07_Log_Merge.l2 n g_1 l_22 n 0))
def tontineref07_Log_Merge.j0 (n : Nat) (L1 : Int → Int → (List T_api_Entry) → Option ((List T_api_Entry) × Bool × T_tontineref07_Log)) (g_1 : T_tontineref07_Log) (index_20 : Int) (term_21 : Int) (l_22 : (List T_api_Entry)) (b_27 : Bool) : Option ((List T_api_Entry) × Bool × T_tontineref07_Log) :=
  (if b_27 then (if (0 : Int) ≤ 0 ∧ 0 < (l_22.length : Int) then (if (0 : Int) ≤ 0 ∧ 0 < (l_22.length : Int) then (if (0 : Int) ≤ (1 : Int) ∧ (1 : Int) ≤ (l_22.length : Int) ∧ (l_22.length : Int) ≤ (l_22.length : Int) then (L1 ((rdL l_22 (0 : Int)).Index) ((rdL l_22 (0 : Int)).Term) ((l_22.take (l_22.length : Int).toNat).drop (1 : Int).toNat)) else none) else none) else none) else (if decide (index_20 < g_1.Snap.Index) then (some (([] : List T_api_Entry), true, (⟨(⟨g_1.Snap.Index, g_1.Snap.Term, g_1.Snap.Config, g_1.Snap.Data⟩ : T_api_Snapshot), g_1.L⟩ : T_tontineref07_Log))) else ((tontineref07_Log_Term.f n (⟨(⟨g_1.Snap.Index, g_1.Snap.Term, g_1.Snap.Config, g_1.Snap.Data⟩ : T_api_Snapshot), g_1.L⟩ : T_tontineref07_Log) index_20).bind fun r_35 => (if (r_35.2 != 0) then (tontineref07_Log_Merge.j1 n g_1 l_22 true) else (tontineref07_Log_Merge.j1 n g_1 l_22 (r_35.1 != term_21))))))
def tontineref07_Log_Merge.l1 (n : Nat) (g_1 : T_tontineref07_Log) : Nat → Int → Int → (List T_api_Entry) → Option ((List T_api_Entry) × Bool × T_tontineref07_Log)
  | 0, _, _, _ => none
  | k + 1, index_20, term_21, l_22 => (if decide ((l_22.length : Int) > 0) then (if (0 : Int) ≤ 0 ∧ 0 < (l_22.length : Int) then (tontineref07_Log_Merge.j0 n (tontineref07_Log_Merge.l1 n g_1 k) g_1 index_20 term_21 l_22 (decide (((rdL l_22 (0 : Int)).Index) ≤ g_1.Snap.Index))) else none) else (tontineref07_Log_Merge.j0 n (tontineref07_Log_Merge.l1 n g_1 k) g_1 index_20 term_21 l_22 false))
def tontineref07_Log_Merge.l0 (n : Nat) (g_1 : T_tontineref07_Log) (index_5 : Int) (term_6 : Int) (l_7 : (List T_api_Entry)) : Nat → Int → Int → Int → Option ((List T_api_Entry) × Bool × T_tontineref07_Log)
  | 0, _, _, _ => none
  | k + 1, at_10, t_11, i_12 => (if decide (i_12 < (l_7.length : Int)) then (if (0 : Int) ≤ i_12 ∧ i_12 < (l_7.length : Int) then ((tontineref07_May.f n (rdL l_7 i_12) (wu64 (at_10 + 1)) t_11).bind fun r_15 => (if (!r_15) then (some (([] : List T_api_Entry), false, (⟨(⟨g_1.Snap.Index, g_1.Snap.Term, g_1.Snap.Config, g_1.Snap.Data⟩ : T_api_Snapshot), g_1.L⟩ : T_tontineref07_Log))) else (if (0 : Int) ≤ i_12 ∧ i_12 < (l_7.length : Int) then (if (0 : Int) ≤ i_12 ∧ i_12 < (l_7.length : Int) then ((tontineref07_Log_Merge.l0 n g_1 index_5 term_6 l_7 k) ((rdL l_7 i_12).Index) ((rdL l_7 i_12).Term) (wi64 (i_12 + 1))) else none) else none))) else none) else (tontineref07_Log_Merge.l1 n g_1 n index_5 term_6 l_7))
def tontineref07_Log_Merge.f (n : Nat) (g_1 : T_tontineref07_Log) (index_5 : Int) (term_6 : Int) (l_7 : (List T_api_Entry)) : Option ((List T_api_Entry) × Bool × T_tontineref07_Log) :=
  (tontineref07_Log_Merge.l0 n g_1 index_5 term_6 l_7 n index_5 term_6 0)

def rlog_Log_Cut.f (n : Nat) (g_1 : T_rlog_Log) (i_5 : Int) : Option T_rlog_Log :=
  ((rlog_Log_at.f n (⟨(⟨g_1.snap.Index, g_1.snap.Term, g_1.snap.Config, g_1.snap.Data⟩ : T_api_Snapshot), g_1.entries⟩ : T_rlog_Log) i_5).bind fun r_6 => (if decide (r_6 ≥ 0) then (if (0 : Int) ≤ (0 : Int) ∧ (0 : Int) ≤ r_6 ∧ r_6 ≤ (g_1.entries.length : Int) then (if capOk 40 (([] : List T_api_Entry) ++ ((g_1.entries.take r_6.toNat).drop (0 : Int).toNat)).length then (some (⟨(⟨g_1.snap.Index, g_1.snap.Term, g_1.snap.Config, g_1.snap.Data⟩ : T_api_Snapshot), ([] : List T_api_Entry) ++ ((g_1.entries.take r_6.toNat).drop (0 : Int).toNat)⟩ : T_rlog_Log)) else none) else none) else (some (⟨(⟨g_1.snap.Index, g_1.snap.Term, g_1.snap.Config, g_1.snap.Data⟩ : T_api_Snapshot), g_1.entries⟩ : T_rlog_Log))))

def tontineref07_Log_MembersAt.j0 (n : Nat) (L0 : Int → Int → Int → Option (Int × Int)) (g_1 : T_tontineref07_Log) (c_6 : Int) (at_7 : Int) (k_8 : Int) (b_13 : Bool) : Option (Int × Int) :=
  (if b_13 then (if (0 : Int) ≤ k_8 ∧ k_8 < (g_1.L.length : Int) then ((tontineref07_Said.f n ((rdL g_1.L k_8).Data)).bind fun r_16 => (if (0 : Int) ≤ k_8 ∧ k_8 < (g_1.L.length : Int) then (L0 r_16.1 ((rdL g_1.L k_8).Index) (wi64 (k_8 + 1))) else none)) else none) else (L0 c_6 at_7 (wi64 (k_8 + 1))))
def tontineref07_Log_MembersAt.l0 (n : Nat) (g_1 : T_tontineref07_Log) (i_5 : Int) : Nat → Int → Int → Int → Option (Int × Int)
  | 0, _, _, _ => none
  | k + 1, c_6, at_7, k_8 => (if decide (k_8 < (g_1.L.length : Int)) then (if (0 : Int) ≤ k_8 ∧ k_8 < (g_1.L.length : Int) then (if (((rdL g_1.L k_8).Kind) == 2) then (if (0 : Int) ≤ k_8 ∧ k_8 < (g_1.L.length : Int) then (tontineref07_Log_MembersAt.j0 n (tontineref07_Log_MembersAt.l0 n g_1 i_5 k) g_1 c_6 at_7 k_8 (decide (((rdL g_1.L k_8).Index) ≤ i_5))) else none) else (tontineref07_Log_MembersAt.j0 n (tontineref07_Log_MembersAt.l0 n g_1 i_5 k) g_1 c_6 at_7 k_8 false)) else none) else (some (c_6, at_7)))
def tontineref07_Log_MembersAt.f (n : Nat) (g_1 : T_tontineref07_Log) (i_5 : Int) : Option (Int × Int) :=
  (tontineref07_Log_MembersAt.l0 n g_1 i_5 n g_1.Snap.Config g_1.Snap.Index 0)

def tontineref07_Log_Compact.l0 (n : Nat) (g_1 : T_tontineref07_Log) (i_5 : Int) (data_6 : (List UInt8)) : Nat → Int → Option (Int × T_tontineref07_Log)
  | 0, _ => none
  | k + 1, k_7 => (if decide (k_7 < (g_1.L.length : Int)) then (if (0 : Int) ≤ k_7 ∧ k_7 < (g_1.L.length : Int) then (if (((rdL g_1.L k_7).Index) == i_5) then ((tontineref07_Log_MembersAt.f n (⟨(⟨g_1.Snap.Index, g_1.Snap.Term, g_1.Snap.Config, g_1.Snap.Data⟩ : T_api_Snapshot), g_1.L⟩ : T_tontineref07_Log) i_5).bind fun r_11 => (if (0 : Int) ≤ k_7 ∧ k_7 < (g_1.L.length : Int) then (if (0 : Int) ≤ (wi64 (k_7 + 1)) ∧ (wi64 (k_7 + 1)) ≤ (g_1.L.length : Int) ∧ (g_1.L.length : Int) ≤ (g_1.L.length : Int) then (if capOk 40 (([] : List T_api_Entry) ++ ((g_1.L.take (g_1.L.length : Int).toNat).drop (wi64 (k_7 + 1)).toNat)).length then (some (0, (⟨(⟨i_5, (rdL g_1.L k_7).Term, r_11.1, data_6⟩ : T_api_Snapshot), ([] : List T_api_Entry) ++ ((g_1.L.take (g_1.L.length : Int).toNat).drop (wi64 (k_7 + 1)).toNat)⟩ : T_tontineref07_Log))) else none) else none) else none)) else ((tontineref07_Log_Compact.l0 n g_1 i_5 data_6 k) (wi64 (k_7 + 1)))) else none) else (some (20, (⟨(⟨g_1.Snap.Index, g_1.Snap.Term, g_1.Snap.Config, g_1.Snap.Data⟩ : T_api_Snapshot), g_1.L⟩ : T_tontineref07_Log))))
def tontineref07_Log_Compact.f (n : Nat) (g_1 : T_tontineref07_Log) (i_5 : Int) (data_6 : (List UInt8)) : Option (Int × T_tontineref07_Log) :=
  (tontineref07_Log_Compact.l0 n g_1 i_5 data_6 n 0)

def rlog_Log_Install.j0 (n : Nat) (g_1 : T_rlog_Log) (s_5 : T_api_Snapshot) (b_12 : Bool) : Option (Int × T_rlog_Log) :=
  (if b_12 then ((rlog_Log_at.f n (⟨(⟨g_1.snap.Index, g_1.snap.Term, g_1.snap.Config, g_1.snap.Data⟩ : T_api_Snapshot), g_1.entries⟩ : T_rlog_Log) s_5.Index).bind fun r_14 => (if (0 : Int) ≤ (wi64 (r_14 + 1)) ∧ (wi64 (r_14 + 1)) ≤ (g_1.entries.length : Int) ∧ (g_1.entries.length : Int) ≤ (g_1.entries.length : Int) then (if capOk 40 (([] : List T_api_Entry) ++ ((g_1.entries.take (g_1.entries.length : Int).toNat).drop (wi64 (r_14 + 1)).toNat)).length then (some (0, (⟨s_5, ([] : List T_api_Entry) ++ ((g_1.entries.take (g_1.entries.length : Int).toNat).drop (wi64 (r_14 + 1)).toNat)⟩ : T_rlog_Log))) else none) else none)) else (some (0, (⟨s_5, []⟩ : T_rlog_Log))))
def rlog_Log_Install.f (n : Nat) (g_1 : T_rlog_Log) (s_5 : T_api_Snapshot) : Option (Int × T_rlog_Log) :=
  ((quorum_Sound.f n s_5.Config).bind fun r_7 => (if (!r_7) then (some (1, (⟨(⟨g_1.snap.Index, g_1.snap.Term, g_1.snap.Config, g_1.snap.Data⟩ : T_api_Snapshot), g_1.entries⟩ : T_rlog_Log))) else (if decide (s_5.Index ≤ g_1.snap.Index) then (some (20, (⟨(⟨g_1.snap.Index, g_1.snap.Term, g_1.snap.Config, g_1.snap.Data⟩ : T_api_Snapshot), g_1.entries⟩ : T_rlog_Log))) else ((rlog_Log_Term.f n (⟨(⟨g_1.snap.Index, g_1.snap.Term, g_1.snap.Config, g_1.snap.Data⟩ : T_api_Snapshot), g_1.entries⟩ : T_rlog_Log) s_5.Index).bind fun r_10 => (if (r_10.2 == 0) then (rlog_Log_Install.j0 n g_1 s_5 (r_10.1 == s_5.Term)) else (rlog_Log_Install.j0 n g_1 s_5 false))))))

def tontineref07_Log_Install.j0 (n : Nat) (L0 : (List T_api_Entry) → Int → Option (Int × T_tontineref07_Log)) (g_1 : T_tontineref07_Log) (rest_11 : (List T_api_Entry)) (k_14 : Int) (b_19 : Bool) : Option (Int × T_tontineref07_Log) :=
  (if b_19 then (if (0 : Int) ≤ k_14 ∧ k_14 < (g_1.L.length : Int) then (if capOk 40 (rest_11 ++ [(rdL g_1.L k_14)]).length then (L0 (rest_11 ++ [(rdL g_1.L k_14)]) (wi64 (k_14 + 1))) else none) else none) else (L0 rest_11 (wi64 (k_14 + 1))))
def tontineref07_Log_Install.l0 (n : Nat) (g_1 : T_tontineref07_Log) (s_5 : T_api_Snapshot) (r_10 : Int × Int) : Nat → (List T_api_Entry) → Int → Option (Int × T_tontineref07_Log)
  | 0, _, _ => none
  | k + 1, rest_11, k_14 => (if decide (k_14 < (g_1.L.length : Int)) then (if (0 : Int) ≤ k_14 ∧ k_14 < (g_1.L.length : Int) then (if decide (((rdL g_1.L k_14).Index) > s_5.Index) then (if (r_10.2 == 0) then (tontineref07_Log_Install.j0 n (tontineref07_Log_Install.l0 n g_1 s_5 r_10 k) g_1 rest_11 k_14 (r_10.1 == s_5.Term)) else (tontineref07_Log_Install.j0 n (tontineref07_Log_Install.l0 n g_1 s_5 r_10 k) g_1 rest_11 k_14 false)) else (tontineref07_Log_Install.j0 n (tontineref07_Log_Install.l0 n g_1 s_5 r_10 k) g_1 rest_11 k_14 false)) else none) else (some (0, (⟨s_5, rest_11⟩ : T_tontineref07_Log))))
def tontineref07_Log_Install.f (n : Nat) (g_1 : T_tontineref07_Log) (s_5 : T_api_Snapshot) : Option (Int × T_tontineref07_Log) :=
  ((tontineref06_Sound.f n s_5.Config).bind fun r_7 => (if (!r_7) then (some (1, (⟨(⟨g_1.Snap.Index, g_1.Snap.Term, g_1.Snap.Config, g_1.Snap.Data⟩ : T_api_Snapshot), g_1.L⟩ : T_tontineref07_Log))) else (if decide (s_5.Index ≤ g_1.Snap.Index) then (some (20, (⟨(⟨g_1.Snap.Index, g_1.Snap.Term, g_1.Snap.Config, g_1.Snap.Data⟩ : T_api_Snapshot), g_1.L⟩ : T_tontineref07_Log))) else ((tontineref07_Log_Term.f n (⟨(⟨g_1.Snap.Index, g_1.Snap.Term, g_1.Snap.Config, g_1.Snap.Data⟩ : T_api_Snapshot), g_1.L⟩ : T_tontineref07_Log) s_5.Index).bind fun r_10 => (tontineref07_Log_Install.l0 n g_1 s_5 r_10 n ([] : List T_api_Entry) 0)))))

def tontinelaw07_both.f (n : Nat) (g_1 : T_rlog_Log) (m_5 : T_tontineref07_Log) (c_9 : T_tontinelaw07_Call) : Option (Bool × T_rlog_Log × T_tontineref07_Log) :=
  (if (c_9.Kind == 0) then ((rlog_Log_Add.f n (⟨(⟨g_1.snap.Index, g_1.snap.Term, g_1.snap.Config, g_1.snap.Data⟩ : T_api_Snapshot), g_1.entries⟩ : T_rlog_Log) c_9.Term c_9.What c_9.Data).bind fun r_14 => ((tontineref07_Log_Add.f n (⟨(⟨m_5.Snap.Index, m_5.Snap.Term, m_5.Snap.Config, m_5.Snap.Data⟩ : T_api_Snapshot), m_5.L⟩ : T_tontineref07_Log) c_9.Term c_9.What c_9.Data).bind fun r_18 => (if ((r_14.1.Term == r_18.1.Term) && ((r_14.1.Index == r_18.1.Index) && ((r_14.1.Kind == r_18.1.Kind) && ((r_14.1.Data == r_18.1.Data) && true)))) then (some ((r_14.2.1 == r_18.2.1), (⟨(⟨r_14.2.2.snap.Index, r_14.2.2.snap.Term, r_14.2.2.snap.Config, r_14.2.2.snap.Data⟩ : T_api_Snapshot), r_14.2.2.entries⟩ : T_rlog_Log), (⟨(⟨r_18.2.2.Snap.Index, r_18.2.2.Snap.Term, r_18.2.2.Snap.Config, r_18.2.2.Snap.Data⟩ : T_api_Snapshot), r_18.2.2.L⟩ : T_tontineref07_Log))) else (some (false, (⟨(⟨r_14.2.2.snap.Index, r_14.2.2.snap.Term, r_14.2.2.snap.Config, r_14.2.2.snap.Data⟩ : T_api_Snapshot), r_14.2.2.entries⟩ : T_rlog_Log), (⟨(⟨r_18.2.2.Snap.Index, r_18.2.2.Snap.Term, r_18.2.2.Snap.Config, r_18.2.2.Snap.Data⟩ : T_api_Snapshot), r_18.2.2.L⟩ : T_tontineref07_Log)))))) else (if (c_9.Kind == 1) then ((rlog_Log_Merge.f n (⟨(⟨g_1.snap.Index, g_1.snap.Term, g_1.snap.Config, g_1.snap.Data⟩ : T_api_Snapshot), g_1.entries⟩ : T_rlog_Log) c_9.Index c_9.Term c_9.L).bind fun r_26 => ((tontineref07_Log_Merge.f n (⟨(⟨m_5.Snap.Index, m_5.Snap.Term, m_5.Snap.Config, m_5.Snap.Data⟩ : T_api_Snapshot), m_5.L⟩ : T_tontineref07_Log) c_9.Index c_9.Term c_9.L).bind fun r_31 => ((tontineref07_Same.f n r_26.1 r_31.1).bind fun r_36 => (if r_36 then (some ((r_26.2.1 == r_31.2.1), (⟨(⟨r_26.2.2.snap.Index, r_26.2.2.snap.Term, r_26.2.2.snap.Config, r_26.2.2.snap.Data⟩ : T_api_Snapshot), r_26.2.2.entries⟩ : T_rlog_Log), (⟨(⟨r_31.2.2.Snap.Index, r_31.2.2.Snap.Term, r_31.2.2.Snap.Config, r_31.2.2.Snap.Data⟩ : T_api_Snapshot), r_31.2.2.L⟩ : T_tontineref07_Log))) else (some (false, (⟨(⟨r_26.2.2.snap.Index, r_26.2.2.snap.Term, r_26.2.2.snap.Config, r_26.2.2.snap.Data⟩ : T_api_Snapshot), r_26.2.2.entries⟩ : T_rlog_Log), (⟨(⟨r_31.2.2.Snap.Index, r_31.2.2.Snap.Term, r_31.2.2.Snap.Config, r_31.2.2.Snap.Data⟩ : T_api_Snapshot), r_31.2.2.L⟩ : T_tontineref07_Log))))))) else (if (c_9.Kind == 2) then ((rlog_Log_Cut.f n (⟨(⟨g_1.snap.Index, g_1.snap.Term, g_1.snap.Config, g_1.snap.Data⟩ : T_api_Snapshot), g_1.entries⟩ : T_rlog_Log) c_9.Index).bind fun r_42 => ((tontineref07_Log_Cut.f n (⟨(⟨m_5.Snap.Index, m_5.Snap.Term, m_5.Snap.Config, m_5.Snap.Data⟩ : T_api_Snapshot), m_5.L⟩ : T_tontineref07_Log) c_9.Index).bind fun r_45 => (some (true, (⟨(⟨r_42.snap.Index, r_42.snap.Term, r_42.snap.Config, r_42.snap.Data⟩ : T_api_Snapshot), r_42.entries⟩ : T_rlog_Log), (⟨(⟨r_45.Snap.Index, r_45.Snap.Term, r_45.Snap.Config, r_45.Snap.Data⟩ : T_api_Snapshot), r_45.L⟩ : T_tontineref07_Log))))) else (if (c_9.Kind == 3) then ((rlog_Log_Compact.f n (⟨(⟨g_1.snap.Index, g_1.snap.Term, g_1.snap.Config, g_1.snap.Data⟩ : T_api_Snapshot), g_1.entries⟩ : T_rlog_Log) c_9.Index c_9.Data).bind fun r_51 => ((tontineref07_Log_Compact.f n (⟨(⟨m_5.Snap.Index, m_5.Snap.Term, m_5.Snap.Config, m_5.Snap.Data⟩ : T_api_Snapshot), m_5.L⟩ : T_tontineref07_Log) c_9.Index c_9.Data).bind fun r_54 => (some ((r_51.1 == r_54.1), (⟨(⟨r_51.2.snap.Index, r_51.2.snap.Term, r_51.2.snap.Config, r_51.2.snap.Data⟩ : T_api_Snapshot), r_51.2.entries⟩ : T_rlog_Log), (⟨(⟨r_54.2.Snap.Index, r_54.2.Snap.Term, r_54.2.Snap.Config, r_54.2.Snap.Data⟩ : T_api_Snapshot), r_54.2.L⟩ : T_tontineref07_Log))))) else (if (c_9.Kind == 4) then ((rlog_Log_Install.f n (⟨(⟨g_1.snap.Index, g_1.snap.Term, g_1.snap.Config, g_1.snap.Data⟩ : T_api_Snapshot), g_1.entries⟩ : T_rlog_Log) (⟨c_9.Snap.Index, c_9.Snap.Term, c_9.Snap.Config, c_9.Snap.Data⟩ : T_api_Snapshot)).bind fun r_60 => ((tontineref07_Log_Install.f n (⟨(⟨m_5.Snap.Index, m_5.Snap.Term, m_5.Snap.Config, m_5.Snap.Data⟩ : T_api_Snapshot), m_5.L⟩ : T_tontineref07_Log) (⟨c_9.Snap.Index, c_9.Snap.Term, c_9.Snap.Config, c_9.Snap.Data⟩ : T_api_Snapshot)).bind fun r_63 => (some ((r_60.1 == r_63.1), (⟨(⟨r_60.2.snap.Index, r_60.2.snap.Term, r_60.2.snap.Config, r_60.2.snap.Data⟩ : T_api_Snapshot), r_60.2.entries⟩ : T_rlog_Log), (⟨(⟨r_63.2.Snap.Index, r_63.2.Snap.Term, r_63.2.Snap.Config, r_63.2.Snap.Data⟩ : T_api_Snapshot), r_63.2.L⟩ : T_tontineref07_Log))))) else (some (true, (⟨(⟨g_1.snap.Index, g_1.snap.Term, g_1.snap.Config, g_1.snap.Data⟩ : T_api_Snapshot), g_1.entries⟩ : T_rlog_Log), (⟨(⟨m_5.Snap.Index, m_5.Snap.Term, m_5.Snap.Config, m_5.Snap.Data⟩ : T_api_Snapshot), m_5.L⟩ : T_tontineref07_Log))))))))

def tontineref07_Log_Get.j1 (n : Nat) (L0 : (List T_api_Entry) → Int → Option (List T_api_Entry)) (g_1 : T_tontineref07_Log) (l_7 : (List T_api_Entry)) (k_10 : Int) (b_18 : Bool) : Option (List T_api_Entry) :=
  (if b_18 then (if (0 : Int) ≤ k_10 ∧ k_10 < (g_1.L.length : Int) then (if capOk 40 (l_7 ++ [(rdL g_1.L k_10)]).length then (L0 (l_7 ++ [(rdL g_1.L k_10)]) (wi64 (k_10 + 1))) else none) else none) else (L0 l_7 (wi64 (k_10 + 1))))
def tontineref07_Log_Get.j0 (n : Nat) (L0 : (List T_api_Entry) → Int → Option (List T_api_Entry)) (g_1 : T_tontineref07_Log) (i_5 : Int) (l_7 : (List T_api_Entry)) (k_10 : Int) (b_12 : Bool) : Option (List T_api_Entry) :=
  (if b_12 then (if (0 : Int) ≤ k_10 ∧ k_10 < (g_1.L.length : Int) then (if decide (((rdL g_1.L k_10).Index) ≥ i_5) then (if decide ((l_7.length : Int) > 0) then (tontineref07_Log_Get.j1 n L0 g_1 l_7 k_10 true) else (if (0 : Int) ≤ k_10 ∧ k_10 < (g_1.L.length : Int) then (tontineref07_Log_Get.j1 n L0 g_1 l_7 k_10 (((rdL g_1.L k_10).Index) == i_5)) else none)) else (tontineref07_Log_Get.j1 n L0 g_1 l_7 k_10 false)) else none) else (some l_7))
def tontineref07_Log_Get.l0 (n : Nat) (g_1 : T_tontineref07_Log) (i_5 : Int) (n_6 : Int) : Nat → (List T_api_Entry) → Int → Option (List T_api_Entry)
  | 0, _, _ => none
  | k + 1, l_7, k_10 => (if decide (k_10 < (g_1.L.length : Int)) then (tontineref07_Log_Get.j0 n (tontineref07_Log_Get.l0 n g_1 i_5 n_6 k) g_1 i_5 l_7 k_10 (decide ((l_7.length : Int) < n_6))) else (tontineref07_Log_Get.j0 n (tontineref07_Log_Get.l0 n g_1 i_5 n_6 k) g_1 i_5 l_7 k_10 false))
def tontineref07_Log_Get.f (n : Nat) (g_1 : T_tontineref07_Log) (i_5 : Int) (n_6 : Int) : Option (List T_api_Entry) :=
  (tontineref07_Log_Get.l0 n g_1 i_5 n_6 n ([] : List T_api_Entry) 0)

def tontinelaw07_alike.j7 (n : Nat) (g_1 : T_rlog_Log) (m_5 : T_tontineref07_Log) (i_9 : Int) (n_10 : Int) (b_35 : Bool) : Option Bool :=
  (if b_35 then ((rlog_Log_Get.f n (⟨(⟨g_1.snap.Index, g_1.snap.Term, g_1.snap.Config, g_1.snap.Data⟩ : T_api_Snapshot), g_1.entries⟩ : T_rlog_Log) (wu64 (m_5.Snap.Index + 1)) 1000).bind fun r_37 => ((tontineref07_Same.f n r_37 m_5.L).bind fun r_40 => (if r_40 then ((rlog_Log_Get.f n (⟨(⟨g_1.snap.Index, g_1.snap.Term, g_1.snap.Config, g_1.snap.Data⟩ : T_api_Snapshot), g_1.entries⟩ : T_rlog_Log) i_9 n_10).bind fun r_42 => ((tontineref07_Log_Get.f n (⟨(⟨m_5.Snap.Index, m_5.Snap.Term, m_5.Snap.Config, m_5.Snap.Data⟩ : T_api_Snapshot), m_5.L⟩ : T_tontineref07_Log) i_9 n_10).bind fun r_45 => ((tontineref07_Same.f n r_42 r_45).bind fun r_48 => (some r_48)))) else (some false)))) else (some false))
def tontinelaw07_alike.j6 (n : Nat) (g_1 : T_rlog_Log) (m_5 : T_tontineref07_Log) (i_9 : Int) (n_10 : Int) (b_32 : Bool) : Option Bool :=
  (if b_32 then ((rlog_Log_First.f n (⟨(⟨g_1.snap.Index, g_1.snap.Term, g_1.snap.Config, g_1.snap.Data⟩ : T_api_Snapshot), g_1.entries⟩ : T_rlog_Log)).bind fun r_34 => (tontinelaw07_alike.j7 n g_1 m_5 i_9 n_10 ((r_34.Index == m_5.Snap.Index) && ((r_34.Term == m_5.Snap.Term) && ((r_34.Config == m_5.Snap.Config) && ((r_34.Data == m_5.Snap.Data) && true)))))) else (tontinelaw07_alike.j7 n g_1 m_5 i_9 n_10 false))
def tontinelaw07_alike.j5 (n : Nat) (g_1 : T_rlog_Log) (m_5 : T_tontineref07_Log) (i_9 : Int) (n_10 : Int) (r_17 : Int × Int) (r_18 : Int × Int) (b_30 : Bool) : Option Bool :=
  (if b_30 then (tontinelaw07_alike.j6 n g_1 m_5 i_9 n_10 (r_17.2 == r_18.2)) else (tontinelaw07_alike.j6 n g_1 m_5 i_9 n_10 false))
def tontinelaw07_alike.j4 (n : Nat) (g_1 : T_rlog_Log) (m_5 : T_tontineref07_Log) (i_9 : Int) (n_10 : Int) (r_17 : Int × Int) (r_18 : Int × Int) (b_28 : Bool) : Option Bool :=
  (if b_28 then (tontinelaw07_alike.j5 n g_1 m_5 i_9 n_10 r_17 r_18 (r_17.1 == r_18.1)) else (tontinelaw07_alike.j5 n g_1 m_5 i_9 n_10 r_17 r_18 false))
def tontinelaw07_alike.j3 (n : Nat) (g_1 : T_rlog_Log) (m_5 : T_tontineref07_Log) (i_9 : Int) (n_10 : Int) (r_15 : Int × Int) (r_16 : Int × Int) (r_17 : Int × Int) (r_18 : Int × Int) (b_26 : Bool) : Option Bool :=
  (if b_26 then (tontinelaw07_alike.j4 n g_1 m_5 i_9 n_10 r_17 r_18 (r_15.2 == r_16.2)) else (tontinelaw07_alike.j4 n g_1 m_5 i_9 n_10 r_17 r_18 false))
def tontinelaw07_alike.j2 (n : Nat) (g_1 : T_rlog_Log) (m_5 : T_tontineref07_Log) (i_9 : Int) (n_10 : Int) (r_15 : Int × Int) (r_16 : Int × Int) (r_17 : Int × Int) (r_18 : Int × Int) (b_24 : Bool) : Option Bool :=
  (if b_24 then (tontinelaw07_alike.j3 n g_1 m_5 i_9 n_10 r_15 r_16 r_17 r_18 (r_15.1 == r_16.1)) else (tontinelaw07_alike.j3 n g_1 m_5 i_9 n_10 r_15 r_16 r_17 r_18 false))
def tontinelaw07_alike.j1 (n : Nat) (g_1 : T_rlog_Log) (m_5 : T_tontineref07_Log) (i_9 : Int) (n_10 : Int) (r_13 : Int × Int) (r_14 : Int × Int) (r_15 : Int × Int) (r_16 : Int × Int) (r_17 : Int × Int) (r_18 : Int × Int) (b_22 : Bool) : Option Bool :=
  (if b_22 then (tontinelaw07_alike.j2 n g_1 m_5 i_9 n_10 r_15 r_16 r_17 r_18 (r_13.2 == r_14.2)) else (tontinelaw07_alike.j2 n g_1 m_5 i_9 n_10 r_15 r_16 r_17 r_18 false))
def tontinelaw07_alike.j0 (n : Nat) (g_1 : T_rlog_Log) (m_5 : T_tontineref07_Log) (i_9 : Int) (n_10 : Int) (r_13 : Int × Int) (r_14 : Int × Int) (r_15 : Int × Int) (r_16 : Int × Int) (r_17 : Int × Int) (r_18 : Int × Int) (b_20 : Bool) : Option Bool :=
  (if b_20 then (tontinelaw07_alike.j1 n g_1 m_5 i_9 n_10 r_13 r_14 r_15 r_16 r_17 r_18 (r_13.1 == r_14.1)) else (tontinelaw07_alike.j1 n g_1 m_5 i_9 n_10 r_13 r_14 r_15 r_16 r_17 r_18 false))
def tontinelaw07_alike.f (n : Nat) (g_1 : T_rlog_Log) (m_5 : T_tontineref07_Log) (i_9 : Int) (n_10 : Int) : Option Bool :=
  ((rlog_Log_Last.f n (⟨(⟨g_1.snap.Index, g_1.snap.Term, g_1.snap.Config, g_1.snap.Data⟩ : T_api_Snapshot), g_1.entries⟩ : T_rlog_Log)).bind fun r_11 => ((tontineref07_Log_Last.f n (⟨(⟨m_5.Snap.Index, m_5.Snap.Term, m_5.Snap.Config, m_5.Snap.Data⟩ : T_api_Snapshot), m_5.L⟩ : T_tontineref07_Log)).bind fun r_12 => ((rlog_Log_Term.f n (⟨(⟨g_1.snap.Index, g_1.snap.Term, g_1.snap.Config, g_1.snap.Data⟩ : T_api_Snapshot), g_1.entries⟩ : T_rlog_Log) i_9).bind fun r_13 => ((tontineref07_Log_Term.f n (⟨(⟨m_5.Snap.Index, m_5.Snap.Term, m_5.Snap.Config, m_5.Snap.Data⟩ : T_api_Snapshot), m_5.L⟩ : T_tontineref07_Log) i_9).bind fun r_14 => ((rlog_Log_Members.f n (⟨(⟨g_1.snap.Index, g_1.snap.Term, g_1.snap.Config, g_1.snap.Data⟩ : T_api_Snapshot), g_1.entries⟩ : T_rlog_Log)).bind fun r_15 => ((tontineref07_Log_MembersAt.f n (⟨(⟨m_5.Snap.Index, m_5.Snap.Term, m_5.Snap.Config, m_5.Snap.Data⟩ : T_api_Snapshot), m_5.L⟩ : T_tontineref07_Log) 18446744073709551615).bind fun r_16 => ((rlog_Log_MembersAt.f n (⟨(⟨g_1.snap.Index, g_1.snap.Term, g_1.snap.Config, g_1.snap.Data⟩ : T_api_Snapshot), g_1.entries⟩ : T_rlog_Log) i_9).bind fun r_17 => ((tontineref07_Log_MembersAt.f n (⟨(⟨m_5.Snap.Index, m_5.Snap.Term, m_5.Snap.Config, m_5.Snap.Data⟩ : T_api_Snapshot), m_5.L⟩ : T_tontineref07_Log) i_9).bind fun r_18 => (if (r_11.1 == r_12.1) then (tontinelaw07_alike.j0 n g_1 m_5 i_9 n_10 r_13 r_14 r_15 r_16 r_17 r_18 (r_11.2 == r_12.2)) else (tontinelaw07_alike.j0 n g_1 m_5 i_9 n_10 r_13 r_14 r_15 r_16 r_17 r_18 false))))))))))

def tontinelaw07_RlogRuns.j1 (n : Nat) (b_27 : Bool) : Option Bool :=
  (some b_27)
def tontinelaw07_RlogRuns.l0 (n : Nat) (calls_5 : (List T_tontinelaw07_Call)) : Nat → Option Bool
  | 0 => none
  | k + 1 => (if decide (0 < (calls_5.length : Int)) then (if (0 : Int) ≤ 0 ∧ 0 < (calls_5.length : Int) then none else none) else none)
def tontinelaw07_RlogRuns.j0 (n : Nat) (calls_5 : (List T_tontinelaw07_Call)) (r_13 : Option T_rlog_Log × Int) (r_18 : Option T_tontineref07_Log × Int) (b_24 : Bool) : Option Bool :=
  (if b_24 then (if (r_13.2 == r_18.2) then (tontinelaw07_RlogRuns.j1 n true) else (tontinelaw07_RlogRuns.j1 n false)) else (tontinelaw07_RlogRuns.l0 n calls_5 n))
def tontinelaw07_RlogRuns.j3 (n : Nat) (b_37 : Bool) : Option Bool :=
  (some b_37)
def tontinelaw07_RlogRuns.l1 (n : Nat) (calls_5 : (List T_tontinelaw07_Call)) : Nat → Option Bool
  | 0 => none
  | k + 1 => (if decide (0 < (calls_5.length : Int)) then (if (0 : Int) ≤ 0 ∧ 0 < (calls_5.length : Int) then none else none) else none)
def tontinelaw07_RlogRuns.j2 (n : Nat) (calls_5 : (List T_tontinelaw07_Call)) (r_13 : Option T_rlog_Log × Int) (r_18 : Option T_tontineref07_Log × Int) (b_34 : Bool) : Option Bool :=
  (if b_34 then (if (r_13.2 == r_18.2) then (tontinelaw07_RlogRuns.j3 n true) else (tontinelaw07_RlogRuns.j3 n false)) else (tontinelaw07_RlogRuns.l1 n calls_5 n))
def tontinelaw07_RlogRuns.j5 (n : Nat) : Option Bool :=
  (some false)
def tontinelaw07_RlogRuns.l2 (n : Nat) (calls_5 : (List T_tontinelaw07_Call)) : Nat → Option Bool
  | 0 => none
  | k + 1 => (if decide (0 < (calls_5.length : Int)) then (if (0 : Int) ≤ 0 ∧ 0 < (calls_5.length : Int) then none else none) else none)
def tontinelaw07_RlogRuns.j4 (n : Nat) (calls_5 : (List T_tontinelaw07_Call)) (r_13 : Option T_rlog_Log × Int) (r_44 : Option T_tontineref07_Log × Int) (b_50 : Bool) : Option Bool :=
  (if b_50 then (if (r_13.2 == r_44.2) then (tontinelaw07_RlogRuns.j5 n) else (tontinelaw07_RlogRuns.j5 n)) else (tontinelaw07_RlogRuns.l2 n calls_5 n))
def tontinelaw07_RlogRuns.j7 (n : Nat) : Option Bool :=
  (some false)
def tontinelaw07_RlogRuns.l3 (n : Nat) (s_1 : T_api_Snapshot) (calls_5 : (List T_tontinelaw07_Call)) : Nat → Int → Int → Int → (List UInt8) → (List T_api_Entry) → Int → Int → Int → (List UInt8) → (List T_api_Entry) → Int → Option Bool
  | 0, _, _, _, _, _, _, _, _, _, _, _ => none
  | k + 1, f_62, f_63, f_64, f_65, f_66, f_69, f_70, f_71, f_72, f_73, x_76 => (if decide (x_76 < (calls_5.length : Int)) then (if (0 : Int) ≤ x_76 ∧ x_76 < (calls_5.length : Int) then ((tontinelaw07_both.f n (⟨(⟨f_62, f_63, f_64, f_65⟩ : T_api_Snapshot), f_66⟩ : T_rlog_Log) (⟨(⟨f_69, f_70, f_71, f_72⟩ : T_api_Snapshot), f_73⟩ : T_tontineref07_Log) (⟨(rdL calls_5 x_76).Kind, (rdL calls_5 x_76).Index, (rdL calls_5 x_76).Term, (rdL calls_5 x_76).What, (rdL calls_5 x_76).Data, (rdL calls_5 x_76).L, (⟨(rdL calls_5 x_76).Snap.Index, (rdL calls_5 x_76).Snap.Term, (rdL calls_5 x_76).Snap.Config, (rdL calls_5 x_76).Snap.Data⟩ : T_api_Snapshot)⟩ : T_tontinelaw07_Call)).bind fun r_82 => (if (!r_82.1) then (some false) else ((tontinelaw07_alike.f n (⟨(⟨r_82.2.1.snap.Index, r_82.2.1.snap.Term, r_82.2.1.snap.Config, r_82.2.1.snap.Data⟩ : T_api_Snapshot), r_82.2.1.entries⟩ : T_rlog_Log) (⟨(⟨r_82.2.2.Snap.Index, r_82.2.2.Snap.Term, r_82.2.2.Snap.Config, r_82.2.2.Snap.Data⟩ : T_api_Snapshot), r_82.2.2.L⟩ : T_tontineref07_Log) ((rdL calls_5 x_76).Index) ((rdL calls_5 x_76).What)).bind fun r_88 => (if (!r_88) then (some false) else ((tontinelaw07_RlogRuns.l3 n s_1 calls_5 k) r_82.2.1.snap.Index r_82.2.1.snap.Term r_82.2.1.snap.Config r_82.2.1.snap.Data r_82.2.1.entries r_82.2.2.Snap.Index r_82.2.2.Snap.Term r_82.2.2.Snap.Config r_82.2.2.Snap.Data r_82.2.2.L (wi64 (x_76 + 1))))))) else none) else ((tontinelaw07_alike.f n (⟨(⟨f_62, f_63, f_64, f_65⟩ : T_api_Snapshot), f_66⟩ : T_rlog_Log) (⟨(⟨f_69, f_70, f_71, f_72⟩ : T_api_Snapshot), f_73⟩ : T_tontineref07_Log) s_1.Index 3).bind fun r_92 => (some r_92)))
def tontinelaw07_RlogRuns.j6 (n : Nat) (s_1 : T_api_Snapshot) (calls_5 : (List T_tontinelaw07_Call)) (r_13 : Option T_rlog_Log × Int) (o_17 : T_rlog_Log) (r_44 : Option T_tontineref07_Log × Int) (o_48 : T_tontineref07_Log) (b_59 : Bool) : Option Bool :=
  (if b_59 then (if (r_13.2 == r_44.2) then (tontinelaw07_RlogRuns.j7 n) else (tontinelaw07_RlogRuns.j7 n)) else (tontinelaw07_RlogRuns.l3 n s_1 calls_5 n o_17.snap.Index o_17.snap.Term o_17.snap.Config o_17.snap.Data o_17.entries o_48.Snap.Index o_48.Snap.Term o_48.Snap.Config o_48.Snap.Data o_48.L 0))
def tontinelaw07_RlogRuns.f (n : Nat) (s_1 : T_api_Snapshot) (l_2 : (List T_api_Entry)) (calls_5 : (List T_tontinelaw07_Call)) : Option Bool :=
  ((tontinelaw07_begun.f n).bind fun r_9 => (if (!r_9) then (some false) else ((tontinelaw07_light.f n l_2 calls_5).bind fun r_11 => (if (!r_11) then (some true) else ((rlog_New.f n s_1 l_2).bind fun r_13 => (match r_13.1 with | none => ((tontineref07_New.f n s_1 l_2).bind fun r_18 => (match r_18.1 with | none => (if (r_13.2 != 0) then (tontinelaw07_RlogRuns.j0 n calls_5 r_13 r_18 true) else (tontinelaw07_RlogRuns.j0 n calls_5 r_13 r_18 (r_18.2 != 0))) | some o_22 => (if (r_13.2 != 0) then (tontinelaw07_RlogRuns.j2 n calls_5 r_13 r_18 true) else (tontinelaw07_RlogRuns.j2 n calls_5 r_13 r_18 (r_18.2 != 0))))) | some o_17 => ((tontineref07_New.f n s_1 l_2).bind fun r_44 => (match r_44.1 with | none => (if (r_13.2 != 0) then (tontinelaw07_RlogRuns.j4 n calls_5 r_13 r_44 true) else (tontinelaw07_RlogRuns.j4 n calls_5 r_13 r_44 (r_44.2 != 0))) | some o_48 => (if (r_13.2 != 0) then (tontinelaw07_RlogRuns.j6 n s_1 calls_5 r_13 o_17 r_44 o_48 true) else (tontinelaw07_RlogRuns.j6 n s_1 calls_5 r_13 o_17 r_44 o_48 (r_44.2 != 0)))))))))))

def tontinelaw07_RlogStays.l0 (n : Nat) (calls_5 : (List T_tontinelaw07_Call)) : Nat → Option Bool
  | 0 => none
  | k + 1 => (if decide (0 < (calls_5.length : Int)) then (if (0 : Int) ≤ 0 ∧ 0 < (calls_5.length : Int) then none else none) else (some true))
def tontinelaw07_RlogStays.j0 (n : Nat) (calls_5 : (List T_tontinelaw07_Call)) (r_13 : Option T_rlog_Log × Int) (r_18 : Option T_tontineref07_Log × Int) (b_24 : Bool) : Option Bool :=
  (if b_24 then (some (r_13.2 == r_18.2)) else (tontinelaw07_RlogStays.l0 n calls_5 n))
def tontinelaw07_RlogStays.l1 (n : Nat) (calls_5 : (List T_tontinelaw07_Call)) : Nat → Option Bool
  | 0 => none
  | k + 1 => (if decide (0 < (calls_5.length : Int)) then (if (0 : Int) ≤ 0 ∧ 0 < (calls_5.length : Int) then none else none) else (some true))
def tontinelaw07_RlogStays.j1 (n : Nat) (calls_5 : (List T_tontinelaw07_Call)) (r_13 : Option T_rlog_Log × Int) (r_18 : Option T_tontineref07_Log × Int) (b_32 : Bool) : Option Bool :=
  (if b_32 then (some (r_13.2 == r_18.2)) else (tontinelaw07_RlogStays.l1 n calls_5 n))
def tontinelaw07_RlogStays.l2 (n : Nat) (calls_5 : (List T_tontinelaw07_Call)) : Nat → Option Bool
  | 0 => none
  | k + 1 => (if decide (0 < (calls_5.length : Int)) then (if (0 : Int) ≤ 0 ∧ 0 < (calls_5.length : Int) then none else none) else (some true))
def tontinelaw07_RlogStays.j2 (n : Nat) (calls_5 : (List T_tontinelaw07_Call)) (r_13 : Option T_rlog_Log × Int) (r_40 : Option T_tontineref07_Log × Int) (b_46 : Bool) : Option Bool :=
  (if b_46 then (some (r_13.2 == r_40.2)) else (tontinelaw07_RlogStays.l2 n calls_5 n))
def tontinelaw07_RlogStays.l3 (n : Nat) (calls_5 : (List T_tontinelaw07_Call)) : Nat → Int → Int → Int → (List UInt8) → (List T_api_Entry) → Int → Int → Int → (List UInt8) → (List T_api_Entry) → Int → Option Bool
  | 0, _, _, _, _, _, _, _, _, _, _, _ => none
  | k + 1, f_56, f_57, f_58, f_59, f_60, f_63, f_64, f_65, f_66, f_67, x_70 => (if decide (x_70 < (calls_5.length : Int)) then (if (0 : Int) ≤ x_70 ∧ x_70 < (calls_5.length : Int) then ((tontinelaw07_both.f n (⟨(⟨f_56, f_57, f_58, f_59⟩ : T_api_Snapshot), f_60⟩ : T_rlog_Log) (⟨(⟨f_63, f_64, f_65, f_66⟩ : T_api_Snapshot), f_67⟩ : T_tontineref07_Log) (⟨(rdL calls_5 x_70).Kind, (rdL calls_5 x_70).Index, (rdL calls_5 x_70).Term, (rdL calls_5 x_70).What, (rdL calls_5 x_70).Data, (rdL calls_5 x_70).L, (⟨(rdL calls_5 x_70).Snap.Index, (rdL calls_5 x_70).Snap.Term, (rdL calls_5 x_70).Snap.Config, (rdL calls_5 x_70).Snap.Data⟩ : T_api_Snapshot)⟩ : T_tontinelaw07_Call)).bind fun r_76 => ((rlog_Log_First.f n (⟨(⟨r_76.2.1.snap.Index, r_76.2.1.snap.Term, r_76.2.1.snap.Config, r_76.2.1.snap.Data⟩ : T_api_Snapshot), r_76.2.1.entries⟩ : T_rlog_Log)).bind fun r_81 => ((rlog_Log_First.f n (⟨(⟨r_76.2.1.snap.Index, r_76.2.1.snap.Term, r_76.2.1.snap.Config, r_76.2.1.snap.Data⟩ : T_api_Snapshot), r_76.2.1.entries⟩ : T_rlog_Log)).bind fun r_82 => ((rlog_Log_Get.f n (⟨(⟨r_76.2.1.snap.Index, r_76.2.1.snap.Term, r_76.2.1.snap.Config, r_76.2.1.snap.Data⟩ : T_api_Snapshot), r_76.2.1.entries⟩ : T_rlog_Log) (wu64 (r_82.Index + 1)) 2000).bind fun r_83 => ((rlog_New.f n r_81 r_83).bind fun r_86 => (match r_86.1 with | none => (if (r_86.2 != 0) then (some false) else none) | some o_90 => (if (r_86.2 != 0) then (some false) else ((tontinelaw07_alike.f n (⟨(⟨o_90.snap.Index, o_90.snap.Term, o_90.snap.Config, o_90.snap.Data⟩ : T_api_Snapshot), o_90.entries⟩ : T_rlog_Log) (⟨(⟨r_76.2.2.Snap.Index, r_76.2.2.Snap.Term, r_76.2.2.Snap.Config, r_76.2.2.Snap.Data⟩ : T_api_Snapshot), r_76.2.2.L⟩ : T_tontineref07_Log) ((rdL calls_5 x_70).Index) ((rdL calls_5 x_70).What)).bind fun r_93 => (if (!r_93) then (some false) else ((tontinelaw07_RlogStays.l3 n calls_5 k) r_76.2.1.snap.Index r_76.2.1.snap.Term r_76.2.1.snap.Config r_76.2.1.snap.Data r_76.2.1.entries r_76.2.2.Snap.Index r_76.2.2.Snap.Term r_76.2.2.Snap.Config r_76.2.2.Snap.Data r_76.2.2.L (wi64 (x_70 + 1)))))))))))) else none) else (some true))
def tontinelaw07_RlogStays.j3 (n : Nat) (calls_5 : (List T_tontinelaw07_Call)) (r_13 : Option T_rlog_Log × Int) (o_17 : T_rlog_Log) (r_40 : Option T_tontineref07_Log × Int) (o_44 : T_tontineref07_Log) (b_54 : Bool) : Option Bool :=
  (if b_54 then (some (r_13.2 == r_40.2)) else (tontinelaw07_RlogStays.l3 n calls_5 n o_17.snap.Index o_17.snap.Term o_17.snap.Config o_17.snap.Data o_17.entries o_44.Snap.Index o_44.Snap.Term o_44.Snap.Config o_44.Snap.Data o_44.L 0))
def tontinelaw07_RlogStays.f (n : Nat) (s_1 : T_api_Snapshot) (l_2 : (List T_api_Entry)) (calls_5 : (List T_tontinelaw07_Call)) : Option Bool :=
  ((tontinelaw07_begun.f n).bind fun r_9 => (if (!r_9) then (some false) else ((tontinelaw07_light.f n l_2 calls_5).bind fun r_11 => (if (!r_11) then (some true) else ((rlog_New.f n s_1 l_2).bind fun r_13 => (match r_13.1 with | none => ((tontineref07_New.f n s_1 l_2).bind fun r_18 => (match r_18.1 with | none => (if (r_13.2 != 0) then (tontinelaw07_RlogStays.j0 n calls_5 r_13 r_18 true) else (tontinelaw07_RlogStays.j0 n calls_5 r_13 r_18 (r_18.2 != 0))) | some o_22 => (if (r_13.2 != 0) then (tontinelaw07_RlogStays.j1 n calls_5 r_13 r_18 true) else (tontinelaw07_RlogStays.j1 n calls_5 r_13 r_18 (r_18.2 != 0))))) | some o_17 => ((tontineref07_New.f n s_1 l_2).bind fun r_40 => (match r_40.1 with | none => (if (r_13.2 != 0) then (tontinelaw07_RlogStays.j2 n calls_5 r_13 r_40 true) else (tontinelaw07_RlogStays.j2 n calls_5 r_13 r_40 (r_40.2 != 0))) | some o_44 => (if (r_13.2 != 0) then (tontinelaw07_RlogStays.j3 n calls_5 r_13 o_17 r_40 o_44 true) else (tontinelaw07_RlogStays.j3 n calls_5 r_13 o_17 r_40 o_44 (r_40.2 != 0)))))))))))

def rlog_Log_at_n0.f (n : Nat) (i_1 : Int) : Option Int :=
  (some (-1))

def rlog_Log_Cut_n0.f (n : Nat) (i_1 : Int) : Option Unit :=
  ((rlog_Log_at_n0.f n i_1).bind fun r_2 => (if decide (r_2 ≥ 0) then none else (some ())))

def rlog_Log_Last_n0.f (n : Nat) : Option (Int × Int) :=
  (some (0, 0))

def rlog_Log_Members_n0.f (n : Nat) : Option (Int × Int) :=
  (some (0, 0))

def rlog_Log_MembersAt_n0.f (n : Nat) (i_1 : Int) : Option (Int × Int) :=
  (some (0, 0))

def rlog_Log_Term_n0.f (n : Nat) (i_1 : Int) : Option (Int × Int) :=
  ((rlog_Log_at_n0.f n i_1).bind fun r_2 => (if decide (r_2 ≥ 0) then none else (some (0, 20))))

def rlog_Log_Add_n0.f (n : Nat) (term_1 : Int) (kind_2 : Int) (data_3 : (List UInt8)) : Option (T_api_Entry × Int) :=
  ((rlog_Log_Last_n0.f n).bind fun r_5 => (some ((⟨0, 0, 0, []⟩ : T_api_Entry), 1)))

def rlog_Log_Merge_n0.f (n : Nat) (index_1 : Int) (term_2 : Int) (l_3 : (List T_api_Entry)) : Option ((List T_api_Entry) × Bool) :=
  (some (([] : List T_api_Entry), false))

def rlog_Log_Get_n0.j0 (n : Nat) (b_5 : Bool) : Option (List T_api_Entry) :=
  (if b_5 then (some ([] : List T_api_Entry)) else none)
def rlog_Log_Get_n0.f (n : Nat) (i_1 : Int) (n_2 : Int) : Option (List T_api_Entry) :=
  ((rlog_Log_at_n0.f n i_1).bind fun r_3 => (if decide (r_3 < 0) then (rlog_Log_Get_n0.j0 n true) else (rlog_Log_Get_n0.j0 n (decide (n_2 ≤ 0)))))

def rlog_Log_First_n0.f (n : Nat) : Option T_api_Snapshot :=
  (some (⟨0, 0, 0, []⟩ : T_api_Snapshot))

def rlog_Log_Compact_n0.f (n : Nat) (i_1 : Int) (data_2 : (List UInt8)) : Option Int :=
  ((rlog_Log_at_n0.f n i_1).bind fun r_3 => (if decide (r_3 < 0) then (some 20) else ((rlog_Log_MembersAt_n0.f n i_1).bind fun r_5 => none)))

def rlog_Log_Install_n0.f (n : Nat) (s_1 : T_api_Snapshot) : Option Int :=
  (some 1)

def pack_Writer_Num.l1 (n : Nat) (x_5 : Int) : Nat → (List UInt8) → Int → Option T_pack_Writer
  | 0, _, _ => none
  | k + 1, f_14, i_17 => (if decide (i_17 ≥ 0) then (if (0 : Int) ≤ (wi64 (8 * i_17)) then (if capOk 1 (f_14 ++ [u8of (shR .u64 x_5 (wi64 (8 * i_17)))]).length then ((pack_Writer_Num.l1 n x_5 k) (f_14 ++ [u8of (shR .u64 x_5 (wi64 (8 * i_17)))]) (wi64 (i_17 - 1))) else none) else none) else (some (⟨f_14⟩ : T_pack_Writer)))
def pack_Writer_Num.l0 (n : Nat) (w_1 : T_pack_Writer) (x_5 : Int) : Nat → Int → Int → Option T_pack_Writer
  | 0, _, _ => none
  | k + 1, n_6, y_7 => (if decide (y_7 > 0) then ((pack_Writer_Num.l0 n w_1 x_5 k) (wi64 (n_6 + 1)) (shR .u64 y_7 8)) else (if capOk 1 (w_1.b ++ [u8of n_6]).length then (pack_Writer_Num.l1 n x_5 n (w_1.b ++ [u8of n_6]) (wi64 (n_6 - 1))) else none))
def pack_Writer_Num.f (n : Nat) (w_1 : T_pack_Writer) (x_5 : Int) : Option T_pack_Writer :=
  (pack_Writer_Num.l0 n w_1 x_5 n 0 x_5)

def pack_Writer_Bytes.f (n : Nat) (w_1 : T_pack_Writer) : Option (List UInt8) :=
  (some w_1.b)

def rlog_Config.f (n : Nat) (c_1 : Int) : Option (List UInt8) :=
  ((pack_Writer_Num.f n (⟨[]⟩ : T_pack_Writer) c_1).bind fun r_3 => ((pack_Writer_Bytes.f n r_3).bind fun r_6 => (some r_6)))

def tontineref03_Num.l0 (n : Nat) : Nat → Int → (List UInt8) → Int → Option (List UInt8)
  | 0, _, _, _ => none
  | k + 1, x_2, s_3, n_4 => (if decide (x_2 > 0) then (if ([u8of (x_2.tmod 256)] : List UInt8).length + s_3.length ≤ i64max then ((tontineref03_Num.l0 n k) (wu64 (x_2.tdiv 256)) ([u8of (x_2.tmod 256)] ++ s_3) (wi64 (n_4 + 1))) else none) else (if ([u8of n_4] : List UInt8).length + s_3.length ≤ i64max then (some ([u8of n_4] ++ s_3)) else none))
def tontineref03_Num.f (n : Nat) (x_1 : Int) : Option (List UInt8) :=
  (tontineref03_Num.l0 n n x_1 [] 0)

def tontineref07_Config.f (n : Nat) (c_1 : Int) : Option (List UInt8) :=
  ((tontineref03_Num.f n c_1).bind fun r_2 => (some r_2))

def tontinelaw07_RlogNone.f (n : Nat) (i_1 : Int) (n_2 : Int) (s_3 : T_api_Snapshot) : Option Bool :=
  ((tontinelaw07_begun.f n).bind fun r_5 => (if (!r_5) then (some false) else ((rlog_Log_Cut_n0.f n i_1).bind fun r_7 => ((rlog_Log_Last_n0.f n).bind fun r_8 => ((rlog_Log_Members_n0.f n).bind fun r_9 => ((rlog_Log_MembersAt_n0.f n i_1).bind fun r_10 => ((rlog_Log_Term_n0.f n i_1).bind fun r_11 => ((rlog_Log_Add_n0.f n i_1 1 []).bind fun r_12 => ((rlog_Log_Merge_n0.f n i_1 i_1 ([] : List T_api_Entry)).bind fun r_14 => (if (r_8.1 == 0) then (if (r_8.2 == 0) then (if (r_9.1 == 0) then (if (r_9.2 == 0) then (if (r_10.1 == 0) then (if (r_10.2 == 0) then (if (r_11.2 == 20) then (if (r_12.2 == 1) then (if ((r_14.1.length : Int) == 0) then (if (!r_14.2) then ((rlog_Log_Get_n0.f n i_1 n_2).bind fun r_27 => (if ((r_27.length : Int) == 0) then ((rlog_Log_First_n0.f n).bind fun r_31 => (if ((r_31.Index == 0) && ((r_31.Term == 0) && ((r_31.Config == 0) && ((r_31.Data == ([] : List UInt8)) && true)))) then ((rlog_Log_Compact_n0.f n i_1 []).bind fun r_33 => (if (r_33 == 20) then ((rlog_Log_Install_n0.f n s_3).bind fun r_35 => (if (r_35 == 1) then ((rlog_Config.f n i_1).bind fun r_37 => ((tontineref07_Config.f n i_1).bind fun r_38 => (some (r_37 == r_38)))) else (some false))) else (some false))) else (some false))) else (some false))) else (some false)) else (some false)) else (some false)) else (some false)) else (some false)) else (some false)) else (some false)) else (some false)) else (some false)) else (some false)))))))))))

def client_New.f (n : Nat) (id_1 : Int) : Option (Option T_client_Client × Int) :=
  (if decide (id_1 < 0) then (some (none, 1)) else (if decide (id_1 ≥ 4) then (some (none, 1)) else (some ((some (⟨id_1, 0, 0, 0, false, (⟨0, 0, 0, 0, [], 0, false, 0, false, 0⟩ : T_api_Command), [], 0⟩ : T_client_Client)), 0))))

def plan_Check.j1 (n : Nat) (L0 : Int → Option Int) (x_7 : Int) (b_16 : Bool) : Option Int :=
  (if b_16 then (some 44) else (L0 (wi64 (x_7 + 1))))
def plan_Check.l0 (n : Nat) (l_1 : (List T_api_Step)) : Nat → Int → Option Int
  | 0, _ => none
  | k + 1, x_7 => (if decide (x_7 < (l_1.length : Int)) then (if (0 : Int) ≤ x_7 ∧ x_7 < (l_1.length : Int) then (if decide (((rdL l_1 x_7).Part) < 0) then (plan_Check.j1 n (plan_Check.l0 n l_1 k) x_7 true) else (if decide (((rdL l_1 x_7).Part) ≥ 4) then (plan_Check.j1 n (plan_Check.l0 n l_1 k) x_7 true) else (if (((rdL l_1 x_7).Name) == ([] : List UInt8)) then (plan_Check.j1 n (plan_Check.l0 n l_1 k) x_7 true) else (if decide ((((rdL l_1 x_7).Name).length : Int) > 16) then (plan_Check.j1 n (plan_Check.l0 n l_1 k) x_7 true) else (if decide (((rdL l_1 x_7).Budget) < 1) then (plan_Check.j1 n (plan_Check.l0 n l_1 k) x_7 true) else (plan_Check.j1 n (plan_Check.l0 n l_1 k) x_7 (decide (((rdL l_1 x_7).Budget) > 9)))))))) else none) else (some 0))
def plan_Check.j0 (n : Nat) (l_1 : (List T_api_Step)) (b_5 : Bool) : Option Int :=
  (if b_5 then (some 44) else (plan_Check.l0 n l_1 n 0))
def plan_Check.f (n : Nat) (l_1 : (List T_api_Step)) : Option Int :=
  (if decide ((l_1.length : Int) < 1) then (plan_Check.j0 n l_1 true) else (plan_Check.j0 n l_1 (decide ((l_1.length : Int) > 64))))

def command_May.j1 (n : Nat) (b_13 : Bool) : Option Bool :=
  (some b_13)
def command_May.j2 (n : Nat) (b_20 : Bool) : Option Bool :=
  (some b_20)
def command_May.j3 (n : Nat) (b_28 : Bool) : Option Bool :=
  (some b_28)
def command_May.j0 (n : Nat) (c_1 : T_api_Command) (b_7 : Bool) : Option Bool :=
  (if b_7 then (if ((c_1.Steps.length : Int) == 0) then (if (c_1.Step == 0) then (if (!c_1.Back) then (if (c_1.Try == 0) then (command_May.j1 n (!c_1.Ok)) else (command_May.j1 n false)) else (command_May.j1 n false)) else (command_May.j1 n false)) else (command_May.j1 n false)) else (if (c_1.Kind == 2) then ((plan_Check.f n c_1.Steps).bind fun r_15 => (if (r_15 == 0) then (if (c_1.Step == 0) then (if (!c_1.Back) then (if (c_1.Try == 0) then (command_May.j2 n (!c_1.Ok)) else (command_May.j2 n false)) else (command_May.j2 n false)) else (command_May.j2 n false)) else (command_May.j2 n false))) else (if (c_1.Kind == 4) then (if ((c_1.Steps.length : Int) == 0) then (if decide (c_1.Step ≥ 0) then (if decide (c_1.Step < 64) then (if decide (c_1.Try ≥ 0) then (if decide (c_1.Try < 9) then (if (c_1.Session == 0) then (command_May.j3 n (c_1.Seq == 0)) else (command_May.j3 n false)) else (command_May.j3 n false)) else (command_May.j3 n false)) else (command_May.j3 n false)) else (command_May.j3 n false)) else (command_May.j3 n false)) else (some false))))
def command_May.f (n : Nat) (c_1 : T_api_Command) : Option Bool :=
  (if (c_1.Kind == 1) then (command_May.j0 n c_1 (c_1.Kind == 1)) else (if (c_1.Kind == 3) then (command_May.j0 n c_1 (c_1.Kind == 3)) else (command_May.j0 n c_1 (c_1.Kind == 5))))

def pack_Writer_Text.f (n : Nat) (w_1 : T_pack_Writer) (s_5 : (List UInt8)) : Option T_pack_Writer :=
  ((pack_Writer_Num.f n w_1 (wu64 (s_5.length : Int))).bind fun r_6 => (if capOk 1 (r_6.b ++ s_5).length then (some (⟨r_6.b ++ s_5⟩ : T_pack_Writer)) else none))

def plan_Write.l0 (n : Nat) (l_5 : (List T_api_Step)) : Nat → (List UInt8) → Int → Option T_pack_Writer
  | 0, _, _ => none
  | k + 1, f_11, x_14 => (if decide (x_14 < (l_5.length : Int)) then (if (0 : Int) ≤ x_14 ∧ x_14 < (l_5.length : Int) then ((pack_Writer_Num.f n (⟨f_11⟩ : T_pack_Writer) (wu64 ((rdL l_5 x_14).Part))).bind fun r_18 => ((pack_Writer_Text.f n r_18 ((rdL l_5 x_14).Name)).bind fun r_21 => ((pack_Writer_Num.f n r_21 (wu64 ((rdL l_5 x_14).Budget))).bind fun r_24 => ((plan_Write.l0 n l_5 k) r_24.b (wi64 (x_14 + 1)))))) else none) else (some (⟨f_11⟩ : T_pack_Writer)))
def plan_Write.f (n : Nat) (w_1 : T_pack_Writer) (l_5 : (List T_api_Step)) : Option T_pack_Writer :=
  ((pack_Writer_Num.f n w_1 (wu64 (l_5.length : Int))).bind fun r_8 => (plan_Write.l0 n l_5 n r_8.b 0))

def pack_Writer_Bool.f (n : Nat) (w_1 : T_pack_Writer) (x_5 : Bool) : Option T_pack_Writer :=
  (if x_5 then ((pack_Writer_Num.f n w_1 1).bind fun r_7 => (some r_7)) else ((pack_Writer_Num.f n w_1 0).bind fun r_11 => (some r_11)))

def command_Encode.j1 (n : Nat) (f_44 : (List UInt8)) : Option ((List UInt8) × Int) :=
  ((pack_Writer_Bytes.f n (⟨f_44⟩ : T_pack_Writer)).bind fun r_47 => (some (r_47, 0)))
def command_Encode.j0 (n : Nat) (c_1 : T_api_Command) (b_7 : Bool) : Option ((List UInt8) × Int) :=
  (if b_7 then (some ([], 44)) else ((command_May.f n c_1).bind fun r_9 => (if (!r_9) then (some ([], 1)) else ((pack_Writer_Num.f n (⟨[]⟩ : T_pack_Writer) (wu64 c_1.Kind)).bind fun r_12 => ((pack_Writer_Num.f n r_12 c_1.Session).bind fun r_15 => ((pack_Writer_Num.f n r_15 c_1.Seq).bind fun r_18 => ((pack_Writer_Num.f n r_18 c_1.Saga).bind fun r_21 => ((pack_Writer_Num.f n r_21 c_1.Now).bind fun r_24 => (if (c_1.Kind == 2) then ((plan_Write.f n r_24 c_1.Steps).bind fun r_28 => (command_Encode.j1 n r_28.b)) else (if (c_1.Kind == 4) then ((pack_Writer_Num.f n r_24 (wu64 c_1.Step)).bind fun r_33 => ((pack_Writer_Bool.f n r_33 c_1.Back).bind fun r_36 => ((pack_Writer_Num.f n r_36 (wu64 c_1.Try)).bind fun r_39 => ((pack_Writer_Bool.f n r_39 c_1.Ok).bind fun r_42 => (command_Encode.j1 n r_42.b))))) else (command_Encode.j1 n r_24.b)))))))))))
def command_Encode.f (n : Nat) (c_1 : T_api_Command) : Option ((List UInt8) × Int) :=
  (if (c_1.Kind == 2) then ((plan_Check.f n c_1.Steps).bind fun r_6 => (command_Encode.j0 n c_1 (r_6 != 0))) else (command_Encode.j0 n c_1 false))

def client_Client_letter.f (n : Nat) (c_1 : T_client_Client) : Option T_api_Letter :=
  (some (⟨8, wi64 (200 + c_1.id), c_1.to_, 0, c_1.call, 0, 0, false, [], c_1.data⟩ : T_api_Letter))

def client_Client_Call.j1 (n : Nat) (c_1 : T_client_Client) (x_5 : T_api_Command) (f_15 : Int) (f_16 : Int) : Option (T_api_Letter × Int × T_client_Client) :=
  (if (x_5.Kind == 4) then (some ((⟨0, 0, 0, 0, 0, 0, 0, false, [], []⟩ : T_api_Letter), 1, (⟨c_1.id, c_1.session, c_1.seq, c_1.call, c_1.busy, (⟨c_1.now.Kind, c_1.now.Session, c_1.now.Seq, c_1.now.Saga, c_1.now.Steps, c_1.now.Step, c_1.now.Back, c_1.now.Try, c_1.now.Ok, c_1.now.Now⟩ : T_api_Command), c_1.data, c_1.to_⟩ : T_client_Client))) else ((command_Encode.f n (⟨x_5.Kind, f_15, f_16, x_5.Saga, x_5.Steps, x_5.Step, x_5.Back, x_5.Try, x_5.Ok, 0⟩ : T_api_Command)).bind fun r_18 => (if (r_18.2 != 0) then (some ((⟨0, 0, 0, 0, 0, 0, 0, false, [], []⟩ : T_api_Letter), r_18.2, (⟨c_1.id, c_1.session, c_1.seq, c_1.call, c_1.busy, (⟨c_1.now.Kind, c_1.now.Session, c_1.now.Seq, c_1.now.Saga, c_1.now.Steps, c_1.now.Step, c_1.now.Back, c_1.now.Try, c_1.now.Ok, c_1.now.Now⟩ : T_api_Command), c_1.data, c_1.to_⟩ : T_client_Client))) else ((client_Client_letter.f n (⟨c_1.id, c_1.session, c_1.seq, wu64 (c_1.call + 1), true, (⟨x_5.Kind, f_15, f_16, x_5.Saga, x_5.Steps, x_5.Step, x_5.Back, x_5.Try, x_5.Ok, 0⟩ : T_api_Command), r_18.1, c_1.to_⟩ : T_client_Client)).bind fun r_20 => (some (r_20, 0, (⟨c_1.id, c_1.session, c_1.seq, wu64 (c_1.call + 1), true, (⟨x_5.Kind, f_15, f_16, x_5.Saga, x_5.Steps, x_5.Step, x_5.Back, x_5.Try, x_5.Ok, 0⟩ : T_api_Command), r_18.1, c_1.to_⟩ : T_client_Client)))))))
def client_Client_Call.j0 (n : Nat) (c_1 : T_client_Client) (x_5 : T_api_Command) (b_12 : Bool) : Option (T_api_Letter × Int × T_client_Client) :=
  (if b_12 then (some ((⟨0, 0, 0, 0, 0, 0, 0, false, [], []⟩ : T_api_Letter), 40, (⟨c_1.id, c_1.session, c_1.seq, c_1.call, c_1.busy, (⟨c_1.now.Kind, c_1.now.Session, c_1.now.Seq, c_1.now.Saga, c_1.now.Steps, c_1.now.Step, c_1.now.Back, c_1.now.Try, c_1.now.Ok, c_1.now.Now⟩ : T_api_Command), c_1.data, c_1.to_⟩ : T_client_Client))) else (if (x_5.Kind != 1) then (client_Client_Call.j1 n c_1 x_5 c_1.session (wu64 (c_1.seq + 1))) else (client_Client_Call.j1 n c_1 x_5 0 0)))
def client_Client_Call.f (n : Nat) (c_1 : T_client_Client) (x_5 : T_api_Command) : Option (T_api_Letter × Int × T_client_Client) :=
  (if c_1.busy then (some ((⟨0, 0, 0, 0, 0, 0, 0, false, [], []⟩ : T_api_Letter), 31, (⟨c_1.id, c_1.session, c_1.seq, c_1.call, c_1.busy, (⟨c_1.now.Kind, c_1.now.Session, c_1.now.Seq, c_1.now.Saga, c_1.now.Steps, c_1.now.Step, c_1.now.Back, c_1.now.Try, c_1.now.Ok, c_1.now.Now⟩ : T_api_Command), c_1.data, c_1.to_⟩ : T_client_Client))) else (if (x_5.Kind != 1) then (client_Client_Call.j0 n c_1 x_5 (c_1.session == 0)) else (client_Client_Call.j0 n c_1 x_5 false)))

def tontineref16_nums.l0 (n : Nat) (l_1 : (List Int)) : Nat → (List UInt8) → Int → Option (List UInt8)
  | 0, _, _ => none
  | k + 1, s_4, i_5 => (if decide (i_5 < (l_1.length : Int)) then (if (0 : Int) ≤ i_5 ∧ i_5 < (l_1.length : Int) then ((tontineref03_Num.f n (rdL l_1 i_5)).bind fun r_8 => (if s_4.length + r_8.length ≤ i64max then ((tontineref16_nums.l0 n l_1 k) (s_4 ++ r_8) (wi64 (i_5 + 1))) else none)) else none) else (some s_4))
def tontineref16_nums.f (n : Nat) (l_1 : (List Int)) : Option (List UInt8) :=
  (tontineref16_nums.l0 n l_1 n [] 0)

def tontineref16_Answer.f (n : Nat) (y_1 : T_api_Reply) : Option (List UInt8) :=
  ((tontineref16_nums.f n [wu64 (if y_1.Err > 0 then y_1.Err else 0), y_1.Num, y_1.Extra]).bind fun r_5 => (some r_5))

def pack_Reader_Up.j0 (n : Nat) (r_4 : Int × T_pack_Reader) (b_6 : Bool) : Option (Int × T_pack_Reader) :=
  (if b_6 then ((pack_Reader_fail.f n r_4.2).bind fun r_8 => (some (wi64 r_8.1, r_8.2))) else (some (wi64 r_4.1, r_4.2)))
def pack_Reader_Up.f (n : Nat) (r_1 : T_pack_Reader) (limit_3 : Int) : Option (Int × T_pack_Reader) :=
  ((pack_Reader_Num.f n r_1).bind fun r_4 => (if decide (limit_3 < 0) then (pack_Reader_Up.j0 n r_4 true) else (pack_Reader_Up.j0 n r_4 (decide (r_4.1 > (wu64 limit_3))))))

def command_Said.f (n : Nat) (s_1 : (List UInt8)) : Option (T_api_Reply × Int) :=
  ((pack_From.f n s_1).bind fun r_3 => ((pack_Reader_Up.f n r_3 52).bind fun r_5 => ((pack_Reader_Num.f n r_5.2).bind fun r_7 => ((pack_Reader_Num.f n r_7.2).bind fun r_8 => ((pack_Reader_Done.f n r_8.2).bind fun r_9 => (if (!r_9) then (some ((⟨0, 0, 0⟩ : T_api_Reply), 2)) else (some ((⟨r_5.1, r_7.1, r_8.1⟩ : T_api_Reply), 0))))))))

def client_Client_Hear.j2 (n : Nat) (c_1 : T_client_Client) (x_5 : T_api_Letter) (b_25 : Bool) : Option (T_api_Told × Bool × T_api_Letter × Bool × T_client_Client) :=
  (if b_25 then ((client_Client_letter.f n (⟨c_1.id, c_1.session, c_1.seq, c_1.call, c_1.busy, (⟨c_1.now.Kind, c_1.now.Session, c_1.now.Seq, c_1.now.Saga, c_1.now.Steps, c_1.now.Step, c_1.now.Back, c_1.now.Try, c_1.now.Ok, c_1.now.Now⟩ : T_api_Command), c_1.data, wi64 (wu64 (x_5.Commit - 1))⟩ : T_client_Client)).bind fun r_27 => (some ((⟨0, (⟨0, 0, 0, 0, [], 0, false, 0, false, 0⟩ : T_api_Command), (⟨0, 0, 0⟩ : T_api_Reply)⟩ : T_api_Told), false, r_27, true, (⟨c_1.id, c_1.session, c_1.seq, c_1.call, c_1.busy, (⟨c_1.now.Kind, c_1.now.Session, c_1.now.Seq, c_1.now.Saga, c_1.now.Steps, c_1.now.Step, c_1.now.Back, c_1.now.Try, c_1.now.Ok, c_1.now.Now⟩ : T_api_Command), c_1.data, wi64 (wu64 (x_5.Commit - 1))⟩ : T_client_Client)))) else (some ((⟨0, (⟨0, 0, 0, 0, [], 0, false, 0, false, 0⟩ : T_api_Command), (⟨0, 0, 0⟩ : T_api_Reply)⟩ : T_api_Told), false, (⟨0, 0, 0, 0, 0, 0, 0, false, [], []⟩ : T_api_Letter), false, (⟨c_1.id, c_1.session, c_1.seq, c_1.call, c_1.busy, (⟨c_1.now.Kind, c_1.now.Session, c_1.now.Seq, c_1.now.Saga, c_1.now.Steps, c_1.now.Step, c_1.now.Back, c_1.now.Try, c_1.now.Ok, c_1.now.Now⟩ : T_api_Command), c_1.data, c_1.to_⟩ : T_client_Client))))
def client_Client_Hear.j3 (n : Nat) (c_1 : T_client_Client) (r_17 : T_api_Reply × Int) (f_34 : Int) (f_35 : Int) : Option (T_api_Told × Bool × T_api_Letter × Bool × T_client_Client) :=
  (some ((⟨c_1.id, (⟨c_1.now.Kind, c_1.now.Session, c_1.now.Seq, c_1.now.Saga, c_1.now.Steps, c_1.now.Step, c_1.now.Back, c_1.now.Try, c_1.now.Ok, c_1.now.Now⟩ : T_api_Command), r_17.1⟩ : T_api_Told), true, (⟨0, 0, 0, 0, 0, 0, 0, false, [], []⟩ : T_api_Letter), false, (⟨c_1.id, f_34, f_35, c_1.call, false, (⟨c_1.now.Kind, c_1.now.Session, c_1.now.Seq, c_1.now.Saga, c_1.now.Steps, c_1.now.Step, c_1.now.Back, c_1.now.Try, c_1.now.Ok, c_1.now.Now⟩ : T_api_Command), c_1.data, c_1.to_⟩ : T_client_Client)))
def client_Client_Hear.j1 (n : Nat) (c_1 : T_client_Client) (x_5 : T_api_Letter) (r_17 : T_api_Reply × Int) (b_21 : Bool) : Option (T_api_Told × Bool × T_api_Letter × Bool × T_client_Client) :=
  (if b_21 then (if decide (x_5.Commit ≥ 1) then (if decide (x_5.Commit ≤ 7) then (client_Client_Hear.j2 n c_1 x_5 ((wi64 (wu64 (x_5.Commit - 1))) != c_1.to_)) else (client_Client_Hear.j2 n c_1 x_5 false)) else (client_Client_Hear.j2 n c_1 x_5 false)) else (if (c_1.now.Kind == 1) then (if (r_17.1.Err == 0) then (client_Client_Hear.j3 n c_1 r_17 r_17.1.Num 0) else (client_Client_Hear.j3 n c_1 r_17 c_1.session c_1.seq)) else (if (r_17.1.Err == 40) then (client_Client_Hear.j3 n c_1 r_17 0 0) else (client_Client_Hear.j3 n c_1 r_17 c_1.session (wu64 (c_1.seq + 1))))))
def client_Client_Hear.j0 (n : Nat) (c_1 : T_client_Client) (x_5 : T_api_Letter) (b_15 : Bool) : Option (T_api_Told × Bool × T_api_Letter × Bool × T_client_Client) :=
  (if b_15 then (some ((⟨0, (⟨0, 0, 0, 0, [], 0, false, 0, false, 0⟩ : T_api_Command), (⟨0, 0, 0⟩ : T_api_Reply)⟩ : T_api_Told), false, (⟨0, 0, 0, 0, 0, 0, 0, false, [], []⟩ : T_api_Letter), false, (⟨c_1.id, c_1.session, c_1.seq, c_1.call, c_1.busy, (⟨c_1.now.Kind, c_1.now.Session, c_1.now.Seq, c_1.now.Saga, c_1.now.Steps, c_1.now.Step, c_1.now.Back, c_1.now.Try, c_1.now.Ok, c_1.now.Now⟩ : T_api_Command), c_1.data, c_1.to_⟩ : T_client_Client))) else ((command_Said.f n x_5.Data).bind fun r_17 => (if (r_17.2 != 0) then (some ((⟨0, (⟨0, 0, 0, 0, [], 0, false, 0, false, 0⟩ : T_api_Command), (⟨0, 0, 0⟩ : T_api_Reply)⟩ : T_api_Told), false, (⟨0, 0, 0, 0, 0, 0, 0, false, [], []⟩ : T_api_Letter), false, (⟨c_1.id, c_1.session, c_1.seq, c_1.call, c_1.busy, (⟨c_1.now.Kind, c_1.now.Session, c_1.now.Seq, c_1.now.Saga, c_1.now.Steps, c_1.now.Step, c_1.now.Back, c_1.now.Try, c_1.now.Ok, c_1.now.Now⟩ : T_api_Command), c_1.data, c_1.to_⟩ : T_client_Client))) else (if (r_17.1.Err == 30) then (client_Client_Hear.j1 n c_1 x_5 r_17 true) else (client_Client_Hear.j1 n c_1 x_5 r_17 (r_17.1.Err == 31))))))
def client_Client_Hear.f (n : Nat) (c_1 : T_client_Client) (x_5 : T_api_Letter) : Option (T_api_Told × Bool × T_api_Letter × Bool × T_client_Client) :=
  (if (!c_1.busy) then (client_Client_Hear.j0 n c_1 x_5 true) else (if (x_5.Kind != 9) then (client_Client_Hear.j0 n c_1 x_5 true) else (if (x_5.To != (wi64 (200 + c_1.id))) then (client_Client_Hear.j0 n c_1 x_5 true) else (client_Client_Hear.j0 n c_1 x_5 (x_5.Index != c_1.call)))))

def client_Client_Status.f (n : Nat) (c_1 : T_client_Client) : Option (Int × Int × Bool) :=
  (some (c_1.session, c_1.seq, c_1.busy))

def tontinelaw21_begun.j4 (n : Nat) (r_13 : T_api_Told × Bool × T_api_Letter × Bool × T_client_Client) (r_22 : Int × Int × Bool) (b_32 : Bool) : Option Bool :=
  (if b_32 then (if (r_13.1.Reply.Num == 4) then (if (r_22.1 == 4) then (if (r_22.2.1 == 0) then (some (!r_22.2.2)) else (some false)) else (some false)) else (some false)) else (some false))
def tontinelaw21_begun.j3 (n : Nat) (r_13 : T_api_Told × Bool × T_api_Letter × Bool × T_client_Client) (r_22 : Int × Int × Bool) (b_30 : Bool) : Option Bool :=
  (if b_30 then (tontinelaw21_begun.j4 n r_13 r_22 (!r_13.2.2.2.1)) else (tontinelaw21_begun.j4 n r_13 r_22 false))
def tontinelaw21_begun.j2 (n : Nat) (r_13 : T_api_Told × Bool × T_api_Letter × Bool × T_client_Client) (r_22 : Int × Int × Bool) (b_28 : Bool) : Option Bool :=
  (if b_28 then (tontinelaw21_begun.j3 n r_13 r_22 r_13.2.1) else (tontinelaw21_begun.j3 n r_13 r_22 false))
def tontinelaw21_begun.j1 (n : Nat) (r_6 : T_api_Letter × Int × T_client_Client) (r_13 : T_api_Told × Bool × T_api_Letter × Bool × T_client_Client) (r_22 : Int × Int × Bool) (b_26 : Bool) : Option Bool :=
  (if b_26 then (tontinelaw21_begun.j2 n r_13 r_22 (r_6.1.Index == 1)) else (tontinelaw21_begun.j2 n r_13 r_22 false))
def tontinelaw21_begun.j0 (n : Nat) (r_6 : T_api_Letter × Int × T_client_Client) (r_13 : T_api_Told × Bool × T_api_Letter × Bool × T_client_Client) (r_22 : Int × Int × Bool) (b_24 : Bool) : Option Bool :=
  (if b_24 then (tontinelaw21_begun.j1 n r_6 r_13 r_22 (r_6.1.From == 201)) else (tontinelaw21_begun.j1 n r_6 r_13 r_22 false))
def tontinelaw21_begun.f (n : Nat) : Option Bool :=
  ((client_New.f n 1).bind fun r_1 => (match r_1.1 with | none => none | some o_5 => ((client_Client_Call.f n (⟨o_5.id, o_5.session, o_5.seq, o_5.call, o_5.busy, (⟨o_5.now.Kind, o_5.now.Session, o_5.now.Seq, o_5.now.Saga, o_5.now.Steps, o_5.now.Step, o_5.now.Back, o_5.now.Try, o_5.now.Ok, o_5.now.Now⟩ : T_api_Command), o_5.data, o_5.to_⟩ : T_client_Client) (⟨1, 0, 0, 0, [], 0, false, 0, false, 0⟩ : T_api_Command)).bind fun r_6 => ((tontineref16_Answer.f n (⟨0, 4, 0⟩ : T_api_Reply)).bind fun r_12 => ((client_Client_Hear.f n (⟨r_6.2.2.id, r_6.2.2.session, r_6.2.2.seq, r_6.2.2.call, r_6.2.2.busy, (⟨r_6.2.2.now.Kind, r_6.2.2.now.Session, r_6.2.2.now.Seq, r_6.2.2.now.Saga, r_6.2.2.now.Steps, r_6.2.2.now.Step, r_6.2.2.now.Back, r_6.2.2.now.Try, r_6.2.2.now.Ok, r_6.2.2.now.Now⟩ : T_api_Command), r_6.2.2.data, r_6.2.2.to_⟩ : T_client_Client) (⟨9, 0, 201, 0, 1, 0, 0, false, [], r_12⟩ : T_api_Letter)).bind fun r_13 => ((client_Client_Status.f n (⟨r_13.2.2.2.2.id, r_13.2.2.2.2.session, r_13.2.2.2.2.seq, r_13.2.2.2.2.call, r_13.2.2.2.2.busy, (⟨r_13.2.2.2.2.now.Kind, r_13.2.2.2.2.now.Session, r_13.2.2.2.2.now.Seq, r_13.2.2.2.2.now.Saga, r_13.2.2.2.2.now.Steps, r_13.2.2.2.2.now.Step, r_13.2.2.2.2.now.Back, r_13.2.2.2.2.now.Try, r_13.2.2.2.2.now.Ok, r_13.2.2.2.2.now.Now⟩ : T_api_Command), r_13.2.2.2.2.data, r_13.2.2.2.2.to_⟩ : T_client_Client)).bind fun r_22 => (if (r_1.2 == 0) then (tontinelaw21_begun.j0 n r_6 r_13 r_22 (r_6.2.1 == 0)) else (tontinelaw21_begun.j0 n r_6 r_13 r_22 false))))))))

def client_Client_Again.f (n : Nat) (c_1 : T_client_Client) : Option (T_api_Letter × Int × T_client_Client) :=
  (if (!c_1.busy) then (some ((⟨0, 0, 0, 0, 0, 0, 0, false, [], []⟩ : T_api_Letter), 1, (⟨c_1.id, c_1.session, c_1.seq, c_1.call, c_1.busy, (⟨c_1.now.Kind, c_1.now.Session, c_1.now.Seq, c_1.now.Saga, c_1.now.Steps, c_1.now.Step, c_1.now.Back, c_1.now.Try, c_1.now.Ok, c_1.now.Now⟩ : T_api_Command), c_1.data, c_1.to_⟩ : T_client_Client))) else ((client_Client_letter.f n (⟨c_1.id, c_1.session, c_1.seq, c_1.call, c_1.busy, (⟨c_1.now.Kind, c_1.now.Session, c_1.now.Seq, c_1.now.Saga, c_1.now.Steps, c_1.now.Step, c_1.now.Back, c_1.now.Try, c_1.now.Ok, c_1.now.Now⟩ : T_api_Command), c_1.data, (wi64 (c_1.to_ + 1)).tmod 7⟩ : T_client_Client)).bind fun r_7 => (some (r_7, 0, (⟨c_1.id, c_1.session, c_1.seq, c_1.call, c_1.busy, (⟨c_1.now.Kind, c_1.now.Session, c_1.now.Seq, c_1.now.Saga, c_1.now.Steps, c_1.now.Step, c_1.now.Back, c_1.now.Try, c_1.now.Ok, c_1.now.Now⟩ : T_api_Command), c_1.data, (wi64 (c_1.to_ + 1)).tmod 7⟩ : T_client_Client)))))

def tontinelaw21_ClientAsks.j1 (n : Nat) (L0 : Int → Int → Int → Int → Bool → Int → Int → Int → Int → (List T_api_Step) → Int → Bool → Int → Bool → Int → (List UInt8) → Int → Int → Option Bool) (x_39 : Int) (r_41 : T_api_Letter × Int × T_client_Client) (b_51 : Bool) : Option Bool :=
  (if b_51 then (some false) else (L0 r_41.2.2.id r_41.2.2.session r_41.2.2.seq r_41.2.2.call r_41.2.2.busy r_41.2.2.now.Kind r_41.2.2.now.Session r_41.2.2.now.Seq r_41.2.2.now.Saga r_41.2.2.now.Steps r_41.2.2.now.Step r_41.2.2.now.Back r_41.2.2.now.Try r_41.2.2.now.Ok r_41.2.2.now.Now r_41.2.2.data r_41.2.2.to_ (wi64 (x_39 + 1))))
def tontinelaw21_ClientAsks.l0 (n : Nat) (n_2 : Int) (r_10 : T_api_Letter × Int × T_client_Client) : Nat → Int → Int → Int → Int → Bool → Int → Int → Int → Int → (List T_api_Step) → Int → Bool → Int → Bool → Int → (List UInt8) → Int → Int → Option Bool
  | 0, _, _, _, _, _, _, _, _, _, _, _, _, _, _, _, _, _, _ => none
  | k + 1, f_20, f_21, f_22, f_23, f_24, f_25, f_26, f_27, f_28, f_29, f_32, f_33, f_34, f_35, f_36, f_37, f_38, x_39 => (if decide (x_39 < ((wi64 ((n_2.tmod 50) + 50)).tmod 50)) then ((client_Client_Again.f n (⟨f_20, f_21, f_22, f_23, f_24, (⟨f_25, f_26, f_27, f_28, f_29, f_32, f_33, f_34, f_35, f_36⟩ : T_api_Command), f_37, f_38⟩ : T_client_Client)).bind fun r_41 => (if (r_41.2.1 != 0) then (tontinelaw21_ClientAsks.j1 n (tontinelaw21_ClientAsks.l0 n n_2 r_10 k) x_39 r_41 true) else (if (r_41.1.To != ((wi64 (x_39 + 1)).tmod 7)) then (tontinelaw21_ClientAsks.j1 n (tontinelaw21_ClientAsks.l0 n n_2 r_10 k) x_39 r_41 true) else (if (!(r_41.1.Data == r_10.1.Data)) then (tontinelaw21_ClientAsks.j1 n (tontinelaw21_ClientAsks.l0 n n_2 r_10 k) x_39 r_41 true) else (if (r_41.1.Index != r_10.1.Index) then (tontinelaw21_ClientAsks.j1 n (tontinelaw21_ClientAsks.l0 n n_2 r_10 k) x_39 r_41 true) else (tontinelaw21_ClientAsks.j1 n (tontinelaw21_ClientAsks.l0 n n_2 r_10 k) x_39 r_41 (r_41.1.From != r_10.1.From))))))) else (some true))
def tontinelaw21_ClientAsks.j0 (n : Nat) (n_2 : Int) (r_10 : T_api_Letter × Int × T_client_Client) (b_18 : Bool) : Option Bool :=
  (if b_18 then (some false) else (tontinelaw21_ClientAsks.l0 n n_2 r_10 n r_10.2.2.id r_10.2.2.session r_10.2.2.seq r_10.2.2.call r_10.2.2.busy r_10.2.2.now.Kind r_10.2.2.now.Session r_10.2.2.now.Seq r_10.2.2.now.Saga r_10.2.2.now.Steps r_10.2.2.now.Step r_10.2.2.now.Back r_10.2.2.now.Try r_10.2.2.now.Ok r_10.2.2.now.Now r_10.2.2.data r_10.2.2.to_ 0))
def tontinelaw21_ClientAsks.f (n : Nat) (id_1 : Int) (n_2 : Int) : Option Bool :=
  ((tontinelaw21_begun.f n).bind fun r_3 => (if (!r_3) then (some false) else ((client_New.f n ((wi64 ((id_1.tmod 4) + 4)).tmod 4)).bind fun r_5 => (match r_5.1 with | none => none | some o_9 => ((client_Client_Call.f n (⟨o_9.id, o_9.session, o_9.seq, o_9.call, o_9.busy, (⟨o_9.now.Kind, o_9.now.Session, o_9.now.Seq, o_9.now.Saga, o_9.now.Steps, o_9.now.Step, o_9.now.Back, o_9.now.Try, o_9.now.Ok, o_9.now.Now⟩ : T_api_Command), o_9.data, o_9.to_⟩ : T_client_Client) (⟨1, 0, 0, 0, [], 0, false, 0, false, 0⟩ : T_api_Command)).bind fun r_10 => (if (r_5.2 != 0) then (tontinelaw21_ClientAsks.j0 n n_2 r_10 true) else (if (r_10.2.1 != 0) then (tontinelaw21_ClientAsks.j0 n n_2 r_10 true) else (tontinelaw21_ClientAsks.j0 n n_2 r_10 (r_10.1.To != 0)))))))))

def tontinelaw21_light.l0 (n : Nat) (calls_1 : (List T_tontinelaw21_Call)) : Nat → Int → Int → Option Bool
  | 0, _, _ => none
  | k + 1, n_4, x_5 => (if decide (x_5 < (calls_1.length : Int)) then (if (0 : Int) ≤ x_5 ∧ x_5 < (calls_1.length : Int) then ((tontinelaw21_light.l0 n calls_1 k) (wi64 (n_4 + (wi64 ((((rdL calls_1 x_5).Command.Steps).length : Int) + (wi64 ((((rdL calls_1 x_5).Letter.Data).length : Int).tdiv 50)))))) (wi64 (x_5 + 1))) else none) else (some (decide (n_4 ≤ 2000))))
def tontinelaw21_light.f (n : Nat) (calls_1 : (List T_tontinelaw21_Call)) : Option Bool :=
  (tontinelaw21_light.l0 n calls_1 n (calls_1.length : Int) 0)

def tontineref13_Check.j2 (n : Nat) (L0 : Bool → Int → Option Int) (i_7 : Int) (bad_18 : Bool) : Option Int :=
  (L0 bad_18 (wi64 (i_7 + 1)))
def tontineref13_Check.j1 (n : Nat) (L0 : Bool → Int → Option Int) (l_1 : (List T_api_Step)) (bad_6 : Bool) (i_7 : Int) (b_9 : Bool) : Option Int :=
  (if b_9 then (if (0 : Int) ≤ i_7 ∧ i_7 < (l_1.length : Int) then (if decide (((rdL l_1 i_7).Part) < 0) then (tontineref13_Check.j2 n L0 i_7 true) else (if decide (((rdL l_1 i_7).Part) > 3) then (tontineref13_Check.j2 n L0 i_7 true) else (if decide ((((rdL l_1 i_7).Name).length : Int) < 1) then (tontineref13_Check.j2 n L0 i_7 true) else (if decide ((((rdL l_1 i_7).Name).length : Int) > 16) then (tontineref13_Check.j2 n L0 i_7 true) else (if decide (((rdL l_1 i_7).Budget) < 1) then (tontineref13_Check.j2 n L0 i_7 true) else (tontineref13_Check.j2 n L0 i_7 (decide (((rdL l_1 i_7).Budget) > 9)))))))) else none) else (if bad_6 then (some 44) else (some 0)))
def tontineref13_Check.l0 (n : Nat) (l_1 : (List T_api_Step)) : Nat → Bool → Int → Option Int
  | 0, _, _ => none
  | k + 1, bad_6, i_7 => (if decide (i_7 < (l_1.length : Int)) then (tontineref13_Check.j1 n (tontineref13_Check.l0 n l_1 k) l_1 bad_6 i_7 (!bad_6)) else (tontineref13_Check.j1 n (tontineref13_Check.l0 n l_1 k) l_1 bad_6 i_7 false))
def tontineref13_Check.j0 (n : Nat) (l_1 : (List T_api_Step)) (bad_5 : Bool) : Option Int :=
  (tontineref13_Check.l0 n l_1 n bad_5 0)
def tontineref13_Check.f (n : Nat) (l_1 : (List T_api_Step)) : Option Int :=
  (if ((l_1.length : Int) == 0) then (tontineref13_Check.j0 n l_1 true) else (tontineref13_Check.j0 n l_1 (decide ((l_1.length : Int) > 64))))

def tontineref16_bare.f (n : Nat) (c_1 : T_api_Command) : Option Bool :=
  (if (c_1.Step == 0) then (if (!c_1.Back) then (if (c_1.Try == 0) then (some (!c_1.Ok)) else (some false)) else (some false)) else (some false))

def tontineref16_May.j1 (n : Nat) (b_25 : Bool) : Option Bool :=
  (some b_25)
def tontineref16_May.j0 (n : Nat) (c_1 : T_api_Command) (b_7 : Bool) : Option Bool :=
  (if b_7 then (if ((c_1.Steps.length : Int) == 0) then ((tontineref16_bare.f n c_1).bind fun r_10 => (some r_10)) else (some false)) else (if (c_1.Kind == 2) then ((tontineref13_Check.f n c_1.Steps).bind fun r_13 => (if (r_13 == 0) then ((tontineref16_bare.f n c_1).bind fun r_15 => (some r_15)) else (some false))) else (if (c_1.Kind == 4) then (if ((c_1.Steps.length : Int) == 0) then (if decide (c_1.Step ≥ 0) then (if decide (c_1.Step ≤ 63) then (if decide (c_1.Try ≥ 0) then (if decide (c_1.Try ≤ 8) then (if (c_1.Session == 0) then (tontineref16_May.j1 n (c_1.Seq == 0)) else (tontineref16_May.j1 n false)) else (tontineref16_May.j1 n false)) else (tontineref16_May.j1 n false)) else (tontineref16_May.j1 n false)) else (tontineref16_May.j1 n false)) else (tontineref16_May.j1 n false)) else (some false))))
def tontineref16_May.f (n : Nat) (c_1 : T_api_Command) : Option Bool :=
  (if (c_1.Kind == 1) then (tontineref16_May.j0 n c_1 (c_1.Kind == 1)) else (if (c_1.Kind == 3) then (tontineref16_May.j0 n c_1 (c_1.Kind == 3)) else (tontineref16_May.j0 n c_1 (c_1.Kind == 5))))

def tontineref03_Text.f (n : Nat) (s_1 : (List UInt8)) : Option (List UInt8) :=
  ((tontineref03_Num.f n (wu64 (s_1.length : Int))).bind fun r_2 => (if r_2.length + s_1.length ≤ i64max then (some (r_2 ++ s_1)) else none))

def tontineref13_Bytes.l0 (n : Nat) (l_1 : (List T_api_Step)) : Nat → (List UInt8) → Int → Option (List UInt8)
  | 0, _, _ => none
  | k + 1, s_5, i_6 => (if decide (i_6 < (l_1.length : Int)) then (if (0 : Int) ≤ i_6 ∧ i_6 < (l_1.length : Int) then (if (0 : Int) ≤ i_6 ∧ i_6 < (l_1.length : Int) then (if (0 : Int) ≤ i_6 ∧ i_6 < (l_1.length : Int) then ((tontineref03_Num.f n (wu64 ((rdL l_1 i_6).Part))).bind fun r_11 => ((tontineref03_Text.f n ((rdL l_1 i_6).Name)).bind fun r_12 => (if r_11.length + r_12.length ≤ i64max then ((tontineref03_Num.f n (wu64 ((rdL l_1 i_6).Budget))).bind fun r_14 => (if (r_11 ++ r_12).length + r_14.length ≤ i64max then (if s_5.length + ((r_11 ++ r_12) ++ r_14).length ≤ i64max then ((tontineref13_Bytes.l0 n l_1 k) (s_5 ++ ((r_11 ++ r_12) ++ r_14)) (wi64 (i_6 + 1))) else none) else none)) else none))) else none) else none) else none) else (some s_5))
def tontineref13_Bytes.f (n : Nat) (l_1 : (List T_api_Step)) : Option (List UInt8) :=
  ((tontineref03_Num.f n (wu64 (l_1.length : Int))).bind fun r_4 => (tontineref13_Bytes.l0 n l_1 n r_4 0))

def tontineref16_truth.f (n : Nat) (x_1 : Bool) : Option Int :=
  (if x_1 then (some 1) else (some 0))

def tontineref16_Encode.j1 (n : Nat) (c_1 : T_api_Command) (s_17 : (List UInt8)) : Option ((List UInt8) × Int) :=
  (if (c_1.Kind == 4) then ((tontineref16_truth.f n c_1.Back).bind fun r_19 => ((tontineref16_truth.f n c_1.Ok).bind fun r_20 => ((tontineref16_nums.f n [wu64 c_1.Step, r_19, wu64 c_1.Try, r_20]).bind fun r_23 => (if s_17.length + r_23.length ≤ i64max then (some (s_17 ++ r_23, 0)) else none)))) else (some (s_17, 0)))
def tontineref16_Encode.j0 (n : Nat) (c_1 : T_api_Command) (b_7 : Bool) : Option ((List UInt8) × Int) :=
  (if b_7 then (some ([], 44)) else ((tontineref16_May.f n c_1).bind fun r_9 => (if (!r_9) then (some ([], 1)) else ((tontineref16_nums.f n [wu64 c_1.Kind, c_1.Session, c_1.Seq, c_1.Saga, c_1.Now]).bind fun r_13 => (if (c_1.Kind == 2) then ((tontineref13_Bytes.f n c_1.Steps).bind fun r_15 => (if r_13.length + r_15.length ≤ i64max then (tontineref16_Encode.j1 n c_1 (r_13 ++ r_15)) else none)) else (tontineref16_Encode.j1 n c_1 r_13))))))
def tontineref16_Encode.f (n : Nat) (c_1 : T_api_Command) : Option ((List UInt8) × Int) :=
  (if (c_1.Kind == 2) then ((tontineref13_Check.f n c_1.Steps).bind fun r_6 => (tontineref16_Encode.j0 n c_1 (r_6 != 0))) else (tontineref16_Encode.j0 n c_1 false))

def tontineref21_Client_letter.f (n : Nat) (c_1 : T_tontineref21_Client) : Option T_api_Letter :=
  ((tontineref16_Encode.f n (⟨c_1.Now.Kind, c_1.Now.Session, c_1.Now.Seq, c_1.Now.Saga, c_1.Now.Steps, c_1.Now.Step, c_1.Now.Back, c_1.Now.Try, c_1.Now.Ok, c_1.Now.Now⟩ : T_api_Command)).bind fun r_6 => (some (⟨8, wi64 (200 + c_1.Id), c_1.To, 0, c_1.Calls, 0, 0, false, [], r_6.1⟩ : T_api_Letter)))

def tontineref21_Client_Call.j1 (n : Nat) (c_1 : T_tontineref21_Client) (x_5 : T_api_Command) (f_16 : Int) (f_17 : Int) : Option (T_api_Letter × Int × T_tontineref21_Client) :=
  ((tontineref16_Encode.f n (⟨x_5.Kind, f_16, f_17, x_5.Saga, x_5.Steps, x_5.Step, x_5.Back, x_5.Try, x_5.Ok, 0⟩ : T_api_Command)).bind fun r_18 => (if (r_18.2 != 0) then (some ((⟨0, 0, 0, 0, 0, 0, 0, false, [], []⟩ : T_api_Letter), r_18.2, (⟨c_1.Id, c_1.Session, c_1.Last, c_1.Calls, c_1.Busy, (⟨c_1.Now.Kind, c_1.Now.Session, c_1.Now.Seq, c_1.Now.Saga, c_1.Now.Steps, c_1.Now.Step, c_1.Now.Back, c_1.Now.Try, c_1.Now.Ok, c_1.Now.Now⟩ : T_api_Command), c_1.To⟩ : T_tontineref21_Client))) else ((tontineref21_Client_letter.f n (⟨c_1.Id, c_1.Session, c_1.Last, wu64 (c_1.Calls + 1), true, (⟨x_5.Kind, f_16, f_17, x_5.Saga, x_5.Steps, x_5.Step, x_5.Back, x_5.Try, x_5.Ok, 0⟩ : T_api_Command), c_1.To⟩ : T_tontineref21_Client)).bind fun r_20 => (some (r_20, 0, (⟨c_1.Id, c_1.Session, c_1.Last, wu64 (c_1.Calls + 1), true, (⟨x_5.Kind, f_16, f_17, x_5.Saga, x_5.Steps, x_5.Step, x_5.Back, x_5.Try, x_5.Ok, 0⟩ : T_api_Command), c_1.To⟩ : T_tontineref21_Client))))))
def tontineref21_Client_Call.j0 (n : Nat) (c_1 : T_tontineref21_Client) (x_5 : T_api_Command) (b_12 : Bool) : Option (T_api_Letter × Int × T_tontineref21_Client) :=
  (if b_12 then (some ((⟨0, 0, 0, 0, 0, 0, 0, false, [], []⟩ : T_api_Letter), 40, (⟨c_1.Id, c_1.Session, c_1.Last, c_1.Calls, c_1.Busy, (⟨c_1.Now.Kind, c_1.Now.Session, c_1.Now.Seq, c_1.Now.Saga, c_1.Now.Steps, c_1.Now.Step, c_1.Now.Back, c_1.Now.Try, c_1.Now.Ok, c_1.Now.Now⟩ : T_api_Command), c_1.To⟩ : T_tontineref21_Client))) else (if (x_5.Kind == 4) then (some ((⟨0, 0, 0, 0, 0, 0, 0, false, [], []⟩ : T_api_Letter), 1, (⟨c_1.Id, c_1.Session, c_1.Last, c_1.Calls, c_1.Busy, (⟨c_1.Now.Kind, c_1.Now.Session, c_1.Now.Seq, c_1.Now.Saga, c_1.Now.Steps, c_1.Now.Step, c_1.Now.Back, c_1.Now.Try, c_1.Now.Ok, c_1.Now.Now⟩ : T_api_Command), c_1.To⟩ : T_tontineref21_Client))) else (if (x_5.Kind != 1) then (tontineref21_Client_Call.j1 n c_1 x_5 c_1.Session (wu64 (c_1.Last + 1))) else (tontineref21_Client_Call.j1 n c_1 x_5 0 0))))
def tontineref21_Client_Call.f (n : Nat) (c_1 : T_tontineref21_Client) (x_5 : T_api_Command) : Option (T_api_Letter × Int × T_tontineref21_Client) :=
  (if c_1.Busy then (some ((⟨0, 0, 0, 0, 0, 0, 0, false, [], []⟩ : T_api_Letter), 31, (⟨c_1.Id, c_1.Session, c_1.Last, c_1.Calls, c_1.Busy, (⟨c_1.Now.Kind, c_1.Now.Session, c_1.Now.Seq, c_1.Now.Saga, c_1.Now.Steps, c_1.Now.Step, c_1.Now.Back, c_1.Now.Try, c_1.Now.Ok, c_1.Now.Now⟩ : T_api_Command), c_1.To⟩ : T_tontineref21_Client))) else (if (x_5.Kind != 1) then (tontineref21_Client_Call.j0 n c_1 x_5 (c_1.Session == 0)) else (tontineref21_Client_Call.j0 n c_1 x_5 false)))

def tontineref10_Same.f (n : Nat) (a_1 : T_api_Letter) (b_4 : T_api_Letter) : Option Bool :=
  (if (a_1.Kind == b_4.Kind) then (if (a_1.From == b_4.From) then (if (a_1.To == b_4.To) then (if (a_1.Term == b_4.Term) then (if (a_1.Index == b_4.Index) then (if (a_1.Prev == b_4.Prev) then (if (a_1.Commit == b_4.Commit) then (if (a_1.Ok == b_4.Ok) then (if (a_1.Data == b_4.Data) then ((tontineref07_Same.f n a_1.Entries b_4.Entries).bind fun r_18 => (some r_18)) else (some false)) else (some false)) else (some false)) else (some false)) else (some false)) else (some false)) else (some false)) else (some false)) else (some false))

def tontineref21_Client_Again.f (n : Nat) (c_1 : T_tontineref21_Client) : Option (T_api_Letter × Int × T_tontineref21_Client) :=
  (if (!c_1.Busy) then (some ((⟨0, 0, 0, 0, 0, 0, 0, false, [], []⟩ : T_api_Letter), 1, (⟨c_1.Id, c_1.Session, c_1.Last, c_1.Calls, c_1.Busy, (⟨c_1.Now.Kind, c_1.Now.Session, c_1.Now.Seq, c_1.Now.Saga, c_1.Now.Steps, c_1.Now.Step, c_1.Now.Back, c_1.Now.Try, c_1.Now.Ok, c_1.Now.Now⟩ : T_api_Command), c_1.To⟩ : T_tontineref21_Client))) else (if ((wi64 (c_1.To + 1)) == 7) then ((tontineref21_Client_letter.f n (⟨c_1.Id, c_1.Session, c_1.Last, c_1.Calls, c_1.Busy, (⟨c_1.Now.Kind, c_1.Now.Session, c_1.Now.Seq, c_1.Now.Saga, c_1.Now.Steps, c_1.Now.Step, c_1.Now.Back, c_1.Now.Try, c_1.Now.Ok, c_1.Now.Now⟩ : T_api_Command), 0⟩ : T_tontineref21_Client)).bind fun r_8 => (some (r_8, 0, (⟨c_1.Id, c_1.Session, c_1.Last, c_1.Calls, c_1.Busy, (⟨c_1.Now.Kind, c_1.Now.Session, c_1.Now.Seq, c_1.Now.Saga, c_1.Now.Steps, c_1.Now.Step, c_1.Now.Back, c_1.Now.Try, c_1.Now.Ok, c_1.Now.Now⟩ : T_api_Command), 0⟩ : T_tontineref21_Client)))) else ((tontineref21_Client_letter.f n (⟨c_1.Id, c_1.Session, c_1.Last, c_1.Calls, c_1.Busy, (⟨c_1.Now.Kind, c_1.Now.Session, c_1.Now.Seq, c_1.Now.Saga, c_1.Now.Steps, c_1.Now.Step, c_1.Now.Back, c_1.Now.Try, c_1.Now.Ok, c_1.Now.Now⟩ : T_api_Command), wi64 (c_1.To + 1)⟩ : T_tontineref21_Client)).bind fun r_12 => (some (r_12, 0, (⟨c_1.Id, c_1.Session, c_1.Last, c_1.Calls, c_1.Busy, (⟨c_1.Now.Kind, c_1.Now.Session, c_1.Now.Seq, c_1.Now.Saga, c_1.Now.Steps, c_1.Now.Step, c_1.Now.Back, c_1.Now.Try, c_1.Now.Ok, c_1.Now.Now⟩ : T_api_Command), wi64 (c_1.To + 1)⟩ : T_tontineref21_Client))))))

def tontineref03_Reader_Up.j0 (n : Nat) (r_4 : Int × T_tontineref03_Reader) (b_6 : Bool) : Option (Int × T_tontineref03_Reader) :=
  (if b_6 then ((tontineref03_Reader_Fail.f n r_4.2).bind fun r_8 => (some (0, r_8))) else (some (wi64 r_4.1, r_4.2)))
def tontineref03_Reader_Up.f (n : Nat) (r_1 : T_tontineref03_Reader) (limit_3 : Int) : Option (Int × T_tontineref03_Reader) :=
  ((tontineref03_Reader_Num.f n r_1).bind fun r_4 => (if decide (limit_3 < 0) then (tontineref03_Reader_Up.j0 n r_4 true) else (tontineref03_Reader_Up.j0 n r_4 (decide (r_4.1 > (wu64 limit_3))))))

def tontineref16_Said.f (n : Nat) (s_1 : (List UInt8)) : Option (T_api_Reply × Int) :=
  ((tontineref03_Reader_Up.f n (⟨s_1, false⟩ : T_tontineref03_Reader) 52).bind fun r_4 => ((tontineref03_Reader_Num.f n r_4.2).bind fun r_6 => ((tontineref03_Reader_Num.f n r_6.2).bind fun r_7 => (if r_7.2.Bad then (some ((⟨0, 0, 0⟩ : T_api_Reply), 2)) else (if (!(r_7.2.S_ == ([] : List UInt8))) then (some ((⟨0, 0, 0⟩ : T_api_Reply), 2)) else (some ((⟨r_4.1, r_6.1, r_7.1⟩ : T_api_Reply), 0)))))))

def tontineref21_Client_Hear.j2 (n : Nat) (c_1 : T_tontineref21_Client) (x_5 : T_api_Letter) (b_24 : Bool) : Option (T_api_Told × Bool × T_api_Letter × Bool × T_tontineref21_Client) :=
  (if b_24 then (some ((⟨0, (⟨0, 0, 0, 0, [], 0, false, 0, false, 0⟩ : T_api_Command), (⟨0, 0, 0⟩ : T_api_Reply)⟩ : T_api_Told), false, (⟨0, 0, 0, 0, 0, 0, 0, false, [], []⟩ : T_api_Letter), false, (⟨c_1.Id, c_1.Session, c_1.Last, c_1.Calls, c_1.Busy, (⟨c_1.Now.Kind, c_1.Now.Session, c_1.Now.Seq, c_1.Now.Saga, c_1.Now.Steps, c_1.Now.Step, c_1.Now.Back, c_1.Now.Try, c_1.Now.Ok, c_1.Now.Now⟩ : T_api_Command), c_1.To⟩ : T_tontineref21_Client))) else ((tontineref21_Client_letter.f n (⟨c_1.Id, c_1.Session, c_1.Last, c_1.Calls, c_1.Busy, (⟨c_1.Now.Kind, c_1.Now.Session, c_1.Now.Seq, c_1.Now.Saga, c_1.Now.Steps, c_1.Now.Step, c_1.Now.Back, c_1.Now.Try, c_1.Now.Ok, c_1.Now.Now⟩ : T_api_Command), wi64 ((wi64 x_5.Commit) - 1)⟩ : T_tontineref21_Client)).bind fun r_26 => (some ((⟨0, (⟨0, 0, 0, 0, [], 0, false, 0, false, 0⟩ : T_api_Command), (⟨0, 0, 0⟩ : T_api_Reply)⟩ : T_api_Told), false, r_26, true, (⟨c_1.Id, c_1.Session, c_1.Last, c_1.Calls, c_1.Busy, (⟨c_1.Now.Kind, c_1.Now.Session, c_1.Now.Seq, c_1.Now.Saga, c_1.Now.Steps, c_1.Now.Step, c_1.Now.Back, c_1.Now.Try, c_1.Now.Ok, c_1.Now.Now⟩ : T_api_Command), wi64 ((wi64 x_5.Commit) - 1)⟩ : T_tontineref21_Client)))))
def tontineref21_Client_Hear.j3 (n : Nat) (c_1 : T_tontineref21_Client) (r_11 : T_api_Reply × Int) (f_33 : Int) (f_34 : Int) : Option (T_api_Told × Bool × T_api_Letter × Bool × T_tontineref21_Client) :=
  (some ((⟨c_1.Id, (⟨c_1.Now.Kind, c_1.Now.Session, c_1.Now.Seq, c_1.Now.Saga, c_1.Now.Steps, c_1.Now.Step, c_1.Now.Back, c_1.Now.Try, c_1.Now.Ok, c_1.Now.Now⟩ : T_api_Command), r_11.1⟩ : T_api_Told), true, (⟨0, 0, 0, 0, 0, 0, 0, false, [], []⟩ : T_api_Letter), false, (⟨c_1.Id, f_33, f_34, c_1.Calls, false, (⟨c_1.Now.Kind, c_1.Now.Session, c_1.Now.Seq, c_1.Now.Saga, c_1.Now.Steps, c_1.Now.Step, c_1.Now.Back, c_1.Now.Try, c_1.Now.Ok, c_1.Now.Now⟩ : T_api_Command), c_1.To⟩ : T_tontineref21_Client)))
def tontineref21_Client_Hear.j1 (n : Nat) (c_1 : T_tontineref21_Client) (x_5 : T_api_Letter) (r_11 : T_api_Reply × Int) (b_20 : Bool) : Option (T_api_Told × Bool × T_api_Letter × Bool × T_tontineref21_Client) :=
  (if b_20 then (if decide (x_5.Commit < 1) then (tontineref21_Client_Hear.j2 n c_1 x_5 true) else (if decide (x_5.Commit > 7) then (tontineref21_Client_Hear.j2 n c_1 x_5 true) else (tontineref21_Client_Hear.j2 n c_1 x_5 ((wi64 x_5.Commit) == (wi64 (c_1.To + 1)))))) else (if (c_1.Now.Kind == 1) then (if (r_11.1.Err == 0) then (tontineref21_Client_Hear.j3 n c_1 r_11 r_11.1.Num 0) else (tontineref21_Client_Hear.j3 n c_1 r_11 c_1.Session c_1.Last)) else (if (r_11.1.Err == 40) then (tontineref21_Client_Hear.j3 n c_1 r_11 0 0) else (tontineref21_Client_Hear.j3 n c_1 r_11 c_1.Session (wu64 (c_1.Last + 1))))))
def tontineref21_Client_Hear.j0 (n : Nat) (c_1 : T_tontineref21_Client) (x_5 : T_api_Letter) (r_11 : T_api_Reply × Int) (b_17 : Bool) : Option (T_api_Told × Bool × T_api_Letter × Bool × T_tontineref21_Client) :=
  (if b_17 then (some ((⟨0, (⟨0, 0, 0, 0, [], 0, false, 0, false, 0⟩ : T_api_Command), (⟨0, 0, 0⟩ : T_api_Reply)⟩ : T_api_Told), false, (⟨0, 0, 0, 0, 0, 0, 0, false, [], []⟩ : T_api_Letter), false, (⟨c_1.Id, c_1.Session, c_1.Last, c_1.Calls, c_1.Busy, (⟨c_1.Now.Kind, c_1.Now.Session, c_1.Now.Seq, c_1.Now.Saga, c_1.Now.Steps, c_1.Now.Step, c_1.Now.Back, c_1.Now.Try, c_1.Now.Ok, c_1.Now.Now⟩ : T_api_Command), c_1.To⟩ : T_tontineref21_Client))) else (if (r_11.1.Err == 30) then (tontineref21_Client_Hear.j1 n c_1 x_5 r_11 true) else (tontineref21_Client_Hear.j1 n c_1 x_5 r_11 (r_11.1.Err == 31))))
def tontineref21_Client_Hear.f (n : Nat) (c_1 : T_tontineref21_Client) (x_5 : T_api_Letter) : Option (T_api_Told × Bool × T_api_Letter × Bool × T_tontineref21_Client) :=
  ((tontineref16_Said.f n x_5.Data).bind fun r_11 => (if (!c_1.Busy) then (tontineref21_Client_Hear.j0 n c_1 x_5 r_11 true) else (if (x_5.Kind != 9) then (tontineref21_Client_Hear.j0 n c_1 x_5 r_11 true) else (if (x_5.To != (wi64 (200 + c_1.Id))) then (tontineref21_Client_Hear.j0 n c_1 x_5 r_11 true) else (if (x_5.Index != c_1.Calls) then (tontineref21_Client_Hear.j0 n c_1 x_5 r_11 true) else (tontineref21_Client_Hear.j0 n c_1 x_5 r_11 (r_11.2 != 0)))))))

def tontineref13_Same.l0 (n : Nat) (a_1 : (List T_api_Step)) (b_4 : (List T_api_Step)) : Nat → Int → Option Bool
  | 0, _ => none
  | k + 1, i_8 => (if decide (i_8 < (a_1.length : Int)) then (if (0 : Int) ≤ i_8 ∧ i_8 < (a_1.length : Int) then (if (0 : Int) ≤ i_8 ∧ i_8 < (b_4.length : Int) then (if (!((((rdL a_1 i_8).Part) == ((rdL b_4 i_8).Part)) && ((((rdL a_1 i_8).Name) == ((rdL b_4 i_8).Name)) && ((((rdL a_1 i_8).Budget) == ((rdL b_4 i_8).Budget)) && true)))) then (some false) else ((tontineref13_Same.l0 n a_1 b_4 k) (wi64 (i_8 + 1)))) else none) else none) else (some true))
def tontineref13_Same.f (n : Nat) (a_1 : (List T_api_Step)) (b_4 : (List T_api_Step)) : Option Bool :=
  (if ((a_1.length : Int) != (b_4.length : Int)) then (some false) else (tontineref13_Same.l0 n a_1 b_4 n 0))

def tontineref16_Same.f (n : Nat) (a_1 : T_api_Command) (b_4 : T_api_Command) : Option Bool :=
  (if (a_1.Kind == b_4.Kind) then (if (a_1.Session == b_4.Session) then (if (a_1.Seq == b_4.Seq) then (if (a_1.Saga == b_4.Saga) then (if (a_1.Step == b_4.Step) then (if (a_1.Back == b_4.Back) then (if (a_1.Try == b_4.Try) then (if (a_1.Ok == b_4.Ok) then (if (a_1.Now == b_4.Now) then ((tontineref13_Same.f n a_1.Steps b_4.Steps).bind fun r_18 => (some r_18)) else (some false)) else (some false)) else (some false)) else (some false)) else (some false)) else (some false)) else (some false)) else (some false)) else (some false))

def tontineref21_Same.f (n : Nat) (a_1 : T_api_Told) (b_4 : T_api_Told) : Option Bool :=
  (if (a_1.Client == b_4.Client) then (if ((a_1.Reply.Err == b_4.Reply.Err) && ((a_1.Reply.Num == b_4.Reply.Num) && ((a_1.Reply.Extra == b_4.Reply.Extra) && true))) then ((tontineref16_Same.f n (⟨a_1.Command.Kind, a_1.Command.Session, a_1.Command.Seq, a_1.Command.Saga, a_1.Command.Steps, a_1.Command.Step, a_1.Command.Back, a_1.Command.Try, a_1.Command.Ok, a_1.Command.Now⟩ : T_api_Command) (⟨b_4.Command.Kind, b_4.Command.Session, b_4.Command.Seq, b_4.Command.Saga, b_4.Command.Steps, b_4.Command.Step, b_4.Command.Back, b_4.Command.Try, b_4.Command.Ok, b_4.Command.Now⟩ : T_api_Command)).bind fun r_11 => (some r_11)) else (some false)) else (some false))

def client_Client_Give.f (n : Nat) (c_1 : T_client_Client) : Option (Int × T_client_Client) :=
  (if (!c_1.busy) then (some (1, (⟨c_1.id, c_1.session, c_1.seq, c_1.call, c_1.busy, (⟨c_1.now.Kind, c_1.now.Session, c_1.now.Seq, c_1.now.Saga, c_1.now.Steps, c_1.now.Step, c_1.now.Back, c_1.now.Try, c_1.now.Ok, c_1.now.Now⟩ : T_api_Command), c_1.data, c_1.to_⟩ : T_client_Client))) else (some (0, (⟨c_1.id, 0, 0, c_1.call, false, (⟨c_1.now.Kind, c_1.now.Session, c_1.now.Seq, c_1.now.Saga, c_1.now.Steps, c_1.now.Step, c_1.now.Back, c_1.now.Try, c_1.now.Ok, c_1.now.Now⟩ : T_api_Command), c_1.data, c_1.to_⟩ : T_client_Client))))

def tontineref21_Client_Give.f (n : Nat) (c_1 : T_tontineref21_Client) : Option (Int × T_tontineref21_Client) :=
  (if (!c_1.Busy) then (some (1, (⟨c_1.Id, c_1.Session, c_1.Last, c_1.Calls, c_1.Busy, (⟨c_1.Now.Kind, c_1.Now.Session, c_1.Now.Seq, c_1.Now.Saga, c_1.Now.Steps, c_1.Now.Step, c_1.Now.Back, c_1.Now.Try, c_1.Now.Ok, c_1.Now.Now⟩ : T_api_Command), c_1.To⟩ : T_tontineref21_Client))) else (some (0, (⟨c_1.Id, 0, 0, c_1.Calls, false, (⟨c_1.Now.Kind, c_1.Now.Session, c_1.Now.Seq, c_1.Now.Saga, c_1.Now.Steps, c_1.Now.Step, c_1.Now.Back, c_1.Now.Try, c_1.Now.Ok, c_1.Now.Now⟩ : T_api_Command), c_1.To⟩ : T_tontineref21_Client))))

def tontinelaw21_ClientRuns.j1 (n : Nat) (b_18 : Bool) : Option Bool :=
  (some b_18)
def tontinelaw21_ClientRuns.l0 (n : Nat) (calls_2 : (List T_tontinelaw21_Call)) : Nat → Option Bool
  | 0 => none
  | k + 1 => (if decide (0 < (calls_2.length : Int)) then (if (0 : Int) ≤ 0 ∧ 0 < (calls_2.length : Int) then (if (((rdL calls_2 (0 : Int)).Kind) == 0) then none else (if (((rdL calls_2 (0 : Int)).Kind) == 1) then none else (if (((rdL calls_2 (0 : Int)).Kind) == 2) then none else none))) else none) else (some true))
def tontinelaw21_ClientRuns.j0 (n : Nat) (calls_2 : (List T_tontinelaw21_Call)) (r_9 : Option T_client_Client × Int) (b_15 : Bool) : Option Bool :=
  (if b_15 then (if (r_9.2 == 1) then (tontinelaw21_ClientRuns.j1 n true) else (tontinelaw21_ClientRuns.j1 n false)) else (tontinelaw21_ClientRuns.l0 n calls_2 n))
def tontinelaw21_ClientRuns.j3 (n : Nat) : Option Bool :=
  (some false)
def tontinelaw21_ClientRuns.j5 (n : Nat) (L1 : Int → Int → Int → Int → Bool → Int → Int → Int → Int → (List T_api_Step) → Int → Bool → Int → Bool → Int → (List UInt8) → Int → Int → Int → Int → Int → Bool → Int → Int → Int → Int → (List T_api_Step) → Int → Bool → Int → Bool → Int → Int → Int → Option Bool) (x_72 : Int) (f_147 : Int) (f_148 : Int) (f_149 : Int) (f_150 : Int) (f_151 : Bool) (f_152 : Int) (f_153 : Int) (f_154 : Int) (f_155 : Int) (f_156 : (List T_api_Step)) (f_159 : Int) (f_160 : Bool) (f_161 : Int) (f_162 : Bool) (f_163 : Int) (f_164 : (List UInt8)) (f_165 : Int) (f_166 : Int) (f_167 : Int) (f_168 : Int) (f_169 : Int) (f_170 : Bool) (f_171 : Int) (f_172 : Int) (f_173 : Int) (f_174 : Int) (f_175 : (List T_api_Step)) (f_178 : Int) (f_179 : Bool) (f_180 : Int) (f_181 : Bool) (f_182 : Int) (f_183 : Int) (b_187 : Bool) : Option Bool :=
  (if b_187 then (some false) else (L1 f_147 f_148 f_149 f_150 f_151 f_152 f_153 f_154 f_155 f_156 f_159 f_160 f_161 f_162 f_163 f_164 f_165 f_166 f_167 f_168 f_169 f_170 f_171 f_172 f_173 f_174 f_175 f_178 f_179 f_180 f_181 f_182 f_183 (wi64 (x_72 + 1))))
def tontinelaw21_ClientRuns.j4 (n : Nat) (L1 : Int → Int → Int → Int → Bool → Int → Int → Int → Int → (List T_api_Step) → Int → Bool → Int → Bool → Int → (List UInt8) → Int → Int → Int → Int → Int → Bool → Int → Int → Int → Int → (List T_api_Step) → Int → Bool → Int → Bool → Int → Int → Int → Option Bool) (x_72 : Int) (f_147 : Int) (f_148 : Int) (f_149 : Int) (f_150 : Int) (f_151 : Bool) (f_152 : Int) (f_153 : Int) (f_154 : Int) (f_155 : Int) (f_156 : (List T_api_Step)) (f_159 : Int) (f_160 : Bool) (f_161 : Int) (f_162 : Bool) (f_163 : Int) (f_164 : (List UInt8)) (f_165 : Int) (f_166 : Int) (f_167 : Int) (f_168 : Int) (f_169 : Int) (f_170 : Bool) (f_171 : Int) (f_172 : Int) (f_173 : Int) (f_174 : Int) (f_175 : (List T_api_Step)) (f_178 : Int) (f_179 : Bool) (f_180 : Int) (f_181 : Bool) (f_182 : Int) (f_183 : Int) : Option Bool :=
  ((client_Client_Status.f n (⟨f_147, f_148, f_149, f_150, f_151, (⟨f_152, f_153, f_154, f_155, f_156, f_159, f_160, f_161, f_162, f_163⟩ : T_api_Command), f_164, f_165⟩ : T_client_Client)).bind fun r_184 => (if (r_184.1 != f_167) then (tontinelaw21_ClientRuns.j5 n L1 x_72 f_147 f_148 f_149 f_150 f_151 f_152 f_153 f_154 f_155 f_156 f_159 f_160 f_161 f_162 f_163 f_164 f_165 f_166 f_167 f_168 f_169 f_170 f_171 f_172 f_173 f_174 f_175 f_178 f_179 f_180 f_181 f_182 f_183 true) else (if (r_184.2.1 != f_168) then (tontinelaw21_ClientRuns.j5 n L1 x_72 f_147 f_148 f_149 f_150 f_151 f_152 f_153 f_154 f_155 f_156 f_159 f_160 f_161 f_162 f_163 f_164 f_165 f_166 f_167 f_168 f_169 f_170 f_171 f_172 f_173 f_174 f_175 f_178 f_179 f_180 f_181 f_182 f_183 true) else (tontinelaw21_ClientRuns.j5 n L1 x_72 f_147 f_148 f_149 f_150 f_151 f_152 f_153 f_154 f_155 f_156 f_159 f_160 f_161 f_162 f_163 f_164 f_165 f_166 f_167 f_168 f_169 f_170 f_171 f_172 f_173 f_174 f_175 f_178 f_179 f_180 f_181 f_182 f_183 (!(r_184.2.2 == f_170))))))
def tontinelaw21_ClientRuns.j6 (n : Nat) (L1 : Int → Int → Int → Int → Bool → Int → Int → Int → Int → (List T_api_Step) → Int → Bool → Int → Bool → Int → (List UInt8) → Int → Int → Int → Int → Int → Bool → Int → Int → Int → Int → (List T_api_Step) → Int → Bool → Int → Bool → Int → Int → Int → Option Bool) (x_72 : Int) (r_81 : T_api_Letter × Int × T_client_Client) (r_87 : T_api_Letter × Int × T_tontineref21_Client) (b_95 : Bool) : Option Bool :=
  (if b_95 then (some false) else (tontinelaw21_ClientRuns.j4 n L1 x_72 r_81.2.2.id r_81.2.2.session r_81.2.2.seq r_81.2.2.call r_81.2.2.busy r_81.2.2.now.Kind r_81.2.2.now.Session r_81.2.2.now.Seq r_81.2.2.now.Saga r_81.2.2.now.Steps r_81.2.2.now.Step r_81.2.2.now.Back r_81.2.2.now.Try r_81.2.2.now.Ok r_81.2.2.now.Now r_81.2.2.data r_81.2.2.to_ r_87.2.2.Id r_87.2.2.Session r_87.2.2.Last r_87.2.2.Calls r_87.2.2.Busy r_87.2.2.Now.Kind r_87.2.2.Now.Session r_87.2.2.Now.Seq r_87.2.2.Now.Saga r_87.2.2.Now.Steps r_87.2.2.Now.Step r_87.2.2.Now.Back r_87.2.2.Now.Try r_87.2.2.Now.Ok r_87.2.2.Now.Now r_87.2.2.To))
def tontinelaw21_ClientRuns.j7 (n : Nat) (L1 : Int → Int → Int → Int → Bool → Int → Int → Int → Int → (List T_api_Step) → Int → Bool → Int → Bool → Int → (List UInt8) → Int → Int → Int → Int → Int → Bool → Int → Int → Int → Int → (List T_api_Step) → Int → Bool → Int → Bool → Int → Int → Int → Option Bool) (x_72 : Int) (r_100 : T_api_Letter × Int × T_client_Client) (r_106 : T_api_Letter × Int × T_tontineref21_Client) (b_114 : Bool) : Option Bool :=
  (if b_114 then (some false) else (tontinelaw21_ClientRuns.j4 n L1 x_72 r_100.2.2.id r_100.2.2.session r_100.2.2.seq r_100.2.2.call r_100.2.2.busy r_100.2.2.now.Kind r_100.2.2.now.Session r_100.2.2.now.Seq r_100.2.2.now.Saga r_100.2.2.now.Steps r_100.2.2.now.Step r_100.2.2.now.Back r_100.2.2.now.Try r_100.2.2.now.Ok r_100.2.2.now.Now r_100.2.2.data r_100.2.2.to_ r_106.2.2.Id r_106.2.2.Session r_106.2.2.Last r_106.2.2.Calls r_106.2.2.Busy r_106.2.2.Now.Kind r_106.2.2.Now.Session r_106.2.2.Now.Seq r_106.2.2.Now.Saga r_106.2.2.Now.Steps r_106.2.2.Now.Step r_106.2.2.Now.Back r_106.2.2.Now.Try r_106.2.2.Now.Ok r_106.2.2.Now.Now r_106.2.2.To))
def tontinelaw21_ClientRuns.j8 (n : Nat) (L1 : Int → Int → Int → Int → Bool → Int → Int → Int → Int → (List T_api_Step) → Int → Bool → Int → Bool → Int → (List UInt8) → Int → Int → Int → Int → Int → Bool → Int → Int → Int → Int → (List T_api_Step) → Int → Bool → Int → Bool → Int → Int → Int → Option Bool) (x_72 : Int) (r_119 : T_api_Told × Bool × T_api_Letter × Bool × T_client_Client) (r_128 : T_api_Told × Bool × T_api_Letter × Bool × T_tontineref21_Client) (b_142 : Bool) : Option Bool :=
  (if b_142 then (some false) else (tontinelaw21_ClientRuns.j4 n L1 x_72 r_119.2.2.2.2.id r_119.2.2.2.2.session r_119.2.2.2.2.seq r_119.2.2.2.2.call r_119.2.2.2.2.busy r_119.2.2.2.2.now.Kind r_119.2.2.2.2.now.Session r_119.2.2.2.2.now.Seq r_119.2.2.2.2.now.Saga r_119.2.2.2.2.now.Steps r_119.2.2.2.2.now.Step r_119.2.2.2.2.now.Back r_119.2.2.2.2.now.Try r_119.2.2.2.2.now.Ok r_119.2.2.2.2.now.Now r_119.2.2.2.2.data r_119.2.2.2.2.to_ r_128.2.2.2.2.Id r_128.2.2.2.2.Session r_128.2.2.2.2.Last r_128.2.2.2.2.Calls r_128.2.2.2.2.Busy r_128.2.2.2.2.Now.Kind r_128.2.2.2.2.Now.Session r_128.2.2.2.2.Now.Seq r_128.2.2.2.2.Now.Saga r_128.2.2.2.2.Now.Steps r_128.2.2.2.2.Now.Step r_128.2.2.2.2.Now.Back r_128.2.2.2.2.Now.Try r_128.2.2.2.2.Now.Ok r_128.2.2.2.2.Now.Now r_128.2.2.2.2.To))
def tontinelaw21_ClientRuns.l1 (n : Nat) (calls_2 : (List T_tontinelaw21_Call)) : Nat → Int → Int → Int → Int → Bool → Int → Int → Int → Int → (List T_api_Step) → Int → Bool → Int → Bool → Int → (List UInt8) → Int → Int → Int → Int → Int → Bool → Int → Int → Int → Int → (List T_api_Step) → Int → Bool → Int → Bool → Int → Int → Int → Option Bool
  | 0, _, _, _, _, _, _, _, _, _, _, _, _, _, _, _, _, _, _, _, _, _, _, _, _, _, _, _, _, _, _, _, _, _, _ => none
  | k + 1, f_35, f_36, f_37, f_38, f_39, f_40, f_41, f_42, f_43, f_44, f_47, f_48, f_49, f_50, f_51, f_52, f_53, f_54, f_55, f_56, f_57, f_58, f_59, f_60, f_61, f_62, f_63, f_66, f_67, f_68, f_69, f_70, f_71, x_72 => (if decide (x_72 < (calls_2.length : Int)) then (if (0 : Int) ≤ x_72 ∧ x_72 < (calls_2.length : Int) then (if (((rdL calls_2 x_72).Kind) == 0) then ((client_Client_Call.f n (⟨f_35, f_36, f_37, f_38, f_39, (⟨f_40, f_41, f_42, f_43, f_44, f_47, f_48, f_49, f_50, f_51⟩ : T_api_Command), f_52, f_53⟩ : T_client_Client) (⟨(rdL calls_2 x_72).Command.Kind, (rdL calls_2 x_72).Command.Session, (rdL calls_2 x_72).Command.Seq, (rdL calls_2 x_72).Command.Saga, (rdL calls_2 x_72).Command.Steps, (rdL calls_2 x_72).Command.Step, (rdL calls_2 x_72).Command.Back, (rdL calls_2 x_72).Command.Try, (rdL calls_2 x_72).Command.Ok, (rdL calls_2 x_72).Command.Now⟩ : T_api_Command)).bind fun r_81 => ((tontineref21_Client_Call.f n (⟨f_54, f_55, f_56, f_57, f_58, (⟨f_59, f_60, f_61, f_62, f_63, f_66, f_67, f_68, f_69, f_70⟩ : T_api_Command), f_71⟩ : T_tontineref21_Client) (⟨(rdL calls_2 x_72).Command.Kind, (rdL calls_2 x_72).Command.Session, (rdL calls_2 x_72).Command.Seq, (rdL calls_2 x_72).Command.Saga, (rdL calls_2 x_72).Command.Steps, (rdL calls_2 x_72).Command.Step, (rdL calls_2 x_72).Command.Back, (rdL calls_2 x_72).Command.Try, (rdL calls_2 x_72).Command.Ok, (rdL calls_2 x_72).Command.Now⟩ : T_api_Command)).bind fun r_87 => ((tontineref10_Same.f n r_81.1 r_87.1).bind fun r_93 => (if (!r_93) then (tontinelaw21_ClientRuns.j6 n (tontinelaw21_ClientRuns.l1 n calls_2 k) x_72 r_81 r_87 true) else (tontinelaw21_ClientRuns.j6 n (tontinelaw21_ClientRuns.l1 n calls_2 k) x_72 r_81 r_87 (r_81.2.1 != r_87.2.1)))))) else (if (((rdL calls_2 x_72).Kind) == 1) then ((client_Client_Again.f n (⟨f_35, f_36, f_37, f_38, f_39, (⟨f_40, f_41, f_42, f_43, f_44, f_47, f_48, f_49, f_50, f_51⟩ : T_api_Command), f_52, f_53⟩ : T_client_Client)).bind fun r_100 => ((tontineref21_Client_Again.f n (⟨f_54, f_55, f_56, f_57, f_58, (⟨f_59, f_60, f_61, f_62, f_63, f_66, f_67, f_68, f_69, f_70⟩ : T_api_Command), f_71⟩ : T_tontineref21_Client)).bind fun r_106 => ((tontineref10_Same.f n r_100.1 r_106.1).bind fun r_112 => (if (!r_112) then (tontinelaw21_ClientRuns.j7 n (tontinelaw21_ClientRuns.l1 n calls_2 k) x_72 r_100 r_106 true) else (tontinelaw21_ClientRuns.j7 n (tontinelaw21_ClientRuns.l1 n calls_2 k) x_72 r_100 r_106 (r_100.2.1 != r_106.2.1)))))) else (if (((rdL calls_2 x_72).Kind) == 2) then ((client_Client_Hear.f n (⟨f_35, f_36, f_37, f_38, f_39, (⟨f_40, f_41, f_42, f_43, f_44, f_47, f_48, f_49, f_50, f_51⟩ : T_api_Command), f_52, f_53⟩ : T_client_Client) (⟨(rdL calls_2 x_72).Letter.Kind, (rdL calls_2 x_72).Letter.From, (rdL calls_2 x_72).Letter.To, (rdL calls_2 x_72).Letter.Term, (rdL calls_2 x_72).Letter.Index, (rdL calls_2 x_72).Letter.Prev, (rdL calls_2 x_72).Letter.Commit, (rdL calls_2 x_72).Letter.Ok, (rdL calls_2 x_72).Letter.Entries, (rdL calls_2 x_72).Letter.Data⟩ : T_api_Letter)).bind fun r_119 => ((tontineref21_Client_Hear.f n (⟨f_54, f_55, f_56, f_57, f_58, (⟨f_59, f_60, f_61, f_62, f_63, f_66, f_67, f_68, f_69, f_70⟩ : T_api_Command), f_71⟩ : T_tontineref21_Client) (⟨(rdL calls_2 x_72).Letter.Kind, (rdL calls_2 x_72).Letter.From, (rdL calls_2 x_72).Letter.To, (rdL calls_2 x_72).Letter.Term, (rdL calls_2 x_72).Letter.Index, (rdL calls_2 x_72).Letter.Prev, (rdL calls_2 x_72).Letter.Commit, (rdL calls_2 x_72).Letter.Ok, (rdL calls_2 x_72).Letter.Entries, (rdL calls_2 x_72).Letter.Data⟩ : T_api_Letter)).bind fun r_128 => ((tontineref21_Same.f n (⟨r_119.1.Client, (⟨r_119.1.Command.Kind, r_119.1.Command.Session, r_119.1.Command.Seq, r_119.1.Command.Saga, r_119.1.Command.Steps, r_119.1.Command.Step, r_119.1.Command.Back, r_119.1.Command.Try, r_119.1.Command.Ok, r_119.1.Command.Now⟩ : T_api_Command), (⟨r_119.1.Reply.Err, r_119.1.Reply.Num, r_119.1.Reply.Extra⟩ : T_api_Reply)⟩ : T_api_Told) (⟨r_128.1.Client, (⟨r_128.1.Command.Kind, r_128.1.Command.Session, r_128.1.Command.Seq, r_128.1.Command.Saga, r_128.1.Command.Steps, r_128.1.Command.Step, r_128.1.Command.Back, r_128.1.Command.Try, r_128.1.Command.Ok, r_128.1.Command.Now⟩ : T_api_Command), (⟨r_128.1.Reply.Err, r_128.1.Reply.Num, r_128.1.Reply.Extra⟩ : T_api_Reply)⟩ : T_api_Told)).bind fun r_137 => (if (!r_137) then (tontinelaw21_ClientRuns.j8 n (tontinelaw21_ClientRuns.l1 n calls_2 k) x_72 r_119 r_128 true) else (if (!(r_119.2.1 == r_128.2.1)) then (tontinelaw21_ClientRuns.j8 n (tontinelaw21_ClientRuns.l1 n calls_2 k) x_72 r_119 r_128 true) else (if (!(r_119.2.2.2.1 == r_128.2.2.2.1)) then (tontinelaw21_ClientRuns.j8 n (tontinelaw21_ClientRuns.l1 n calls_2 k) x_72 r_119 r_128 true) else ((tontineref10_Same.f n r_119.2.2.1 r_128.2.2.1).bind fun r_141 => (tontinelaw21_ClientRuns.j8 n (tontinelaw21_ClientRuns.l1 n calls_2 k) x_72 r_119 r_128 (!r_141))))))))) else ((client_Client_Give.f n (⟨f_35, f_36, f_37, f_38, f_39, (⟨f_40, f_41, f_42, f_43, f_44, f_47, f_48, f_49, f_50, f_51⟩ : T_api_Command), f_52, f_53⟩ : T_client_Client)).bind fun r_146 => ((tontineref21_Client_Give.f n (⟨f_54, f_55, f_56, f_57, f_58, (⟨f_59, f_60, f_61, f_62, f_63, f_66, f_67, f_68, f_69, f_70⟩ : T_api_Command), f_71⟩ : T_tontineref21_Client)).bind fun r_149 => (if (r_146.1 != r_149.1) then (some false) else (tontinelaw21_ClientRuns.j4 n (tontinelaw21_ClientRuns.l1 n calls_2 k) x_72 r_146.2.id r_146.2.session r_146.2.seq r_146.2.call r_146.2.busy r_146.2.now.Kind r_146.2.now.Session r_146.2.now.Seq r_146.2.now.Saga r_146.2.now.Steps r_146.2.now.Step r_146.2.now.Back r_146.2.now.Try r_146.2.now.Ok r_146.2.now.Now r_146.2.data r_146.2.to_ r_149.2.Id r_149.2.Session r_149.2.Last r_149.2.Calls r_149.2.Busy r_149.2.Now.Kind r_149.2.Now.Session r_149.2.Now.Seq r_149.2.Now.Saga r_149.2.Now.Steps r_149.2.Now.Step r_149.2.Now.Back r_149.2.Now.Try r_149.2.Now.Ok r_149.2.Now.Now r_149.2.To))))))) else none) else (some true))
def tontinelaw21_ClientRuns.j2 (n : Nat) (id_1 : Int) (calls_2 : (List T_tontinelaw21_Call)) (r_9 : Option T_client_Client × Int) (o_13 : T_client_Client) (b_31 : Bool) : Option Bool :=
  (if b_31 then (if (r_9.2 == 1) then (tontinelaw21_ClientRuns.j3 n) else (tontinelaw21_ClientRuns.j3 n)) else (tontinelaw21_ClientRuns.l1 n calls_2 n o_13.id o_13.session o_13.seq o_13.call o_13.busy o_13.now.Kind o_13.now.Session o_13.now.Seq o_13.now.Saga o_13.now.Steps o_13.now.Step o_13.now.Back o_13.now.Try o_13.now.Ok o_13.now.Now o_13.data o_13.to_ id_1 0 0 0 false 0 0 0 0 ([] : List T_api_Step) 0 false 0 false 0 0 0))
def tontinelaw21_ClientRuns.f (n : Nat) (id_1 : Int) (calls_2 : (List T_tontinelaw21_Call)) : Option Bool :=
  ((tontinelaw21_begun.f n).bind fun r_5 => (if (!r_5) then (some false) else ((tontinelaw21_light.f n calls_2).bind fun r_7 => (if (!r_7) then (some true) else ((client_New.f n id_1).bind fun r_9 => (match r_9.1 with | none => (if decide (id_1 < 0) then (tontinelaw21_ClientRuns.j0 n calls_2 r_9 true) else (tontinelaw21_ClientRuns.j0 n calls_2 r_9 (decide (id_1 ≥ 4)))) | some o_13 => (if decide (id_1 < 0) then (tontinelaw21_ClientRuns.j2 n id_1 calls_2 r_9 o_13 true) else (tontinelaw21_ClientRuns.j2 n id_1 calls_2 r_9 o_13 (decide (id_1 ≥ 4))))))))))

def client_Client_Call_n0.f (n : Nat) (x_1 : T_api_Command) : Option (T_api_Letter × Int) :=
  (some ((⟨0, 0, 0, 0, 0, 0, 0, false, [], []⟩ : T_api_Letter), 1))

def client_Client_Again_n0.f (n : Nat) : Option (T_api_Letter × Int) :=
  (some ((⟨0, 0, 0, 0, 0, 0, 0, false, [], []⟩ : T_api_Letter), 1))

def client_Client_Hear_n0.f (n : Nat) (x_1 : T_api_Letter) : Option (T_api_Told × Bool × T_api_Letter × Bool) :=
  (some ((⟨0, (⟨0, 0, 0, 0, [], 0, false, 0, false, 0⟩ : T_api_Command), (⟨0, 0, 0⟩ : T_api_Reply)⟩ : T_api_Told), false, (⟨0, 0, 0, 0, 0, 0, 0, false, [], []⟩ : T_api_Letter), false))

def client_Client_Status_n0.f (n : Nat) : Option (Int × Int × Bool) :=
  (some (0, 0, false))

def client_Client_Give_n0.f (n : Nat) : Option Int :=
  (some 1)

def tontinelaw21_ClientNone.j4 (n : Nat) (r_26 : Int × Int × Bool) (b_38 : Bool) : Option Bool :=
  (if b_38 then ((client_Client_Give_n0.f n).bind fun r_40 => (if (r_40 == 1) then (if (r_26.1 == 0) then (if (r_26.2.1 == 0) then (some (!r_26.2.2)) else (some false)) else (some false)) else (some false))) else (some false))
def tontinelaw21_ClientNone.j3 (n : Nat) (r_19 : T_api_Told × Bool × T_api_Letter × Bool) (r_26 : Int × Int × Bool) (b_35 : Bool) : Option Bool :=
  (if b_35 then ((tontineref10_Same.f n r_19.2.2.1 (⟨0, 0, 0, 0, 0, 0, 0, false, [], []⟩ : T_api_Letter)).bind fun r_37 => (tontinelaw21_ClientNone.j4 n r_26 r_37)) else (tontinelaw21_ClientNone.j4 n r_26 false))
def tontinelaw21_ClientNone.j2 (n : Nat) (r_19 : T_api_Told × Bool × T_api_Letter × Bool) (r_26 : Int × Int × Bool) (b_32 : Bool) : Option Bool :=
  (if b_32 then ((tontineref21_Same.f n (⟨r_19.1.Client, (⟨r_19.1.Command.Kind, r_19.1.Command.Session, r_19.1.Command.Seq, r_19.1.Command.Saga, r_19.1.Command.Steps, r_19.1.Command.Step, r_19.1.Command.Back, r_19.1.Command.Try, r_19.1.Command.Ok, r_19.1.Command.Now⟩ : T_api_Command), (⟨r_19.1.Reply.Err, r_19.1.Reply.Num, r_19.1.Reply.Extra⟩ : T_api_Reply)⟩ : T_api_Told) (⟨0, (⟨0, 0, 0, 0, [], 0, false, 0, false, 0⟩ : T_api_Command), (⟨0, 0, 0⟩ : T_api_Reply)⟩ : T_api_Told)).bind fun r_34 => (tontinelaw21_ClientNone.j3 n r_19 r_26 r_34)) else (tontinelaw21_ClientNone.j3 n r_19 r_26 false))
def tontinelaw21_ClientNone.j1 (n : Nat) (r_19 : T_api_Told × Bool × T_api_Letter × Bool) (r_26 : Int × Int × Bool) (b_30 : Bool) : Option Bool :=
  (if b_30 then (tontinelaw21_ClientNone.j2 n r_19 r_26 (!r_19.2.2.2)) else (tontinelaw21_ClientNone.j2 n r_19 r_26 false))
def tontinelaw21_ClientNone.j0 (n : Nat) (r_19 : T_api_Told × Bool × T_api_Letter × Bool) (r_26 : Int × Int × Bool) (b_28 : Bool) : Option Bool :=
  (if b_28 then (tontinelaw21_ClientNone.j1 n r_19 r_26 (!r_19.2.1)) else (tontinelaw21_ClientNone.j1 n r_19 r_26 false))
def tontinelaw21_ClientNone.f (n : Nat) (x_1 : T_api_Command) (y_4 : T_api_Letter) : Option Bool :=
  ((tontinelaw21_begun.f n).bind fun r_9 => (if (!r_9) then (some false) else ((client_Client_Call_n0.f n x_1).bind fun r_11 => ((client_Client_Again_n0.f n).bind fun r_15 => ((client_Client_Hear_n0.f n y_4).bind fun r_19 => ((client_Client_Status_n0.f n).bind fun r_26 => (if (r_11.2 == 1) then (tontinelaw21_ClientNone.j0 n r_19 r_26 (r_15.2 == 1)) else (tontinelaw21_ClientNone.j0 n r_19 r_26 false))))))))
end Go.GL
