import Derived.Test.YtciohdgjlcaokaaG14
set_option linter.unusedVariables false
namespace Go.GL
open Go

structure T_api_Reply where
  Err : Int
  Num : Int
  Extra : Int
  deriving DecidableEq
instance : Inhabited T_api_Reply := ⟨⟨0, 0, 0⟩⟩
structure T_tontinelaw15_Call where
  Kind : Int
  Id : Int
  Seq : Int
  Reply : T_api_Reply
  deriving DecidableEq
instance : Inhabited T_tontinelaw15_Call := ⟨⟨0, 0, 0, ⟨0, 0, 0⟩⟩⟩
structure T_session_Row where
  Id : Int
  Used : Int
  Seq : Int
  Reply : T_api_Reply
  deriving DecidableEq
instance : Inhabited T_session_Row := ⟨⟨0, 0, 0, ⟨0, 0, 0⟩⟩⟩
structure T_session_Table where
  now : Int
  next : Int
  rows : (List T_session_Row)
  deriving DecidableEq
instance : Inhabited T_session_Table := ⟨⟨0, 0, []⟩⟩
structure T_tontinelaw15_one where
  id : Int
  seq : Int
  deriving DecidableEq
instance : Inhabited T_tontinelaw15_one := ⟨⟨0, 0⟩⟩

def session_New.f (n : Nat) : Option T_session_Table :=
  (some (⟨0, 1, []⟩ : T_session_Table))

def session_Table_Register.j0 (n : Nat) (t_1 : T_session_Table) (b_6 : Bool) : Option (Int × Int × T_session_Table) :=
  (if b_6 then (some (0, 11, t_1)) else (if capOk 48 (t_1.rows ++ [(⟨t_1.next, t_1.now, 0, (⟨0, 0, 0⟩ : T_api_Reply)⟩ : T_session_Row)]).length then (some (wu64 ((wu64 (t_1.next + 1)) - 1), 0, (⟨t_1.now, wu64 (t_1.next + 1), t_1.rows ++ [(⟨t_1.next, t_1.now, 0, (⟨0, 0, 0⟩ : T_api_Reply)⟩ : T_session_Row)]⟩ : T_session_Table))) else none))
def session_Table_Register.f (n : Nat) (t_1 : T_session_Table) : Option (Int × Int × T_session_Table) :=
  (if decide ((t_1.rows.length : Int) ≥ 16) then (session_Table_Register.j0 n t_1 true) else (session_Table_Register.j0 n t_1 (t_1.next == 18446744073709551615)))

def session_Table_find.l0 (n : Nat) (t_1 : T_session_Table) (id_5 : Int) : Nat → Int → Option Int
  | 0, _ => none
  | k + 1, x_6 => (if decide (x_6 < (t_1.rows.length : Int)) then (if (0 : Int) ≤ x_6 ∧ x_6 < (t_1.rows.length : Int) then (if (((rdL t_1.rows x_6).Id) == id_5) then (some x_6) else ((session_Table_find.l0 n t_1 id_5 k) (wi64 (x_6 + 1)))) else none) else (some (-1)))
def session_Table_find.f (n : Nat) (t_1 : T_session_Table) (id_5 : Int) : Option Int :=
  (session_Table_find.l0 n t_1 id_5 n 0)

def session_Table_Begin.j0 (n : Nat) (t_1 : T_session_Table) (seq_6 : Int) (r_8 : Int) (b_12 : Bool) : Option (T_api_Reply × Bool × T_session_Table) :=
  (if b_12 then (if r_8.toNat < (t_1.rows.set r_8.toNat (⟨(rdL t_1.rows r_8).Id, t_1.now, (rdL t_1.rows r_8).Seq, (⟨(rdL t_1.rows r_8).Reply.Err, (rdL t_1.rows r_8).Reply.Num, (rdL t_1.rows r_8).Reply.Extra⟩ : T_api_Reply)⟩ : T_session_Row)).length then (if r_8.toNat < (t_1.rows.set r_8.toNat (⟨(rdL t_1.rows r_8).Id, t_1.now, (rdL t_1.rows r_8).Seq, (⟨(rdL t_1.rows r_8).Reply.Err, (rdL t_1.rows r_8).Reply.Num, (rdL t_1.rows r_8).Reply.Extra⟩ : T_api_Reply)⟩ : T_session_Row)).length then (if r_8.toNat < (t_1.rows.set r_8.toNat (⟨(rdL t_1.rows r_8).Id, t_1.now, (rdL t_1.rows r_8).Seq, (⟨(rdL t_1.rows r_8).Reply.Err, (rdL t_1.rows r_8).Reply.Num, (rdL t_1.rows r_8).Reply.Extra⟩ : T_api_Reply)⟩ : T_session_Row)).length then (some ((⟨(rdL (t_1.rows.set r_8.toNat (⟨(rdL t_1.rows r_8).Id, t_1.now, (rdL t_1.rows r_8).Seq, (⟨(rdL t_1.rows r_8).Reply.Err, (rdL t_1.rows r_8).Reply.Num, (rdL t_1.rows r_8).Reply.Extra⟩ : T_api_Reply)⟩ : T_session_Row)) r_8).Reply.Err, (rdL (t_1.rows.set r_8.toNat (⟨(rdL t_1.rows r_8).Id, t_1.now, (rdL t_1.rows r_8).Seq, (⟨(rdL t_1.rows r_8).Reply.Err, (rdL t_1.rows r_8).Reply.Num, (rdL t_1.rows r_8).Reply.Extra⟩ : T_api_Reply)⟩ : T_session_Row)) r_8).Reply.Num, (rdL (t_1.rows.set r_8.toNat (⟨(rdL t_1.rows r_8).Id, t_1.now, (rdL t_1.rows r_8).Seq, (⟨(rdL t_1.rows r_8).Reply.Err, (rdL t_1.rows r_8).Reply.Num, (rdL t_1.rows r_8).Reply.Extra⟩ : T_api_Reply)⟩ : T_session_Row)) r_8).Reply.Extra⟩ : T_api_Reply), false, (⟨t_1.now, t_1.next, t_1.rows.set r_8.toNat (⟨(rdL t_1.rows r_8).Id, t_1.now, (rdL t_1.rows r_8).Seq, (⟨(rdL t_1.rows r_8).Reply.Err, (rdL t_1.rows r_8).Reply.Num, (rdL t_1.rows r_8).Reply.Extra⟩ : T_api_Reply)⟩ : T_session_Row)⟩ : T_session_Table))) else none) else none) else none) else (if r_8.toNat < (t_1.rows.set r_8.toNat (⟨(rdL t_1.rows r_8).Id, t_1.now, (rdL t_1.rows r_8).Seq, (⟨(rdL t_1.rows r_8).Reply.Err, (rdL t_1.rows r_8).Reply.Num, (rdL t_1.rows r_8).Reply.Extra⟩ : T_api_Reply)⟩ : T_session_Row)).length then (if r_8.toNat < (t_1.rows.set r_8.toNat (⟨(rdL t_1.rows r_8).Id, t_1.now, (rdL t_1.rows r_8).Seq, (⟨(rdL t_1.rows r_8).Reply.Err, (rdL t_1.rows r_8).Reply.Num, (rdL t_1.rows r_8).Reply.Extra⟩ : T_api_Reply)⟩ : T_session_Row)).length then (if r_8.toNat < (t_1.rows.set r_8.toNat (⟨(rdL t_1.rows r_8).Id, t_1.now, (rdL t_1.rows r_8).Seq, (⟨(rdL t_1.rows r_8).Reply.Err, (rdL t_1.rows r_8).Reply.Num, (rdL t_1.rows r_8).Reply.Extra⟩ : T_api_Reply)⟩ : T_session_Row)).length then (if (seq_6 != (wu64 (((rdL (t_1.rows.set r_8.toNat (⟨(rdL t_1.rows r_8).Id, t_1.now, (rdL t_1.rows r_8).Seq, (⟨(rdL t_1.rows r_8).Reply.Err, (rdL t_1.rows r_8).Reply.Num, (rdL t_1.rows r_8).Reply.Extra⟩ : T_api_Reply)⟩ : T_session_Row)) r_8).Seq) + 1))) then (some ((⟨41, 0, 0⟩ : T_api_Reply), false, (⟨t_1.now, t_1.next, t_1.rows.set r_8.toNat (⟨(rdL t_1.rows r_8).Id, t_1.now, (rdL t_1.rows r_8).Seq, (⟨(rdL t_1.rows r_8).Reply.Err, (rdL t_1.rows r_8).Reply.Num, (rdL t_1.rows r_8).Reply.Extra⟩ : T_api_Reply)⟩ : T_session_Row)⟩ : T_session_Table))) else (if (seq_6 == 0) then (some ((⟨41, 0, 0⟩ : T_api_Reply), false, (⟨t_1.now, t_1.next, t_1.rows.set r_8.toNat (⟨(rdL t_1.rows r_8).Id, t_1.now, (rdL t_1.rows r_8).Seq, (⟨(rdL t_1.rows r_8).Reply.Err, (rdL t_1.rows r_8).Reply.Num, (rdL t_1.rows r_8).Reply.Extra⟩ : T_api_Reply)⟩ : T_session_Row)⟩ : T_session_Table))) else (some ((⟨0, 0, 0⟩ : T_api_Reply), true, (⟨t_1.now, t_1.next, t_1.rows.set r_8.toNat (⟨(rdL t_1.rows r_8).Id, t_1.now, (rdL t_1.rows r_8).Seq, (⟨(rdL t_1.rows r_8).Reply.Err, (rdL t_1.rows r_8).Reply.Num, (rdL t_1.rows r_8).Reply.Extra⟩ : T_api_Reply)⟩ : T_session_Row)⟩ : T_session_Table))))) else none) else none) else none))
def session_Table_Begin.f (n : Nat) (t_1 : T_session_Table) (id_5 : Int) (seq_6 : Int) : Option (T_api_Reply × Bool × T_session_Table) :=
  ((session_Table_find.f n t_1 id_5).bind fun r_8 => (if decide (r_8 < 0) then (some ((⟨40, 0, 0⟩ : T_api_Reply), false, t_1)) else (if (0 : Int) ≤ r_8 ∧ r_8 < (t_1.rows.length : Int) then (if (seq_6 == ((rdL (t_1.rows.set r_8.toNat (⟨(rdL t_1.rows r_8).Id, t_1.now, (rdL t_1.rows r_8).Seq, (⟨(rdL t_1.rows r_8).Reply.Err, (rdL t_1.rows r_8).Reply.Num, (rdL t_1.rows r_8).Reply.Extra⟩ : T_api_Reply)⟩ : T_session_Row)) r_8).Seq)) then (session_Table_Begin.j0 n t_1 seq_6 r_8 (decide (seq_6 > 0))) else (session_Table_Begin.j0 n t_1 seq_6 r_8 false)) else none)))

def session_Table_End.j0 (n : Nat) (t_1 : T_session_Table) (seq_6 : Int) (y_7 : T_api_Reply) (r_9 : Int) (b_13 : Bool) : Option (Bool × T_session_Table) :=
  (if b_13 then (some (false, t_1)) else (if (0 : Int) ≤ r_9 ∧ r_9 < (t_1.rows.length : Int) then (if (0 : Int) ≤ r_9 ∧ r_9 < ((t_1.rows.set r_9.toNat (⟨(rdL t_1.rows r_9).Id, (rdL t_1.rows r_9).Used, seq_6, (⟨(rdL t_1.rows r_9).Reply.Err, (rdL t_1.rows r_9).Reply.Num, (rdL t_1.rows r_9).Reply.Extra⟩ : T_api_Reply)⟩ : T_session_Row)).length : Int) then (some (true, (⟨t_1.now, t_1.next, (t_1.rows.set r_9.toNat (⟨(rdL t_1.rows r_9).Id, (rdL t_1.rows r_9).Used, seq_6, (⟨(rdL t_1.rows r_9).Reply.Err, (rdL t_1.rows r_9).Reply.Num, (rdL t_1.rows r_9).Reply.Extra⟩ : T_api_Reply)⟩ : T_session_Row)).set r_9.toNat (⟨(rdL (t_1.rows.set r_9.toNat (⟨(rdL t_1.rows r_9).Id, (rdL t_1.rows r_9).Used, seq_6, (⟨(rdL t_1.rows r_9).Reply.Err, (rdL t_1.rows r_9).Reply.Num, (rdL t_1.rows r_9).Reply.Extra⟩ : T_api_Reply)⟩ : T_session_Row)) r_9).Id, (rdL (t_1.rows.set r_9.toNat (⟨(rdL t_1.rows r_9).Id, (rdL t_1.rows r_9).Used, seq_6, (⟨(rdL t_1.rows r_9).Reply.Err, (rdL t_1.rows r_9).Reply.Num, (rdL t_1.rows r_9).Reply.Extra⟩ : T_api_Reply)⟩ : T_session_Row)) r_9).Used, (rdL (t_1.rows.set r_9.toNat (⟨(rdL t_1.rows r_9).Id, (rdL t_1.rows r_9).Used, seq_6, (⟨(rdL t_1.rows r_9).Reply.Err, (rdL t_1.rows r_9).Reply.Num, (rdL t_1.rows r_9).Reply.Extra⟩ : T_api_Reply)⟩ : T_session_Row)) r_9).Seq, y_7⟩ : T_session_Row)⟩ : T_session_Table))) else none) else none))
def session_Table_End.f (n : Nat) (t_1 : T_session_Table) (id_5 : Int) (seq_6 : Int) (y_7 : T_api_Reply) : Option (Bool × T_session_Table) :=
  ((session_Table_find.f n t_1 id_5).bind fun r_9 => (if decide (r_9 < 0) then (session_Table_End.j0 n t_1 seq_6 y_7 r_9 true) else (if (seq_6 == 0) then (session_Table_End.j0 n t_1 seq_6 y_7 r_9 true) else (if (0 : Int) ≤ r_9 ∧ r_9 < (t_1.rows.length : Int) then (session_Table_End.j0 n t_1 seq_6 y_7 r_9 (seq_6 != (wu64 (((rdL t_1.rows r_9).Seq) + 1)))) else none))))

def tontinelaw15_begun.f (n : Nat) : Option Bool :=
  ((session_New.f n).bind fun r_1 => ((session_Table_Register.f n r_1).bind fun r_5 => ((session_Table_Begin.f n r_5.2.2 r_5.1 1).bind fun r_8 => ((session_Table_End.f n r_8.2.2 r_5.1 1 (⟨0, 7, 0⟩ : T_api_Reply)).bind fun r_12 => ((session_Table_Begin.f n r_12.2 r_5.1 1).bind fun r_15 => ((session_Table_Begin.f n r_15.2.2 9 1).bind fun r_19 => (if (r_5.2.1 == 0) then (if (r_5.1 == 1) then (if r_8.2.1 then (if r_12.1 then (if (!r_15.2.1) then (if (r_15.1.Num == 7) then (some (r_19.1.Err == 40)) else (some false)) else (some false)) else (some false)) else (some false)) else (some false)) else (some false))))))))

def session_Table_Clock.l0 (n : Nat) (t_1 : T_session_Table) (now_5 : Int) : Nat → (List T_session_Row) → Int → Option T_session_Table
  | 0, _, _ => none
  | k + 1, l_7, x_10 => (if decide (x_10 < (t_1.rows.length : Int)) then (if (0 : Int) ≤ x_10 ∧ x_10 < (t_1.rows.length : Int) then (if decide ((wu64 (now_5 - ((rdL t_1.rows x_10).Used))) ≤ 1000) then (if capOk 48 (l_7 ++ [(⟨(rdL t_1.rows x_10).Id, (rdL t_1.rows x_10).Used, (rdL t_1.rows x_10).Seq, (⟨(rdL t_1.rows x_10).Reply.Err, (rdL t_1.rows x_10).Reply.Num, (rdL t_1.rows x_10).Reply.Extra⟩ : T_api_Reply)⟩ : T_session_Row)]).length then ((session_Table_Clock.l0 n t_1 now_5 k) (l_7 ++ [(⟨(rdL t_1.rows x_10).Id, (rdL t_1.rows x_10).Used, (rdL t_1.rows x_10).Seq, (⟨(rdL t_1.rows x_10).Reply.Err, (rdL t_1.rows x_10).Reply.Num, (rdL t_1.rows x_10).Reply.Extra⟩ : T_api_Reply)⟩ : T_session_Row)]) (wi64 (x_10 + 1))) else none) else ((session_Table_Clock.l0 n t_1 now_5 k) l_7 (wi64 (x_10 + 1)))) else none) else (some (⟨now_5, t_1.next, l_7⟩ : T_session_Table)))
def session_Table_Clock.f (n : Nat) (t_1 : T_session_Table) (now_5 : Int) : Option T_session_Table :=
  (if decide (now_5 ≤ t_1.now) then (some t_1) else (session_Table_Clock.l0 n t_1 now_5 n ([] : List T_session_Row) 0))

def tontinelaw15_SessionOnce.j1 (n : Nat) (L0 : Int → Int → (List T_session_Row) → (List (T_tontinelaw15_one × T_api_Reply)) → (List (Int × Int)) → Int → Option Bool) (calls_1 : (List T_tontinelaw15_Call)) (done_19 : (List (T_tontinelaw15_one × T_api_Reply))) (last_22 : (List (Int × Int))) (x_25 : Int) (r_56 : Bool × T_session_Table) (b_60 : Bool) : Option Bool :=
  (if b_60 then (some false) else (L0 r_56.2.now r_56.2.next r_56.2.rows (putA (⟨(rdL calls_1 x_25).Id, (rdL calls_1 x_25).Seq⟩ : T_tontinelaw15_one) (⟨0, (rdL calls_1 x_25).Reply.Num, (rdL calls_1 x_25).Reply.Extra⟩ : T_api_Reply) done_19) (putA ((rdL calls_1 x_25).Id) ((rdL calls_1 x_25).Seq) last_22) (wi64 (x_25 + 1))))
def tontinelaw15_SessionOnce.j0 (n : Nat) (L0 : Int → Int → (List T_session_Row) → (List (T_tontinelaw15_one × T_api_Reply)) → (List (Int × Int)) → Int → Option Bool) (calls_1 : (List T_tontinelaw15_Call)) (done_19 : (List (T_tontinelaw15_one × T_api_Reply))) (last_22 : (List (Int × Int))) (x_25 : Int) (r_41 : T_api_Reply × Bool × T_session_Table) (b_53 : Bool) : Option Bool :=
  (if b_53 then (some false) else (if r_41.2.1 then ((session_Table_End.f n r_41.2.2 ((rdL calls_1 x_25).Id) ((rdL calls_1 x_25).Seq) (⟨0, (rdL calls_1 x_25).Reply.Num, (rdL calls_1 x_25).Reply.Extra⟩ : T_api_Reply)).bind fun r_56 => (if (!r_56.1) then (tontinelaw15_SessionOnce.j1 n L0 calls_1 done_19 last_22 x_25 r_56 true) else (tontinelaw15_SessionOnce.j1 n L0 calls_1 done_19 last_22 x_25 r_56 ((wu64 (((getA ((rdL calls_1 x_25).Id) last_22).getD 0) + 1)) != ((rdL calls_1 x_25).Seq))))) else (L0 r_41.2.2.now r_41.2.2.next r_41.2.2.rows done_19 last_22 (wi64 (x_25 + 1)))))
def tontinelaw15_SessionOnce.j3 (n : Nat) (L0 : Int → Int → (List T_session_Row) → (List (T_tontinelaw15_one × T_api_Reply)) → (List (Int × Int)) → Int → Option Bool) (calls_1 : (List T_tontinelaw15_Call)) (done_19 : (List (T_tontinelaw15_one × T_api_Reply))) (last_22 : (List (Int × Int))) (x_25 : Int) (r_41 : T_api_Reply × Bool × T_session_Table) (b_50 : Bool) : Option Bool :=
  (if b_50 then (if (!((getA (⟨(rdL calls_1 x_25).Id, (rdL calls_1 x_25).Seq⟩ : T_tontinelaw15_one) done_19).isSome)) then (tontinelaw15_SessionOnce.j0 n L0 calls_1 done_19 last_22 x_25 r_41 true) else (tontinelaw15_SessionOnce.j0 n L0 calls_1 done_19 last_22 x_25 r_41 (!((r_41.1.Err == (((getA (⟨(rdL calls_1 x_25).Id, (rdL calls_1 x_25).Seq⟩ : T_tontinelaw15_one) done_19).getD (⟨0, 0, 0⟩ : T_api_Reply)).Err)) && ((r_41.1.Num == (((getA (⟨(rdL calls_1 x_25).Id, (rdL calls_1 x_25).Seq⟩ : T_tontinelaw15_one) done_19).getD (⟨0, 0, 0⟩ : T_api_Reply)).Num)) && ((r_41.1.Extra == (((getA (⟨(rdL calls_1 x_25).Id, (rdL calls_1 x_25).Seq⟩ : T_tontinelaw15_one) done_19).getD (⟨0, 0, 0⟩ : T_api_Reply)).Extra)) && true)))))) else (tontinelaw15_SessionOnce.j0 n L0 calls_1 done_19 last_22 x_25 r_41 false))
def tontinelaw15_SessionOnce.j2 (n : Nat) (L0 : Int → Int → (List T_session_Row) → (List (T_tontinelaw15_one × T_api_Reply)) → (List (Int × Int)) → Int → Option Bool) (calls_1 : (List T_tontinelaw15_Call)) (done_19 : (List (T_tontinelaw15_one × T_api_Reply))) (last_22 : (List (Int × Int))) (x_25 : Int) (r_41 : T_api_Reply × Bool × T_session_Table) (b_47 : Bool) : Option Bool :=
  (if b_47 then (tontinelaw15_SessionOnce.j0 n L0 calls_1 done_19 last_22 x_25 r_41 true) else (if (!r_41.2.1) then (tontinelaw15_SessionOnce.j3 n L0 calls_1 done_19 last_22 x_25 r_41 (r_41.1.Err == 0)) else (tontinelaw15_SessionOnce.j3 n L0 calls_1 done_19 last_22 x_25 r_41 false)))
def tontinelaw15_SessionOnce.l0 (n : Nat) (calls_1 : (List T_tontinelaw15_Call)) : Nat → Int → Int → (List T_session_Row) → (List (T_tontinelaw15_one × T_api_Reply)) → (List (Int × Int)) → Int → Option Bool
  | 0, _, _, _, _, _, _ => none
  | k + 1, f_14, f_15, f_16, done_19, last_22, x_25 => (if decide (x_25 < (calls_1.length : Int)) then (if (0 : Int) ≤ x_25 ∧ x_25 < (calls_1.length : Int) then (if (x_25 == 500) then (some true) else (if (((rdL calls_1 x_25).Kind) == 0) then ((session_Table_Clock.f n (⟨f_14, f_15, f_16⟩ : T_session_Table) ((rdL calls_1 x_25).Id)).bind fun r_31 => ((tontinelaw15_SessionOnce.l0 n calls_1 k) r_31.now r_31.next r_31.rows done_19 last_22 (wi64 (x_25 + 1)))) else (if (((rdL calls_1 x_25).Kind) == 1) then ((session_Table_Register.f n (⟨f_14, f_15, f_16⟩ : T_session_Table)).bind fun r_36 => ((tontinelaw15_SessionOnce.l0 n calls_1 k) r_36.2.2.now r_36.2.2.next r_36.2.2.rows done_19 last_22 (wi64 (x_25 + 1)))) else ((session_Table_Begin.f n (⟨f_14, f_15, f_16⟩ : T_session_Table) ((rdL calls_1 x_25).Id) ((rdL calls_1 x_25).Seq)).bind fun r_41 => (if r_41.2.1 then (tontinelaw15_SessionOnce.j2 n (tontinelaw15_SessionOnce.l0 n calls_1 k) calls_1 done_19 last_22 x_25 r_41 ((getA (⟨(rdL calls_1 x_25).Id, (rdL calls_1 x_25).Seq⟩ : T_tontinelaw15_one) done_19).isSome)) else (tontinelaw15_SessionOnce.j2 n (tontinelaw15_SessionOnce.l0 n calls_1 k) calls_1 done_19 last_22 x_25 r_41 false)))))) else none) else (some true))
def tontinelaw15_SessionOnce.f (n : Nat) (calls_1 : (List T_tontinelaw15_Call)) : Option Bool :=
  ((tontinelaw15_begun.f n).bind fun r_4 => (if (!r_4) then (some false) else ((session_New.f n).bind fun r_6 => (tontinelaw15_SessionOnce.l0 n calls_1 n r_6.now r_6.next r_6.rows ([] : List (T_tontinelaw15_one × T_api_Reply)) ([] : List (Int × Int)) 0))))
end Go.GL
