import Derived.Test.YtciohdgjlcaokaaG13
set_option linter.unusedVariables false
namespace Go.GL
open Go

structure T_api_Reply where
  Err : Int
  Num : Int
  Extra : Int
  deriving DecidableEq
instance : Inhabited T_api_Reply := ⟨⟨0, 0, 0⟩⟩
structure T_session_Row where
  Id : Int
  Used : Int
  Seq : Int
  Reply : T_api_Reply
  deriving DecidableEq
instance : Inhabited T_session_Row := ⟨⟨0, 0, 0, ⟨0, 0, 0⟩⟩⟩
structure T_session_Table where
  now : Int
  next : Int
  rows : (List T_session_Row)
  deriving DecidableEq
instance : Inhabited T_session_Table := ⟨⟨0, 0, []⟩⟩
structure T_pack_Writer where
  b : (List UInt8)
  deriving DecidableEq
instance : Inhabited T_pack_Writer := ⟨⟨[]⟩⟩
structure T_tontinelaw15_Call where
  Kind : Int
  Id : Int
  Seq : Int
  Reply : T_api_Reply
  deriving DecidableEq
instance : Inhabited T_tontinelaw15_Call := ⟨⟨0, 0, 0, ⟨0, 0, 0⟩⟩⟩
structure T_tontineref15_Row where
  Id : Int
  Used : Int
  Seq : Int
  Reply : T_api_Reply
  deriving DecidableEq
instance : Inhabited T_tontineref15_Row := ⟨⟨0, 0, 0, ⟨0, 0, 0⟩⟩⟩
structure T_tontineref15_Table where
  Now : Int
  Next : Int
  Rows : (List T_tontineref15_Row)
  deriving DecidableEq
instance : Inhabited T_tontineref15_Table := ⟨⟨0, 0, []⟩⟩
structure T_pack_Reader where
  s : (List UInt8)
  bad : Bool
  deriving DecidableEq
instance : Inhabited T_pack_Reader := ⟨⟨[], false⟩⟩
structure T_tontineref03_Reader where
  S_ : (List UInt8)
  Bad : Bool
  deriving DecidableEq
instance : Inhabited T_tontineref03_Reader := ⟨⟨[], false⟩⟩

def session_New.f (n : Nat) : Option T_session_Table :=
  (some (⟨0, 1, []⟩ : T_session_Table))

def session_Table_Register.j0 (n : Nat) (t_1 : T_session_Table) (b_6 : Bool) : Option (Int × Int × T_session_Table) :=
  (if b_6 then (some (0, 11, t_1)) else (if capOk 48 (t_1.rows ++ [(⟨t_1.next, t_1.now, 0, (⟨0, 0, 0⟩ : T_api_Reply)⟩ : T_session_Row)]).length then (some (wu64 ((wu64 (t_1.next + 1)) - 1), 0, (⟨t_1.now, wu64 (t_1.next + 1), t_1.rows ++ [(⟨t_1.next, t_1.now, 0, (⟨0, 0, 0⟩ : T_api_Reply)⟩ : T_session_Row)]⟩ : T_session_Table))) else none))
def session_Table_Register.f (n : Nat) (t_1 : T_session_Table) : Option (Int × Int × T_session_Table) :=
  (if decide ((t_1.rows.length : Int) ≥ 16) then (session_Table_Register.j0 n t_1 true) else (session_Table_Register.j0 n t_1 (t_1.next == 18446744073709551615)))

def session_Table_find.l0 (n : Nat) (t_1 : T_session_Table) (id_5 : Int) : Nat → Int → Option Int
  | 0, _ => none
  | k + 1, x_6 => (if decide (x_6 < (t_1.rows.length : Int)) then (if (0 : Int) ≤ x_6 ∧ x_6 < (t_1.rows.length : Int) then (if (((rdL t_1.rows x_6).Id) == id_5) then (some x_6) else ((session_Table_find.l0 n t_1 id_5 k) (wi64 (x_6 + 1)))) else none) else (some (-1)))
def session_Table_find.f (n : Nat) (t_1 : T_session_Table) (id_5 : Int) : Option Int :=
  (session_Table_find.l0 n t_1 id_5 n 0)

def session_Table_Begin.j0 (n : Nat) (t_1 : T_session_Table) (seq_6 : Int) (r_8 : Int) (b_12 : Bool) : Option (T_api_Reply × Bool × T_session_Table) :=
  (if b_12 then (if r_8.toNat < (t_1.rows.set r_8.toNat (⟨(rdL t_1.rows r_8).Id, t_1.now, (rdL t_1.rows r_8).Seq, (⟨(rdL t_1.rows r_8).Reply.Err, (rdL t_1.rows r_8).Reply.Num, (rdL t_1.rows r_8).Reply.Extra⟩ : T_api_Reply)⟩ : T_session_Row)).length then (if r_8.toNat < (t_1.rows.set r_8.toNat (⟨(rdL t_1.rows r_8).Id, t_1.now, (rdL t_1.rows r_8).Seq, (⟨(rdL t_1.rows r_8).Reply.Err, (rdL t_1.rows r_8).Reply.Num, (rdL t_1.rows r_8).Reply.Extra⟩ : T_api_Reply)⟩ : T_session_Row)).length then (if r_8.toNat < (t_1.rows.set r_8.toNat (⟨(rdL t_1.rows r_8).Id, t_1.now, (rdL t_1.rows r_8).Seq, (⟨(rdL t_1.rows r_8).Reply.Err, (rdL t_1.rows r_8).Reply.Num, (rdL t_1.rows r_8).Reply.Extra⟩ : T_api_Reply)⟩ : T_session_Row)).length then (some ((⟨(rdL (t_1.rows.set r_8.toNat (⟨(rdL t_1.rows r_8).Id, t_1.now, (rdL t_1.rows r_8).Seq, (⟨(rdL t_1.rows r_8).Reply.Err, (rdL t_1.rows r_8).Reply.Num, (rdL t_1.rows r_8).Reply.Extra⟩ : T_api_Reply)⟩ : T_session_Row)) r_8).Reply.Err, (rdL (t_1.rows.set r_8.toNat (⟨(rdL t_1.rows r_8).Id, t_1.now, (rdL t_1.rows r_8).Seq, (⟨(rdL t_1.rows r_8).Reply.Err, (rdL t_1.rows r_8).Reply.Num, (rdL t_1.rows r_8).Reply.Extra⟩ : T_api_Reply)⟩ : T_session_Row)) r_8).Reply.Num, (rdL (t_1.rows.set r_8.toNat (⟨(rdL t_1.rows r_8).Id, t_1.now, (rdL t_1.rows r_8).Seq, (⟨(rdL t_1.rows r_8).Reply.Err, (rdL t_1.rows r_8).Reply.Num, (rdL t_1.rows r_8).Reply.Extra⟩ : T_api_Reply)⟩ : T_session_Row)) r_8).Reply.Extra⟩ : T_api_Reply), false, (⟨t_1.now, t_1.next, t_1.rows.set r_8.toNat (⟨(rdL t_1.rows r_8).Id, t_1.now, (rdL t_1.rows r_8).Seq, (⟨(rdL t_1.rows r_8).Reply.Err, (rdL t_1.rows r_8).Reply.Num, (rdL t_1.rows r_8).Reply.Extra⟩ : T_api_Reply)⟩ : T_session_Row)⟩ : T_session_Table))) else none) else none) else none) else (if r_8.toNat < (t_1.rows.set r_8.toNat (⟨(rdL t_1.rows r_8).Id, t_1.now, (rdL t_1.rows r_8).Seq, (⟨(rdL t_1.rows r_8).Reply.Err, (rdL t_1.rows r_8).Reply.Num, (rdL t_1.rows r_8).Reply.Extra⟩ : T_api_Reply)⟩ : T_session_Row)).length then (if r_8.toNat < (t_1.rows.set r_8.toNat (⟨(rdL t_1.rows r_8).Id, t_1.now, (rdL t_1.rows r_8).Seq, (⟨(rdL t_1.rows r_8).Reply.Err, (rdL t_1.rows r_8).Reply.Num, (rdL t_1.rows r_8).Reply.Extra⟩ : T_api_Reply)⟩ : T_session_Row)).length then (if r_8.toNat < (t_1.rows.set r_8.toNat (⟨(rdL t_1.rows r_8).Id, t_1.now, (rdL t_1.rows r_8).Seq, (⟨(rdL t_1.rows r_8).Reply.Err, (rdL t_1.rows r_8).Reply.Num, (rdL t_1.rows r_8).Reply.Extra⟩ : T_api_Reply)⟩ : T_session_Row)).length then (if (seq_6 != (wu64 (((rdL (t_1.rows.set r_8.toNat (⟨(rdL t_1.rows r_8).Id, t_1.now, (rdL t_1.rows r_8).Seq, (⟨(rdL t_1.rows r_8).Reply.Err, (rdL t_1.rows r_8).Reply.Num, (rdL t_1.rows r_8).Reply.Extra⟩ : T_api_Reply)⟩ : T_session_Row)) r_8).Seq) + 1))) then (some ((⟨41, 0, 0⟩ : T_api_Reply), false, (⟨t_1.now, t_1.next, t_1.rows.set r_8.toNat (⟨(rdL t_1.rows r_8).Id, t_1.now, (rdL t_1.rows r_8).Seq, (⟨(rdL t_1.rows r_8).Reply.Err, (rdL t_1.rows r_8).Reply.Num, (rdL t_1.rows r_8).Reply.Extra⟩ : T_api_Reply)⟩ : T_session_Row)⟩ : T_session_Table))) else (if (seq_6 == 0) then (some ((⟨41, 0, 0⟩ : T_api_Reply), false, (⟨t_1.now, t_1.next, t_1.rows.set r_8.toNat (⟨(rdL t_1.rows r_8).Id, t_1.now, (rdL t_1.rows r_8).Seq, (⟨(rdL t_1.rows r_8).Reply.Err, (rdL t_1.rows r_8).Reply.Num, (rdL t_1.rows r_8).Reply.Extra⟩ : T_api_Reply)⟩ : T_session_Row)⟩ : T_session_Table))) else (some ((⟨0, 0, 0⟩ : T_api_Reply), true, (⟨t_1.now, t_1.next, t_1.rows.set r_8.toNat (⟨(rdL t_1.rows r_8).Id, t_1.now, (rdL t_1.rows r_8).Seq, (⟨(rdL t_1.rows r_8).Reply.Err, (rdL t_1.rows r_8).Reply.Num, (rdL t_1.rows r_8).Reply.Extra⟩ : T_api_Reply)⟩ : T_session_Row)⟩ : T_session_Table))))) else none) else none) else none))
def session_Table_Begin.f (n : Nat) (t_1 : T_session_Table) (id_5 : Int) (seq_6 : Int) : Option (T_api_Reply × Bool × T_session_Table) :=
  ((session_Table_find.f n t_1 id_5).bind fun r_8 => (if decide (r_8 < 0) then (some ((⟨40, 0, 0⟩ : T_api_Reply), false, t_1)) else (if (0 : Int) ≤ r_8 ∧ r_8 < (t_1.rows.length : Int) then (if (seq_6 == ((rdL (t_1.rows.set r_8.toNat (⟨(rdL t_1.rows r_8).Id, t_1.now, (rdL t_1.rows r_8).Seq, (⟨(rdL t_1.rows r_8).Reply.Err, (rdL t_1.rows r_8).Reply.Num, (rdL t_1.rows r_8).Reply.Extra⟩ : T_api_Reply)⟩ : T_session_Row)) r_8).Seq)) then (session_Table_Begin.j0 n t_1 seq_6 r_8 (decide (seq_6 > 0))) else (session_Table_Begin.j0 n t_1 seq_6 r_8 false)) else none)))

def session_Table_End.j0 (n : Nat) (t_1 : T_session_Table) (seq_6 : Int) (y_7 : T_api_Reply) (r_9 : Int) (b_13 : Bool) : Option (Bool × T_session_Table) :=
  (if b_13 then (some (false, t_1)) else (if (0 : Int) ≤ r_9 ∧ r_9 < (t_1.rows.length : Int) then (if (0 : Int) ≤ r_9 ∧ r_9 < ((t_1.rows.set r_9.toNat (⟨(rdL t_1.rows r_9).Id, (rdL t_1.rows r_9).Used, seq_6, (⟨(rdL t_1.rows r_9).Reply.Err, (rdL t_1.rows r_9).Reply.Num, (rdL t_1.rows r_9).Reply.Extra⟩ : T_api_Reply)⟩ : T_session_Row)).length : Int) then (some (true, (⟨t_1.now, t_1.next, (t_1.rows.set r_9.toNat (⟨(rdL t_1.rows r_9).Id, (rdL t_1.rows r_9).Used, seq_6, (⟨(rdL t_1.rows r_9).Reply.Err, (rdL t_1.rows r_9).Reply.Num, (rdL t_1.rows r_9).Reply.Extra⟩ : T_api_Reply)⟩ : T_session_Row)).set r_9.toNat (⟨(rdL (t_1.rows.set r_9.toNat (⟨(rdL t_1.rows r_9).Id, (rdL t_1.rows r_9).Used, seq_6, (⟨(rdL t_1.rows r_9).Reply.Err, (rdL t_1.rows r_9).Reply.Num, (rdL t_1.rows r_9).Reply.Extra⟩ : T_api_Reply)⟩ : T_session_Row)) r_9).Id, (rdL (t_1.rows.set r_9.toNat (⟨(rdL t_1.rows r_9).Id, (rdL t_1.rows r_9).Used, seq_6, (⟨(rdL t_1.rows r_9).Reply.Err, (rdL t_1.rows r_9).Reply.Num, (rdL t_1.rows r_9).Reply.Extra⟩ : T_api_Reply)⟩ : T_session_Row)) r_9).Used, (rdL (t_1.rows.set r_9.toNat (⟨(rdL t_1.rows r_9).Id, (rdL t_1.rows r_9).Used, seq_6, (⟨(rdL t_1.rows r_9).Reply.Err, (rdL t_1.rows r_9).Reply.Num, (rdL t_1.rows r_9).Reply.Extra⟩ : T_api_Reply)⟩ : T_session_Row)) r_9).Seq, y_7⟩ : T_session_Row)⟩ : T_session_Table))) else none) else none))
def session_Table_End.f (n : Nat) (t_1 : T_session_Table) (id_5 : Int) (seq_6 : Int) (y_7 : T_api_Reply) : Option (Bool × T_session_Table) :=
  ((session_Table_find.f n t_1 id_5).bind fun r_9 => (if decide (r_9 < 0) then (session_Table_End.j0 n t_1 seq_6 y_7 r_9 true) else (if (seq_6 == 0) then (session_Table_End.j0 n t_1 seq_6 y_7 r_9 true) else (if (0 : Int) ≤ r_9 ∧ r_9 < (t_1.rows.length : Int) then (session_Table_End.j0 n t_1 seq_6 y_7 r_9 (seq_6 != (wu64 (((rdL t_1.rows r_9).Seq) + 1)))) else none))))

def tontinelaw15_begun.f (n : Nat) : Option Bool :=
  ((session_New.f n).bind fun r_1 => ((session_Table_Register.f n r_1).bind fun r_5 => ((session_Table_Begin.f n r_5.2.2 r_5.1 1).bind fun r_8 => ((session_Table_End.f n r_8.2.2 r_5.1 1 (⟨0, 7, 0⟩ : T_api_Reply)).bind fun r_12 => ((session_Table_Begin.f n r_12.2 r_5.1 1).bind fun r_15 => ((session_Table_Begin.f n r_15.2.2 9 1).bind fun r_19 => (if (r_5.2.1 == 0) then (if (r_5.1 == 1) then (if r_8.2.1 then (if r_12.1 then (if (!r_15.2.1) then (if (r_15.1.Num == 7) then (some (r_19.1.Err == 40)) else (some false)) else (some false)) else (some false)) else (some false)) else (some false)) else (some false))))))))

def session_Table_Clock.l0 (n : Nat) (t_1 : T_session_Table) (now_5 : Int) : Nat → (List T_session_Row) → Int → Option T_session_Table
  | 0, _, _ => none
  | k + 1, l_7, x_10 => (if decide (x_10 < (t_1.rows.length : Int)) then (if (0 : Int) ≤ x_10 ∧ x_10 < (t_1.rows.length : Int) then (if decide ((wu64 (now_5 - ((rdL t_1.rows x_10).Used))) ≤ 1000) then (if capOk 48 (l_7 ++ [(⟨(rdL t_1.rows x_10).Id, (rdL t_1.rows x_10).Used, (rdL t_1.rows x_10).Seq, (⟨(rdL t_1.rows x_10).Reply.Err, (rdL t_1.rows x_10).Reply.Num, (rdL t_1.rows x_10).Reply.Extra⟩ : T_api_Reply)⟩ : T_session_Row)]).length then ((session_Table_Clock.l0 n t_1 now_5 k) (l_7 ++ [(⟨(rdL t_1.rows x_10).Id, (rdL t_1.rows x_10).Used, (rdL t_1.rows x_10).Seq, (⟨(rdL t_1.rows x_10).Reply.Err, (rdL t_1.rows x_10).Reply.Num, (rdL t_1.rows x_10).Reply.Extra⟩ : T_api_Reply)⟩ : T_session_Row)]) (wi64 (x_10 + 1))) else none) else ((session_Table_Clock.l0 n t_1 now_5 k) l_7 (wi64 (x_10 + 1)))) else none) else (some (⟨now_5, t_1.next, l_7⟩ : T_session_Table)))
def session_Table_Clock.f (n : Nat) (t_1 : T_session_Table) (now_5 : Int) : Option T_session_Table :=
  (if decide (now_5 ≤ t_1.now) then (some t_1) else (session_Table_Clock.l0 n t_1 now_5 n ([] : List T_session_Row) 0))

def session_Table_Rows.f (n : Nat) (t_1 : T_session_Table) : Option (List T_session_Row) :=
  (if (0 : Int) ≤ (t_1.rows.length : Int) ∧ (t_1.rows.length : Int) ≤ (t_1.rows.length : Int) ∧ 48 * (t_1.rows.length : Int) ≤ 281474976710656 then (some (copyL (List.replicate (t_1.rows.length : Int).toNat (⟨0, 0, 0, ⟨0, 0, 0⟩⟩ : T_session_Row)) t_1.rows)) else none)

def tontinelaw15_SessionLives.j0 (n : Nat) (f_13 : Int) (f_14 : Int) (f_15 : (List T_session_Row)) : Option Bool :=
  ((session_Table_Rows.f n (⟨f_13, f_14, f_15⟩ : T_session_Table)).bind fun r_49 => (some ((r_49.length : Int) == 1)))
def tontinelaw15_SessionLives.j1 (n : Nat) (b_37 : Bool) : Option Bool :=
  (some b_37)
def tontinelaw15_SessionLives.l0 (n : Nat) (waits_1 : (List Int)) (r_10 : Int × Int × T_session_Table) : Nat → Int → Int → (List T_session_Row) → Int → Int → Int → Option Bool
  | 0, _, _, _, _, _, _ => none
  | k + 1, f_13, f_14, f_15, now_18, seq_19, x_20 => (if decide (x_20 < (waits_1.length : Int)) then (if (0 : Int) ≤ x_20 ∧ x_20 < (waits_1.length : Int) then (if (x_20 == 200) then (tontinelaw15_SessionLives.j0 n f_13 f_14 f_15) else ((session_Table_Clock.f n (⟨f_13, f_14, f_15⟩ : T_session_Table) (wu64 (now_18 + (wu64 ((wi64 (((rdL waits_1 x_20).tmod 1500) + 1500)).tmod 1500))))).bind fun r_24 => ((session_Table_Begin.f n r_24 r_10.1 (wu64 (seq_19 + 1))).bind fun r_27 => (if decide (((wi64 (((rdL waits_1 x_20).tmod 1500) + 1500)).tmod 1500) > 1000) then (if (!r_27.2.1) then (if (r_27.1.Err == 40) then ((session_Table_Rows.f n r_27.2.2).bind fun r_34 => (tontinelaw15_SessionLives.j1 n ((r_34.length : Int) == 0))) else (tontinelaw15_SessionLives.j1 n false)) else (tontinelaw15_SessionLives.j1 n false)) else (if (!r_27.2.1) then (some false) else ((session_Table_End.f n r_27.2.2 r_10.1 (wu64 (seq_19 + 1)) (⟨0, 0, 0⟩ : T_api_Reply)).bind fun r_39 => (if (!r_39.1) then (some false) else ((tontinelaw15_SessionLives.l0 n waits_1 r_10 k) r_39.2.now r_39.2.next r_39.2.rows (wu64 (now_18 + (wu64 ((wi64 (((rdL waits_1 x_20).tmod 1500) + 1500)).tmod 1500)))) (wu64 (seq_19 + 1)) (wi64 (x_20 + 1)))))))))) else none) else (tontinelaw15_SessionLives.j0 n f_13 f_14 f_15))
def tontinelaw15_SessionLives.f (n : Nat) (waits_1 : (List Int)) : Option Bool :=
  ((tontinelaw15_begun.f n).bind fun r_4 => (if (!r_4) then (some false) else ((session_New.f n).bind fun r_6 => ((session_Table_Register.f n r_6).bind fun r_10 => (tontinelaw15_SessionLives.l0 n waits_1 r_10 n r_10.2.2.now r_10.2.2.next r_10.2.2.rows 0 0 0)))))

def session_Table_Clock_n0.f (n : Nat) (now_1 : Int) : Option Unit :=
  (some ())

def session_Table_Write_n0.f (n : Nat) (w_1 : T_pack_Writer) : Option Unit :=
  (some ())

def session_Table_Register_n0.f (n : Nat) : Option (Int × Int) :=
  (some (0, 11))

def session_Table_find_n0.f (n : Nat) (id_1 : Int) : Option Int :=
  (some (-1))

def session_Table_Begin_n0.f (n : Nat) (id_1 : Int) (seq_2 : Int) : Option (T_api_Reply × Bool) :=
  ((session_Table_find_n0.f n id_1).bind fun r_4 => (if decide (r_4 < 0) then (some ((⟨40, 0, 0⟩ : T_api_Reply), false)) else none))

def session_Table_Now_n0.f (n : Nat) : Option Int :=
  (some 0)

def session_Table_End_n0.j0 (n : Nat) : Option Bool :=
  (some false)
def session_Table_End_n0.f (n : Nat) (id_1 : Int) (seq_2 : Int) (y_3 : T_api_Reply) : Option Bool :=
  ((session_Table_find_n0.f n id_1).bind fun r_5 => (if decide (r_5 < 0) then (session_Table_End_n0.j0 n) else (if (seq_2 == 0) then (session_Table_End_n0.j0 n) else none)))

def session_Table_Rows_n0.f (n : Nat) : Option (List T_session_Row) :=
  (some ([] : List T_session_Row))

def tontinelaw15_SessionNone.j1 (n : Nat) (L0 : Int → Int → (List T_session_Row) → Int → Option Bool) (x_33 : Int) (r_35 : Int × Int × T_session_Table) (b_45 : Bool) : Option Bool :=
  (if b_45 then (some false) else (L0 r_35.2.2.now r_35.2.2.next r_35.2.2.rows (wi64 (x_33 + 1))))
def tontinelaw15_SessionNone.l0 (n : Nat) (more_3 : Int) : Nat → Int → Int → (List T_session_Row) → Int → Option Bool
  | 0, _, _, _, _ => none
  | k + 1, f_28, f_29, f_30, x_33 => (if decide (x_33 < ((wi64 ((more_3.tmod 50) + 50)).tmod 50)) then ((session_Table_Register.f n (⟨f_28, f_29, f_30⟩ : T_session_Table)).bind fun r_35 => (if (!((r_35.2.1 == 0) == (decide (x_33 < 16)))) then (tontinelaw15_SessionNone.j1 n (tontinelaw15_SessionNone.l0 n more_3 k) x_33 r_35 true) else (if (r_35.2.1 == 0) then (if (r_35.1 != (wu64 (wi64 (x_33 + 1)))) then (tontinelaw15_SessionNone.j1 n (tontinelaw15_SessionNone.l0 n more_3 k) x_33 r_35 true) else (if (r_35.2.1 != 0) then (if (r_35.2.1 != 11) then (tontinelaw15_SessionNone.j1 n (tontinelaw15_SessionNone.l0 n more_3 k) x_33 r_35 true) else (tontinelaw15_SessionNone.j1 n (tontinelaw15_SessionNone.l0 n more_3 k) x_33 r_35 (r_35.1 != 0))) else (tontinelaw15_SessionNone.j1 n (tontinelaw15_SessionNone.l0 n more_3 k) x_33 r_35 false))) else (if (r_35.2.1 != 0) then (if (r_35.2.1 != 11) then (tontinelaw15_SessionNone.j1 n (tontinelaw15_SessionNone.l0 n more_3 k) x_33 r_35 true) else (tontinelaw15_SessionNone.j1 n (tontinelaw15_SessionNone.l0 n more_3 k) x_33 r_35 (r_35.1 != 0))) else (tontinelaw15_SessionNone.j1 n (tontinelaw15_SessionNone.l0 n more_3 k) x_33 r_35 false))))) else ((session_Table_Rows.f n (⟨f_28, f_29, f_30⟩ : T_session_Table)).bind fun r_48 => (some ((r_48.length : Int) == (if 16 < ((wi64 ((more_3.tmod 50) + 50)).tmod 50) then 16 else ((wi64 ((more_3.tmod 50) + 50)).tmod 50))))))
def tontinelaw15_SessionNone.j0 (n : Nat) (more_3 : Int) (b_22 : Bool) : Option Bool :=
  (if b_22 then (some false) else ((session_New.f n).bind fun r_24 => (tontinelaw15_SessionNone.l0 n more_3 n r_24.now r_24.next r_24.rows 0)))
def tontinelaw15_SessionNone.f (n : Nat) (id_1 : Int) (seq_2 : Int) (more_3 : Int) : Option Bool :=
  ((tontinelaw15_begun.f n).bind fun r_4 => (if (!r_4) then (some false) else ((session_Table_Clock_n0.f n id_1).bind fun r_6 => ((session_Table_Write_n0.f n (⟨[]⟩ : T_pack_Writer)).bind fun r_8 => ((session_Table_Register_n0.f n).bind fun r_9 => ((session_Table_Begin_n0.f n id_1 seq_2).bind fun r_10 => ((session_Table_Now_n0.f n).bind fun r_12 => (if (r_12 != 0) then (tontinelaw15_SessionNone.j0 n more_3 true) else (if (r_9.2 != 11) then (tontinelaw15_SessionNone.j0 n more_3 true) else (if r_10.2 then (tontinelaw15_SessionNone.j0 n more_3 true) else (if (r_10.1.Err != 40) then (tontinelaw15_SessionNone.j0 n more_3 true) else ((session_Table_End_n0.f n id_1 seq_2 r_10.1).bind fun r_17 => (if r_17 then (tontinelaw15_SessionNone.j0 n more_3 true) else ((session_Table_Rows_n0.f n).bind fun r_19 => (tontinelaw15_SessionNone.j0 n more_3 ((r_19.length : Int) != 0))))))))))))))))

def tontineref15_Table_Clock.j0 (n : Nat) (L0 : (List T_tontineref15_Row) → Int → Option T_tontineref15_Table) (t_1 : T_tontineref15_Table) (l_7 : (List T_tontineref15_Row)) (i_10 : Int) (b_15 : Bool) : Option T_tontineref15_Table :=
  (if b_15 then (if (0 : Int) ≤ i_10 ∧ i_10 < (t_1.Rows.length : Int) then (if capOk 48 (l_7 ++ [(⟨(rdL t_1.Rows i_10).Id, (rdL t_1.Rows i_10).Used, (rdL t_1.Rows i_10).Seq, (⟨(rdL t_1.Rows i_10).Reply.Err, (rdL t_1.Rows i_10).Reply.Num, (rdL t_1.Rows i_10).Reply.Extra⟩ : T_api_Reply)⟩ : T_tontineref15_Row)]).length then (L0 (l_7 ++ [(⟨(rdL t_1.Rows i_10).Id, (rdL t_1.Rows i_10).Used, (rdL t_1.Rows i_10).Seq, (⟨(rdL t_1.Rows i_10).Reply.Err, (rdL t_1.Rows i_10).Reply.Num, (rdL t_1.Rows i_10).Reply.Extra⟩ : T_api_Reply)⟩ : T_tontineref15_Row)]) (wi64 (i_10 + 1))) else none) else none) else (L0 l_7 (wi64 (i_10 + 1))))
def tontineref15_Table_Clock.l0 (n : Nat) (t_1 : T_tontineref15_Table) (now_5 : Int) : Nat → (List T_tontineref15_Row) → Int → Option T_tontineref15_Table
  | 0, _, _ => none
  | k + 1, l_7, i_10 => (if decide (i_10 < (t_1.Rows.length : Int)) then (if (0 : Int) ≤ i_10 ∧ i_10 < (t_1.Rows.length : Int) then (if decide ((wu64 (((rdL t_1.Rows i_10).Used) + 1000)) ≥ now_5) then (tontineref15_Table_Clock.j0 n (tontineref15_Table_Clock.l0 n t_1 now_5 k) t_1 l_7 i_10 true) else (if (0 : Int) ≤ i_10 ∧ i_10 < (t_1.Rows.length : Int) then (tontineref15_Table_Clock.j0 n (tontineref15_Table_Clock.l0 n t_1 now_5 k) t_1 l_7 i_10 (decide ((wu64 (((rdL t_1.Rows i_10).Used) + 1000)) < 1000))) else none)) else none) else (some (⟨now_5, t_1.Next, l_7⟩ : T_tontineref15_Table)))
def tontineref15_Table_Clock.f (n : Nat) (t_1 : T_tontineref15_Table) (now_5 : Int) : Option T_tontineref15_Table :=
  (if decide (now_5 ≤ t_1.Now) then (some t_1) else (tontineref15_Table_Clock.l0 n t_1 now_5 n ([] : List T_tontineref15_Row) 0))

def tontineref15_Table_Register.j0 (n : Nat) (t_1 : T_tontineref15_Table) (b_6 : Bool) : Option (Int × Int × T_tontineref15_Table) :=
  (if b_6 then (some (0, 11, t_1)) else (if capOk 48 (t_1.Rows ++ [(⟨t_1.Next, t_1.Now, 0, (⟨0, 0, 0⟩ : T_api_Reply)⟩ : T_tontineref15_Row)]).length then (some (wu64 ((wu64 (t_1.Next + 1)) - 1), 0, (⟨t_1.Now, wu64 (t_1.Next + 1), t_1.Rows ++ [(⟨t_1.Next, t_1.Now, 0, (⟨0, 0, 0⟩ : T_api_Reply)⟩ : T_tontineref15_Row)]⟩ : T_tontineref15_Table))) else none))
def tontineref15_Table_Register.f (n : Nat) (t_1 : T_tontineref15_Table) : Option (Int × Int × T_tontineref15_Table) :=
  (if ((t_1.Rows.length : Int) == 16) then (tontineref15_Table_Register.j0 n t_1 true) else (tontineref15_Table_Register.j0 n t_1 ((wu64 (t_1.Next + 1)) == 0)))

def tontineref15_Table_find.l0 (n : Nat) (t_1 : T_tontineref15_Table) (id_5 : Int) : Nat → Int → Option Int
  | 0, _ => none
  | k + 1, i_6 => (if decide (i_6 < (t_1.Rows.length : Int)) then (if (0 : Int) ≤ i_6 ∧ i_6 < (t_1.Rows.length : Int) then (if (((rdL t_1.Rows i_6).Id) == id_5) then (some i_6) else ((tontineref15_Table_find.l0 n t_1 id_5 k) (wi64 (i_6 + 1)))) else none) else (some (-1)))
def tontineref15_Table_find.f (n : Nat) (t_1 : T_tontineref15_Table) (id_5 : Int) : Option Int :=
  (tontineref15_Table_find.l0 n t_1 id_5 n 0)

def tontineref15_Table_Begin.j0 (n : Nat) (t_1 : T_tontineref15_Table) (seq_6 : Int) (r_8 : Int) (b_13 : Bool) : Option (T_api_Reply × Bool × T_tontineref15_Table) :=
  (if b_13 then (if (0 : Int) ≤ r_8 ∧ r_8 < ((t_1.Rows.set r_8.toNat (⟨(rdL t_1.Rows r_8).Id, t_1.Now, (rdL t_1.Rows r_8).Seq, (⟨(rdL t_1.Rows r_8).Reply.Err, (rdL t_1.Rows r_8).Reply.Num, (rdL t_1.Rows r_8).Reply.Extra⟩ : T_api_Reply)⟩ : T_tontineref15_Row)).length : Int) then (some ((⟨(rdL (t_1.Rows.set r_8.toNat (⟨(rdL t_1.Rows r_8).Id, t_1.Now, (rdL t_1.Rows r_8).Seq, (⟨(rdL t_1.Rows r_8).Reply.Err, (rdL t_1.Rows r_8).Reply.Num, (rdL t_1.Rows r_8).Reply.Extra⟩ : T_api_Reply)⟩ : T_tontineref15_Row)) r_8).Reply.Err, (rdL (t_1.Rows.set r_8.toNat (⟨(rdL t_1.Rows r_8).Id, t_1.Now, (rdL t_1.Rows r_8).Seq, (⟨(rdL t_1.Rows r_8).Reply.Err, (rdL t_1.Rows r_8).Reply.Num, (rdL t_1.Rows r_8).Reply.Extra⟩ : T_api_Reply)⟩ : T_tontineref15_Row)) r_8).Reply.Num, (rdL (t_1.Rows.set r_8.toNat (⟨(rdL t_1.Rows r_8).Id, t_1.Now, (rdL t_1.Rows r_8).Seq, (⟨(rdL t_1.Rows r_8).Reply.Err, (rdL t_1.Rows r_8).Reply.Num, (rdL t_1.Rows r_8).Reply.Extra⟩ : T_api_Reply)⟩ : T_tontineref15_Row)) r_8).Reply.Extra⟩ : T_api_Reply), false, (⟨t_1.Now, t_1.Next, t_1.Rows.set r_8.toNat (⟨(rdL t_1.Rows r_8).Id, t_1.Now, (rdL t_1.Rows r_8).Seq, (⟨(rdL t_1.Rows r_8).Reply.Err, (rdL t_1.Rows r_8).Reply.Num, (rdL t_1.Rows r_8).Reply.Extra⟩ : T_api_Reply)⟩ : T_tontineref15_Row)⟩ : T_tontineref15_Table))) else none) else (if (seq_6 == 0) then (some ((⟨41, 0, 0⟩ : T_api_Reply), false, (⟨t_1.Now, t_1.Next, t_1.Rows.set r_8.toNat (⟨(rdL t_1.Rows r_8).Id, t_1.Now, (rdL t_1.Rows r_8).Seq, (⟨(rdL t_1.Rows r_8).Reply.Err, (rdL t_1.Rows r_8).Reply.Num, (rdL t_1.Rows r_8).Reply.Extra⟩ : T_api_Reply)⟩ : T_tontineref15_Row)⟩ : T_tontineref15_Table))) else (if (0 : Int) ≤ r_8 ∧ r_8 < ((t_1.Rows.set r_8.toNat (⟨(rdL t_1.Rows r_8).Id, t_1.Now, (rdL t_1.Rows r_8).Seq, (⟨(rdL t_1.Rows r_8).Reply.Err, (rdL t_1.Rows r_8).Reply.Num, (rdL t_1.Rows r_8).Reply.Extra⟩ : T_api_Reply)⟩ : T_tontineref15_Row)).length : Int) then (if ((wu64 (seq_6 - 1)) != ((rdL (t_1.Rows.set r_8.toNat (⟨(rdL t_1.Rows r_8).Id, t_1.Now, (rdL t_1.Rows r_8).Seq, (⟨(rdL t_1.Rows r_8).Reply.Err, (rdL t_1.Rows r_8).Reply.Num, (rdL t_1.Rows r_8).Reply.Extra⟩ : T_api_Reply)⟩ : T_tontineref15_Row)) r_8).Seq)) then (some ((⟨41, 0, 0⟩ : T_api_Reply), false, (⟨t_1.Now, t_1.Next, t_1.Rows.set r_8.toNat (⟨(rdL t_1.Rows r_8).Id, t_1.Now, (rdL t_1.Rows r_8).Seq, (⟨(rdL t_1.Rows r_8).Reply.Err, (rdL t_1.Rows r_8).Reply.Num, (rdL t_1.Rows r_8).Reply.Extra⟩ : T_api_Reply)⟩ : T_tontineref15_Row)⟩ : T_tontineref15_Table))) else (some ((⟨0, 0, 0⟩ : T_api_Reply), true, (⟨t_1.Now, t_1.Next, t_1.Rows.set r_8.toNat (⟨(rdL t_1.Rows r_8).Id, t_1.Now, (rdL t_1.Rows r_8).Seq, (⟨(rdL t_1.Rows r_8).Reply.Err, (rdL t_1.Rows r_8).Reply.Num, (rdL t_1.Rows r_8).Reply.Extra⟩ : T_api_Reply)⟩ : T_tontineref15_Row)⟩ : T_tontineref15_Table)))) else none)))
def tontineref15_Table_Begin.f (n : Nat) (t_1 : T_tontineref15_Table) (id_5 : Int) (seq_6 : Int) : Option (T_api_Reply × Bool × T_tontineref15_Table) :=
  ((tontineref15_Table_find.f n t_1 id_5).bind fun r_8 => (if decide (r_8 < 0) then (some ((⟨40, 0, 0⟩ : T_api_Reply), false, t_1)) else (if (0 : Int) ≤ r_8 ∧ r_8 < (t_1.Rows.length : Int) then (if (seq_6 != 0) then (if (0 : Int) ≤ r_8 ∧ r_8 < ((t_1.Rows.set r_8.toNat (⟨(rdL t_1.Rows r_8).Id, t_1.Now, (rdL t_1.Rows r_8).Seq, (⟨(rdL t_1.Rows r_8).Reply.Err, (rdL t_1.Rows r_8).Reply.Num, (rdL t_1.Rows r_8).Reply.Extra⟩ : T_api_Reply)⟩ : T_tontineref15_Row)).length : Int) then (tontineref15_Table_Begin.j0 n t_1 seq_6 r_8 (seq_6 == ((rdL (t_1.Rows.set r_8.toNat (⟨(rdL t_1.Rows r_8).Id, t_1.Now, (rdL t_1.Rows r_8).Seq, (⟨(rdL t_1.Rows r_8).Reply.Err, (rdL t_1.Rows r_8).Reply.Num, (rdL t_1.Rows r_8).Reply.Extra⟩ : T_api_Reply)⟩ : T_tontineref15_Row)) r_8).Seq))) else none) else (tontineref15_Table_Begin.j0 n t_1 seq_6 r_8 false)) else none)))

def tontineref15_Table_End.j0 (n : Nat) (t_1 : T_tontineref15_Table) (seq_6 : Int) (y_7 : T_api_Reply) (r_9 : Int) (b_13 : Bool) : Option (Bool × T_tontineref15_Table) :=
  (if b_13 then (some (false, t_1)) else (if (0 : Int) ≤ r_9 ∧ r_9 < (t_1.Rows.length : Int) then (if (0 : Int) ≤ r_9 ∧ r_9 < ((t_1.Rows.set r_9.toNat (⟨(rdL t_1.Rows r_9).Id, (rdL t_1.Rows r_9).Used, seq_6, (⟨(rdL t_1.Rows r_9).Reply.Err, (rdL t_1.Rows r_9).Reply.Num, (rdL t_1.Rows r_9).Reply.Extra⟩ : T_api_Reply)⟩ : T_tontineref15_Row)).length : Int) then (some (true, (⟨t_1.Now, t_1.Next, (t_1.Rows.set r_9.toNat (⟨(rdL t_1.Rows r_9).Id, (rdL t_1.Rows r_9).Used, seq_6, (⟨(rdL t_1.Rows r_9).Reply.Err, (rdL t_1.Rows r_9).Reply.Num, (rdL t_1.Rows r_9).Reply.Extra⟩ : T_api_Reply)⟩ : T_tontineref15_Row)).set r_9.toNat (⟨(rdL (t_1.Rows.set r_9.toNat (⟨(rdL t_1.Rows r_9).Id, (rdL t_1.Rows r_9).Used, seq_6, (⟨(rdL t_1.Rows r_9).Reply.Err, (rdL t_1.Rows r_9).Reply.Num, (rdL t_1.Rows r_9).Reply.Extra⟩ : T_api_Reply)⟩ : T_tontineref15_Row)) r_9).Id, (rdL (t_1.Rows.set r_9.toNat (⟨(rdL t_1.Rows r_9).Id, (rdL t_1.Rows r_9).Used, seq_6, (⟨(rdL t_1.Rows r_9).Reply.Err, (rdL t_1.Rows r_9).Reply.Num, (rdL t_1.Rows r_9).Reply.Extra⟩ : T_api_Reply)⟩ : T_tontineref15_Row)) r_9).Used, (rdL (t_1.Rows.set r_9.toNat (⟨(rdL t_1.Rows r_9).Id, (rdL t_1.Rows r_9).Used, seq_6, (⟨(rdL t_1.Rows r_9).Reply.Err, (rdL t_1.Rows r_9).Reply.Num, (rdL t_1.Rows r_9).Reply.Extra⟩ : T_api_Reply)⟩ : T_tontineref15_Row)) r_9).Seq, y_7⟩ : T_tontineref15_Row)⟩ : T_tontineref15_Table))) else none) else none))
def tontineref15_Table_End.f (n : Nat) (t_1 : T_tontineref15_Table) (id_5 : Int) (seq_6 : Int) (y_7 : T_api_Reply) : Option (Bool × T_tontineref15_Table) :=
  ((tontineref15_Table_find.f n t_1 id_5).bind fun r_9 => (if decide (r_9 < 0) then (tontineref15_Table_End.j0 n t_1 seq_6 y_7 r_9 true) else (if (seq_6 == 0) then (tontineref15_Table_End.j0 n t_1 seq_6 y_7 r_9 true) else (if (0 : Int) ≤ r_9 ∧ r_9 < (t_1.Rows.length : Int) then (tontineref15_Table_End.j0 n t_1 seq_6 y_7 r_9 ((wu64 (seq_6 - 1)) != ((rdL t_1.Rows r_9).Seq))) else none))))

def tontinelaw15_both.f (n : Nat) (t_1 : T_session_Table) (m_5 : T_tontineref15_Table) (c_9 : T_tontinelaw15_Call) : Option (Bool × T_session_Table × T_tontineref15_Table) :=
  (if (c_9.Kind == 0) then ((session_Table_Clock.f n t_1 c_9.Id).bind fun r_12 => ((tontineref15_Table_Clock.f n m_5 c_9.Id).bind fun r_15 => (some (true, r_12, r_15)))) else (if (c_9.Kind == 1) then ((session_Table_Register.f n t_1).bind fun r_21 => ((tontineref15_Table_Register.f n m_5).bind fun r_24 => (if (r_21.1 == r_24.1) then (some ((r_21.2.1 == r_24.2.1), r_21.2.2, r_24.2.2)) else (some (false, r_21.2.2, r_24.2.2))))) else (if (c_9.Kind == 2) then ((session_Table_Begin.f n t_1 c_9.Id c_9.Seq).bind fun r_31 => ((tontineref15_Table_Begin.f n m_5 c_9.Id c_9.Seq).bind fun r_35 => (if ((r_31.1.Err == r_35.1.Err) && ((r_31.1.Num == r_35.1.Num) && ((r_31.1.Extra == r_35.1.Extra) && true))) then (some ((r_31.2.1 == r_35.2.1), r_31.2.2, r_35.2.2)) else (some (false, r_31.2.2, r_35.2.2))))) else ((session_Table_End.f n t_1 c_9.Id c_9.Seq (⟨c_9.Reply.Err, c_9.Reply.Num, c_9.Reply.Extra⟩ : T_api_Reply)).bind fun r_42 => ((tontineref15_Table_End.f n m_5 c_9.Id c_9.Seq (⟨c_9.Reply.Err, c_9.Reply.Num, c_9.Reply.Extra⟩ : T_api_Reply)).bind fun r_45 => (some ((r_42.1 == r_45.1), r_42.2, r_45.2)))))))

def session_Table_Now.f (n : Nat) (t_1 : T_session_Table) : Option Int :=
  (some t_1.now)

def tontinelaw15_alike.l0 (n : Nat) (m_5 : T_tontineref15_Table) (r_9 : (List T_session_Row)) : Nat → Int → Option Bool
  | 0, _ => none
  | k + 1, x_16 => (if decide (x_16 < (r_9.length : Int)) then (if (0 : Int) ≤ x_16 ∧ x_16 < (r_9.length : Int) then (if (0 : Int) ≤ x_16 ∧ x_16 < (m_5.Rows.length : Int) then (if (!((((rdL r_9 x_16).Id) == ((rdL m_5.Rows x_16).Id)) && ((((rdL r_9 x_16).Used) == ((rdL m_5.Rows x_16).Used)) && ((((rdL r_9 x_16).Seq) == ((rdL m_5.Rows x_16).Seq)) && (((((rdL r_9 x_16).Reply.Err) == ((rdL m_5.Rows x_16).Reply.Err)) && ((((rdL r_9 x_16).Reply.Num) == ((rdL m_5.Rows x_16).Reply.Num)) && ((((rdL r_9 x_16).Reply.Extra) == ((rdL m_5.Rows x_16).Reply.Extra)) && true))) && true))))) then (some false) else ((tontinelaw15_alike.l0 n m_5 r_9 k) (wi64 (x_16 + 1)))) else none) else none) else (some true))
def tontinelaw15_alike.j0 (n : Nat) (m_5 : T_tontineref15_Table) (r_9 : (List T_session_Row)) (b_14 : Bool) : Option Bool :=
  (if b_14 then (some false) else (tontinelaw15_alike.l0 n m_5 r_9 n 0))
def tontinelaw15_alike.f (n : Nat) (t_1 : T_session_Table) (m_5 : T_tontineref15_Table) : Option Bool :=
  ((session_Table_Rows.f n t_1).bind fun r_9 => ((session_Table_Now.f n t_1).bind fun r_12 => (if (r_12 != m_5.Now) then (tontinelaw15_alike.j0 n m_5 r_9 true) else (tontinelaw15_alike.j0 n m_5 r_9 ((r_9.length : Int) != (m_5.Rows.length : Int))))))

def pack_Writer_Num.l1 (n : Nat) (x_5 : Int) : Nat → (List UInt8) → Int → Option T_pack_Writer
  | 0, _, _ => none
  | k + 1, f_14, i_17 => (if decide (i_17 ≥ 0) then (if (0 : Int) ≤ (wi64 (8 * i_17)) then (if capOk 1 (f_14 ++ [u8of (shR .u64 x_5 (wi64 (8 * i_17)))]).length then ((pack_Writer_Num.l1 n x_5 k) (f_14 ++ [u8of (shR .u64 x_5 (wi64 (8 * i_17)))]) (wi64 (i_17 - 1))) else none) else none) else (some (⟨f_14⟩ : T_pack_Writer)))
def pack_Writer_Num.l0 (n : Nat) (w_1 : T_pack_Writer) (x_5 : Int) : Nat → Int → Int → Option T_pack_Writer
  | 0, _, _ => none
  | k + 1, n_6, y_7 => (if decide (y_7 > 0) then ((pack_Writer_Num.l0 n w_1 x_5 k) (wi64 (n_6 + 1)) (shR .u64 y_7 8)) else (if capOk 1 (w_1.b ++ [u8of n_6]).length then (pack_Writer_Num.l1 n x_5 n (w_1.b ++ [u8of n_6]) (wi64 (n_6 - 1))) else none))
def pack_Writer_Num.f (n : Nat) (w_1 : T_pack_Writer) (x_5 : Int) : Option T_pack_Writer :=
  (pack_Writer_Num.l0 n w_1 x_5 n 0 x_5)

def session_Table_Write.l0 (n : Nat) (t_1 : T_session_Table) : Nat → (List UInt8) → Int → Option T_pack_Writer
  | 0, _, _ => none
  | k + 1, f_18, x_21 => (if decide (x_21 < (t_1.rows.length : Int)) then (if (0 : Int) ≤ x_21 ∧ x_21 < (t_1.rows.length : Int) then ((pack_Writer_Num.f n (⟨f_18⟩ : T_pack_Writer) ((rdL t_1.rows x_21).Id)).bind fun r_25 => ((pack_Writer_Num.f n r_25 ((rdL t_1.rows x_21).Used)).bind fun r_28 => ((pack_Writer_Num.f n r_28 ((rdL t_1.rows x_21).Seq)).bind fun r_31 => ((pack_Writer_Num.f n r_31 (wu64 ((rdL t_1.rows x_21).Reply.Err))).bind fun r_34 => ((pack_Writer_Num.f n r_34 ((rdL t_1.rows x_21).Reply.Num)).bind fun r_37 => ((pack_Writer_Num.f n r_37 ((rdL t_1.rows x_21).Reply.Extra)).bind fun r_40 => ((session_Table_Write.l0 n t_1 k) r_40.b (wi64 (x_21 + 1))))))))) else none) else (some (⟨f_18⟩ : T_pack_Writer)))
def session_Table_Write.f (n : Nat) (t_1 : T_session_Table) (w_5 : T_pack_Writer) : Option T_pack_Writer :=
  ((pack_Writer_Num.f n w_5 t_1.now).bind fun r_9 => ((pack_Writer_Num.f n r_9 t_1.next).bind fun r_12 => ((pack_Writer_Num.f n r_12 (wu64 (t_1.rows.length : Int))).bind fun r_15 => (session_Table_Write.l0 n t_1 n r_15.b 0))))

def pack_Writer_Bytes.f (n : Nat) (w_1 : T_pack_Writer) : Option (List UInt8) :=
  (some w_1.b)

def tontineref03_Num.l0 (n : Nat) : Nat → Int → (List UInt8) → Int → Option (List UInt8)
  | 0, _, _, _ => none
  | k + 1, x_2, s_3, n_4 => (if decide (x_2 > 0) then (if ([u8of (x_2.tmod 256)] : List UInt8).length + s_3.length ≤ i64max then ((tontineref03_Num.l0 n k) (wu64 (x_2.tdiv 256)) ([u8of (x_2.tmod 256)] ++ s_3) (wi64 (n_4 + 1))) else none) else (if ([u8of n_4] : List UInt8).length + s_3.length ≤ i64max then (some ([u8of n_4] ++ s_3)) else none))
def tontineref03_Num.f (n : Nat) (x_1 : Int) : Option (List UInt8) :=
  (tontineref03_Num.l0 n n x_1 [] 0)

def tontineref15_Table_Bytes.l0 (n : Nat) (t_1 : T_tontineref15_Table) : Nat → (List UInt8) → Int → Option (List UInt8)
  | 0, _, _ => none
  | k + 1, s_10, i_11 => (if decide (i_11 < (t_1.Rows.length : Int)) then (if (0 : Int) ≤ i_11 ∧ i_11 < (t_1.Rows.length : Int) then ((tontineref03_Num.f n ((rdL t_1.Rows i_11).Id)).bind fun r_15 => ((tontineref03_Num.f n ((rdL t_1.Rows i_11).Used)).bind fun r_16 => (if r_15.length + r_16.length ≤ i64max then ((tontineref03_Num.f n ((rdL t_1.Rows i_11).Seq)).bind fun r_18 => (if (r_15 ++ r_16).length + r_18.length ≤ i64max then ((tontineref03_Num.f n (wu64 ((rdL t_1.Rows i_11).Reply.Err))).bind fun r_20 => (if ((r_15 ++ r_16) ++ r_18).length + r_20.length ≤ i64max then ((tontineref03_Num.f n ((rdL t_1.Rows i_11).Reply.Num)).bind fun r_22 => (if (((r_15 ++ r_16) ++ r_18) ++ r_20).length + r_22.length ≤ i64max then ((tontineref03_Num.f n ((rdL t_1.Rows i_11).Reply.Extra)).bind fun r_24 => (if ((((r_15 ++ r_16) ++ r_18) ++ r_20) ++ r_22).length + r_24.length ≤ i64max then (if s_10.length + (((((r_15 ++ r_16) ++ r_18) ++ r_20) ++ r_22) ++ r_24).length ≤ i64max then ((tontineref15_Table_Bytes.l0 n t_1 k) (s_10 ++ (((((r_15 ++ r_16) ++ r_18) ++ r_20) ++ r_22) ++ r_24)) (wi64 (i_11 + 1))) else none) else none)) else none)) else none)) else none)) else none))) else none) else (some s_10))
def tontineref15_Table_Bytes.f (n : Nat) (t_1 : T_tontineref15_Table) : Option (List UInt8) :=
  ((tontineref03_Num.f n t_1.Now).bind fun r_5 => ((tontineref03_Num.f n t_1.Next).bind fun r_6 => (if r_5.length + r_6.length ≤ i64max then ((tontineref03_Num.f n (wu64 (t_1.Rows.length : Int))).bind fun r_8 => (if (r_5 ++ r_6).length + r_8.length ≤ i64max then (tontineref15_Table_Bytes.l0 n t_1 n ((r_5 ++ r_6) ++ r_8) 0) else none)) else none)))

def tontinelaw15_SessionRuns.j0 (n : Nat) (f_11 : Int) (f_12 : Int) (f_13 : (List T_session_Row)) (f_16 : Int) (f_17 : Int) (f_18 : (List T_tontineref15_Row)) : Option Bool :=
  ((session_Table_Write.f n (⟨f_11, f_12, f_13⟩ : T_session_Table) (⟨[]⟩ : T_pack_Writer)).bind fun r_36 => ((pack_Writer_Bytes.f n r_36).bind fun r_39 => ((tontineref15_Table_Bytes.f n (⟨f_16, f_17, f_18⟩ : T_tontineref15_Table)).bind fun r_40 => (some (r_39 == r_40)))))
def tontinelaw15_SessionRuns.l0 (n : Nat) (calls_1 : (List T_tontinelaw15_Call)) : Nat → Int → Int → (List T_session_Row) → Int → Int → (List T_tontineref15_Row) → Int → Option Bool
  | 0, _, _, _, _, _, _, _ => none
  | k + 1, f_11, f_12, f_13, f_16, f_17, f_18, x_21 => (if decide (x_21 < (calls_1.length : Int)) then (if (0 : Int) ≤ x_21 ∧ x_21 < (calls_1.length : Int) then (if (x_21 == 500) then (tontinelaw15_SessionRuns.j0 n f_11 f_12 f_13 f_16 f_17 f_18) else ((tontinelaw15_both.f n (⟨f_11, f_12, f_13⟩ : T_session_Table) (⟨f_16, f_17, f_18⟩ : T_tontineref15_Table) (⟨(rdL calls_1 x_21).Kind, (rdL calls_1 x_21).Id, (rdL calls_1 x_21).Seq, (⟨(rdL calls_1 x_21).Reply.Err, (rdL calls_1 x_21).Reply.Num, (rdL calls_1 x_21).Reply.Extra⟩ : T_api_Reply)⟩ : T_tontinelaw15_Call)).bind fun r_26 => (if (!r_26.1) then (some false) else ((tontinelaw15_alike.f n r_26.2.1 r_26.2.2).bind fun r_32 => (if (!r_32) then (some false) else ((tontinelaw15_SessionRuns.l0 n calls_1 k) r_26.2.1.now r_26.2.1.next r_26.2.1.rows r_26.2.2.Now r_26.2.2.Next r_26.2.2.Rows (wi64 (x_21 + 1)))))))) else none) else (tontinelaw15_SessionRuns.j0 n f_11 f_12 f_13 f_16 f_17 f_18))
def tontinelaw15_SessionRuns.f (n : Nat) (calls_1 : (List T_tontinelaw15_Call)) : Option Bool :=
  ((tontinelaw15_begun.f n).bind fun r_4 => (if (!r_4) then (some false) else ((session_New.f n).bind fun r_6 => (tontinelaw15_SessionRuns.l0 n calls_1 n r_6.now r_6.next r_6.rows 0 1 ([] : List T_tontineref15_Row) 0))))

def pack_From.f (n : Nat) (s_1 : (List UInt8)) : Option T_pack_Reader :=
  (some (⟨s_1, false⟩ : T_pack_Reader))

def pack_Reader_fail.f (n : Nat) (r_1 : T_pack_Reader) : Option (Int × T_pack_Reader) :=
  (some (0, (⟨[], true⟩ : T_pack_Reader)))

def pack_Reader_Num.l0 (n : Nat) (r_1 : T_pack_Reader) : Nat → Int → Int → Option (Int × T_pack_Reader)
  | 0, _, _ => none
  | k + 1, x_15, i_16 => (if decide (i_16 ≤ (wi64 ((rdB r_1.s 0).toNat : Int))) then (if (0 : Int) ≤ i_16 ∧ i_16 < (r_1.s.length : Int) then ((pack_Reader_Num.l0 n r_1 k) (bOr .u64 (shL .u64 x_15 8) (wu64 ((rdB r_1.s i_16).toNat : Int))) (wi64 (i_16 + 1))) else none) else (if (0 : Int) ≤ (wi64 ((wi64 ((rdB r_1.s 0).toNat : Int)) + 1)) ∧ (wi64 ((wi64 ((rdB r_1.s 0).toNat : Int)) + 1)) ≤ (r_1.s.length : Int) then (some (x_15, (⟨r_1.s.drop (wi64 ((wi64 ((rdB r_1.s 0).toNat : Int)) + 1)).toNat, r_1.bad⟩ : T_pack_Reader))) else none))
def pack_Reader_Num.j0 (n : Nat) (r_1 : T_pack_Reader) (b_11 : Bool) : Option (Int × T_pack_Reader) :=
  (if b_11 then ((pack_Reader_fail.f n r_1).bind fun r_13 => (some (r_13.1, r_13.2))) else (pack_Reader_Num.l0 n r_1 n 0 1))
def pack_Reader_Num.f (n : Nat) (r_1 : T_pack_Reader) : Option (Int × T_pack_Reader) :=
  (if (r_1.s == ([] : List UInt8)) then ((pack_Reader_fail.f n r_1).bind fun r_4 => (some (r_4.1, r_4.2))) else (if (0 : Int) ≤ 0 ∧ 0 < (r_1.s.length : Int) then (if decide ((wi64 ((rdB r_1.s 0).toNat : Int)) > 8) then (pack_Reader_Num.j0 n r_1 true) else (if decide ((wi64 ((rdB r_1.s 0).toNat : Int)) > (wi64 ((r_1.s.length : Int) - 1))) then (pack_Reader_Num.j0 n r_1 true) else (if decide ((wi64 ((rdB r_1.s 0).toNat : Int)) > 0) then (if (0 : Int) ≤ 1 ∧ 1 < (r_1.s.length : Int) then (pack_Reader_Num.j0 n r_1 (((rdB r_1.s 1).toNat : Int) == 0)) else none) else (pack_Reader_Num.j0 n r_1 false)))) else none))

def pack_Reader_Up.j0 (n : Nat) (r_4 : Int × T_pack_Reader) (b_6 : Bool) : Option (Int × T_pack_Reader) :=
  (if b_6 then ((pack_Reader_fail.f n r_4.2).bind fun r_8 => (some (wi64 r_8.1, r_8.2))) else (some (wi64 r_4.1, r_4.2)))
def pack_Reader_Up.f (n : Nat) (r_1 : T_pack_Reader) (limit_3 : Int) : Option (Int × T_pack_Reader) :=
  ((pack_Reader_Num.f n r_1).bind fun r_4 => (if decide (limit_3 < 0) then (pack_Reader_Up.j0 n r_4 true) else (pack_Reader_Up.j0 n r_4 (decide (r_4.1 > (wu64 limit_3))))))

def pack_Reader_Left.f (n : Nat) (r_1 : T_pack_Reader) : Option (Int × Bool) :=
  (some ((r_1.s.length : Int), (!r_1.bad)))

def session_Read.j0 (n : Nat) (L0 : (List UInt8) → Bool → (List T_session_Row) → Int → Int → Option (Option T_session_Table × T_pack_Reader)) (f_9 : (List T_session_Row)) (n_13 : Int) (r_15 : Int × T_pack_Reader) (r_17 : Int × T_pack_Reader) (r_18 : Int × T_pack_Reader) (r_19 : Int × T_pack_Reader) (r_20 : Int × T_pack_Reader) (r_21 : Int × T_pack_Reader) (b_25 : Bool) : Option (Option T_session_Table × T_pack_Reader) :=
  (if b_25 then (some (none, r_21.2)) else (if capOk 48 (f_9 ++ [(⟨r_15.1, r_17.1, r_18.1, (⟨r_19.1, r_20.1, r_21.1⟩ : T_api_Reply)⟩ : T_session_Row)]).length then (L0 r_21.2.s r_21.2.bad (f_9 ++ [(⟨r_15.1, r_17.1, r_18.1, (⟨r_19.1, r_20.1, r_21.1⟩ : T_api_Reply)⟩ : T_session_Row)]) r_15.1 (wi64 (n_13 - 1))) else none))
def session_Read.l0 (n : Nat) (r_4 : Int × T_pack_Reader) (r_5 : Int × T_pack_Reader) : Nat → (List UInt8) → Bool → (List T_session_Row) → Int → Int → Option (Option T_session_Table × T_pack_Reader)
  | 0, _, _, _, _, _ => none
  | k + 1, f_7, f_8, f_9, last_12, n_13 => (if decide (n_13 > 0) then ((pack_Reader_Num.f n (⟨f_7, f_8⟩ : T_pack_Reader)).bind fun r_15 => ((pack_Reader_Num.f n r_15.2).bind fun r_17 => ((pack_Reader_Num.f n r_17.2).bind fun r_18 => ((pack_Reader_Up.f n r_18.2 52).bind fun r_19 => ((pack_Reader_Num.f n r_19.2).bind fun r_20 => ((pack_Reader_Num.f n r_20.2).bind fun r_21 => (if decide (r_15.1 ≤ last_12) then (session_Read.j0 n (session_Read.l0 n r_4 r_5 k) f_9 n_13 r_15 r_17 r_18 r_19 r_20 r_21 true) else (if decide (r_15.1 ≥ r_5.1) then (session_Read.j0 n (session_Read.l0 n r_4 r_5 k) f_9 n_13 r_15 r_17 r_18 r_19 r_20 r_21 true) else (if decide (r_17.1 > r_4.1) then (session_Read.j0 n (session_Read.l0 n r_4 r_5 k) f_9 n_13 r_15 r_17 r_18 r_19 r_20 r_21 true) else (session_Read.j0 n (session_Read.l0 n r_4 r_5 k) f_9 n_13 r_15 r_17 r_18 r_19 r_20 r_21 (decide ((wu64 (r_4.1 - r_17.1)) > 1000)))))))))))) else ((pack_Reader_Left.f n (⟨f_7, f_8⟩ : T_pack_Reader)).bind fun r_38 => (if (!r_38.2) then (some (none, (⟨f_7, f_8⟩ : T_pack_Reader))) else (if (r_5.1 == 0) then (some (none, (⟨f_7, f_8⟩ : T_pack_Reader))) else (some ((some (⟨r_4.1, r_5.1, f_9⟩ : T_session_Table)), (⟨f_7, f_8⟩ : T_pack_Reader)))))))
def session_Read.f (n : Nat) (r_1 : T_pack_Reader) : Option (Option T_session_Table × T_pack_Reader) :=
  ((pack_Reader_Num.f n r_1).bind fun r_4 => ((pack_Reader_Num.f n r_4.2).bind fun r_5 => ((pack_Reader_Up.f n r_5.2 16).bind fun r_6 => (session_Read.l0 n r_4 r_5 n r_6.2.s r_6.2.bad ([] : List T_session_Row) 0 r_6.1))))

def tontineref03_Reader_Fail.f (n : Nat) (r_1 : T_tontineref03_Reader) : Option T_tontineref03_Reader :=
  (some (⟨[], true⟩ : T_tontineref03_Reader))

def tontineref03_Reader_Num.l0 (n : Nat) (r_1 : T_tontineref03_Reader) (n_5 : Int) : Nat → Int → Int → Option (Int × T_tontineref03_Reader)
  | 0, _, _ => none
  | k + 1, x_15, i_16 => (if decide (i_16 ≤ n_5) then (if (0 : Int) ≤ i_16 ∧ i_16 < (r_1.S_.length : Int) then ((tontineref03_Reader_Num.l0 n r_1 n_5 k) (wu64 ((wu64 (256 * x_15)) + (wu64 ((rdB r_1.S_ i_16).toNat : Int)))) (wi64 (i_16 + 1))) else none) else (if (0 : Int) ≤ (wi64 (n_5 + 1)) ∧ (wi64 (n_5 + 1)) ≤ (r_1.S_.length : Int) then (some (x_15, (⟨r_1.S_.drop (wi64 (n_5 + 1)).toNat, r_1.Bad⟩ : T_tontineref03_Reader))) else none))
def tontineref03_Reader_Num.j1 (n : Nat) (r_1 : T_tontineref03_Reader) (n_5 : Int) (b_11 : Bool) : Option (Int × T_tontineref03_Reader) :=
  (if b_11 then ((tontineref03_Reader_Fail.f n r_1).bind fun r_13 => (some (0, r_13))) else (tontineref03_Reader_Num.l0 n r_1 n_5 n 0 1))
def tontineref03_Reader_Num.j0 (n : Nat) (r_1 : T_tontineref03_Reader) (n_5 : Int) : Option (Int × T_tontineref03_Reader) :=
  (if decide (n_5 < 0) then (tontineref03_Reader_Num.j1 n r_1 n_5 true) else (if decide (n_5 > 8) then (tontineref03_Reader_Num.j1 n r_1 n_5 true) else (if decide ((r_1.S_.length : Int) < (wi64 (n_5 + 1))) then (tontineref03_Reader_Num.j1 n r_1 n_5 true) else (if decide (n_5 > 0) then (if (0 : Int) ≤ 1 ∧ 1 < (r_1.S_.length : Int) then (tontineref03_Reader_Num.j1 n r_1 n_5 (((rdB r_1.S_ 1).toNat : Int) == 0)) else none) else (tontineref03_Reader_Num.j1 n r_1 n_5 false)))))
def tontineref03_Reader_Num.f (n : Nat) (r_1 : T_tontineref03_Reader) : Option (Int × T_tontineref03_Reader) :=
  (if decide ((r_1.S_.length : Int) > 0) then (if (0 : Int) ≤ 0 ∧ 0 < (r_1.S_.length : Int) then (tontineref03_Reader_Num.j0 n r_1 (wi64 ((rdB r_1.S_ 0).toNat : Int))) else none) else (tontineref03_Reader_Num.j0 n r_1 (-1)))

def tontineref03_Reader_Up.j0 (n : Nat) (r_4 : Int × T_tontineref03_Reader) (b_6 : Bool) : Option (Int × T_tontineref03_Reader) :=
  (if b_6 then ((tontineref03_Reader_Fail.f n r_4.2).bind fun r_8 => (some (0, r_8))) else (some (wi64 r_4.1, r_4.2)))
def tontineref03_Reader_Up.f (n : Nat) (r_1 : T_tontineref03_Reader) (limit_3 : Int) : Option (Int × T_tontineref03_Reader) :=
  ((tontineref03_Reader_Num.f n r_1).bind fun r_4 => (if decide (limit_3 < 0) then (tontineref03_Reader_Up.j0 n r_4 true) else (tontineref03_Reader_Up.j0 n r_4 (decide (r_4.1 > (wu64 limit_3))))))

def tontineref15_Read.j0 (n : Nat) (L0 : (List UInt8) → Bool → (List T_tontineref15_Row) → Bool → Int → Int → Option (Option T_tontineref15_Table × T_tontineref03_Reader)) (f_9 : (List T_tontineref15_Row)) (i_14 : Int) (r_16 : Int × T_tontineref03_Reader) (r_18 : Int × T_tontineref03_Reader) (r_19 : Int × T_tontineref03_Reader) (r_20 : Int × T_tontineref03_Reader) (r_21 : Int × T_tontineref03_Reader) (r_22 : Int × T_tontineref03_Reader) (ok_27 : Bool) : Option (Option T_tontineref15_Table × T_tontineref03_Reader) :=
  (if capOk 48 (f_9 ++ [(⟨r_16.1, r_18.1, r_19.1, (⟨r_20.1, r_21.1, r_22.1⟩ : T_api_Reply)⟩ : T_tontineref15_Row)]).length then (L0 r_22.2.S_ r_22.2.Bad (f_9 ++ [(⟨r_16.1, r_18.1, r_19.1, (⟨r_20.1, r_21.1, r_22.1⟩ : T_api_Reply)⟩ : T_tontineref15_Row)]) ok_27 r_16.1 (wi64 (i_14 + 1))) else none)
def tontineref15_Read.j1 (n : Nat) (r_3 : Int × T_tontineref03_Reader) (r_5 : Int × T_tontineref03_Reader) (f_7 : (List UInt8)) (f_8 : Bool) (f_9 : (List T_tontineref15_Row)) (b_41 : Bool) : Option (Option T_tontineref15_Table × T_tontineref03_Reader) :=
  (if b_41 then (some (none, (⟨f_7, f_8⟩ : T_tontineref03_Reader))) else (some ((some (⟨r_3.1, r_5.1, f_9⟩ : T_tontineref15_Table)), (⟨f_7, f_8⟩ : T_tontineref03_Reader))))
def tontineref15_Read.l0 (n : Nat) (r_3 : Int × T_tontineref03_Reader) (r_5 : Int × T_tontineref03_Reader) (r_6 : Int × T_tontineref03_Reader) : Nat → (List UInt8) → Bool → (List T_tontineref15_Row) → Bool → Int → Int → Option (Option T_tontineref15_Table × T_tontineref03_Reader)
  | 0, _, _, _, _, _, _ => none
  | k + 1, f_7, f_8, f_9, ok_12, last_13, i_14 => (if decide (i_14 < r_6.1) then ((tontineref03_Reader_Num.f n (⟨f_7, f_8⟩ : T_tontineref03_Reader)).bind fun r_16 => ((tontineref03_Reader_Num.f n r_16.2).bind fun r_18 => ((tontineref03_Reader_Num.f n r_18.2).bind fun r_19 => ((tontineref03_Reader_Up.f n r_19.2 52).bind fun r_20 => ((tontineref03_Reader_Num.f n r_20.2).bind fun r_21 => ((tontineref03_Reader_Num.f n r_21.2).bind fun r_22 => (if ok_12 then (if decide (r_16.1 > last_13) then (if decide (r_16.1 < r_5.1) then (if decide (r_18.1 ≤ r_3.1) then (tontineref15_Read.j0 n (tontineref15_Read.l0 n r_3 r_5 r_6 k) f_9 i_14 r_16 r_18 r_19 r_20 r_21 r_22 (decide ((wu64 (r_3.1 - r_18.1)) ≤ 1000))) else (tontineref15_Read.j0 n (tontineref15_Read.l0 n r_3 r_5 r_6 k) f_9 i_14 r_16 r_18 r_19 r_20 r_21 r_22 false)) else (tontineref15_Read.j0 n (tontineref15_Read.l0 n r_3 r_5 r_6 k) f_9 i_14 r_16 r_18 r_19 r_20 r_21 r_22 false)) else (tontineref15_Read.j0 n (tontineref15_Read.l0 n r_3 r_5 r_6 k) f_9 i_14 r_16 r_18 r_19 r_20 r_21 r_22 false)) else (tontineref15_Read.j0 n (tontineref15_Read.l0 n r_3 r_5 r_6 k) f_9 i_14 r_16 r_18 r_19 r_20 r_21 r_22 false)))))))) else (if f_8 then (tontineref15_Read.j1 n r_3 r_5 f_7 f_8 f_9 true) else (if (!ok_12) then (tontineref15_Read.j1 n r_3 r_5 f_7 f_8 f_9 true) else (tontineref15_Read.j1 n r_3 r_5 f_7 f_8 f_9 (r_5.1 == 0)))))
def tontineref15_Read.f (n : Nat) (r_1 : T_tontineref03_Reader) : Option (Option T_tontineref15_Table × T_tontineref03_Reader) :=
  ((tontineref03_Reader_Num.f n r_1).bind fun r_3 => ((tontineref03_Reader_Num.f n r_3.2).bind fun r_5 => ((tontineref03_Reader_Up.f n r_5.2 16).bind fun r_6 => (tontineref15_Read.l0 n r_3 r_5 r_6 n r_6.2.S_ r_6.2.Bad ([] : List T_tontineref15_Row) true 0 0))))

def tontinelaw15_SessionReads.l0 (n : Nat) (calls_2 : (List T_tontinelaw15_Call)) : Nat → Int → Int → (List T_session_Row) → Int → Int → (List T_tontineref15_Row) → Int → Option Bool
  | 0, _, _, _, _, _, _, _ => none
  | k + 1, f_28, f_29, f_30, f_33, f_34, f_35, x_38 => (if decide (x_38 < (calls_2.length : Int)) then (if (0 : Int) ≤ x_38 ∧ x_38 < (calls_2.length : Int) then (if (x_38 == 300) then (some true) else ((tontinelaw15_both.f n (⟨f_28, f_29, f_30⟩ : T_session_Table) (⟨f_33, f_34, f_35⟩ : T_tontineref15_Table) (⟨(rdL calls_2 x_38).Kind, (rdL calls_2 x_38).Id, (rdL calls_2 x_38).Seq, (⟨(rdL calls_2 x_38).Reply.Err, (rdL calls_2 x_38).Reply.Num, (rdL calls_2 x_38).Reply.Extra⟩ : T_api_Reply)⟩ : T_tontinelaw15_Call)).bind fun r_43 => (if (!r_43.1) then (some false) else ((tontinelaw15_alike.f n r_43.2.1 r_43.2.2).bind fun r_49 => (if (!r_49) then (some false) else ((tontinelaw15_SessionReads.l0 n calls_2 k) r_43.2.1.now r_43.2.1.next r_43.2.1.rows r_43.2.2.Now r_43.2.2.Next r_43.2.2.Rows (wi64 (x_38 + 1)))))))) else none) else (some true))
def tontinelaw15_SessionReads.f (n : Nat) (s_1 : (List UInt8)) (calls_2 : (List T_tontinelaw15_Call)) : Option Bool :=
  ((tontinelaw15_begun.f n).bind fun r_5 => (if (!r_5) then (some false) else ((pack_From.f n s_1).bind fun r_7 => ((session_Read.f n r_7).bind fun r_10 => (match r_10.1 with | none => ((tontineref15_Read.f n (⟨s_1, false⟩ : T_tontineref03_Reader)).bind fun r_15 => (match r_15.1 with | none => (some true) | some o_19 => (some false))) | some o_14 => ((tontineref15_Read.f n (⟨s_1, false⟩ : T_tontineref03_Reader)).bind fun r_21 => (match r_21.1 with | none => (some false) | some o_25 => ((tontinelaw15_alike.f n o_14 o_25).bind fun r_26 => (if (!r_26) then (some false) else (tontinelaw15_SessionReads.l0 n calls_2 n o_14.now o_14.next o_14.rows o_25.Now o_25.Next o_25.Rows 0))))))))))

def tontinelaw15_SessionSaves.j0 (n : Nat) (f_10 : Int) (f_11 : Int) (f_12 : (List T_session_Row)) : Option Bool :=
  ((session_Table_Write.f n (⟨f_10, f_11, f_12⟩ : T_session_Table) (⟨[]⟩ : T_pack_Writer)).bind fun r_42 => ((pack_Writer_Bytes.f n r_42).bind fun r_45 => ((pack_From.f n r_45).bind fun r_46 => ((session_Read.f n r_46).bind fun r_48 => (match r_48.1 with | none => none | some o_52 => ((session_Table_Write.f n o_52 (⟨[]⟩ : T_pack_Writer)).bind fun r_53 => ((pack_Writer_Bytes.f n r_42).bind fun r_56 => ((pack_Writer_Bytes.f n r_53).bind fun r_57 => (if (r_56 == r_57) then ((session_Table_Now.f n o_52).bind fun r_59 => ((session_Table_Now.f n (⟨f_10, f_11, f_12⟩ : T_session_Table)).bind fun r_60 => (if (r_59 == r_60) then ((session_Table_Rows.f n o_52).bind fun r_62 => ((session_Table_Rows.f n (⟨f_10, f_11, f_12⟩ : T_session_Table)).bind fun r_65 => (some ((r_62.length : Int) == (r_65.length : Int))))) else (some false)))) else (some false))))))))))
def tontinelaw15_SessionSaves.l0 (n : Nat) (calls_1 : (List T_tontinelaw15_Call)) : Nat → Int → Int → (List T_session_Row) → Int → Option Bool
  | 0, _, _, _, _ => none
  | k + 1, f_10, f_11, f_12, x_15 => (if decide (x_15 < (calls_1.length : Int)) then (if (0 : Int) ≤ x_15 ∧ x_15 < (calls_1.length : Int) then (if (x_15 == 400) then (tontinelaw15_SessionSaves.j0 n f_10 f_11 f_12) else (if (((rdL calls_1 x_15).Kind) == 0) then ((session_Table_Clock.f n (⟨f_10, f_11, f_12⟩ : T_session_Table) ((rdL calls_1 x_15).Id)).bind fun r_21 => ((tontinelaw15_SessionSaves.l0 n calls_1 k) r_21.now r_21.next r_21.rows (wi64 (x_15 + 1)))) else (if (((rdL calls_1 x_15).Kind) == 1) then ((session_Table_Register.f n (⟨f_10, f_11, f_12⟩ : T_session_Table)).bind fun r_26 => ((tontinelaw15_SessionSaves.l0 n calls_1 k) r_26.2.2.now r_26.2.2.next r_26.2.2.rows (wi64 (x_15 + 1)))) else (if (((rdL calls_1 x_15).Kind) == 2) then ((session_Table_Begin.f n (⟨f_10, f_11, f_12⟩ : T_session_Table) ((rdL calls_1 x_15).Id) ((rdL calls_1 x_15).Seq)).bind fun r_31 => ((tontinelaw15_SessionSaves.l0 n calls_1 k) r_31.2.2.now r_31.2.2.next r_31.2.2.rows (wi64 (x_15 + 1)))) else ((session_Table_End.f n (⟨f_10, f_11, f_12⟩ : T_session_Table) ((rdL calls_1 x_15).Id) ((rdL calls_1 x_15).Seq) (⟨(if (if 52 < ((rdL calls_1 x_15).Reply.Err) then 52 else ((rdL calls_1 x_15).Reply.Err)) > 0 then (if 52 < ((rdL calls_1 x_15).Reply.Err) then 52 else ((rdL calls_1 x_15).Reply.Err)) else 0), (rdL calls_1 x_15).Reply.Num, (rdL calls_1 x_15).Reply.Extra⟩ : T_api_Reply)).bind fun r_35 => ((tontinelaw15_SessionSaves.l0 n calls_1 k) r_35.2.now r_35.2.next r_35.2.rows (wi64 (x_15 + 1)))))))) else none) else (tontinelaw15_SessionSaves.j0 n f_10 f_11 f_12))
def tontinelaw15_SessionSaves.f (n : Nat) (calls_1 : (List T_tontinelaw15_Call)) : Option Bool :=
  ((tontinelaw15_begun.f n).bind fun r_4 => (if (!r_4) then (some false) else ((session_New.f n).bind fun r_6 => (tontinelaw15_SessionSaves.l0 n calls_1 n r_6.now r_6.next r_6.rows 0))))
end Go.GL
