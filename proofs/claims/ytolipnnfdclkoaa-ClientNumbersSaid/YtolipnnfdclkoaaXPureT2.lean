import Derived.Test.YtolipnnfdclkoaaXG14
set_option linter.unusedVariables false
namespace Go.GL
open Go
structure T_api_Step where
  Part : Int
  Name : (List UInt8)
  Budget : Int
  deriving DecidableEq
instance : Inhabited T_api_Step := ⟨⟨0, [], 0⟩⟩
structure T_api_Command where
  Kind : Int
  Session : Int
  Seq : Int
  Saga : Int
  Steps : (List T_api_Step)
  Step : Int
  Back : Bool
  Try : Int
  Ok : Bool
  Now : Int
  deriving DecidableEq
instance : Inhabited T_api_Command := ⟨⟨0, 0, 0, 0, [], 0, false, 0, false, 0⟩⟩
structure T_client_Client where
  id : Int
  session : Int
  seq : Int
  call : Int
  busy : Bool
  now : T_api_Command
  data : (List UInt8)
  to_ : Int
  deriving DecidableEq
instance : Inhabited T_client_Client := ⟨⟨0, 0, 0, 0, false, ⟨0, 0, 0, 0, [], 0, false, 0, false, 0⟩, [], 0⟩⟩
structure T_pack_Writer where
  b : (List UInt8)
  deriving DecidableEq
instance : Inhabited T_pack_Writer := ⟨⟨[]⟩⟩
structure T_api_Entry where
  Term : Int
  Index : Int
  Kind : Int
  Data : (List UInt8)
  deriving DecidableEq
instance : Inhabited T_api_Entry := ⟨⟨0, 0, 0, []⟩⟩
structure T_api_Letter where
  Kind : Int
  From : Int
  To : Int
  Term : Int
  Index : Int
  Prev : Int
  Commit : Int
  Ok : Bool
  Entries : (List T_api_Entry)
  Data : (List UInt8)
  deriving DecidableEq
instance : Inhabited T_api_Letter := ⟨⟨0, 0, 0, 0, 0, 0, 0, false, [], []⟩⟩
structure T_api_Reply where
  Err : Int
  Num : Int
  Extra : Int
  deriving DecidableEq
instance : Inhabited T_api_Reply := ⟨⟨0, 0, 0⟩⟩
structure T_pack_Reader where
  s : (List UInt8)
  bad : Bool
  deriving DecidableEq
instance : Inhabited T_pack_Reader := ⟨⟨[], false⟩⟩
structure T_api_Told where
  Client : Int
  Command : T_api_Command
  Reply : T_api_Reply
  deriving DecidableEq
instance : Inhabited T_api_Told := ⟨⟨0, ⟨0, 0, 0, 0, [], 0, false, 0, false, 0⟩, ⟨0, 0, 0⟩⟩⟩
structure T_tontinelaw21_Call where
  Kind : Int
  Command : T_api_Command
  Letter : T_api_Letter
  deriving DecidableEq
instance : Inhabited T_tontinelaw21_Call := ⟨⟨0, ⟨0, 0, 0, 0, [], 0, false, 0, false, 0⟩, ⟨0, 0, 0, 0, 0, 0, 0, false, [], []⟩⟩⟩
structure T_tontineref21_Client where
  Id : Int
  Session : Int
  Last : Int
  Calls : Int
  Busy : Bool
  Now : T_api_Command
  To : Int
  deriving DecidableEq
instance : Inhabited T_tontineref21_Client := ⟨⟨0, 0, 0, 0, false, ⟨0, 0, 0, 0, [], 0, false, 0, false, 0⟩, 0⟩⟩
structure T_tontineref03_Reader where
  S_ : (List UInt8)
  Bad : Bool
  deriving DecidableEq
instance : Inhabited T_tontineref03_Reader := ⟨⟨[], false⟩⟩
structure T_tontinelaw21_one where
  session : Int
  seq : Int
  deriving DecidableEq
instance : Inhabited T_tontinelaw21_one := ⟨⟨0, 0⟩⟩
def client_New.f (n : Nat) (id_1 : Int) : Option (Option T_client_Client × Int) :=
  (if decide (id_1 < 0) then (some (none, 1)) else (if decide (id_1 ≥ 4) then (some (none, 1)) else (some ((some (⟨id_1, 0, 0, 0, false, (⟨0, 0, 0, 0, [], 0, false, 0, false, 0⟩ : T_api_Command), [], 0⟩ : T_client_Client)), 0))))
def plan_Check.j1 (n : Nat) (L0 : Int → Option Int) (x_7 : Int) (b_16 : Bool) : Option Int :=
  (if b_16 then (some 44) else (L0 (wi64 (x_7 + 1))))
def plan_Check.l0 (n : Nat) (l_1 : (List T_api_Step)) : Nat → Int → Option Int
  | 0, _ => none
  | k + 1, x_7 => (if decide (x_7 < (l_1.length : Int)) then (if (0 : Int) ≤ x_7 ∧ x_7 < (l_1.length : Int) then (if decide (((rdL l_1 x_7).Part) < 0) then (plan_Check.j1 n (plan_Check.l0 n l_1 k) x_7 true) else (if decide (((rdL l_1 x_7).Part) ≥ 4) then (plan_Check.j1 n (plan_Check.l0 n l_1 k) x_7 true) else (if (((rdL l_1 x_7).Name) == ([] : List UInt8)) then (plan_Check.j1 n (plan_Check.l0 n l_1 k) x_7 true) else (if decide ((((rdL l_1 x_7).Name).length : Int) > 16) then (plan_Check.j1 n (plan_Check.l0 n l_1 k) x_7 true) else (if decide (((rdL l_1 x_7).Budget) < 1) then (plan_Check.j1 n (plan_Check.l0 n l_1 k) x_7 true) else (plan_Check.j1 n (plan_Check.l0 n l_1 k) x_7 (decide (((rdL l_1 x_7).Budget) > 9)))))))) else none) else (some 0))
def plan_Check.j0 (n : Nat) (l_1 : (List T_api_Step)) (b_5 : Bool) : Option Int :=
  (if b_5 then (some 44) else (plan_Check.l0 n l_1 n 0))
def plan_Check.f (n : Nat) (l_1 : (List T_api_Step)) : Option Int :=
  (if decide ((l_1.length : Int) < 1) then (plan_Check.j0 n l_1 true) else (plan_Check.j0 n l_1 (decide ((l_1.length : Int) > 64))))
def command_May.j1 (n : Nat) (b_13 : Bool) : Option Bool :=
  (some b_13)
def command_May.j2 (n : Nat) (b_20 : Bool) : Option Bool :=
  (some b_20)
def command_May.j3 (n : Nat) (b_28 : Bool) : Option Bool :=
  (some b_28)
def command_May.j0 (n : Nat) (c_1 : T_api_Command) (b_7 : Bool) : Option Bool :=
  (if b_7 then (if ((c_1.Steps.length : Int) == 0) then (if (c_1.Step == 0) then (if (!c_1.Back) then (if (c_1.Try == 0) then (command_May.j1 n (!c_1.Ok)) else (command_May.j1 n false)) else (command_May.j1 n false)) else (command_May.j1 n false)) else (command_May.j1 n false)) else (if (c_1.Kind == 2) then ((plan_Check.f n c_1.Steps).bind fun r_15 => (if (r_15 == 0) then (if (c_1.Step == 0) then (if (!c_1.Back) then (if (c_1.Try == 0) then (command_May.j2 n (!c_1.Ok)) else (command_May.j2 n false)) else (command_May.j2 n false)) else (command_May.j2 n false)) else (command_May.j2 n false))) else (if (c_1.Kind == 4) then (if ((c_1.Steps.length : Int) == 0) then (if decide (c_1.Step ≥ 0) then (if decide (c_1.Step < 64) then (if decide (c_1.Try ≥ 0) then (if decide (c_1.Try < 9) then (if (c_1.Session == 0) then (command_May.j3 n (c_1.Seq == 0)) else (command_May.j3 n false)) else (command_May.j3 n false)) else (command_May.j3 n false)) else (command_May.j3 n false)) else (command_May.j3 n false)) else (command_May.j3 n false)) else (some false))))
def command_May.f (n : Nat) (c_1 : T_api_Command) : Option Bool :=
  (if (c_1.Kind == 1) then (command_May.j0 n c_1 (c_1.Kind == 1)) else (if (c_1.Kind == 3) then (command_May.j0 n c_1 (c_1.Kind == 3)) else (command_May.j0 n c_1 (c_1.Kind == 5))))
def pack_Writer_Num.l1 (n : Nat) (x_5 : Int) : Nat → (List UInt8) → Int → Option T_pack_Writer
  | 0, _, _ => none
  | k + 1, f_14, i_17 => (if decide (i_17 ≥ 0) then (if (0 : Int) ≤ (wi64 (8 * i_17)) then (if capOk 1 (f_14 ++ [u8of (shR .u64 x_5 (wi64 (8 * i_17)))]).length then ((pack_Writer_Num.l1 n x_5 k) (f_14 ++ [u8of (shR .u64 x_5 (wi64 (8 * i_17)))]) (wi64 (i_17 - 1))) else none) else none) else (some (⟨f_14⟩ : T_pack_Writer)))
def pack_Writer_Num.l0 (n : Nat) (w_1 : T_pack_Writer) (x_5 : Int) : Nat → Int → Int → Option T_pack_Writer
  | 0, _, _ => none
  | k + 1, n_6, y_7 => (if decide (y_7 > 0) then ((pack_Writer_Num.l0 n w_1 x_5 k) (wi64 (n_6 + 1)) (shR .u64 y_7 8)) else (if capOk 1 (w_1.b ++ [u8of n_6]).length then (pack_Writer_Num.l1 n x_5 n (w_1.b ++ [u8of n_6]) (wi64 (n_6 - 1))) else none))
def pack_Writer_Num.f (n : Nat) (w_1 : T_pack_Writer) (x_5 : Int) : Option T_pack_Writer :=
  (pack_Writer_Num.l0 n w_1 x_5 n 0 x_5)
def pack_Writer_Text.f (n : Nat) (w_1 : T_pack_Writer) (s_5 : (List UInt8)) : Option T_pack_Writer :=
  ((pack_Writer_Num.f n w_1 (wu64 (s_5.length : Int))).bind fun r_6 => (if capOk 1 (r_6.b ++ s_5).length then (some (⟨r_6.b ++ s_5⟩ : T_pack_Writer)) else none))
def plan_Write.l0 (n : Nat) (l_5 : (List T_api_Step)) : Nat → (List UInt8) → Int → Option T_pack_Writer
  | 0, _, _ => none
  | k + 1, f_11, x_14 => (if decide (x_14 < (l_5.length : Int)) then (if (0 : Int) ≤ x_14 ∧ x_14 < (l_5.length : Int) then ((pack_Writer_Num.f n (⟨f_11⟩ : T_pack_Writer) (wu64 ((rdL l_5 x_14).Part))).bind fun r_18 => ((pack_Writer_Text.f n r_18 ((rdL l_5 x_14).Name)).bind fun r_21 => ((pack_Writer_Num.f n r_21 (wu64 ((rdL l_5 x_14).Budget))).bind fun r_24 => ((plan_Write.l0 n l_5 k) r_24.b (wi64 (x_14 + 1)))))) else none) else (some (⟨f_11⟩ : T_pack_Writer)))
def plan_Write.f (n : Nat) (w_1 : T_pack_Writer) (l_5 : (List T_api_Step)) : Option T_pack_Writer :=
  ((pack_Writer_Num.f n w_1 (wu64 (l_5.length : Int))).bind fun r_8 => (plan_Write.l0 n l_5 n r_8.b 0))
def pack_Writer_Bool.f (n : Nat) (w_1 : T_pack_Writer) (x_5 : Bool) : Option T_pack_Writer :=
  (if x_5 then ((pack_Writer_Num.f n w_1 1).bind fun r_7 => (some r_7)) else ((pack_Writer_Num.f n w_1 0).bind fun r_11 => (some r_11)))
def pack_Writer_Bytes.f (n : Nat) (w_1 : T_pack_Writer) : Option (List UInt8) :=
  (some w_1.b)
def command_Encode.j1 (n : Nat) (f_44 : (List UInt8)) : Option ((List UInt8) × Int) :=
  ((pack_Writer_Bytes.f n (⟨f_44⟩ : T_pack_Writer)).bind fun r_47 => (some (r_47, 0)))
def command_Encode.j0 (n : Nat) (c_1 : T_api_Command) (b_7 : Bool) : Option ((List UInt8) × Int) :=
  (if b_7 then (some ([], 44)) else ((command_May.f n c_1).bind fun r_9 => (if (!r_9) then (some ([], 1)) else ((pack_Writer_Num.f n (⟨[]⟩ : T_pack_Writer) (wu64 c_1.Kind)).bind fun r_12 => ((pack_Writer_Num.f n r_12 c_1.Session).bind fun r_15 => ((pack_Writer_Num.f n r_15 c_1.Seq).bind fun r_18 => ((pack_Writer_Num.f n r_18 c_1.Saga).bind fun r_21 => ((pack_Writer_Num.f n r_21 c_1.Now).bind fun r_24 => (if (c_1.Kind == 2) then ((plan_Write.f n r_24 c_1.Steps).bind fun r_28 => (command_Encode.j1 n r_28.b)) else (if (c_1.Kind == 4) then ((pack_Writer_Num.f n r_24 (wu64 c_1.Step)).bind fun r_33 => ((pack_Writer_Bool.f n r_33 c_1.Back).bind fun r_36 => ((pack_Writer_Num.f n r_36 (wu64 c_1.Try)).bind fun r_39 => ((pack_Writer_Bool.f n r_39 c_1.Ok).bind fun r_42 => (command_Encode.j1 n r_42.b))))) else (command_Encode.j1 n r_24.b)))))))))))
def command_Encode.f (n : Nat) (c_1 : T_api_Command) : Option ((List UInt8) × Int) :=
  (if (c_1.Kind == 2) then ((plan_Check.f n c_1.Steps).bind fun r_6 => (command_Encode.j0 n c_1 (r_6 != 0))) else (command_Encode.j0 n c_1 false))
def client_Client_letter.f (n : Nat) (c_1 : T_client_Client) : Option T_api_Letter :=
  (some (⟨8, wi64 (200 + c_1.id), c_1.to_, 0, c_1.call, 0, 0, false, [], c_1.data⟩ : T_api_Letter))
def client_Client_Call.j1 (n : Nat) (c_1 : T_client_Client) (x_5 : T_api_Command) (f_15 : Int) (f_16 : Int) : Option (T_api_Letter × Int × T_client_Client) :=
  (if (x_5.Kind == 4) then (some ((⟨0, 0, 0, 0, 0, 0, 0, false, [], []⟩ : T_api_Letter), 1, (⟨c_1.id, c_1.session, c_1.seq, c_1.call, c_1.busy, (⟨c_1.now.Kind, c_1.now.Session, c_1.now.Seq, c_1.now.Saga, c_1.now.Steps, c_1.now.Step, c_1.now.Back, c_1.now.Try, c_1.now.Ok, c_1.now.Now⟩ : T_api_Command), c_1.data, c_1.to_⟩ : T_client_Client))) else ((command_Encode.f n (⟨x_5.Kind, f_15, f_16, x_5.Saga, x_5.Steps, x_5.Step, x_5.Back, x_5.Try, x_5.Ok, 0⟩ : T_api_Command)).bind fun r_18 => (if (r_18.2 != 0) then (some ((⟨0, 0, 0, 0, 0, 0, 0, false, [], []⟩ : T_api_Letter), r_18.2, (⟨c_1.id, c_1.session, c_1.seq, c_1.call, c_1.busy, (⟨c_1.now.Kind, c_1.now.Session, c_1.now.Seq, c_1.now.Saga, c_1.now.Steps, c_1.now.Step, c_1.now.Back, c_1.now.Try, c_1.now.Ok, c_1.now.Now⟩ : T_api_Command), c_1.data, c_1.to_⟩ : T_client_Client))) else ((client_Client_letter.f n (⟨c_1.id, c_1.session, c_1.seq, wu64 (c_1.call + 1), true, (⟨x_5.Kind, f_15, f_16, x_5.Saga, x_5.Steps, x_5.Step, x_5.Back, x_5.Try, x_5.Ok, 0⟩ : T_api_Command), r_18.1, c_1.to_⟩ : T_client_Client)).bind fun r_20 => (some (r_20, 0, (⟨c_1.id, c_1.session, c_1.seq, wu64 (c_1.call + 1), true, (⟨x_5.Kind, f_15, f_16, x_5.Saga, x_5.Steps, x_5.Step, x_5.Back, x_5.Try, x_5.Ok, 0⟩ : T_api_Command), r_18.1, c_1.to_⟩ : T_client_Client)))))))
def client_Client_Call.j0 (n : Nat) (c_1 : T_client_Client) (x_5 : T_api_Command) (b_12 : Bool) : Option (T_api_Letter × Int × T_client_Client) :=
  (if b_12 then (some ((⟨0, 0, 0, 0, 0, 0, 0, false, [], []⟩ : T_api_Letter), 40, (⟨c_1.id, c_1.session, c_1.seq, c_1.call, c_1.busy, (⟨c_1.now.Kind, c_1.now.Session, c_1.now.Seq, c_1.now.Saga, c_1.now.Steps, c_1.now.Step, c_1.now.Back, c_1.now.Try, c_1.now.Ok, c_1.now.Now⟩ : T_api_Command), c_1.data, c_1.to_⟩ : T_client_Client))) else (if (x_5.Kind != 1) then (client_Client_Call.j1 n c_1 x_5 c_1.session (wu64 (c_1.seq + 1))) else (client_Client_Call.j1 n c_1 x_5 0 0)))
def client_Client_Call.f (n : Nat) (c_1 : T_client_Client) (x_5 : T_api_Command) : Option (T_api_Letter × Int × T_client_Client) :=
  (if c_1.busy then (some ((⟨0, 0, 0, 0, 0, 0, 0, false, [], []⟩ : T_api_Letter), 31, (⟨c_1.id, c_1.session, c_1.seq, c_1.call, c_1.busy, (⟨c_1.now.Kind, c_1.now.Session, c_1.now.Seq, c_1.now.Saga, c_1.now.Steps, c_1.now.Step, c_1.now.Back, c_1.now.Try, c_1.now.Ok, c_1.now.Now⟩ : T_api_Command), c_1.data, c_1.to_⟩ : T_client_Client))) else (if (x_5.Kind != 1) then (client_Client_Call.j0 n c_1 x_5 (c_1.session == 0)) else (client_Client_Call.j0 n c_1 x_5 false)))
def tontineref03_Num.l0 (n : Nat) : Nat → Int → (List UInt8) → Int → Option (List UInt8)
  | 0, _, _, _ => none
  | k + 1, x_2, s_3, n_4 => (if decide (x_2 > 0) then (if ([u8of (x_2.tmod 256)] : List UInt8).length + s_3.length ≤ i64max then ((tontineref03_Num.l0 n k) (wu64 (x_2.tdiv 256)) ([u8of (x_2.tmod 256)] ++ s_3) (wi64 (n_4 + 1))) else none) else (if ([u8of n_4] : List UInt8).length + s_3.length ≤ i64max then (some ([u8of n_4] ++ s_3)) else none))
def tontineref03_Num.f (n : Nat) (x_1 : Int) : Option (List UInt8) :=
  (tontineref03_Num.l0 n n x_1 [] 0)
def tontineref16_nums.l0 (n : Nat) (l_1 : (List Int)) : Nat → (List UInt8) → Int → Option (List UInt8)
  | 0, _, _ => none
  | k + 1, s_4, i_5 => (if decide (i_5 < (l_1.length : Int)) then (if (0 : Int) ≤ i_5 ∧ i_5 < (l_1.length : Int) then ((tontineref03_Num.f n (rdL l_1 i_5)).bind fun r_8 => (if s_4.length + r_8.length ≤ i64max then ((tontineref16_nums.l0 n l_1 k) (s_4 ++ r_8) (wi64 (i_5 + 1))) else none)) else none) else (some s_4))
def tontineref16_nums.f (n : Nat) (l_1 : (List Int)) : Option (List UInt8) :=
  (tontineref16_nums.l0 n l_1 n [] 0)
def tontineref16_Answer.f (n : Nat) (y_1 : T_api_Reply) : Option (List UInt8) :=
  ((tontineref16_nums.f n [wu64 (if y_1.Err > 0 then y_1.Err else 0), y_1.Num, y_1.Extra]).bind fun r_5 => (some r_5))
def pack_From.f (n : Nat) (s_1 : (List UInt8)) : Option T_pack_Reader :=
  (some (⟨s_1, false⟩ : T_pack_Reader))
def pack_Reader_fail.f (n : Nat) (r_1 : T_pack_Reader) : Option (Int × T_pack_Reader) :=
  (some (0, (⟨[], true⟩ : T_pack_Reader)))
def pack_Reader_Num.l0 (n : Nat) (r_1 : T_pack_Reader) : Nat → Int → Int → Option (Int × T_pack_Reader)
  | 0, _, _ => none
  | k + 1, x_15, i_16 => (if decide (i_16 ≤ (wi64 ((rdB r_1.s 0).toNat : Int))) then (if (0 : Int) ≤ i_16 ∧ i_16 < (r_1.s.length : Int) then ((pack_Reader_Num.l0 n r_1 k) (bOr .u64 (shL .u64 x_15 8) (wu64 ((rdB r_1.s i_16).toNat : Int))) (wi64 (i_16 + 1))) else none) else (if (0 : Int) ≤ (wi64 ((wi64 ((rdB r_1.s 0).toNat : Int)) + 1)) ∧ (wi64 ((wi64 ((rdB r_1.s 0).toNat : Int)) + 1)) ≤ (r_1.s.length : Int) then (some (x_15, (⟨r_1.s.drop (wi64 ((wi64 ((rdB r_1.s 0).toNat : Int)) + 1)).toNat, r_1.bad⟩ : T_pack_Reader))) else none))
def pack_Reader_Num.j0 (n : Nat) (r_1 : T_pack_Reader) (b_11 : Bool) : Option (Int × T_pack_Reader) :=
  (if b_11 then ((pack_Reader_fail.f n r_1).bind fun r_13 => (some (r_13.1, r_13.2))) else (pack_Reader_Num.l0 n r_1 n 0 1))
def pack_Reader_Num.f (n : Nat) (r_1 : T_pack_Reader) : Option (Int × T_pack_Reader) :=
  (if (r_1.s == ([] : List UInt8)) then ((pack_Reader_fail.f n r_1).bind fun r_4 => (some (r_4.1, r_4.2))) else (if (0 : Int) ≤ 0 ∧ 0 < (r_1.s.length : Int) then (if decide ((wi64 ((rdB r_1.s 0).toNat : Int)) > 8) then (pack_Reader_Num.j0 n r_1 true) else (if decide ((wi64 ((rdB r_1.s 0).toNat : Int)) > (wi64 ((r_1.s.length : Int) - 1))) then (pack_Reader_Num.j0 n r_1 true) else (if decide ((wi64 ((rdB r_1.s 0).toNat : Int)) > 0) then (if (0 : Int) ≤ 1 ∧ 1 < (r_1.s.length : Int) then (pack_Reader_Num.j0 n r_1 (((rdB r_1.s 1).toNat : Int) == 0)) else none) else (pack_Reader_Num.j0 n r_1 false)))) else none))
def pack_Reader_Up.j0 (n : Nat) (r_4 : Int × T_pack_Reader) (b_6 : Bool) : Option (Int × T_pack_Reader) :=
  (if b_6 then ((pack_Reader_fail.f n r_4.2).bind fun r_8 => (some (wi64 r_8.1, r_8.2))) else (some (wi64 r_4.1, r_4.2)))
def pack_Reader_Up.f (n : Nat) (r_1 : T_pack_Reader) (limit_3 : Int) : Option (Int × T_pack_Reader) :=
  ((pack_Reader_Num.f n r_1).bind fun r_4 => (if decide (limit_3 < 0) then (pack_Reader_Up.j0 n r_4 true) else (pack_Reader_Up.j0 n r_4 (decide (r_4.1 > (wu64 limit_3))))))
def pack_Reader_Left.f (n : Nat) (r_1 : T_pack_Reader) : Option (Int × Bool) :=
  (some ((r_1.s.length : Int), (!r_1.bad)))
def pack_Reader_Done.f (n : Nat) (r_1 : T_pack_Reader) : Option Bool :=
  ((pack_Reader_Left.f n r_1).bind fun r_3 => (if (r_3.1 == 0) then (some r_3.2) else (some false)))
def command_Said.f (n : Nat) (s_1 : (List UInt8)) : Option (T_api_Reply × Int) :=
  ((pack_From.f n s_1).bind fun r_3 => ((pack_Reader_Up.f n r_3 52).bind fun r_5 => ((pack_Reader_Num.f n r_5.2).bind fun r_7 => ((pack_Reader_Num.f n r_7.2).bind fun r_8 => ((pack_Reader_Done.f n r_8.2).bind fun r_9 => (if (!r_9) then (some ((⟨0, 0, 0⟩ : T_api_Reply), 2)) else (some ((⟨r_5.1, r_7.1, r_8.1⟩ : T_api_Reply), 0))))))))
def client_Client_Hear.j2 (n : Nat) (c_1 : T_client_Client) (x_5 : T_api_Letter) (b_25 : Bool) : Option (T_api_Told × Bool × T_api_Letter × Bool × T_client_Client) :=
  (if b_25 then ((client_Client_letter.f n (⟨c_1.id, c_1.session, c_1.seq, c_1.call, c_1.busy, (⟨c_1.now.Kind, c_1.now.Session, c_1.now.Seq, c_1.now.Saga, c_1.now.Steps, c_1.now.Step, c_1.now.Back, c_1.now.Try, c_1.now.Ok, c_1.now.Now⟩ : T_api_Command), c_1.data, wi64 (wu64 (x_5.Commit - 1))⟩ : T_client_Client)).bind fun r_27 => (some ((⟨0, (⟨0, 0, 0, 0, [], 0, false, 0, false, 0⟩ : T_api_Command), (⟨0, 0, 0⟩ : T_api_Reply)⟩ : T_api_Told), false, r_27, true, (⟨c_1.id, c_1.session, c_1.seq, c_1.call, c_1.busy, (⟨c_1.now.Kind, c_1.now.Session, c_1.now.Seq, c_1.now.Saga, c_1.now.Steps, c_1.now.Step, c_1.now.Back, c_1.now.Try, c_1.now.Ok, c_1.now.Now⟩ : T_api_Command), c_1.data, wi64 (wu64 (x_5.Commit - 1))⟩ : T_client_Client)))) else (some ((⟨0, (⟨0, 0, 0, 0, [], 0, false, 0, false, 0⟩ : T_api_Command), (⟨0, 0, 0⟩ : T_api_Reply)⟩ : T_api_Told), false, (⟨0, 0, 0, 0, 0, 0, 0, false, [], []⟩ : T_api_Letter), false, (⟨c_1.id, c_1.session, c_1.seq, c_1.call, c_1.busy, (⟨c_1.now.Kind, c_1.now.Session, c_1.now.Seq, c_1.now.Saga, c_1.now.Steps, c_1.now.Step, c_1.now.Back, c_1.now.Try, c_1.now.Ok, c_1.now.Now⟩ : T_api_Command), c_1.data, c_1.to_⟩ : T_client_Client))))
def client_Client_Hear.j3 (n : Nat) (c_1 : T_client_Client) (r_17 : T_api_Reply × Int) (f_34 : Int) (f_35 : Int) : Option (T_api_Told × Bool × T_api_Letter × Bool × T_client_Client) :=
  (some ((⟨c_1.id, (⟨c_1.now.Kind, c_1.now.Session, c_1.now.Seq, c_1.now.Saga, c_1.now.Steps, c_1.now.Step, c_1.now.Back, c_1.now.Try, c_1.now.Ok, c_1.now.Now⟩ : T_api_Command), r_17.1⟩ : T_api_Told), true, (⟨0, 0, 0, 0, 0, 0, 0, false, [], []⟩ : T_api_Letter), false, (⟨c_1.id, f_34, f_35, c_1.call, false, (⟨c_1.now.Kind, c_1.now.Session, c_1.now.Seq, c_1.now.Saga, c_1.now.Steps, c_1.now.Step, c_1.now.Back, c_1.now.Try, c_1.now.Ok, c_1.now.Now⟩ : T_api_Command), c_1.data, c_1.to_⟩ : T_client_Client)))
def client_Client_Hear.j1 (n : Nat) (c_1 : T_client_Client) (x_5 : T_api_Letter) (r_17 : T_api_Reply × Int) (b_21 : Bool) : Option (T_api_Told × Bool × T_api_Letter × Bool × T_client_Client) :=
  (if b_21 then (if decide (x_5.Commit ≥ 1) then (if decide (x_5.Commit ≤ 7) then (client_Client_Hear.j2 n c_1 x_5 ((wi64 (wu64 (x_5.Commit - 1))) != c_1.to_)) else (client_Client_Hear.j2 n c_1 x_5 false)) else (client_Client_Hear.j2 n c_1 x_5 false)) else (if (c_1.now.Kind == 1) then (if (r_17.1.Err == 0) then (client_Client_Hear.j3 n c_1 r_17 r_17.1.Num 0) else (client_Client_Hear.j3 n c_1 r_17 c_1.session c_1.seq)) else (if (r_17.1.Err == 40) then (client_Client_Hear.j3 n c_1 r_17 0 0) else (client_Client_Hear.j3 n c_1 r_17 c_1.session (wu64 (c_1.seq + 1))))))
def client_Client_Hear.j0 (n : Nat) (c_1 : T_client_Client) (x_5 : T_api_Letter) (b_15 : Bool) : Option (T_api_Told × Bool × T_api_Letter × Bool × T_client_Client) :=
  (if b_15 then (some ((⟨0, (⟨0, 0, 0, 0, [], 0, false, 0, false, 0⟩ : T_api_Command), (⟨0, 0, 0⟩ : T_api_Reply)⟩ : T_api_Told), false, (⟨0, 0, 0, 0, 0, 0, 0, false, [], []⟩ : T_api_Letter), false, (⟨c_1.id, c_1.session, c_1.seq, c_1.call, c_1.busy, (⟨c_1.now.Kind, c_1.now.Session, c_1.now.Seq, c_1.now.Saga, c_1.now.Steps, c_1.now.Step, c_1.now.Back, c_1.now.Try, c_1.now.Ok, c_1.now.Now⟩ : T_api_Command), c_1.data, c_1.to_⟩ : T_client_Client))) else ((command_Said.f n x_5.Data).bind fun r_17 => (if (r_17.2 != 0) then (some ((⟨0, (⟨0, 0, 0, 0, [], 0, false, 0, false, 0⟩ : T_api_Command), (⟨0, 0, 0⟩ : T_api_Reply)⟩ : T_api_Told), false, (⟨0, 0, 0, 0, 0, 0, 0, false, [], []⟩ : T_api_Letter), false, (⟨c_1.id, c_1.session, c_1.seq, c_1.call, c_1.busy, (⟨c_1.now.Kind, c_1.now.Session, c_1.now.Seq, c_1.now.Saga, c_1.now.Steps, c_1.now.Step, c_1.now.Back, c_1.now.Try, c_1.now.Ok, c_1.now.Now⟩ : T_api_Command), c_1.data, c_1.to_⟩ : T_client_Client))) else (if (r_17.1.Err == 30) then (client_Client_Hear.j1 n c_1 x_5 r_17 true) else (client_Client_Hear.j1 n c_1 x_5 r_17 (r_17.1.Err == 31))))))
def client_Client_Hear.f (n : Nat) (c_1 : T_client_Client) (x_5 : T_api_Letter) : Option (T_api_Told × Bool × T_api_Letter × Bool × T_client_Client) :=
  (if (!c_1.busy) then (client_Client_Hear.j0 n c_1 x_5 true) else (if (x_5.Kind != 9) then (client_Client_Hear.j0 n c_1 x_5 true) else (if (x_5.To != (wi64 (200 + c_1.id))) then (client_Client_Hear.j0 n c_1 x_5 true) else (client_Client_Hear.j0 n c_1 x_5 (x_5.Index != c_1.call)))))
def client_Client_Status.f (n : Nat) (c_1 : T_client_Client) : Option (Int × Int × Bool) :=
  (some (c_1.session, c_1.seq, c_1.busy))
def tontinelaw21_begun.j4 (n : Nat) (r_13 : T_api_Told × Bool × T_api_Letter × Bool × T_client_Client) (r_22 : Int × Int × Bool) (b_32 : Bool) : Option Bool :=
  (if b_32 then (if (r_13.1.Reply.Num == 4) then (if (r_22.1 == 4) then (if (r_22.2.1 == 0) then (some (!r_22.2.2)) else (some false)) else (some false)) else (some false)) else (some false))
def tontinelaw21_begun.j3 (n : Nat) (r_13 : T_api_Told × Bool × T_api_Letter × Bool × T_client_Client) (r_22 : Int × Int × Bool) (b_30 : Bool) : Option Bool :=
  (if b_30 then (tontinelaw21_begun.j4 n r_13 r_22 (!r_13.2.2.2.1)) else (tontinelaw21_begun.j4 n r_13 r_22 false))
def tontinelaw21_begun.j2 (n : Nat) (r_13 : T_api_Told × Bool × T_api_Letter × Bool × T_client_Client) (r_22 : Int × Int × Bool) (b_28 : Bool) : Option Bool :=
  (if b_28 then (tontinelaw21_begun.j3 n r_13 r_22 r_13.2.1) else (tontinelaw21_begun.j3 n r_13 r_22 false))
def tontinelaw21_begun.j1 (n : Nat) (r_6 : T_api_Letter × Int × T_client_Client) (r_13 : T_api_Told × Bool × T_api_Letter × Bool × T_client_Client) (r_22 : Int × Int × Bool) (b_26 : Bool) : Option Bool :=
  (if b_26 then (tontinelaw21_begun.j2 n r_13 r_22 (r_6.1.Index == 1)) else (tontinelaw21_begun.j2 n r_13 r_22 false))
def tontinelaw21_begun.j0 (n : Nat) (r_6 : T_api_Letter × Int × T_client_Client) (r_13 : T_api_Told × Bool × T_api_Letter × Bool × T_client_Client) (r_22 : Int × Int × Bool) (b_24 : Bool) : Option Bool :=
  (if b_24 then (tontinelaw21_begun.j1 n r_6 r_13 r_22 (r_6.1.From == 201)) else (tontinelaw21_begun.j1 n r_6 r_13 r_22 false))
def tontinelaw21_begun.f (n : Nat) : Option Bool :=
  ((client_New.f n 1).bind fun r_1 => (match r_1.1 with | none => none | some o_5 => ((client_Client_Call.f n (⟨o_5.id, o_5.session, o_5.seq, o_5.call, o_5.busy, (⟨o_5.now.Kind, o_5.now.Session, o_5.now.Seq, o_5.now.Saga, o_5.now.Steps, o_5.now.Step, o_5.now.Back, o_5.now.Try, o_5.now.Ok, o_5.now.Now⟩ : T_api_Command), o_5.data, o_5.to_⟩ : T_client_Client) (⟨1, 0, 0, 0, [], 0, false, 0, false, 0⟩ : T_api_Command)).bind fun r_6 => ((tontineref16_Answer.f n (⟨0, 4, 0⟩ : T_api_Reply)).bind fun r_12 => ((client_Client_Hear.f n (⟨r_6.2.2.id, r_6.2.2.session, r_6.2.2.seq, r_6.2.2.call, r_6.2.2.busy, (⟨r_6.2.2.now.Kind, r_6.2.2.now.Session, r_6.2.2.now.Seq, r_6.2.2.now.Saga, r_6.2.2.now.Steps, r_6.2.2.now.Step, r_6.2.2.now.Back, r_6.2.2.now.Try, r_6.2.2.now.Ok, r_6.2.2.now.Now⟩ : T_api_Command), r_6.2.2.data, r_6.2.2.to_⟩ : T_client_Client) (⟨9, 0, 201, 0, 1, 0, 0, false, [], r_12⟩ : T_api_Letter)).bind fun r_13 => ((client_Client_Status.f n (⟨r_13.2.2.2.2.id, r_13.2.2.2.2.session, r_13.2.2.2.2.seq, r_13.2.2.2.2.call, r_13.2.2.2.2.busy, (⟨r_13.2.2.2.2.now.Kind, r_13.2.2.2.2.now.Session, r_13.2.2.2.2.now.Seq, r_13.2.2.2.2.now.Saga, r_13.2.2.2.2.now.Steps, r_13.2.2.2.2.now.Step, r_13.2.2.2.2.now.Back, r_13.2.2.2.2.now.Try, r_13.2.2.2.2.now.Ok, r_13.2.2.2.2.now.Now⟩ : T_api_Command), r_13.2.2.2.2.data, r_13.2.2.2.2.to_⟩ : T_client_Client)).bind fun r_22 => (if (r_1.2 == 0) then (tontinelaw21_begun.j0 n r_6 r_13 r_22 (r_6.2.1 == 0)) else (tontinelaw21_begun.j0 n r_6 r_13 r_22 false))))))))
def client_Client_Again.f (n : Nat) (c_1 : T_client_Client) : Option (T_api_Letter × Int × T_client_Client) :=
  (if (!c_1.busy) then (some ((⟨0, 0, 0, 0, 0, 0, 0, false, [], []⟩ : T_api_Letter), 1, (⟨c_1.id, c_1.session, c_1.seq, c_1.call, c_1.busy, (⟨c_1.now.Kind, c_1.now.Session, c_1.now.Seq, c_1.now.Saga, c_1.now.Steps, c_1.now.Step, c_1.now.Back, c_1.now.Try, c_1.now.Ok, c_1.now.Now⟩ : T_api_Command), c_1.data, c_1.to_⟩ : T_client_Client))) else ((client_Client_letter.f n (⟨c_1.id, c_1.session, c_1.seq, c_1.call, c_1.busy, (⟨c_1.now.Kind, c_1.now.Session, c_1.now.Seq, c_1.now.Saga, c_1.now.Steps, c_1.now.Step, c_1.now.Back, c_1.now.Try, c_1.now.Ok, c_1.now.Now⟩ : T_api_Command), c_1.data, (wi64 (c_1.to_ + 1)).tmod 7⟩ : T_client_Client)).bind fun r_7 => (some (r_7, 0, (⟨c_1.id, c_1.session, c_1.seq, c_1.call, c_1.busy, (⟨c_1.now.Kind, c_1.now.Session, c_1.now.Seq, c_1.now.Saga, c_1.now.Steps, c_1.now.Step, c_1.now.Back, c_1.now.Try, c_1.now.Ok, c_1.now.Now⟩ : T_api_Command), c_1.data, (wi64 (c_1.to_ + 1)).tmod 7⟩ : T_client_Client)))))
def tontinelaw21_light.l0 (n : Nat) (calls_1 : (List T_tontinelaw21_Call)) : Nat → Int → Int → Option Bool
  | 0, _, _ => none
  | k + 1, n_4, x_5 => (if decide (x_5 < (calls_1.length : Int)) then (if (0 : Int) ≤ x_5 ∧ x_5 < (calls_1.length : Int) then ((tontinelaw21_light.l0 n calls_1 k) (wi64 (n_4 + (wi64 ((((rdL calls_1 x_5).Command.Steps).length : Int) + (wi64 ((((rdL calls_1 x_5).Letter.Data).length : Int).tdiv 50)))))) (wi64 (x_5 + 1))) else none) else (some (decide (n_4 ≤ 2000))))
def tontinelaw21_light.f (n : Nat) (calls_1 : (List T_tontinelaw21_Call)) : Option Bool :=
  (tontinelaw21_light.l0 n calls_1 n (calls_1.length : Int) 0)
def tontineref13_Check.j2 (n : Nat) (L0 : Bool → Int → Option Int) (i_7 : Int) (bad_18 : Bool) : Option Int :=
  (L0 bad_18 (wi64 (i_7 + 1)))
def tontineref13_Check.j1 (n : Nat) (L0 : Bool → Int → Option Int) (l_1 : (List T_api_Step)) (bad_6 : Bool) (i_7 : Int) (b_9 : Bool) : Option Int :=
  (if b_9 then (if (0 : Int) ≤ i_7 ∧ i_7 < (l_1.length : Int) then (if decide (((rdL l_1 i_7).Part) < 0) then (tontineref13_Check.j2 n L0 i_7 true) else (if decide (((rdL l_1 i_7).Part) > 3) then (tontineref13_Check.j2 n L0 i_7 true) else (if decide ((((rdL l_1 i_7).Name).length : Int) < 1) then (tontineref13_Check.j2 n L0 i_7 true) else (if decide ((((rdL l_1 i_7).Name).length : Int) > 16) then (tontineref13_Check.j2 n L0 i_7 true) else (if decide (((rdL l_1 i_7).Budget) < 1) then (tontineref13_Check.j2 n L0 i_7 true) else (tontineref13_Check.j2 n L0 i_7 (decide (((rdL l_1 i_7).Budget) > 9)))))))) else none) else (if bad_6 then (some 44) else (some 0)))
def tontineref13_Check.l0 (n : Nat) (l_1 : (List T_api_Step)) : Nat → Bool → Int → Option Int
  | 0, _, _ => none
  | k + 1, bad_6, i_7 => (if decide (i_7 < (l_1.length : Int)) then (tontineref13_Check.j1 n (tontineref13_Check.l0 n l_1 k) l_1 bad_6 i_7 (!bad_6)) else (tontineref13_Check.j1 n (tontineref13_Check.l0 n l_1 k) l_1 bad_6 i_7 false))
def tontineref13_Check.j0 (n : Nat) (l_1 : (List T_api_Step)) (bad_5 : Bool) : Option Int :=
  (tontineref13_Check.l0 n l_1 n bad_5 0)
def tontineref13_Check.f (n : Nat) (l_1 : (List T_api_Step)) : Option Int :=
  (if ((l_1.length : Int) == 0) then (tontineref13_Check.j0 n l_1 true) else (tontineref13_Check.j0 n l_1 (decide ((l_1.length : Int) > 64))))
def tontineref16_bare.f (n : Nat) (c_1 : T_api_Command) : Option Bool :=
  (if (c_1.Step == 0) then (if (!c_1.Back) then (if (c_1.Try == 0) then (some (!c_1.Ok)) else (some false)) else (some false)) else (some false))
def tontineref16_May.j1 (n : Nat) (b_25 : Bool) : Option Bool :=
  (some b_25)
def tontineref16_May.j0 (n : Nat) (c_1 : T_api_Command) (b_7 : Bool) : Option Bool :=
  (if b_7 then (if ((c_1.Steps.length : Int) == 0) then ((tontineref16_bare.f n c_1).bind fun r_10 => (some r_10)) else (some false)) else (if (c_1.Kind == 2) then ((tontineref13_Check.f n c_1.Steps).bind fun r_13 => (if (r_13 == 0) then ((tontineref16_bare.f n c_1).bind fun r_15 => (some r_15)) else (some false))) else (if (c_1.Kind == 4) then (if ((c_1.Steps.length : Int) == 0) then (if decide (c_1.Step ≥ 0) then (if decide (c_1.Step ≤ 63) then (if decide (c_1.Try ≥ 0) then (if decide (c_1.Try ≤ 8) then (if (c_1.Session == 0) then (tontineref16_May.j1 n (c_1.Seq == 0)) else (tontineref16_May.j1 n false)) else (tontineref16_May.j1 n false)) else (tontineref16_May.j1 n false)) else (tontineref16_May.j1 n false)) else (tontineref16_May.j1 n false)) else (tontineref16_May.j1 n false)) else (some false))))
def tontineref16_May.f (n : Nat) (c_1 : T_api_Command) : Option Bool :=
  (if (c_1.Kind == 1) then (tontineref16_May.j0 n c_1 (c_1.Kind == 1)) else (if (c_1.Kind == 3) then (tontineref16_May.j0 n c_1 (c_1.Kind == 3)) else (tontineref16_May.j0 n c_1 (c_1.Kind == 5))))
def tontineref03_Text.f (n : Nat) (s_1 : (List UInt8)) : Option (List UInt8) :=
  ((tontineref03_Num.f n (wu64 (s_1.length : Int))).bind fun r_2 => (if r_2.length + s_1.length ≤ i64max then (some (r_2 ++ s_1)) else none))
def tontineref13_Bytes.l0 (n : Nat) (l_1 : (List T_api_Step)) : Nat → (List UInt8) → Int → Option (List UInt8)
  | 0, _, _ => none
  | k + 1, s_5, i_6 => (if decide (i_6 < (l_1.length : Int)) then (if (0 : Int) ≤ i_6 ∧ i_6 < (l_1.length : Int) then (if (0 : Int) ≤ i_6 ∧ i_6 < (l_1.length : Int) then (if (0 : Int) ≤ i_6 ∧ i_6 < (l_1.length : Int) then ((tontineref03_Num.f n (wu64 ((rdL l_1 i_6).Part))).bind fun r_11 => ((tontineref03_Text.f n ((rdL l_1 i_6).Name)).bind fun r_12 => (if r_11.length + r_12.length ≤ i64max then ((tontineref03_Num.f n (wu64 ((rdL l_1 i_6).Budget))).bind fun r_14 => (if (r_11 ++ r_12).length + r_14.length ≤ i64max then (if s_5.length + ((r_11 ++ r_12) ++ r_14).length ≤ i64max then ((tontineref13_Bytes.l0 n l_1 k) (s_5 ++ ((r_11 ++ r_12) ++ r_14)) (wi64 (i_6 + 1))) else none) else none)) else none))) else none) else none) else none) else (some s_5))
def tontineref13_Bytes.f (n : Nat) (l_1 : (List T_api_Step)) : Option (List UInt8) :=
  ((tontineref03_Num.f n (wu64 (l_1.length : Int))).bind fun r_4 => (tontineref13_Bytes.l0 n l_1 n r_4 0))
def tontineref16_truth.f (n : Nat) (x_1 : Bool) : Option Int :=
  (if x_1 then (some 1) else (some 0))
def tontineref16_Encode.j1 (n : Nat) (c_1 : T_api_Command) (s_17 : (List UInt8)) : Option ((List UInt8) × Int) :=
  (if (c_1.Kind == 4) then ((tontineref16_truth.f n c_1.Back).bind fun r_19 => ((tontineref16_truth.f n c_1.Ok).bind fun r_20 => ((tontineref16_nums.f n [wu64 c_1.Step, r_19, wu64 c_1.Try, r_20]).bind fun r_23 => (if s_17.length + r_23.length ≤ i64max then (some (s_17 ++ r_23, 0)) else none)))) else (some (s_17, 0)))
def tontineref16_Encode.j0 (n : Nat) (c_1 : T_api_Command) (b_7 : Bool) : Option ((List UInt8) × Int) :=
  (if b_7 then (some ([], 44)) else ((tontineref16_May.f n c_1).bind fun r_9 => (if (!r_9) then (some ([], 1)) else ((tontineref16_nums.f n [wu64 c_1.Kind, c_1.Session, c_1.Seq, c_1.Saga, c_1.Now]).bind fun r_13 => (if (c_1.Kind == 2) then ((tontineref13_Bytes.f n c_1.Steps).bind fun r_15 => (if r_13.length + r_15.length ≤ i64max then (tontineref16_Encode.j1 n c_1 (r_13 ++ r_15)) else none)) else (tontineref16_Encode.j1 n c_1 r_13))))))
def tontineref16_Encode.f (n : Nat) (c_1 : T_api_Command) : Option ((List UInt8) × Int) :=
  (if (c_1.Kind == 2) then ((tontineref13_Check.f n c_1.Steps).bind fun r_6 => (tontineref16_Encode.j0 n c_1 (r_6 != 0))) else (tontineref16_Encode.j0 n c_1 false))
def tontineref21_Client_letter.f (n : Nat) (c_1 : T_tontineref21_Client) : Option T_api_Letter :=
  ((tontineref16_Encode.f n (⟨c_1.Now.Kind, c_1.Now.Session, c_1.Now.Seq, c_1.Now.Saga, c_1.Now.Steps, c_1.Now.Step, c_1.Now.Back, c_1.Now.Try, c_1.Now.Ok, c_1.Now.Now⟩ : T_api_Command)).bind fun r_6 => (some (⟨8, wi64 (200 + c_1.Id), c_1.To, 0, c_1.Calls, 0, 0, false, [], r_6.1⟩ : T_api_Letter)))
def tontineref21_Client_Call.j1 (n : Nat) (c_1 : T_tontineref21_Client) (x_5 : T_api_Command) (f_16 : Int) (f_17 : Int) : Option (T_api_Letter × Int × T_tontineref21_Client) :=
  ((tontineref16_Encode.f n (⟨x_5.Kind, f_16, f_17, x_5.Saga, x_5.Steps, x_5.Step, x_5.Back, x_5.Try, x_5.Ok, 0⟩ : T_api_Command)).bind fun r_18 => (if (r_18.2 != 0) then (some ((⟨0, 0, 0, 0, 0, 0, 0, false, [], []⟩ : T_api_Letter), r_18.2, (⟨c_1.Id, c_1.Session, c_1.Last, c_1.Calls, c_1.Busy, (⟨c_1.Now.Kind, c_1.Now.Session, c_1.Now.Seq, c_1.Now.Saga, c_1.Now.Steps, c_1.Now.Step, c_1.Now.Back, c_1.Now.Try, c_1.Now.Ok, c_1.Now.Now⟩ : T_api_Command), c_1.To⟩ : T_tontineref21_Client))) else ((tontineref21_Client_letter.f n (⟨c_1.Id, c_1.Session, c_1.Last, wu64 (c_1.Calls + 1), true, (⟨x_5.Kind, f_16, f_17, x_5.Saga, x_5.Steps, x_5.Step, x_5.Back, x_5.Try, x_5.Ok, 0⟩ : T_api_Command), c_1.To⟩ : T_tontineref21_Client)).bind fun r_20 => (some (r_20, 0, (⟨c_1.Id, c_1.Session, c_1.Last, wu64 (c_1.Calls + 1), true, (⟨x_5.Kind, f_16, f_17, x_5.Saga, x_5.Steps, x_5.Step, x_5.Back, x_5.Try, x_5.Ok, 0⟩ : T_api_Command), c_1.To⟩ : T_tontineref21_Client))))))
def tontineref21_Client_Call.j0 (n : Nat) (c_1 : T_tontineref21_Client) (x_5 : T_api_Command) (b_12 : Bool) : Option (T_api_Letter × Int × T_tontineref21_Client) :=
  (if b_12 then (some ((⟨0, 0, 0, 0, 0, 0, 0, false, [], []⟩ : T_api_Letter), 40, (⟨c_1.Id, c_1.Session, c_1.Last, c_1.Calls, c_1.Busy, (⟨c_1.Now.Kind, c_1.Now.Session, c_1.Now.Seq, c_1.Now.Saga, c_1.Now.Steps, c_1.Now.Step, c_1.Now.Back, c_1.Now.Try, c_1.Now.Ok, c_1.Now.Now⟩ : T_api_Command), c_1.To⟩ : T_tontineref21_Client))) else (if (x_5.Kind == 4) then (some ((⟨0, 0, 0, 0, 0, 0, 0, false, [], []⟩ : T_api_Letter), 1, (⟨c_1.Id, c_1.Session, c_1.Last, c_1.Calls, c_1.Busy, (⟨c_1.Now.Kind, c_1.Now.Session, c_1.Now.Seq, c_1.Now.Saga, c_1.Now.Steps, c_1.Now.Step, c_1.Now.Back, c_1.Now.Try, c_1.Now.Ok, c_1.Now.Now⟩ : T_api_Command), c_1.To⟩ : T_tontineref21_Client))) else (if (x_5.Kind != 1) then (tontineref21_Client_Call.j1 n c_1 x_5 c_1.Session (wu64 (c_1.Last + 1))) else (tontineref21_Client_Call.j1 n c_1 x_5 0 0))))
def tontineref21_Client_Call.f (n : Nat) (c_1 : T_tontineref21_Client) (x_5 : T_api_Command) : Option (T_api_Letter × Int × T_tontineref21_Client) :=
  (if c_1.Busy then (some ((⟨0, 0, 0, 0, 0, 0, 0, false, [], []⟩ : T_api_Letter), 31, (⟨c_1.Id, c_1.Session, c_1.Last, c_1.Calls, c_1.Busy, (⟨c_1.Now.Kind, c_1.Now.Session, c_1.Now.Seq, c_1.Now.Saga, c_1.Now.Steps, c_1.Now.Step, c_1.Now.Back, c_1.Now.Try, c_1.Now.Ok, c_1.Now.Now⟩ : T_api_Command), c_1.To⟩ : T_tontineref21_Client))) else (if (x_5.Kind != 1) then (tontineref21_Client_Call.j0 n c_1 x_5 (c_1.Session == 0)) else (tontineref21_Client_Call.j0 n c_1 x_5 false)))
def tontineref21_Client_Again.f (n : Nat) (c_1 : T_tontineref21_Client) : Option (T_api_Letter × Int × T_tontineref21_Client) :=
  (if (!c_1.Busy) then (some ((⟨0, 0, 0, 0, 0, 0, 0, false, [], []⟩ : T_api_Letter), 1, (⟨c_1.Id, c_1.Session, c_1.Last, c_1.Calls, c_1.Busy, (⟨c_1.Now.Kind, c_1.Now.Session, c_1.Now.Seq, c_1.Now.Saga, c_1.Now.Steps, c_1.Now.Step, c_1.Now.Back, c_1.Now.Try, c_1.Now.Ok, c_1.Now.Now⟩ : T_api_Command), c_1.To⟩ : T_tontineref21_Client))) else (if ((wi64 (c_1.To + 1)) == 7) then ((tontineref21_Client_letter.f n (⟨c_1.Id, c_1.Session, c_1.Last, c_1.Calls, c_1.Busy, (⟨c_1.Now.Kind, c_1.Now.Session, c_1.Now.Seq, c_1.Now.Saga, c_1.Now.Steps, c_1.Now.Step, c_1.Now.Back, c_1.Now.Try, c_1.Now.Ok, c_1.Now.Now⟩ : T_api_Command), 0⟩ : T_tontineref21_Client)).bind fun r_8 => (some (r_8, 0, (⟨c_1.Id, c_1.Session, c_1.Last, c_1.Calls, c_1.Busy, (⟨c_1.Now.Kind, c_1.Now.Session, c_1.Now.Seq, c_1.Now.Saga, c_1.Now.Steps, c_1.Now.Step, c_1.Now.Back, c_1.Now.Try, c_1.Now.Ok, c_1.Now.Now⟩ : T_api_Command), 0⟩ : T_tontineref21_Client)))) else ((tontineref21_Client_letter.f n (⟨c_1.Id, c_1.Session, c_1.Last, c_1.Calls, c_1.Busy, (⟨c_1.Now.Kind, c_1.Now.Session, c_1.Now.Seq, c_1.Now.Saga, c_1.Now.Steps, c_1.Now.Step, c_1.Now.Back, c_1.Now.Try, c_1.Now.Ok, c_1.Now.Now⟩ : T_api_Command), wi64 (c_1.To + 1)⟩ : T_tontineref21_Client)).bind fun r_12 => (some (r_12, 0, (⟨c_1.Id, c_1.Session, c_1.Last, c_1.Calls, c_1.Busy, (⟨c_1.Now.Kind, c_1.Now.Session, c_1.Now.Seq, c_1.Now.Saga, c_1.Now.Steps, c_1.Now.Step, c_1.Now.Back, c_1.Now.Try, c_1.Now.Ok, c_1.Now.Now⟩ : T_api_Command), wi64 (c_1.To + 1)⟩ : T_tontineref21_Client))))))
def tontineref03_Reader_Fail.f (n : Nat) (r_1 : T_tontineref03_Reader) : Option T_tontineref03_Reader :=
  (some (⟨[], true⟩ : T_tontineref03_Reader))
def tontineref03_Reader_Num.l0 (n : Nat) (r_1 : T_tontineref03_Reader) (n_5 : Int) : Nat → Int → Int → Option (Int × T_tontineref03_Reader)
  | 0, _, _ => none
  | k + 1, x_15, i_16 => (if decide (i_16 ≤ n_5) then (if (0 : Int) ≤ i_16 ∧ i_16 < (r_1.S_.length : Int) then ((tontineref03_Reader_Num.l0 n r_1 n_5 k) (wu64 ((wu64 (256 * x_15)) + (wu64 ((rdB r_1.S_ i_16).toNat : Int)))) (wi64 (i_16 + 1))) else none) else (if (0 : Int) ≤ (wi64 (n_5 + 1)) ∧ (wi64 (n_5 + 1)) ≤ (r_1.S_.length : Int) then (some (x_15, (⟨r_1.S_.drop (wi64 (n_5 + 1)).toNat, r_1.Bad⟩ : T_tontineref03_Reader))) else none))
def tontineref03_Reader_Num.j1 (n : Nat) (r_1 : T_tontineref03_Reader) (n_5 : Int) (b_11 : Bool) : Option (Int × T_tontineref03_Reader) :=
  (if b_11 then ((tontineref03_Reader_Fail.f n r_1).bind fun r_13 => (some (0, r_13))) else (tontineref03_Reader_Num.l0 n r_1 n_5 n 0 1))
def tontineref03_Reader_Num.j0 (n : Nat) (r_1 : T_tontineref03_Reader) (n_5 : Int) : Option (Int × T_tontineref03_Reader) :=
  (if decide (n_5 < 0) then (tontineref03_Reader_Num.j1 n r_1 n_5 true) else (if decide (n_5 > 8) then (tontineref03_Reader_Num.j1 n r_1 n_5 true) else (if decide ((r_1.S_.length : Int) < (wi64 (n_5 + 1))) then (tontineref03_Reader_Num.j1 n r_1 n_5 true) else (if decide (n_5 > 0) then (if (0 : Int) ≤ 1 ∧ 1 < (r_1.S_.length : Int) then (tontineref03_Reader_Num.j1 n r_1 n_5 (((rdB r_1.S_ 1).toNat : Int) == 0)) else none) else (tontineref03_Reader_Num.j1 n r_1 n_5 false)))))
def tontineref03_Reader_Num.f (n : Nat) (r_1 : T_tontineref03_Reader) : Option (Int × T_tontineref03_Reader) :=
  (if decide ((r_1.S_.length : Int) > 0) then (if (0 : Int) ≤ 0 ∧ 0 < (r_1.S_.length : Int) then (tontineref03_Reader_Num.j0 n r_1 (wi64 ((rdB r_1.S_ 0).toNat : Int))) else none) else (tontineref03_Reader_Num.j0 n r_1 (-1)))
def tontineref03_Reader_Up.j0 (n : Nat) (r_4 : Int × T_tontineref03_Reader) (b_6 : Bool) : Option (Int × T_tontineref03_Reader) :=
  (if b_6 then ((tontineref03_Reader_Fail.f n r_4.2).bind fun r_8 => (some (0, r_8))) else (some (wi64 r_4.1, r_4.2)))
def tontineref03_Reader_Up.f (n : Nat) (r_1 : T_tontineref03_Reader) (limit_3 : Int) : Option (Int × T_tontineref03_Reader) :=
  ((tontineref03_Reader_Num.f n r_1).bind fun r_4 => (if decide (limit_3 < 0) then (tontineref03_Reader_Up.j0 n r_4 true) else (tontineref03_Reader_Up.j0 n r_4 (decide (r_4.1 > (wu64 limit_3))))))
def tontineref16_Said.f (n : Nat) (s_1 : (List UInt8)) : Option (T_api_Reply × Int) :=
  ((tontineref03_Reader_Up.f n (⟨s_1, false⟩ : T_tontineref03_Reader) 52).bind fun r_4 => ((tontineref03_Reader_Num.f n r_4.2).bind fun r_6 => ((tontineref03_Reader_Num.f n r_6.2).bind fun r_7 => (if r_7.2.Bad then (some ((⟨0, 0, 0⟩ : T_api_Reply), 2)) else (if (!(r_7.2.S_ == ([] : List UInt8))) then (some ((⟨0, 0, 0⟩ : T_api_Reply), 2)) else (some ((⟨r_4.1, r_6.1, r_7.1⟩ : T_api_Reply), 0)))))))
def tontineref21_Client_Hear.j2 (n : Nat) (c_1 : T_tontineref21_Client) (x_5 : T_api_Letter) (b_24 : Bool) : Option (T_api_Told × Bool × T_api_Letter × Bool × T_tontineref21_Client) :=
  (if b_24 then (some ((⟨0, (⟨0, 0, 0, 0, [], 0, false, 0, false, 0⟩ : T_api_Command), (⟨0, 0, 0⟩ : T_api_Reply)⟩ : T_api_Told), false, (⟨0, 0, 0, 0, 0, 0, 0, false, [], []⟩ : T_api_Letter), false, (⟨c_1.Id, c_1.Session, c_1.Last, c_1.Calls, c_1.Busy, (⟨c_1.Now.Kind, c_1.Now.Session, c_1.Now.Seq, c_1.Now.Saga, c_1.Now.Steps, c_1.Now.Step, c_1.Now.Back, c_1.Now.Try, c_1.Now.Ok, c_1.Now.Now⟩ : T_api_Command), c_1.To⟩ : T_tontineref21_Client))) else ((tontineref21_Client_letter.f n (⟨c_1.Id, c_1.Session, c_1.Last, c_1.Calls, c_1.Busy, (⟨c_1.Now.Kind, c_1.Now.Session, c_1.Now.Seq, c_1.Now.Saga, c_1.Now.Steps, c_1.Now.Step, c_1.Now.Back, c_1.Now.Try, c_1.Now.Ok, c_1.Now.Now⟩ : T_api_Command), wi64 ((wi64 x_5.Commit) - 1)⟩ : T_tontineref21_Client)).bind fun r_26 => (some ((⟨0, (⟨0, 0, 0, 0, [], 0, false, 0, false, 0⟩ : T_api_Command), (⟨0, 0, 0⟩ : T_api_Reply)⟩ : T_api_Told), false, r_26, true, (⟨c_1.Id, c_1.Session, c_1.Last, c_1.Calls, c_1.Busy, (⟨c_1.Now.Kind, c_1.Now.Session, c_1.Now.Seq, c_1.Now.Saga, c_1.Now.Steps, c_1.Now.Step, c_1.Now.Back, c_1.Now.Try, c_1.Now.Ok, c_1.Now.Now⟩ : T_api_Command), wi64 ((wi64 x_5.Commit) - 1)⟩ : T_tontineref21_Client)))))
def tontineref21_Client_Hear.j3 (n : Nat) (c_1 : T_tontineref21_Client) (r_11 : T_api_Reply × Int) (f_33 : Int) (f_34 : Int) : Option (T_api_Told × Bool × T_api_Letter × Bool × T_tontineref21_Client) :=
  (some ((⟨c_1.Id, (⟨c_1.Now.Kind, c_1.Now.Session, c_1.Now.Seq, c_1.Now.Saga, c_1.Now.Steps, c_1.Now.Step, c_1.Now.Back, c_1.Now.Try, c_1.Now.Ok, c_1.Now.Now⟩ : T_api_Command), r_11.1⟩ : T_api_Told), true, (⟨0, 0, 0, 0, 0, 0, 0, false, [], []⟩ : T_api_Letter), false, (⟨c_1.Id, f_33, f_34, c_1.Calls, false, (⟨c_1.Now.Kind, c_1.Now.Session, c_1.Now.Seq, c_1.Now.Saga, c_1.Now.Steps, c_1.Now.Step, c_1.Now.Back, c_1.Now.Try, c_1.Now.Ok, c_1.Now.Now⟩ : T_api_Command), c_1.To⟩ : T_tontineref21_Client)))
def tontineref21_Client_Hear.j1 (n : Nat) (c_1 : T_tontineref21_Client) (x_5 : T_api_Letter) (r_11 : T_api_Reply × Int) (b_20 : Bool) : Option (T_api_Told × Bool × T_api_Letter × Bool × T_tontineref21_Client) :=
  (if b_20 then (if decide (x_5.Commit < 1) then (tontineref21_Client_Hear.j2 n c_1 x_5 true) else (if decide (x_5.Commit > 7) then (tontineref21_Client_Hear.j2 n c_1 x_5 true) else (tontineref21_Client_Hear.j2 n c_1 x_5 ((wi64 x_5.Commit) == (wi64 (c_1.To + 1)))))) else (if (c_1.Now.Kind == 1) then (if (r_11.1.Err == 0) then (tontineref21_Client_Hear.j3 n c_1 r_11 r_11.1.Num 0) else (tontineref21_Client_Hear.j3 n c_1 r_11 c_1.Session c_1.Last)) else (if (r_11.1.Err == 40) then (tontineref21_Client_Hear.j3 n c_1 r_11 0 0) else (tontineref21_Client_Hear.j3 n c_1 r_11 c_1.Session (wu64 (c_1.Last + 1))))))
def tontineref21_Client_Hear.j0 (n : Nat) (c_1 : T_tontineref21_Client) (x_5 : T_api_Letter) (r_11 : T_api_Reply × Int) (b_17 : Bool) : Option (T_api_Told × Bool × T_api_Letter × Bool × T_tontineref21_Client) :=
  (if b_17 then (some ((⟨0, (⟨0, 0, 0, 0, [], 0, false, 0, false, 0⟩ : T_api_Command), (⟨0, 0, 0⟩ : T_api_Reply)⟩ : T_api_Told), false, (⟨0, 0, 0, 0, 0, 0, 0, false, [], []⟩ : T_api_Letter), false, (⟨c_1.Id, c_1.Session, c_1.Last, c_1.Calls, c_1.Busy, (⟨c_1.Now.Kind, c_1.Now.Session, c_1.Now.Seq, c_1.Now.Saga, c_1.Now.Steps, c_1.Now.Step, c_1.Now.Back, c_1.Now.Try, c_1.Now.Ok, c_1.Now.Now⟩ : T_api_Command), c_1.To⟩ : T_tontineref21_Client))) else (if (r_11.1.Err == 30) then (tontineref21_Client_Hear.j1 n c_1 x_5 r_11 true) else (tontineref21_Client_Hear.j1 n c_1 x_5 r_11 (r_11.1.Err == 31))))
def tontineref21_Client_Hear.f (n : Nat) (c_1 : T_tontineref21_Client) (x_5 : T_api_Letter) : Option (T_api_Told × Bool × T_api_Letter × Bool × T_tontineref21_Client) :=
  ((tontineref16_Said.f n x_5.Data).bind fun r_11 => (if (!c_1.Busy) then (tontineref21_Client_Hear.j0 n c_1 x_5 r_11 true) else (if (x_5.Kind != 9) then (tontineref21_Client_Hear.j0 n c_1 x_5 r_11 true) else (if (x_5.To != (wi64 (200 + c_1.Id))) then (tontineref21_Client_Hear.j0 n c_1 x_5 r_11 true) else (if (x_5.Index != c_1.Calls) then (tontineref21_Client_Hear.j0 n c_1 x_5 r_11 true) else (tontineref21_Client_Hear.j0 n c_1 x_5 r_11 (r_11.2 != 0)))))))
def client_Client_Give.f (n : Nat) (c_1 : T_client_Client) : Option (Int × T_client_Client) :=
  (if (!c_1.busy) then (some (1, (⟨c_1.id, c_1.session, c_1.seq, c_1.call, c_1.busy, (⟨c_1.now.Kind, c_1.now.Session, c_1.now.Seq, c_1.now.Saga, c_1.now.Steps, c_1.now.Step, c_1.now.Back, c_1.now.Try, c_1.now.Ok, c_1.now.Now⟩ : T_api_Command), c_1.data, c_1.to_⟩ : T_client_Client))) else (some (0, (⟨c_1.id, 0, 0, c_1.call, false, (⟨c_1.now.Kind, c_1.now.Session, c_1.now.Seq, c_1.now.Saga, c_1.now.Steps, c_1.now.Step, c_1.now.Back, c_1.now.Try, c_1.now.Ok, c_1.now.Now⟩ : T_api_Command), c_1.data, c_1.to_⟩ : T_client_Client))))
def tontineref21_Client_Give.f (n : Nat) (c_1 : T_tontineref21_Client) : Option (Int × T_tontineref21_Client) :=
  (if (!c_1.Busy) then (some (1, (⟨c_1.Id, c_1.Session, c_1.Last, c_1.Calls, c_1.Busy, (⟨c_1.Now.Kind, c_1.Now.Session, c_1.Now.Seq, c_1.Now.Saga, c_1.Now.Steps, c_1.Now.Step, c_1.Now.Back, c_1.Now.Try, c_1.Now.Ok, c_1.Now.Now⟩ : T_api_Command), c_1.To⟩ : T_tontineref21_Client))) else (some (0, (⟨c_1.Id, 0, 0, c_1.Calls, false, (⟨c_1.Now.Kind, c_1.Now.Session, c_1.Now.Seq, c_1.Now.Saga, c_1.Now.Steps, c_1.Now.Step, c_1.Now.Back, c_1.Now.Try, c_1.Now.Ok, c_1.Now.Now⟩ : T_api_Command), c_1.To⟩ : T_tontineref21_Client))))
def tontineref03_Reader_Text.f (n : Nat) (r_1 : T_tontineref03_Reader) (limit_3 : Int) : Option ((List UInt8) × T_tontineref03_Reader) :=
  ((tontineref03_Reader_Up.f n r_1 limit_3).bind fun r_4 => (if decide (r_4.1 > (r_4.2.S_.length : Int)) then ((tontineref03_Reader_Fail.f n r_4.2).bind fun r_6 => (some ([], r_6))) else (if (0 : Int) ≤ r_4.1 ∧ r_4.1 ≤ (r_4.2.S_.length : Int) then (if (0 : Int) ≤ r_4.1 ∧ r_4.1 ≤ (r_4.2.S_.length : Int) then (some (r_4.2.S_.take r_4.1.toNat, (⟨r_4.2.S_.drop r_4.1.toNat, r_4.2.Bad⟩ : T_tontineref03_Reader))) else none) else none)))
def tontineref13_Read.l0 (n : Nat) (r_3 : Int × T_tontineref03_Reader) : Nat → (List UInt8) → Bool → (List T_api_Step) → Int → Option ((List T_api_Step) × T_tontineref03_Reader)
  | 0, _, _, _, _ => none
  | k + 1, f_4, f_5, l_6, i_9 => (if decide (i_9 < r_3.1) then ((tontineref03_Reader_Up.f n (⟨f_4, f_5⟩ : T_tontineref03_Reader) 3).bind fun r_11 => ((tontineref03_Reader_Text.f n r_11.2 16).bind fun r_12 => ((tontineref03_Reader_Up.f n r_12.2 9).bind fun r_13 => (if capOk 32 (l_6 ++ [(⟨r_11.1, r_12.1, r_13.1⟩ : T_api_Step)]).length then ((tontineref13_Read.l0 n r_3 k) r_13.2.S_ r_13.2.Bad (l_6 ++ [(⟨r_11.1, r_12.1, r_13.1⟩ : T_api_Step)]) (wi64 (i_9 + 1))) else none)))) else (if f_5 then (some (([] : List T_api_Step), (⟨f_4, f_5⟩ : T_tontineref03_Reader))) else (some (l_6, (⟨f_4, f_5⟩ : T_tontineref03_Reader)))))
def tontineref13_Read.f (n : Nat) (r_1 : T_tontineref03_Reader) : Option ((List T_api_Step) × T_tontineref03_Reader) :=
  ((tontineref03_Reader_Up.f n r_1 64).bind fun r_3 => (tontineref13_Read.l0 n r_3 n r_3.2.S_ r_3.2.Bad ([] : List T_api_Step) 0))
def tontineref16_Decode.j2 (n : Nat) (r_4 : Int × T_tontineref03_Reader) (r_6 : Int × T_tontineref03_Reader) (r_7 : Int × T_tontineref03_Reader) (r_8 : Int × T_tontineref03_Reader) (r_9 : Int × T_tontineref03_Reader) (f_16 : (List T_api_Step)) (f_26 : Int) (f_27 : Bool) (f_28 : Int) (f_29 : Bool) (b_34 : Bool) : Option (T_api_Command × Int) :=
  (if b_34 then (some ((⟨0, 0, 0, 0, [], 0, false, 0, false, 0⟩ : T_api_Command), 2)) else (some ((⟨r_4.1, r_6.1, r_7.1, r_8.1, f_16, f_26, f_27, f_28, f_29, r_9.1⟩ : T_api_Command), 0)))
def tontineref16_Decode.j1 (n : Nat) (s_1 : (List UInt8)) (r_4 : Int × T_tontineref03_Reader) (r_6 : Int × T_tontineref03_Reader) (r_7 : Int × T_tontineref03_Reader) (r_8 : Int × T_tontineref03_Reader) (r_9 : Int × T_tontineref03_Reader) (f_16 : (List T_api_Step)) (f_24 : (List UInt8)) (f_25 : Bool) (f_26 : Int) (f_27 : Bool) (f_28 : Int) (f_29 : Bool) : Option (T_api_Command × Int) :=
  ((tontineref16_Encode.f n (⟨r_4.1, r_6.1, r_7.1, r_8.1, f_16, f_26, f_27, f_28, f_29, r_9.1⟩ : T_api_Command)).bind fun r_30 => (if f_25 then (tontineref16_Decode.j2 n r_4 r_6 r_7 r_8 r_9 f_16 f_26 f_27 f_28 f_29 true) else (if (!(f_24 == ([] : List UInt8))) then (tontineref16_Decode.j2 n r_4 r_6 r_7 r_8 r_9 f_16 f_26 f_27 f_28 f_29 true) else (if (r_30.2 != 0) then (tontineref16_Decode.j2 n r_4 r_6 r_7 r_8 r_9 f_16 f_26 f_27 f_28 f_29 true) else (tontineref16_Decode.j2 n r_4 r_6 r_7 r_8 r_9 f_16 f_26 f_27 f_28 f_29 (!(r_30.1 == s_1)))))))
def tontineref16_Decode.j0 (n : Nat) (s_1 : (List UInt8)) (r_4 : Int × T_tontineref03_Reader) (r_6 : Int × T_tontineref03_Reader) (r_7 : Int × T_tontineref03_Reader) (r_8 : Int × T_tontineref03_Reader) (r_9 : Int × T_tontineref03_Reader) (f_14 : (List UInt8)) (f_15 : Bool) (f_16 : (List T_api_Step)) : Option (T_api_Command × Int) :=
  (if (r_4.1 == 4) then ((tontineref03_Reader_Up.f n (⟨f_14, f_15⟩ : T_tontineref03_Reader) 63).bind fun r_20 => ((tontineref03_Reader_Up.f n r_20.2 1).bind fun r_21 => ((tontineref03_Reader_Up.f n r_21.2 8).bind fun r_22 => ((tontineref03_Reader_Up.f n r_22.2 1).bind fun r_23 => (tontineref16_Decode.j1 n s_1 r_4 r_6 r_7 r_8 r_9 f_16 r_23.2.S_ r_23.2.Bad r_20.1 (r_21.1 == 1) r_22.1 (r_23.1 == 1)))))) else (tontineref16_Decode.j1 n s_1 r_4 r_6 r_7 r_8 r_9 f_16 f_14 f_15 0 false 0 false))
def tontineref16_Decode.f (n : Nat) (s_1 : (List UInt8)) : Option (T_api_Command × Int) :=
  ((tontineref03_Reader_Up.f n (⟨s_1, false⟩ : T_tontineref03_Reader) 5).bind fun r_4 => ((tontineref03_Reader_Num.f n r_4.2).bind fun r_6 => ((tontineref03_Reader_Num.f n r_6.2).bind fun r_7 => ((tontineref03_Reader_Num.f n r_7.2).bind fun r_8 => ((tontineref03_Reader_Num.f n r_8.2).bind fun r_9 => (if (r_4.1 == 2) then ((tontineref13_Read.f n r_9.2).bind fun r_11 => (tontineref16_Decode.j0 n s_1 r_4 r_6 r_7 r_8 r_9 r_11.2.S_ r_11.2.Bad r_11.1)) else (tontineref16_Decode.j0 n s_1 r_4 r_6 r_7 r_8 r_9 r_9.2.S_ r_9.2.Bad ([] : List T_api_Step))))))))
def tontinelaw21_ClientNumbers.j0 (n : Nat) (last_33 : Int) (f_34 : (List UInt8)) : Option Bool :=
  none
def tontinelaw21_ClientNumbers.j1 (n : Nat) (calls_1 : (List T_tontinelaw21_Call)) (r_27 : T_api_Reply × Int) (b_30 : Bool) : Option Bool :=
  (if b_30 then ((tontineref16_Answer.f n (⟨r_27.1.Err, 1, r_27.1.Extra⟩ : T_api_Reply)).bind fun r_32 => (tontinelaw21_ClientNumbers.j0 n 1 r_32)) else (tontinelaw21_ClientNumbers.j0 n 0 ((rdL calls_1 (0 : Int)).Letter.Data)))
def tontinelaw21_ClientNumbers.l0 (n : Nat) (calls_1 : (List T_tontinelaw21_Call)) : Nat → Option Bool
  | 0 => none
  | k + 1 => (if decide (0 < (calls_1.length : Int)) then (if (0 : Int) ≤ 0 ∧ 0 < (calls_1.length : Int) then (if (((rdL calls_1 (0 : Int)).Kind) == 0) then none else (if (((rdL calls_1 (0 : Int)).Kind) == 1) then none else (if (((rdL calls_1 (0 : Int)).Kind) == 2) then (if (((rdL calls_1 (0 : Int)).Letter.Kind) == 9) then ((tontineref16_Said.f n ((rdL calls_1 (0 : Int)).Letter.Data)).bind fun r_27 => (if (r_27.2 == 0) then (tontinelaw21_ClientNumbers.j1 n calls_1 r_27 (r_27.1.Err == 0)) else (tontinelaw21_ClientNumbers.j1 n calls_1 r_27 false))) else (tontinelaw21_ClientNumbers.j0 n 0 ((rdL calls_1 (0 : Int)).Letter.Data))) else none))) else none) else (some true))
def tontinelaw21_ClientNumbers.j4 (n : Nat) (L1 : Int → Int → Int → Int → Bool → Int → Int → Int → Int → (List T_api_Step) → Int → Bool → Int → Bool → Int → (List UInt8) → Int → (List (T_tontinelaw21_one × (List UInt8))) → Int → Int → Option Bool) (used_56 : (List (T_tontinelaw21_one × (List UInt8)))) (x_60 : Int) (f_102 : Int) (f_103 : Int) (f_104 : Int) (f_105 : Int) (f_106 : Bool) (f_107 : Int) (f_108 : Int) (f_109 : Int) (f_110 : Int) (f_111 : (List T_api_Step)) (f_114 : Int) (f_115 : Bool) (f_116 : Int) (f_117 : Bool) (f_118 : Int) (f_119 : (List UInt8)) (f_120 : Int) (last_121 : Int) (f_133 : (List UInt8)) (r_136 : T_api_Command × Int) (b_147 : Bool) : Option Bool :=
  (if b_147 then (some false) else (if (!((getA (⟨r_136.1.Session, wu64 (r_136.1.Seq - 1)⟩ : T_tontinelaw21_one) (putA (⟨r_136.1.Session, r_136.1.Seq⟩ : T_tontinelaw21_one) f_133 used_56)).isSome)) then (if decide (r_136.1.Seq > 1) then (some false) else (L1 f_102 f_103 f_104 f_105 f_106 f_107 f_108 f_109 f_110 f_111 f_114 f_115 f_116 f_117 f_118 f_119 f_120 (putA (⟨r_136.1.Session, r_136.1.Seq⟩ : T_tontinelaw21_one) f_133 used_56) last_121 (wi64 (x_60 + 1)))) else (L1 f_102 f_103 f_104 f_105 f_106 f_107 f_108 f_109 f_110 f_111 f_114 f_115 f_116 f_117 f_118 f_119 f_120 (putA (⟨r_136.1.Session, r_136.1.Seq⟩ : T_tontinelaw21_one) f_133 used_56) last_121 (wi64 (x_60 + 1)))))
def tontinelaw21_ClientNumbers.j3 (n : Nat) (L1 : Int → Int → Int → Int → Bool → Int → Int → Int → Int → (List T_api_Step) → Int → Bool → Int → Bool → Int → (List UInt8) → Int → (List (T_tontinelaw21_one × (List UInt8))) → Int → Int → Option Bool) (used_56 : (List (T_tontinelaw21_one × (List UInt8)))) (x_60 : Int) (f_102 : Int) (f_103 : Int) (f_104 : Int) (f_105 : Int) (f_106 : Bool) (f_107 : Int) (f_108 : Int) (f_109 : Int) (f_110 : Int) (f_111 : (List T_api_Step)) (f_114 : Int) (f_115 : Bool) (f_116 : Int) (f_117 : Bool) (f_118 : Int) (f_119 : (List UInt8)) (f_120 : Int) (last_121 : Int) (f_133 : (List UInt8)) (r_136 : T_api_Command × Int) (b_142 : Bool) : Option Bool :=
  (if b_142 then (some false) else (if (r_136.1.Seq == 0) then (L1 f_102 f_103 f_104 f_105 f_106 f_107 f_108 f_109 f_110 f_111 f_114 f_115 f_116 f_117 f_118 f_119 f_120 used_56 last_121 (wi64 (x_60 + 1))) else (if (getA (⟨r_136.1.Session, r_136.1.Seq⟩ : T_tontinelaw21_one) used_56).isSome then (tontinelaw21_ClientNumbers.j4 n L1 used_56 x_60 f_102 f_103 f_104 f_105 f_106 f_107 f_108 f_109 f_110 f_111 f_114 f_115 f_116 f_117 f_118 f_119 f_120 last_121 f_133 r_136 (!(((getA (⟨r_136.1.Session, r_136.1.Seq⟩ : T_tontinelaw21_one) used_56).getD ([] : List UInt8)) == f_133))) else (tontinelaw21_ClientNumbers.j4 n L1 used_56 x_60 f_102 f_103 f_104 f_105 f_106 f_107 f_108 f_109 f_110 f_111 f_114 f_115 f_116 f_117 f_118 f_119 f_120 last_121 f_133 r_136 false))))
def tontinelaw21_ClientNumbers.j2 (n : Nat) (L1 : Int → Int → Int → Int → Bool → Int → Int → Int → Int → (List T_api_Step) → Int → Bool → Int → Bool → Int → (List UInt8) → Int → (List (T_tontinelaw21_one × (List UInt8))) → Int → Int → Option Bool) (used_56 : (List (T_tontinelaw21_one × (List UInt8)))) (x_60 : Int) (f_102 : Int) (f_103 : Int) (f_104 : Int) (f_105 : Int) (f_106 : Bool) (f_107 : Int) (f_108 : Int) (f_109 : Int) (f_110 : Int) (f_111 : (List T_api_Step)) (f_114 : Int) (f_115 : Bool) (f_116 : Int) (f_117 : Bool) (f_118 : Int) (f_119 : (List UInt8)) (f_120 : Int) (last_121 : Int) (f_122 : Int) (f_123 : Int) (f_124 : Int) (f_125 : Int) (f_126 : Int) (f_127 : Int) (f_128 : Int) (f_129 : Bool) (f_130 : (List T_api_Entry)) (f_133 : (List UInt8)) (e_134 : Int) : Option Bool :=
  (if (e_134 != 0) then (L1 f_102 f_103 f_104 f_105 f_106 f_107 f_108 f_109 f_110 f_111 f_114 f_115 f_116 f_117 f_118 f_119 f_120 used_56 last_121 (wi64 (x_60 + 1))) else ((tontineref16_Decode.f n f_133).bind fun r_136 => (if (r_136.2 != 0) then (tontinelaw21_ClientNumbers.j3 n L1 used_56 x_60 f_102 f_103 f_104 f_105 f_106 f_107 f_108 f_109 f_110 f_111 f_114 f_115 f_116 f_117 f_118 f_119 f_120 last_121 f_133 r_136 true) else (if (r_136.1.Now != 0) then (tontinelaw21_ClientNumbers.j3 n L1 used_56 x_60 f_102 f_103 f_104 f_105 f_106 f_107 f_108 f_109 f_110 f_111 f_114 f_115 f_116 f_117 f_118 f_119 f_120 last_121 f_133 r_136 true) else (tontinelaw21_ClientNumbers.j3 n L1 used_56 x_60 f_102 f_103 f_104 f_105 f_106 f_107 f_108 f_109 f_110 f_111 f_114 f_115 f_116 f_117 f_118 f_119 f_120 last_121 f_133 r_136 (!((r_136.1.Kind == 1) == (r_136.1.Seq == 0))))))))
def tontinelaw21_ClientNumbers.j5 (n : Nat) (L1 : Int → Int → Int → Int → Bool → Int → Int → Int → Int → (List T_api_Step) → Int → Bool → Int → Bool → Int → (List UInt8) → Int → (List (T_tontinelaw21_one × (List UInt8))) → Int → Int → Option Bool) (calls_1 : (List T_tontinelaw21_Call)) (f_37 : Int) (f_38 : Int) (f_39 : Int) (f_40 : Int) (f_41 : Bool) (f_42 : Int) (f_43 : Int) (f_44 : Int) (f_45 : Int) (f_46 : (List T_api_Step)) (f_49 : Int) (f_50 : Bool) (f_51 : Int) (f_52 : Bool) (f_53 : Int) (f_54 : (List UInt8)) (f_55 : Int) (used_56 : (List (T_tontinelaw21_one × (List UInt8)))) (x_60 : Int) (last_91 : Int) (f_92 : (List UInt8)) : Option Bool :=
  ((client_Client_Hear.f n (⟨f_37, f_38, f_39, f_40, f_41, (⟨f_42, f_43, f_44, f_45, f_46, f_49, f_50, f_51, f_52, f_53⟩ : T_api_Command), f_54, f_55⟩ : T_client_Client) (⟨(rdL calls_1 x_60).Letter.Kind, (rdL calls_1 x_60).Letter.From, (rdL calls_1 x_60).Letter.To, (rdL calls_1 x_60).Letter.Term, (rdL calls_1 x_60).Letter.Index, (rdL calls_1 x_60).Letter.Prev, (rdL calls_1 x_60).Letter.Commit, (rdL calls_1 x_60).Letter.Ok, (rdL calls_1 x_60).Letter.Entries, f_92⟩ : T_api_Letter)).bind fun r_93 => (if r_93.2.2.2.1 then (tontinelaw21_ClientNumbers.j2 n L1 used_56 x_60 r_93.2.2.2.2.id r_93.2.2.2.2.session r_93.2.2.2.2.seq r_93.2.2.2.2.call r_93.2.2.2.2.busy r_93.2.2.2.2.now.Kind r_93.2.2.2.2.now.Session r_93.2.2.2.2.now.Seq r_93.2.2.2.2.now.Saga r_93.2.2.2.2.now.Steps r_93.2.2.2.2.now.Step r_93.2.2.2.2.now.Back r_93.2.2.2.2.now.Try r_93.2.2.2.2.now.Ok r_93.2.2.2.2.now.Now r_93.2.2.2.2.data r_93.2.2.2.2.to_ last_91 r_93.2.2.1.Kind r_93.2.2.1.From r_93.2.2.1.To r_93.2.2.1.Term r_93.2.2.1.Index r_93.2.2.1.Prev r_93.2.2.1.Commit r_93.2.2.1.Ok r_93.2.2.1.Entries r_93.2.2.1.Data 0) else (tontinelaw21_ClientNumbers.j2 n L1 used_56 x_60 r_93.2.2.2.2.id r_93.2.2.2.2.session r_93.2.2.2.2.seq r_93.2.2.2.2.call r_93.2.2.2.2.busy r_93.2.2.2.2.now.Kind r_93.2.2.2.2.now.Session r_93.2.2.2.2.now.Seq r_93.2.2.2.2.now.Saga r_93.2.2.2.2.now.Steps r_93.2.2.2.2.now.Step r_93.2.2.2.2.now.Back r_93.2.2.2.2.now.Try r_93.2.2.2.2.now.Ok r_93.2.2.2.2.now.Now r_93.2.2.2.2.data r_93.2.2.2.2.to_ last_91 r_93.2.2.1.Kind r_93.2.2.1.From r_93.2.2.1.To r_93.2.2.1.Term r_93.2.2.1.Index r_93.2.2.1.Prev r_93.2.2.1.Commit r_93.2.2.1.Ok r_93.2.2.1.Entries r_93.2.2.1.Data 1)))
def tontinelaw21_ClientNumbers.j6 (n : Nat) (L1 : Int → Int → Int → Int → Bool → Int → Int → Int → Int → (List T_api_Step) → Int → Bool → Int → Bool → Int → (List UInt8) → Int → (List (T_tontinelaw21_one × (List UInt8))) → Int → Int → Option Bool) (calls_1 : (List T_tontinelaw21_Call)) (f_37 : Int) (f_38 : Int) (f_39 : Int) (f_40 : Int) (f_41 : Bool) (f_42 : Int) (f_43 : Int) (f_44 : Int) (f_45 : Int) (f_46 : (List T_api_Step)) (f_49 : Int) (f_50 : Bool) (f_51 : Int) (f_52 : Bool) (f_53 : Int) (f_54 : (List UInt8)) (f_55 : Int) (used_56 : (List (T_tontinelaw21_one × (List UInt8)))) (last_59 : Int) (x_60 : Int) (r_85 : T_api_Reply × Int) (b_88 : Bool) : Option Bool :=
  (if b_88 then ((tontineref16_Answer.f n (⟨r_85.1.Err, wu64 (last_59 + 1), r_85.1.Extra⟩ : T_api_Reply)).bind fun r_90 => (tontinelaw21_ClientNumbers.j5 n L1 calls_1 f_37 f_38 f_39 f_40 f_41 f_42 f_43 f_44 f_45 f_46 f_49 f_50 f_51 f_52 f_53 f_54 f_55 used_56 x_60 (wu64 (last_59 + 1)) r_90)) else (tontinelaw21_ClientNumbers.j5 n L1 calls_1 f_37 f_38 f_39 f_40 f_41 f_42 f_43 f_44 f_45 f_46 f_49 f_50 f_51 f_52 f_53 f_54 f_55 used_56 x_60 last_59 ((rdL calls_1 x_60).Letter.Data)))
def tontinelaw21_ClientNumbers.l1 (n : Nat) (calls_1 : (List T_tontinelaw21_Call)) : Nat → Int → Int → Int → Int → Bool → Int → Int → Int → Int → (List T_api_Step) → Int → Bool → Int → Bool → Int → (List UInt8) → Int → (List (T_tontinelaw21_one × (List UInt8))) → Int → Int → Option Bool
  | 0, _, _, _, _, _, _, _, _, _, _, _, _, _, _, _, _, _, _, _, _ => none
  | k + 1, f_37, f_38, f_39, f_40, f_41, f_42, f_43, f_44, f_45, f_46, f_49, f_50, f_51, f_52, f_53, f_54, f_55, used_56, last_59, x_60 => (if decide (x_60 < (calls_1.length : Int)) then (if (0 : Int) ≤ x_60 ∧ x_60 < (calls_1.length : Int) then (if (((rdL calls_1 x_60).Kind) == 0) then ((client_Client_Call.f n (⟨f_37, f_38, f_39, f_40, f_41, (⟨f_42, f_43, f_44, f_45, f_46, f_49, f_50, f_51, f_52, f_53⟩ : T_api_Command), f_54, f_55⟩ : T_client_Client) (⟨(rdL calls_1 x_60).Command.Kind, (rdL calls_1 x_60).Command.Session, (rdL calls_1 x_60).Command.Seq, (rdL calls_1 x_60).Command.Saga, (rdL calls_1 x_60).Command.Steps, (rdL calls_1 x_60).Command.Step, (rdL calls_1 x_60).Command.Back, (rdL calls_1 x_60).Command.Try, (rdL calls_1 x_60).Command.Ok, (rdL calls_1 x_60).Command.Now⟩ : T_api_Command)).bind fun r_70 => (tontinelaw21_ClientNumbers.j2 n (tontinelaw21_ClientNumbers.l1 n calls_1 k) used_56 x_60 r_70.2.2.id r_70.2.2.session r_70.2.2.seq r_70.2.2.call r_70.2.2.busy r_70.2.2.now.Kind r_70.2.2.now.Session r_70.2.2.now.Seq r_70.2.2.now.Saga r_70.2.2.now.Steps r_70.2.2.now.Step r_70.2.2.now.Back r_70.2.2.now.Try r_70.2.2.now.Ok r_70.2.2.now.Now r_70.2.2.data r_70.2.2.to_ last_59 r_70.1.Kind r_70.1.From r_70.1.To r_70.1.Term r_70.1.Index r_70.1.Prev r_70.1.Commit r_70.1.Ok r_70.1.Entries r_70.1.Data r_70.2.1)) else (if (((rdL calls_1 x_60).Kind) == 1) then ((client_Client_Again.f n (⟨f_37, f_38, f_39, f_40, f_41, (⟨f_42, f_43, f_44, f_45, f_46, f_49, f_50, f_51, f_52, f_53⟩ : T_api_Command), f_54, f_55⟩ : T_client_Client)).bind fun r_77 => (tontinelaw21_ClientNumbers.j2 n (tontinelaw21_ClientNumbers.l1 n calls_1 k) used_56 x_60 r_77.2.2.id r_77.2.2.session r_77.2.2.seq r_77.2.2.call r_77.2.2.busy r_77.2.2.now.Kind r_77.2.2.now.Session r_77.2.2.now.Seq r_77.2.2.now.Saga r_77.2.2.now.Steps r_77.2.2.now.Step r_77.2.2.now.Back r_77.2.2.now.Try r_77.2.2.now.Ok r_77.2.2.now.Now r_77.2.2.data r_77.2.2.to_ last_59 r_77.1.Kind r_77.1.From r_77.1.To r_77.1.Term r_77.1.Index r_77.1.Prev r_77.1.Commit r_77.1.Ok r_77.1.Entries r_77.1.Data r_77.2.1)) else (if (((rdL calls_1 x_60).Kind) == 2) then (if (((rdL calls_1 x_60).Letter.Kind) == 9) then ((tontineref16_Said.f n ((rdL calls_1 x_60).Letter.Data)).bind fun r_85 => (if (r_85.2 == 0) then (tontinelaw21_ClientNumbers.j6 n (tontinelaw21_ClientNumbers.l1 n calls_1 k) calls_1 f_37 f_38 f_39 f_40 f_41 f_42 f_43 f_44 f_45 f_46 f_49 f_50 f_51 f_52 f_53 f_54 f_55 used_56 last_59 x_60 r_85 (r_85.1.Err == 0)) else (tontinelaw21_ClientNumbers.j6 n (tontinelaw21_ClientNumbers.l1 n calls_1 k) calls_1 f_37 f_38 f_39 f_40 f_41 f_42 f_43 f_44 f_45 f_46 f_49 f_50 f_51 f_52 f_53 f_54 f_55 used_56 last_59 x_60 r_85 false))) else (tontinelaw21_ClientNumbers.j5 n (tontinelaw21_ClientNumbers.l1 n calls_1 k) calls_1 f_37 f_38 f_39 f_40 f_41 f_42 f_43 f_44 f_45 f_46 f_49 f_50 f_51 f_52 f_53 f_54 f_55 used_56 x_60 last_59 ((rdL calls_1 x_60).Letter.Data))) else ((client_Client_Give.f n (⟨f_37, f_38, f_39, f_40, f_41, (⟨f_42, f_43, f_44, f_45, f_46, f_49, f_50, f_51, f_52, f_53⟩ : T_api_Command), f_54, f_55⟩ : T_client_Client)).bind fun r_102 => (tontinelaw21_ClientNumbers.j2 n (tontinelaw21_ClientNumbers.l1 n calls_1 k) used_56 x_60 r_102.2.id r_102.2.session r_102.2.seq r_102.2.call r_102.2.busy r_102.2.now.Kind r_102.2.now.Session r_102.2.now.Seq r_102.2.now.Saga r_102.2.now.Steps r_102.2.now.Step r_102.2.now.Back r_102.2.now.Try r_102.2.now.Ok r_102.2.now.Now r_102.2.data r_102.2.to_ last_59 0 0 0 0 0 0 0 false ([] : List T_api_Entry) [] 1))))) else none) else (some true))
def tontinelaw21_ClientNumbers.f (n : Nat) (calls_1 : (List T_tontinelaw21_Call)) : Option Bool :=
  ((tontinelaw21_begun.f n).bind fun r_4 => (if (!r_4) then (some false) else ((tontinelaw21_light.f n calls_1).bind fun r_6 => (if (!r_6) then (some true) else ((client_New.f n 0).bind fun r_8 => (match r_8.1 with | none => (tontinelaw21_ClientNumbers.l0 n calls_1 n) | some o_12 => (tontinelaw21_ClientNumbers.l1 n calls_1 n o_12.id o_12.session o_12.seq o_12.call o_12.busy o_12.now.Kind o_12.now.Session o_12.now.Seq o_12.now.Saga o_12.now.Steps o_12.now.Step o_12.now.Back o_12.now.Try o_12.now.Ok o_12.now.Now o_12.data o_12.to_ ([] : List (T_tontinelaw21_one × (List UInt8))) 0 0)))))))
end Go.GL
