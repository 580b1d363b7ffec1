import Derived.Test.YtolipnnfdclkoaaXG13
set_option linter.unusedVariables false
namespace Go.GL
open Go
structure T_api_Step where
  Part : Int
  Name : (List UInt8)
  Budget : Int
  deriving DecidableEq
instance : Inhabited T_api_Step := ⟨⟨0, [], 0⟩⟩
structure T_api_Command where
  Kind : Int
  Session : Int
  Seq : Int
  Saga : Int
  Steps : (List T_api_Step)
  Step : Int
  Back : Bool
  Try : Int
  Ok : Bool
  Now : Int
  deriving DecidableEq
instance : Inhabited T_api_Command := ⟨⟨0, 0, 0, 0, [], 0, false, 0, false, 0⟩⟩
structure T_client_Client where
  id : Int
  session : Int
  seq : Int
  call : Int
  busy : Bool
  now : T_api_Command
  data : (List UInt8)
  to_ : Int
  deriving DecidableEq
instance : Inhabited T_client_Client := ⟨⟨0, 0, 0, 0, false, ⟨0, 0, 0, 0, [], 0, false, 0, false, 0⟩, [], 0⟩⟩
structure T_pack_Writer where
  b : (List UInt8)
  deriving DecidableEq
instance : Inhabited T_pack_Writer := ⟨⟨[]⟩⟩
structure T_api_Entry where
  Term : Int
  Index : Int
  Kind : Int
  Data : (List UInt8)
  deriving DecidableEq
instance : Inhabited T_api_Entry := ⟨⟨0, 0, 0, []⟩⟩
structure T_api_Letter where
  Kind : Int
  From : Int
  To : Int
  Term : Int
  Index : Int
  Prev : Int
  Commit : Int
  Ok : Bool
  Entries : (List T_api_Entry)
  Data : (List UInt8)
  deriving DecidableEq
instance : Inhabited T_api_Letter := ⟨⟨0, 0, 0, 0, 0, 0, 0, false, [], []⟩⟩
structure T_api_Reply where
  Err : Int
  Num : Int
  Extra : Int
  deriving DecidableEq
instance : Inhabited T_api_Reply := ⟨⟨0, 0, 0⟩⟩
structure T_pack_Reader where
  s : (List UInt8)
  bad : Bool
  deriving DecidableEq
instance : Inhabited T_pack_Reader := ⟨⟨[], false⟩⟩
structure T_api_Told where
  Client : Int
  Command : T_api_Command
  Reply : T_api_Reply
  deriving DecidableEq
instance : Inhabited T_api_Told := ⟨⟨0, ⟨0, 0, 0, 0, [], 0, false, 0, false, 0⟩, ⟨0, 0, 0⟩⟩⟩
structure T_tontinelaw21_Call where
  Kind : Int
  Command : T_api_Command
  Letter : T_api_Letter
  deriving DecidableEq
instance : Inhabited T_tontinelaw21_Call := ⟨⟨0, ⟨0, 0, 0, 0, [], 0, false, 0, false, 0⟩, ⟨0, 0, 0, 0, 0, 0, 0, false, [], []⟩⟩⟩
structure T_tontineref21_Client where
  Id : Int
  Session : Int
  Last : Int
  Calls : Int
  Busy : Bool
  Now : T_api_Command
  To : Int
  deriving DecidableEq
instance : Inhabited T_tontineref21_Client := ⟨⟨0, 0, 0, 0, false, ⟨0, 0, 0, 0, [], 0, false, 0, false, 0⟩, 0⟩⟩
structure T_tontineref03_Reader where
  S_ : (List UInt8)
  Bad : Bool
  deriving DecidableEq
instance : Inhabited T_tontineref03_Reader := ⟨⟨[], false⟩⟩
def client_New.f (n : Nat) (id_1 : Int) : Option (Option T_client_Client × Int) :=
  (if decide (id_1 < 0) then (some (none, 1)) else (if decide (id_1 ≥ 4) then (some (none, 1)) else (some ((some (⟨id_1, 0, 0, 0, false, (⟨0, 0, 0, 0, [], 0, false, 0, false, 0⟩ : T_api_Command), [], 0⟩ : T_client_Client)), 0))))
def plan_Check.j1 (n : Nat) (L0 : Int → Option Int) (x_7 : Int) (b_16 : Bool) : Option Int :=
  (if b_16 then (some 44) else (L0 (wi64 (x_7 + 1))))
def plan_Check.l0 (n : Nat) (l_1 : (List T_api_Step)) : Nat → Int → Option Int
  | 0, _ => none
  | k + 1, x_7 => (if decide (x_7 < (l_1.length : Int)) then (if (0 : Int) ≤ x_7 ∧ x_7 < (l_1.length : Int) then (if decide (((rdL l_1 x_7).Part) < 0) then (plan_Check.j1 n (plan_Check.l0 n l_1 k) x_7 true) else (if decide (((rdL l_1 x_7).Part) ≥ 4) then (plan_Check.j1 n (plan_Check.l0 n l_1 k) x_7 true) else (if (((rdL l_1 x_7).Name) == ([] : List UInt8)) then (plan_Check.j1 n (plan_Check.l0 n l_1 k) x_7 true) else (if decide ((((rdL l_1 x_7).Name).length : Int) > 16) then (plan_Check.j1 n (plan_Check.l0 n l_1 k) x_7 true) else (if decide (((rdL l_1 x_7).Budget) < 1) then (plan_Check.j1 n (plan_Check.l0 n l_1 k) x_7 true) else (plan_Check.j1 n (plan_Check.l0 n l_1 k) x_7 (decide (((rdL l_1 x_7).Budget) > 9)))))))) else none) else (some 0))
def plan_Check.j0 (n : Nat) (l_1 : (List T_api_Step)) (b_5 : Bool) : Option Int :=
  (if b_5 then (some 44) else (plan_Check.l0 n l_1 n 0))
def plan_Check.f (n : Nat) (l_1 : (List T_api_Step)) : Option Int :=
  (if decide ((l_1.length : Int) < 1) then (plan_Check.j0 n l_1 true) else (plan_Check.j0 n l_1 (decide ((l_1.length : Int) > 64))))
def command_May.j1 (n : Nat) (b_13 : Bool) : Option Bool :=
  (some b_13)
def command_May.j2 (n : Nat) (b_20 : Bool) : Option Bool :=
  (some b_20)
def command_May.j3 (n : Nat) (b_28 : Bool) : Option Bool :=
  (some b_28)
def command_May.j0 (n : Nat) (c_1 : T_api_Command) (b_7 : Bool) : Option Bool :=
  (if b_7 then (if ((c_1.Steps.length : Int) == 0) then (if (c_1.Step == 0) then (if (!c_1.Back) then (if (c_1.Try == 0) then (command_May.j1 n (!c_1.Ok)) else (command_May.j1 n false)) else (command_May.j1 n false)) else (command_May.j1 n false)) else (command_May.j1 n false)) else (if (c_1.Kind == 2) then ((plan_Check.f n c_1.Steps).bind fun r_15 => (if (r_15 == 0) then (if (c_1.Step == 0) then (if (!c_1.Back) then (if (c_1.Try == 0) then (command_May.j2 n (!c_1.Ok)) else (command_May.j2 n false)) else (command_May.j2 n false)) else (command_May.j2 n false)) else (command_May.j2 n false))) else (if (c_1.Kind == 4) then (if ((c_1.Steps.length : Int) == 0) then (if decide (c_1.Step ≥ 0) then (if decide (c_1.Step < 64) then (if decide (c_1.Try ≥ 0) then (if decide (c_1.Try < 9) then (if (c_1.Session == 0) then (command_May.j3 n (c_1.Seq == 0)) else (command_May.j3 n false)) else (command_May.j3 n false)) else (command_May.j3 n false)) else (command_May.j3 n false)) else (command_May.j3 n false)) else (command_May.j3 n false)) else (some false))))
def command_May.f (n : Nat) (c_1 : T_api_Command) : Option Bool :=
  (if (c_1.Kind == 1) then (command_May.j0 n c_1 (c_1.Kind == 1)) else (if (c_1.Kind == 3) then (command_May.j0 n c_1 (c_1.Kind == 3)) else (command_May.j0 n c_1 (c_1.Kind == 5))))
def pack_Writer_Num.l1 (n : Nat) (x_5 : Int) : Nat → (List UInt8) → Int → Option T_pack_Writer
  | 0, _, _ => none
  | k + 1, f_14, i_17 => (if decide (i_17 ≥ 0) then (if (0 : Int) ≤ (wi64 (8 * i_17)) then (if capOk 1 (f_14 ++ [u8of (shR .u64 x_5 (wi64 (8 * i_17)))]).length then ((pack_Writer_Num.l1 n x_5 k) (f_14 ++ [u8of (shR .u64 x_5 (wi64 (8 * i_17)))]) (wi64 (i_17 - 1))) else none) else none) else (some (⟨f_14⟩ : T_pack_Writer)))
def pack_Writer_Num.l0 (n : Nat) (w_1 : T_pack_Writer) (x_5 : Int) : Nat → Int → Int → Option T_pack_Writer
  | 0, _, _ => none
  | k + 1, n_6, y_7 => (if decide (y_7 > 0) then ((pack_Writer_Num.l0 n w_1 x_5 k) (wi64 (n_6 + 1)) (shR .u64 y_7 8)) else (if capOk 1 (w_1.b ++ [u8of n_6]).length then (pack_Writer_Num.l1 n x_5 n (w_1.b ++ [u8of n_6]) (wi64 (n_6 - 1))) else none))
def pack_Writer_Num.f (n : Nat) (w_1 : T_pack_Writer) (x_5 : Int) : Option T_pack_Writer :=
  (pack_Writer_Num.l0 n w_1 x_5 n 0 x_5)
def pack_Writer_Text.f (n : Nat) (w_1 : T_pack_Writer) (s_5 : (List UInt8)) : Option T_pack_Writer :=
  ((pack_Writer_Num.f n w_1 (wu64 (s_5.length : Int))).bind fun r_6 => (if capOk 1 (r_6.b ++ s_5).length then (some (⟨r_6.b ++ s_5⟩ : T_pack_Writer)) else none))
def plan_Write.l0 (n : Nat) (l_5 : (List T_api_Step)) : Nat → (List UInt8) → Int → Option T_pack_Writer
  | 0, _, _ => none
  | k + 1, f_11, x_14 => (if decide (x_14 < (l_5.length : Int)) then (if (0 : Int) ≤ x_14 ∧ x_14 < (l_5.length : Int) then ((pack_Writer_Num.f n (⟨f_11⟩ : T_pack_Writer) (wu64 ((rdL l_5 x_14).Part))).bind fun r_18 => ((pack_Writer_Text.f n r_18 ((rdL l_5 x_14).Name)).bind fun r_21 => ((pack_Writer_Num.f n r_21 (wu64 ((rdL l_5 x_14).Budget))).bind fun r_24 => ((plan_Write.l0 n l_5 k) r_24.b (wi64 (x_14 + 1)))))) else none) else (some (⟨f_11⟩ : T_pack_Writer)))
def plan_Write.f (n : Nat) (w_1 : T_pack_Writer) (l_5 : (List T_api_Step)) : Option T_pack_Writer :=
  ((pack_Writer_Num.f n w_1 (wu64 (l_5.length : Int))).bind fun r_8 => (plan_Write.l0 n l_5 n r_8.b 0))
def pack_Writer_Bool.f (n : Nat) (w_1 : T_pack_Writer) (x_5 : Bool) : Option T_pack_Writer :=
  (if x_5 then ((pack_Writer_Num.f n w_1 1).bind fun r_7 => (some r_7)) else ((pack_Writer_Num.f n w_1 0).bind fun r_11 => (some r_11)))
def pack_Writer_Bytes.f (n : Nat) (w_1 : T_pack_Writer) : Option (List UInt8) :=
  (some w_1.b)
def command_Encode.j1 (n : Nat) (f_44 : (List UInt8)) : Option ((List UInt8) × Int) :=
  ((pack_Writer_Bytes.f n (⟨f_44⟩ : T_pack_Writer)).bind fun r_47 => (some (r_47, 0)))
def command_Encode.j0 (n : Nat) (c_1 : T_api_Command) (b_7 : Bool) : Option ((List UInt8) × Int) :=
  (if b_7 then (some ([], 44)) else ((command_May.f n c_1).bind fun r_9 => (if (!r_9) then (some ([], 1)) else ((pack_Writer_Num.f n (⟨[]⟩ : T_pack_Writer) (wu64 c_1.Kind)).bind fun r_12 => ((pack_Writer_Num.f n r_12 c_1.Session).bind fun r_15 => ((pack_Writer_Num.f n r_15 c_1.Seq).bind fun r_18 => ((pack_Writer_Num.f n r_18 c_1.Saga).bind fun r_21 => ((pack_Writer_Num.f n r_21 c_1.Now).bind fun r_24 => (if (c_1.Kind == 2) then ((plan_Write.f n r_24 c_1.Steps).bind fun r_28 => (command_Encode.j1 n r_28.b)) else (if (c_1.Kind == 4) then ((pack_Writer_Num.f n r_24 (wu64 c_1.Step)).bind fun r_33 => ((pack_Writer_Bool.f n r_33 c_1.Back).bind fun r_36 => ((pack_Writer_Num.f n r_36 (wu64 c_1.Try)).bind fun r_39 => ((pack_Writer_Bool.f n r_39 c_1.Ok).bind fun r_42 => (command_Encode.j1 n r_42.b))))) else (command_Encode.j1 n r_24.b)))))))))))
def command_Encode.f (n : Nat) (c_1 : T_api_Command) : Option ((List UInt8) × Int) :=
  (if (c_1.Kind == 2) then ((plan_Check.f n c_1.Steps).bind fun r_6 => (command_Encode.j0 n c_1 (r_6 != 0))) else (command_Encode.j0 n c_1 false))
def client_Client_letter.f (n : Nat) (c_1 : T_client_Client) : Option T_api_Letter :=
  (some (⟨8, wi64 (200 + c_1.id), c_1.to_, 0, c_1.call, 0, 0, false, [], c_1.data⟩ : T_api_Letter))
def client_Client_Call.j1 (n : Nat) (c_1 : T_client_Client) (x_5 : T_api_Command) (f_15 : Int) (f_16 : Int) : Option (T_api_Letter × Int × T_client_Client) :=
  (if (x_5.Kind == 4) then (some ((⟨0, 0, 0, 0, 0, 0, 0, false, [], []⟩ : T_api_Letter), 1, (⟨c_1.id, c_1.session, c_1.seq, c_1.call, c_1.busy, (⟨c_1.now.Kind, c_1.now.Session, c_1.now.Seq, c_1.now.Saga, c_1.now.Steps, c_1.now.Step, c_1.now.Back, c_1.now.Try, c_1.now.Ok, c_1.now.Now⟩ : T_api_Command), c_1.data, c_1.to_⟩ : T_client_Client))) else ((command_Encode.f n (⟨x_5.Kind, f_15, f_16, x_5.Saga, x_5.Steps, x_5.Step, x_5.Back, x_5.Try, x_5.Ok, 0⟩ : T_api_Command)).bind fun r_18 => (if (r_18.2 != 0) then (some ((⟨0, 0, 0, 0, 0, 0, 0, false, [], []⟩ : T_api_Letter), r_18.2, (⟨c_1.id, c_1.session, c_1.seq, c_1.call, c_1.busy, (⟨c_1.now.Kind, c_1.now.Session, c_1.now.Seq, c_1.now.Saga, c_1.now.Steps, c_1.now.Step, c_1.now.Back, c_1.now.Try, c_1.now.Ok, c_1.now.Now⟩ : T_api_Command), c_1.data, c_1.to_⟩ : T_client_Client))) else ((client_Client_letter.f n (⟨c_1.id, c_1.session, c_1.seq, wu64 (c_1.call + 1), true, (⟨x_5.Kind, f_15, f_16, x_5.Saga, x_5.Steps, x_5.Step, x_5.Back, x_5.Try, x_5.Ok, 0⟩ : T_api_Command), r_18.1, c_1.to_⟩ : T_client_Client)).bind fun r_20 => (some (r_20, 0, (⟨c_1.id, c_1.session, c_1.seq, wu64 (c_1.call + 1), true, (⟨x_5.Kind, f_15, f_16, x_5.Saga, x_5.Steps, x_5.Step, x_5.Back, x_5.Try, x_5.Ok, 0⟩ : T_api_Command), r_18.1, c_1.to_⟩ : T_client_Client)))))))
def client_Client_Call.j0 (n : Nat) (c_1 : T_client_Client) (x_5 : T_api_Command) (b_12 : Bool) : Option (T_api_Letter × Int × T_client_Client) :=
  (if b_12 then (some ((⟨0, 0, 0, 0, 0, 0, 0, false, [], []⟩ : T_api_Letter), 40, (⟨c_1.id, c_1.session, c_1.seq, c_1.call, c_1.busy, (⟨c_1.now.Kind, c_1.now.Session, c_1.now.Seq, c_1.now.Saga, c_1.now.Steps, c_1.now.Step, c_1.now.Back, c_1.now.Try, c_1.now.Ok, c_1.now.Now⟩ : T_api_Command), c_1.data, c_1.to_⟩ : T_client_Client))) else (if (x_5.Kind != 1) then (client_Client_Call.j1 n c_1 x_5 c_1.session (wu64 (c_1.seq + 1))) else (client_Client_Call.j1 n c_1 x_5 0 0)))
def client_Client_Call.f (n : Nat) (c_1 : T_client_Client) (x_5 : T_api_Command) : Option (T_api_Letter × Int × T_client_Client) :=
  (if c_1.busy then (some ((⟨0, 0, 0, 0, 0, 0, 0, false, [], []⟩ : T_api_Letter), 31, (⟨c_1.id, c_1.session, c_1.seq, c_1.call, c_1.busy, (⟨c_1.now.Kind, c_1.now.Session, c_1.now.Seq, c_1.now.Saga, c_1.now.Steps, c_1.now.Step, c_1.now.Back, c_1.now.Try, c_1.now.Ok, c_1.now.Now⟩ : T_api_Command), c_1.data, c_1.to_⟩ : T_client_Client))) else (if (x_5.Kind != 1) then (client_Client_Call.j0 n c_1 x_5 (c_1.session == 0)) else (client_Client_Call.j0 n c_1 x_5 false)))
def tontineref03_Num.l0 (n : Nat) : Nat → Int → (List UInt8) → Int → Option (List UInt8)
  | 0, _, _, _ => none
  | k + 1, x_2, s_3, n_4 => (if decide (x_2 > 0) then (if ([u8of (x_2.tmod 256)] : List UInt8).length + s_3.length ≤ i64max then ((tontineref03_Num.l0 n k) (wu64 (x_2.tdiv 256)) ([u8of (x_2.tmod 256)] ++ s_3) (wi64 (n_4 + 1))) else none) else (if ([u8of n_4] : List UInt8).length + s_3.length ≤ i64max then (some ([u8of n_4] ++ s_3)) else none))
def tontineref03_Num.f (n : Nat) (x_1 : Int) : Option (List UInt8) :=
  (tontineref03_Num.l0 n n x_1 [] 0)
def tontineref16_nums.l0 (n : Nat) (l_1 : (List Int)) : Nat → (List UInt8) → Int → Option (List UInt8)
  | 0, _, _ => none
  | k + 1, s_4, i_5 => (if decide (i_5 < (l_1.length : Int)) then (if (0 : Int) ≤ i_5 ∧ i_5 < (l_1.length : Int) then ((tontineref03_Num.f n (rdL l_1 i_5)).bind fun r_8 => (if s_4.length + r_8.length ≤ i64max then ((tontineref16_nums.l0 n l_1 k) (s_4 ++ r_8) (wi64 (i_5 + 1))) else none)) else none) else (some s_4))
def tontineref16_nums.f (n : Nat) (l_1 : (List Int)) : Option (List UInt8) :=
  (tontineref16_nums.l0 n l_1 n [] 0)
def tontineref16_Answer.f (n : Nat) (y_1 : T_api_Reply) : Option (List UInt8) :=
  ((tontineref16_nums.f n [wu64 (if y_1.Err > 0 then y_1.Err else 0), y_1.Num, y_1.Extra]).bind fun r_5 => (some r_5))
def pack_From.f (n : Nat) (s_1 : (List UInt8)) : Option T_pack_Reader :=
  (some (⟨s_1, false⟩ : T_pack_Reader))
def pack_Reader_fail.f (n : Nat) (r_1 : T_pack_Reader) : Option (Int × T_pack_Reader) :=
  (some (0, (⟨[], true⟩ : T_pack_Reader)))
def pack_Reader_Num.l0 (n : Nat) (r_1 : T_pack_Reader) : Nat → Int → Int → Option (Int × T_pack_Reader)
  | 0, _, _ => none
  | k + 1, x_15, i_16 => (if decide (i_16 ≤ (wi64 ((rdB r_1.s 0).toNat : Int))) then (if (0 : Int) ≤ i_16 ∧ i_16 < (r_1.s.length : Int) then ((pack_Reader_Num.l0 n r_1 k) (bOr .u64 (shL .u64 x_15 8) (wu64 ((rdB r_1.s i_16).toNat : Int))) (wi64 (i_16 + 1))) else none) else (if (0 : Int) ≤ (wi64 ((wi64 ((rdB r_1.s 0).toNat : Int)) + 1)) ∧ (wi64 ((wi64 ((rdB r_1.s 0).toNat : Int)) + 1)) ≤ (r_1.s.length : Int) then (some (x_15, (⟨r_1.s.drop (wi64 ((wi64 ((rdB r_1.s 0).toNat : Int)) + 1)).toNat, r_1.bad⟩ : T_pack_Reader))) else none))
def pack_Reader_Num.j0 (n : Nat) (r_1 : T_pack_Reader) (b_11 : Bool) : Option (Int × T_pack_Reader) :=
  (if b_11 then ((pack_Reader_fail.f n r_1).bind fun r_13 => (some (r_13.1, r_13.2))) else (pack_Reader_Num.l0 n r_1 n 0 1))
def pack_Reader_Num.f (n : Nat) (r_1 : T_pack_Reader) : Option (Int × T_pack_Reader) :=
  (if (r_1.s == ([] : List UInt8)) then ((pack_Reader_fail.f n r_1).bind fun r_4 => (some (r_4.1, r_4.2))) else (if (0 : Int) ≤ 0 ∧ 0 < (r_1.s.length : Int) then (if decide ((wi64 ((rdB r_1.s 0).toNat : Int)) > 8) then (pack_Reader_Num.j0 n r_1 true) else (if decide ((wi64 ((rdB r_1.s 0).toNat : Int)) > (wi64 ((r_1.s.length : Int) - 1))) then (pack_Reader_Num.j0 n r_1 true) else (if decide ((wi64 ((rdB r_1.s 0).toNat : Int)) > 0) then (if (0 : Int) ≤ 1 ∧ 1 < (r_1.s.length : Int) then (pack_Reader_Num.j0 n r_1 (((rdB r_1.s 1).toNat : Int) == 0)) else none) else (pack_Reader_Num.j0 n r_1 false)))) else none))
def pack_Reader_Up.j0 (n : Nat) (r_4 : Int × T_pack_Reader) (b_6 : Bool) : Option (Int × T_pack_Reader) :=
  (if b_6 then ((pack_Reader_fail.f n r_4.2).bind fun r_8 => (some (wi64 r_8.1, r_8.2))) else (some (wi64 r_4.1, r_4.2)))
def pack_Reader_Up.f (n : Nat) (r_1 : T_pack_Reader) (limit_3 : Int) : Option (Int × T_pack_Reader) :=
  ((pack_Reader_Num.f n r_1).bind fun r_4 => (if decide (limit_3 < 0) then (pack_Reader_Up.j0 n r_4 true) else (pack_Reader_Up.j0 n r_4 (decide (r_4.1 > (wu64 limit_3))))))
def pack_Reader_Left.f (n : Nat) (r_1 : T_pack_Reader) : Option (Int × Bool) :=
  (some ((r_1.s.length : Int), (!r_1.bad)))
def pack_Reader_Done.f (n : Nat) (r_1 : T_pack_Reader) : Option Bool :=
  ((pack_Reader_Left.f n r_1).bind fun r_3 => (if (r_3.1 == 0) then (some r_3.2) else (some false)))
def command_Said.f (n : Nat) (s_1 : (List UInt8)) : Option (T_api_Reply × Int) :=
  ((pack_From.f n s_1).bind fun r_3 => ((pack_Reader_Up.f n r_3 52).bind fun r_5 => ((pack_Reader_Num.f n r_5.2).bind fun r_7 => ((pack_Reader_Num.f n r_7.2).bind fun r_8 => ((pack_Reader_Done.f n r_8.2).bind fun r_9 => (if (!r_9) then (some ((⟨0, 0, 0⟩ : T_api_Reply), 2)) else (some ((⟨r_5.1, r_7.1, r_8.1⟩ : T_api_Reply), 0))))))))
def client_Client_Hear.j2 (n : Nat) (c_1 : T_client_Client) (x_5 : T_api_Letter) (b_25 : Bool) : Option (T_api_Told × Bool × T_api_Letter × Bool × T_client_Client) :=
  (if b_25 then ((client_Client_letter.f n (⟨c_1.id, c_1.session, c_1.seq, c_1.call, c_1.busy, (⟨c_1.now.Kind, c_1.now.Session, c_1.now.Seq, c_1.now.Saga, c_1.now.Steps, c_1.now.Step, c_1.now.Back, c_1.now.Try, c_1.now.Ok, c_1.now.Now⟩ : T_api_Command), c_1.data, wi64 (wu64 (x_5.Commit - 1))⟩ : T_client_Client)).bind fun r_27 => (some ((⟨0, (⟨0, 0, 0, 0, [], 0, false, 0, false, 0⟩ : T_api_Command), (⟨0, 0, 0⟩ : T_api_Reply)⟩ : T_api_Told), false, r_27, true, (⟨c_1.id, c_1.session, c_1.seq, c_1.call, c_1.busy, (⟨c_1.now.Kind, c_1.now.Session, c_1.now.Seq, c_1.now.Saga, c_1.now.Steps, c_1.now.Step, c_1.now.Back, c_1.now.Try, c_1.now.Ok, c_1.now.Now⟩ : T_api_Command), c_1.data, wi64 (wu64 (x_5.Commit - 1))⟩ : T_client_Client)))) else (some ((⟨0, (⟨0, 0, 0, 0, [], 0, false, 0, false, 0⟩ : T_api_Command), (⟨0, 0, 0⟩ : T_api_Reply)⟩ : T_api_Told), false, (⟨0, 0, 0, 0, 0, 0, 0, false, [], []⟩ : T_api_Letter), false, (⟨c_1.id, c_1.session, c_1.seq, c_1.call, c_1.busy, (⟨c_1.now.Kind, c_1.now.Session, c_1.now.Seq, c_1.now.Saga, c_1.now.Steps, c_1.now.Step, c_1.now.Back, c_1.now.Try, c_1.now.Ok, c_1.now.Now⟩ : T_api_Command), c_1.data, c_1.to_⟩ : T_client_Client))))
def client_Client_Hear.j3 (n : Nat) (c_1 : T_client_Client) (r_17 : T_api_Reply × Int) (f_34 : Int) (f_35 : Int) : Option (T_api_Told × Bool × T_api_Letter × Bool × T_client_Client) :=
  (some ((⟨c_1.id, (⟨c_1.now.Kind, c_1.now.Session, c_1.now.Seq, c_1.now.Saga, c_1.now.Steps, c_1.now.Step, c_1.now.Back, c_1.now.Try, c_1.now.Ok, c_1.now.Now⟩ : T_api_Command), r_17.1⟩ : T_api_Told), true, (⟨0, 0, 0, 0, 0, 0, 0, false, [], []⟩ : T_api_Letter), false, (⟨c_1.id, f_34, f_35, c_1.call, false, (⟨c_1.now.Kind, c_1.now.Session, c_1.now.Seq, c_1.now.Saga, c_1.now.Steps, c_1.now.Step, c_1.now.Back, c_1.now.Try, c_1.now.Ok, c_1.now.Now⟩ : T_api_Command), c_1.data, c_1.to_⟩ : T_client_Client)))
def client_Client_Hear.j1 (n : Nat) (c_1 : T_client_Client) (x_5 : T_api_Letter) (r_17 : T_api_Reply × Int) (b_21 : Bool) : Option (T_api_Told × Bool × T_api_Letter × Bool × T_client_Client) :=
  (if b_21 then (if decide (x_5.Commit ≥ 1) then (if decide (x_5.Commit ≤ 7) then (client_Client_Hear.j2 n c_1 x_5 ((wi64 (wu64 (x_5.Commit - 1))) != c_1.to_)) else (client_Client_Hear.j2 n c_1 x_5 false)) else (client_Client_Hear.j2 n c_1 x_5 false)) else (if (c_1.now.Kind == 1) then (if (r_17.1.Err == 0) then (client_Client_Hear.j3 n c_1 r_17 r_17.1.Num 0) else (client_Client_Hear.j3 n c_1 r_17 c_1.session c_1.seq)) else (if (r_17.1.Err == 40) then (client_Client_Hear.j3 n c_1 r_17 0 0) else (client_Client_Hear.j3 n c_1 r_17 c_1.session (wu64 (c_1.seq + 1))))))
def client_Client_Hear.j0 (n : Nat) (c_1 : T_client_Client) (x_5 : T_api_Letter) (b_15 : Bool) : Option (T_api_Told × Bool × T_api_Letter × Bool × T_client_Client) :=
  (if b_15 then (some ((⟨0, (⟨0, 0, 0, 0, [], 0, false, 0, false, 0⟩ : T_api_Command), (⟨0, 0, 0⟩ : T_api_Reply)⟩ : T_api_Told), false, (⟨0, 0, 0, 0, 0, 0, 0, false, [], []⟩ : T_api_Letter), false, (⟨c_1.id, c_1.session, c_1.seq, c_1.call, c_1.busy, (⟨c_1.now.Kind, c_1.now.Session, c_1.now.Seq, c_1.now.Saga, c_1.now.Steps, c_1.now.Step, c_1.now.Back, c_1.now.Try, c_1.now.Ok, c_1.now.Now⟩ : T_api_Command), c_1.data, c_1.to_⟩ : T_client_Client))) else ((command_Said.f n x_5.Data).bind fun r_17 => (if (r_17.2 != 0) then (some ((⟨0, (⟨0, 0, 0, 0, [], 0, false, 0, false, 0⟩ : T_api_Command), (⟨0, 0, 0⟩ : T_api_Reply)⟩ : T_api_Told), false, (⟨0, 0, 0, 0, 0, 0, 0, false, [], []⟩ : T_api_Letter), false, (⟨c_1.id, c_1.session, c_1.seq, c_1.call, c_1.busy, (⟨c_1.now.Kind, c_1.now.Session, c_1.now.Seq, c_1.now.Saga, c_1.now.Steps, c_1.now.Step, c_1.now.Back, c_1.now.Try, c_1.now.Ok, c_1.now.Now⟩ : T_api_Command), c_1.data, c_1.to_⟩ : T_client_Client))) else (if (r_17.1.Err == 30) then (client_Client_Hear.j1 n c_1 x_5 r_17 true) else (client_Client_Hear.j1 n c_1 x_5 r_17 (r_17.1.Err == 31))))))
def client_Client_Hear.f (n : Nat) (c_1 : T_client_Client) (x_5 : T_api_Letter) : Option (T_api_Told × Bool × T_api_Letter × Bool × T_client_Client) :=
  (if (!c_1.busy) then (client_Client_Hear.j0 n c_1 x_5 true) else (if (x_5.Kind != 9) then (client_Client_Hear.j0 n c_1 x_5 true) else (if (x_5.To != (wi64 (200 + c_1.id))) then (client_Client_Hear.j0 n c_1 x_5 true) else (client_Client_Hear.j0 n c_1 x_5 (x_5.Index != c_1.call)))))
def client_Client_Status.f (n : Nat) (c_1 : T_client_Client) : Option (Int × Int × Bool) :=
  (some (c_1.session, c_1.seq, c_1.busy))
def tontinelaw21_begun.j4 (n : Nat) (r_13 : T_api_Told × Bool × T_api_Letter × Bool × T_client_Client) (r_22 : Int × Int × Bool) (b_32 : Bool) : Option Bool :=
  (if b_32 then (if (r_13.1.Reply.Num == 4) then (if (r_22.1 == 4) then (if (r_22.2.1 == 0) then (some (!r_22.2.2)) else (some false)) else (some false)) else (some false)) else (some false))
def tontinelaw21_begun.j3 (n : Nat) (r_13 : T_api_Told × Bool × T_api_Letter × Bool × T_client_Client) (r_22 : Int × Int × Bool) (b_30 : Bool) : Option Bool :=
  (if b_30 then (tontinelaw21_begun.j4 n r_13 r_22 (!r_13.2.2.2.1)) else (tontinelaw21_begun.j4 n r_13 r_22 false))
def tontinelaw21_begun.j2 (n : Nat) (r_13 : T_api_Told × Bool × T_api_Letter × Bool × T_client_Client) (r_22 : Int × Int × Bool) (b_28 : Bool) : Option Bool :=
  (if b_28 then (tontinelaw21_begun.j3 n r_13 r_22 r_13.2.1) else (tontinelaw21_begun.j3 n r_13 r_22 false))
def tontinelaw21_begun.j1 (n : Nat) (r_6 : T_api_Letter × Int × T_client_Client) (r_13 : T_api_Told × Bool × T_api_Letter × Bool × T_client_Client) (r_22 : Int × Int × Bool) (b_26 : Bool) : Option Bool :=
  (if b_26 then (tontinelaw21_begun.j2 n r_13 r_22 (r_6.1.Index == 1)) else (tontinelaw21_begun.j2 n r_13 r_22 false))
def tontinelaw21_begun.j0 (n : Nat) (r_6 : T_api_Letter × Int × T_client_Client) (r_13 : T_api_Told × Bool × T_api_Letter × Bool × T_client_Client) (r_22 : Int × Int × Bool) (b_24 : Bool) : Option Bool :=
  (if b_24 then (tontinelaw21_begun.j1 n r_6 r_13 r_22 (r_6.1.From == 201)) else (tontinelaw21_begun.j1 n r_6 r_13 r_22 false))
def tontinelaw21_begun.f (n : Nat) : Option Bool :=
  ((client_New.f n 1).bind fun r_1 => (match r_1.1 with | none => none | some o_5 => ((client_Client_Call.f n (⟨o_5.id, o_5.session, o_5.seq, o_5.call, o_5.busy, (⟨o_5.now.Kind, o_5.now.Session, o_5.now.Seq, o_5.now.Saga, o_5.now.Steps, o_5.now.Step, o_5.now.Back, o_5.now.Try, o_5.now.Ok, o_5.now.Now⟩ : T_api_Command), o_5.data, o_5.to_⟩ : T_client_Client) (⟨1, 0, 0, 0, [], 0, false, 0, false, 0⟩ : T_api_Command)).bind fun r_6 => ((tontineref16_Answer.f n (⟨0, 4, 0⟩ : T_api_Reply)).bind fun r_12 => ((client_Client_Hear.f n (⟨r_6.2.2.id, r_6.2.2.session, r_6.2.2.seq, r_6.2.2.call, r_6.2.2.busy, (⟨r_6.2.2.now.Kind, r_6.2.2.now.Session, r_6.2.2.now.Seq, r_6.2.2.now.Saga, r_6.2.2.now.Steps, r_6.2.2.now.Step, r_6.2.2.now.Back, r_6.2.2.now.Try, r_6.2.2.now.Ok, r_6.2.2.now.Now⟩ : T_api_Command), r_6.2.2.data, r_6.2.2.to_⟩ : T_client_Client) (⟨9, 0, 201, 0, 1, 0, 0, false, [], r_12⟩ : T_api_Letter)).bind fun r_13 => ((client_Client_Status.f n (⟨r_13.2.2.2.2.id, r_13.2.2.2.2.session, r_13.2.2.2.2.seq, r_13.2.2.2.2.call, r_13.2.2.2.2.busy, (⟨r_13.2.2.2.2.now.Kind, r_13.2.2.2.2.now.Session, r_13.2.2.2.2.now.Seq, r_13.2.2.2.2.now.Saga, r_13.2.2.2.2.now.Steps, r_13.2.2.2.2.now.Step, r_13.2.2.2.2.now.Back, r_13.2.2.2.2.now.Try, r_13.2.2.2.2.now.Ok, r_13.2.2.2.2.now.Now⟩ : T_api_Command), r_13.2.2.2.2.data, r_13.2.2.2.2.to_⟩ : T_client_Client)).bind fun r_22 => (if (r_1.2 == 0) then (tontinelaw21_begun.j0 n r_6 r_13 r_22 (r_6.2.1 == 0)) else (tontinelaw21_begun.j0 n r_6 r_13 r_22 false))))))))
def client_Client_Again.f (n : Nat) (c_1 : T_client_Client) : Option (T_api_Letter × Int × T_client_Client) :=
  (if (!c_1.busy) then (some ((⟨0, 0, 0, 0, 0, 0, 0, false, [], []⟩ : T_api_Letter), 1, (⟨c_1.id, c_1.session, c_1.seq, c_1.call, c_1.busy, (⟨c_1.now.Kind, c_1.now.Session, c_1.now.Seq, c_1.now.Saga, c_1.now.Steps, c_1.now.Step, c_1.now.Back, c_1.now.Try, c_1.now.Ok, c_1.now.Now⟩ : T_api_Command), c_1.data, c_1.to_⟩ : T_client_Client))) else ((client_Client_letter.f n (⟨c_1.id, c_1.session, c_1.seq, c_1.call, c_1.busy, (⟨c_1.now.Kind, c_1.now.Session, c_1.now.Seq, c_1.now.Saga, c_1.now.Steps, c_1.now.Step, c_1.now.Back, c_1.now.Try, c_1.now.Ok, c_1.now.Now⟩ : T_api_Command), c_1.data, (wi64 (c_1.to_ + 1)).tmod 7⟩ : T_client_Client)).bind fun r_7 => (some (r_7, 0, (⟨c_1.id, c_1.session, c_1.seq, c_1.call, c_1.busy, (⟨c_1.now.Kind, c_1.now.Session, c_1.now.Seq, c_1.now.Saga, c_1.now.Steps, c_1.now.Step, c_1.now.Back, c_1.now.Try, c_1.now.Ok, c_1.now.Now⟩ : T_api_Command), c_1.data, (wi64 (c_1.to_ + 1)).tmod 7⟩ : T_client_Client)))))
def tontinelaw21_light.l0 (n : Nat) (calls_1 : (List T_tontinelaw21_Call)) : Nat → Int → Int → Option Bool
  | 0, _, _ => none
  | k + 1, n_4, x_5 => (if decide (x_5 < (calls_1.length : Int)) then (if (0 : Int) ≤ x_5 ∧ x_5 < (calls_1.length : Int) then ((tontinelaw21_light.l0 n calls_1 k) (wi64 (n_4 + (wi64 ((((rdL calls_1 x_5).Command.Steps).length : Int) + (wi64 ((((rdL calls_1 x_5).Letter.Data).length : Int).tdiv 50)))))) (wi64 (x_5 + 1))) else none) else (some (decide (n_4 ≤ 2000))))
def tontinelaw21_light.f (n : Nat) (calls_1 : (List T_tontinelaw21_Call)) : Option Bool :=
  (tontinelaw21_light.l0 n calls_1 n (calls_1.length : Int) 0)
def tontineref13_Check.j2 (n : Nat) (L0 : Bool → Int → Option Int) (i_7 : Int) (bad_18 : Bool) : Option Int :=
  (L0 bad_18 (wi64 (i_7 + 1)))
def tontineref13_Check.j1 (n : Nat) (L0 : Bool → Int → Option Int) (l_1 : (List T_api_Step)) (bad_6 : Bool) (i_7 : Int) (b_9 : Bool) : Option Int :=
  (if b_9 then (if (0 : Int) ≤ i_7 ∧ i_7 < (l_1.length : Int) then (if decide (((rdL l_1 i_7).Part) < 0) then (tontineref13_Check.j2 n L0 i_7 true) else (if decide (((rdL l_1 i_7).Part) > 3) then (tontineref13_Check.j2 n L0 i_7 true) else (if decide ((((rdL l_1 i_7).Name).length : Int) < 1) then (tontineref13_Check.j2 n L0 i_7 true) else (if decide ((((rdL l_1 i_7).Name).length : Int) > 16) then (tontineref13_Check.j2 n L0 i_7 true) else (if decide (((rdL l_1 i_7).Budget) < 1) then (tontineref13_Check.j2 n L0 i_7 true) else (tontineref13_Check.j2 n L0 i_7 (decide (((rdL l_1 i_7).Budget) > 9)))))))) else none) else (if bad_6 then (some 44) else (some 0)))
def tontineref13_Check.l0 (n : Nat) (l_1 : (List T_api_Step)) : Nat → Bool → Int → Option Int
  | 0, _, _ => none
  | k + 1, bad_6, i_7 => (if decide (i_7 < (l_1.length : Int)) then (tontineref13_Check.j1 n (tontineref13_Check.l0 n l_1 k) l_1 bad_6 i_7 (!bad_6)) else (tontineref13_Check.j1 n (tontineref13_Check.l0 n l_1 k) l_1 bad_6 i_7 false))
def tontineref13_Check.j0 (n : Nat) (l_1 : (List T_api_Step)) (bad_5 : Bool) : Option Int :=
  (tontineref13_Check.l0 n l_1 n bad_5 0)
def tontineref13_Check.f (n : Nat) (l_1 : (List T_api_Step)) : Option Int :=
  (if ((l_1.length : Int) == 0) then (tontineref13_Check.j0 n l_1 true) else (tontineref13_Check.j0 n l_1 (decide ((l_1.length : Int) > 64))))
def tontineref16_bare.f (n : Nat) (c_1 : T_api_Command) : Option Bool :=
  (if (c_1.Step == 0) then (if (!c_1.Back) then (if (c_1.Try == 0) then (some (!c_1.Ok)) else (some false)) else (some false)) else (some false))
def tontineref16_May.j1 (n : Nat) (b_25 : Bool) : Option Bool :=
  (some b_25)
def tontineref16_May.j0 (n : Nat) (c_1 : T_api_Command) (b_7 : Bool) : Option Bool :=
  (if b_7 then (if ((c_1.Steps.length : Int) == 0) then ((tontineref16_bare.f n c_1).bind fun r_10 => (some r_10)) else (some false)) else (if (c_1.Kind == 2) then ((tontineref13_Check.f n c_1.Steps).bind fun r_13 => (if (r_13 == 0) then ((tontineref16_bare.f n c_1).bind fun r_15 => (some r_15)) else (some false))) else (if (c_1.Kind == 4) then (if ((c_1.Steps.length : Int) == 0) then (if decide (c_1.Step ≥ 0) then (if decide (c_1.Step ≤ 63) then (if decide (c_1.Try ≥ 0) then (if decide (c_1.Try ≤ 8) then (if (c_1.Session == 0) then (tontineref16_May.j1 n (c_1.Seq == 0)) else (tontineref16_May.j1 n false)) else (tontineref16_May.j1 n false)) else (tontineref16_May.j1 n false)) else (tontineref16_May.j1 n false)) else (tontineref16_May.j1 n false)) else (tontineref16_May.j1 n false)) else (some false))))
def tontineref16_May.f (n : Nat) (c_1 : T_api_Command) : Option Bool :=
  (if (c_1.Kind == 1) then (tontineref16_May.j0 n c_1 (c_1.Kind == 1)) else (if (c_1.Kind == 3) then (tontineref16_May.j0 n c_1 (c_1.Kind == 3)) else (tontineref16_May.j0 n c_1 (c_1.Kind == 5))))
def tontineref03_Text.f (n : Nat) (s_1 : (List UInt8)) : Option (List UInt8) :=
  ((tontineref03_Num.f n (wu64 (s_1.length : Int))).bind fun r_2 => (if r_2.length + s_1.length ≤ i64max then (some (r_2 ++ s_1)) else none))
def tontineref13_Bytes.l0 (n : Nat) (l_1 : (List T_api_Step)) : Nat → (List UInt8) → Int → Option (List UInt8)
  | 0, _, _ => none
  | k + 1, s_5, i_6 => (if decide (i_6 < (l_1.length : Int)) then (if (0 : Int) ≤ i_6 ∧ i_6 < (l_1.length : Int) then (if (0 : Int) ≤ i_6 ∧ i_6 < (l_1.length : Int) then (if (0 : Int) ≤ i_6 ∧ i_6 < (l_1.length : Int) then ((tontineref03_Num.f n (wu64 ((rdL l_1 i_6).Part))).bind fun r_11 => ((tontineref03_Text.f n ((rdL l_1 i_6).Name)).bind fun r_12 => (if r_11.length + r_12.length ≤ i64max then ((tontineref03_Num.f n (wu64 ((rdL l_1 i_6).Budget))).bind fun r_14 => (if (r_11 ++ r_12).length + r_14.length ≤ i64max then (if s_5.length + ((r_11 ++ r_12) ++ r_14).length ≤ i64max then ((tontineref13_Bytes.l0 n l_1 k) (s_5 ++ ((r_11 ++ r_12) ++ r_14)) (wi64 (i_6 + 1))) else none) else none)) else none))) else none) else none) else none) else (some s_5))
def tontineref13_Bytes.f (n : Nat) (l_1 : (List T_api_Step)) : Option (List UInt8) :=
  ((tontineref03_Num.f n (wu64 (l_1.length : Int))).bind fun r_4 => (tontineref13_Bytes.l0 n l_1 n r_4 0))
def tontineref16_truth.f (n : Nat) (x_1 : Bool) : Option Int :=
  (if x_1 then (some 1) else (some 0))
def tontineref16_Encode.j1 (n : Nat) (c_1 : T_api_Command) (s_17 : (List UInt8)) : Option ((List UInt8) × Int) :=
  (if (c_1.Kind == 4) then ((tontineref16_truth.f n c_1.Back).bind fun r_19 => ((tontineref16_truth.f n c_1.Ok).bind fun r_20 => ((tontineref16_nums.f n [wu64 c_1.Step, r_19, wu64 c_1.Try, r_20]).bind fun r_23 => (if s_17.length + r_23.length ≤ i64max then (some (s_17 ++ r_23, 0)) else none)))) else (some (s_17, 0)))
def tontineref16_Encode.j0 (n : Nat) (c_1 : T_api_Command) (b_7 : Bool) : Option ((List UInt8) × Int) :=
  (if b_7 then (some ([], 44)) else ((tontineref16_May.f n c_1).bind fun r_9 => (if (!r_9) then (some ([], 1)) else ((tontineref16_nums.f n [wu64 c_1.Kind, c_1.Session, c_1.Seq, c_1.Saga, c_1.Now]).bind fun r_13 => (if (c_1.Kind == 2) then ((tontineref13_Bytes.f n c_1.Steps).bind fun r_15 => (if r_13.length + r_15.length ≤ i64max then (tontineref16_Encode.j1 n c_1 (r_13 ++ r_15)) else none)) else (tontineref16_Encode.j1 n c_1 r_13))))))
def tontineref16_Encode.f (n : Nat) (c_1 : T_api_Command) : Option ((List UInt8) × Int) :=
  (if (c_1.Kind == 2) then ((tontineref13_Check.f n c_1.Steps).bind fun r_6 => (tontineref16_Encode.j0 n c_1 (r_6 != 0))) else (tontineref16_Encode.j0 n c_1 false))
def tontineref21_Client_letter.f (n : Nat) (c_1 : T_tontineref21_Client) : Option T_api_Letter :=
  ((tontineref16_Encode.f n (⟨c_1.Now.Kind, c_1.Now.Session, c_1.Now.Seq, c_1.Now.Saga, c_1.Now.Steps, c_1.Now.Step, c_1.Now.Back, c_1.Now.Try, c_1.Now.Ok, c_1.Now.Now⟩ : T_api_Command)).bind fun r_6 => (some (⟨8, wi64 (200 + c_1.Id), c_1.To, 0, c_1.Calls, 0, 0, false, [], r_6.1⟩ : T_api_Letter)))
def tontineref21_Client_Call.j1 (n : Nat) (c_1 : T_tontineref21_Client) (x_5 : T_api_Command) (f_16 : Int) (f_17 : Int) : Option (T_api_Letter × Int × T_tontineref21_Client) :=
  ((tontineref16_Encode.f n (⟨x_5.Kind, f_16, f_17, x_5.Saga, x_5.Steps, x_5.Step, x_5.Back, x_5.Try, x_5.Ok, 0⟩ : T_api_Command)).bind fun r_18 => (if (r_18.2 != 0) then (some ((⟨0, 0, 0, 0, 0, 0, 0, false, [], []⟩ : T_api_Letter), r_18.2, (⟨c_1.Id, c_1.Session, c_1.Last, c_1.Calls, c_1.Busy, (⟨c_1.Now.Kind, c_1.Now.Session, c_1.Now.Seq, c_1.Now.Saga, c_1.Now.Steps, c_1.Now.Step, c_1.Now.Back, c_1.Now.Try, c_1.Now.Ok, c_1.Now.Now⟩ : T_api_Command), c_1.To⟩ : T_tontineref21_Client))) else ((tontineref21_Client_letter.f n (⟨c_1.Id, c_1.Session, c_1.Last, wu64 (c_1.Calls + 1), true, (⟨x_5.Kind, f_16, f_17, x_5.Saga, x_5.Steps, x_5.Step, x_5.Back, x_5.Try, x_5.Ok, 0⟩ : T_api_Command), c_1.To⟩ : T_tontineref21_Client)).bind fun r_20 => (some (r_20, 0, (⟨c_1.Id, c_1.Session, c_1.Last, wu64 (c_1.Calls + 1), true, (⟨x_5.Kind, f_16, f_17, x_5.Saga, x_5.Steps, x_5.Step, x_5.Back, x_5.Try, x_5.Ok, 0⟩ : T_api_Command), c_1.To⟩ : T_tontineref21_Client))))))
def tontineref21_Client_Call.j0 (n : Nat) (c_1 : T_tontineref21_Client) (x_5 : T_api_Command) (b_12 : Bool) : Option (T_api_Letter × Int × T_tontineref21_Client) :=
  (if b_12 then (some ((⟨0, 0, 0, 0, 0, 0, 0, false, [], []⟩ : T_api_Letter), 40, (⟨c_1.Id, c_1.Session, c_1.Last, c_1.Calls, c_1.Busy, (⟨c_1.Now.Kind, c_1.Now.Session, c_1.Now.Seq, c_1.Now.Saga, c_1.Now.Steps, c_1.Now.Step, c_1.Now.Back, c_1.Now.Try, c_1.Now.Ok, c_1.Now.Now⟩ : T_api_Command), c_1.To⟩ : T_tontineref21_Client))) else (if (x_5.Kind == 4) then (some ((⟨0, 0, 0, 0, 0, 0, 0, false, [], []⟩ : T_api_Letter), 1, (⟨c_1.Id, c_1.Session, c_1.Last, c_1.Calls, c_1.Busy, (⟨c_1.Now.Kind, c_1.Now.Session, c_1.Now.Seq, c_1.Now.Saga, c_1.Now.Steps, c_1.Now.Step, c_1.Now.Back, c_1.Now.Try, c_1.Now.Ok, c_1.Now.Now⟩ : T_api_Command), c_1.To⟩ : T_tontineref21_Client))) else (if (x_5.Kind != 1) then (tontineref21_Client_Call.j1 n c_1 x_5 c_1.Session (wu64 (c_1.Last + 1))) else (tontineref21_Client_Call.j1 n c_1 x_5 0 0))))
def tontineref21_Client_Call.f (n : Nat) (c_1 : T_tontineref21_Client) (x_5 : T_api_Command) : Option (T_api_Letter × Int × T_tontineref21_Client) :=
  (if c_1.Busy then (some ((⟨0, 0, 0, 0, 0, 0, 0, false, [], []⟩ : T_api_Letter), 31, (⟨c_1.Id, c_1.Session, c_1.Last, c_1.Calls, c_1.Busy, (⟨c_1.Now.Kind, c_1.Now.Session, c_1.Now.Seq, c_1.Now.Saga, c_1.Now.Steps, c_1.Now.Step, c_1.Now.Back, c_1.Now.Try, c_1.Now.Ok, c_1.Now.Now⟩ : T_api_Command), c_1.To⟩ : T_tontineref21_Client))) else (if (x_5.Kind != 1) then (tontineref21_Client_Call.j0 n c_1 x_5 (c_1.Session == 0)) else (tontineref21_Client_Call.j0 n c_1 x_5 false)))
def tontineref07_Same.l0 (n : Nat) (a_1 : (List T_api_Entry)) (b_4 : (List T_api_Entry)) : Nat → Int → Option Bool
  | 0, _ => none
  | k + 1, i_8 => (if decide (i_8 < (a_1.length : Int)) then (if (0 : Int) ≤ i_8 ∧ i_8 < (a_1.length : Int) then (if (0 : Int) ≤ i_8 ∧ i_8 < (b_4.length : Int) then (if (!((((rdL a_1 i_8).Term) == ((rdL b_4 i_8).Term)) && ((((rdL a_1 i_8).Index) == ((rdL b_4 i_8).Index)) && ((((rdL a_1 i_8).Kind) == ((rdL b_4 i_8).Kind)) && ((((rdL a_1 i_8).Data) == ((rdL b_4 i_8).Data)) && true))))) then (some false) else ((tontineref07_Same.l0 n a_1 b_4 k) (wi64 (i_8 + 1)))) else none) else none) else (some true))
def tontineref07_Same.f (n : Nat) (a_1 : (List T_api_Entry)) (b_4 : (List T_api_Entry)) : Option Bool :=
  (if ((a_1.length : Int) != (b_4.length : Int)) then (some false) else (tontineref07_Same.l0 n a_1 b_4 n 0))
def tontineref10_Same.f (n : Nat) (a_1 : T_api_Letter) (b_4 : T_api_Letter) : Option Bool :=
  (if (a_1.Kind == b_4.Kind) then (if (a_1.From == b_4.From) then (if (a_1.To == b_4.To) then (if (a_1.Term == b_4.Term) then (if (a_1.Index == b_4.Index) then (if (a_1.Prev == b_4.Prev) then (if (a_1.Commit == b_4.Commit) then (if (a_1.Ok == b_4.Ok) then (if (a_1.Data == b_4.Data) then ((tontineref07_Same.f n a_1.Entries b_4.Entries).bind fun r_18 => (some r_18)) else (some false)) else (some false)) else (some false)) else (some false)) else (some false)) else (some false)) else (some false)) else (some false)) else (some false))
def tontineref21_Client_Again.f (n : Nat) (c_1 : T_tontineref21_Client) : Option (T_api_Letter × Int × T_tontineref21_Client) :=
  (if (!c_1.Busy) then (some ((⟨0, 0, 0, 0, 0, 0, 0, false, [], []⟩ : T_api_Letter), 1, (⟨c_1.Id, c_1.Session, c_1.Last, c_1.Calls, c_1.Busy, (⟨c_1.Now.Kind, c_1.Now.Session, c_1.Now.Seq, c_1.Now.Saga, c_1.Now.Steps, c_1.Now.Step, c_1.Now.Back, c_1.Now.Try, c_1.Now.Ok, c_1.Now.Now⟩ : T_api_Command), c_1.To⟩ : T_tontineref21_Client))) else (if ((wi64 (c_1.To + 1)) == 7) then ((tontineref21_Client_letter.f n (⟨c_1.Id, c_1.Session, c_1.Last, c_1.Calls, c_1.Busy, (⟨c_1.Now.Kind, c_1.Now.Session, c_1.Now.Seq, c_1.Now.Saga, c_1.Now.Steps, c_1.Now.Step, c_1.Now.Back, c_1.Now.Try, c_1.Now.Ok, c_1.Now.Now⟩ : T_api_Command), 0⟩ : T_tontineref21_Client)).bind fun r_8 => (some (r_8, 0, (⟨c_1.Id, c_1.Session, c_1.Last, c_1.Calls, c_1.Busy, (⟨c_1.Now.Kind, c_1.Now.Session, c_1.Now.Seq, c_1.Now.Saga, c_1.Now.Steps, c_1.Now.Step, c_1.Now.Back, c_1.Now.Try, c_1.Now.Ok, c_1.Now.Now⟩ : T_api_Command), 0⟩ : T_tontineref21_Client)))) else ((tontineref21_Client_letter.f n (⟨c_1.Id, c_1.Session, c_1.Last, c_1.Calls, c_1.Busy, (⟨c_1.Now.Kind, c_1.Now.Session, c_1.Now.Seq, c_1.Now.Saga, c_1.Now.Steps, c_1.Now.Step, c_1.Now.Back, c_1.Now.Try, c_1.Now.Ok, c_1.Now.Now⟩ : T_api_Command), wi64 (c_1.To + 1)⟩ : T_tontineref21_Client)).bind fun r_12 => (some (r_12, 0, (⟨c_1.Id, c_1.Session, c_1.Last, c_1.Calls, c_1.Busy, (⟨c_1.Now.Kind, c_1.Now.Session, c_1.Now.Seq, c_1.Now.Saga, c_1.Now.Steps, c_1.Now.Step, c_1.Now.Back, c_1.Now.Try, c_1.Now.Ok, c_1.Now.Now⟩ : T_api_Command), wi64 (c_1.To + 1)⟩ : T_tontineref21_Client))))))
def tontineref03_Reader_Fail.f (n : Nat) (r_1 : T_tontineref03_Reader) : Option T_tontineref03_Reader :=
  (some (⟨[], true⟩ : T_tontineref03_Reader))
def tontineref03_Reader_Num.l0 (n : Nat) (r_1 : T_tontineref03_Reader) (n_5 : Int) : Nat → Int → Int → Option (Int × T_tontineref03_Reader)
  | 0, _, _ => none
  | k + 1, x_15, i_16 => (if decide (i_16 ≤ n_5) then (if (0 : Int) ≤ i_16 ∧ i_16 < (r_1.S_.length : Int) then ((tontineref03_Reader_Num.l0 n r_1 n_5 k) (wu64 ((wu64 (256 * x_15)) + (wu64 ((rdB r_1.S_ i_16).toNat : Int)))) (wi64 (i_16 + 1))) else none) else (if (0 : Int) ≤ (wi64 (n_5 + 1)) ∧ (wi64 (n_5 + 1)) ≤ (r_1.S_.length : Int) then (some (x_15, (⟨r_1.S_.drop (wi64 (n_5 + 1)).toNat, r_1.Bad⟩ : T_tontineref03_Reader))) else none))
def tontineref03_Reader_Num.j1 (n : Nat) (r_1 : T_tontineref03_Reader) (n_5 : Int) (b_11 : Bool) : Option (Int × T_tontineref03_Reader) :=
  (if b_11 then ((tontineref03_Reader_Fail.f n r_1).bind fun r_13 => (some (0, r_13))) else (tontineref03_Reader_Num.l0 n r_1 n_5 n 0 1))
def tontineref03_Reader_Num.j0 (n : Nat) (r_1 : T_tontineref03_Reader) (n_5 : Int) : Option (Int × T_tontineref03_Reader) :=
  (if decide (n_5 < 0) then (tontineref03_Reader_Num.j1 n r_1 n_5 true) else (if decide (n_5 > 8) then (tontineref03_Reader_Num.j1 n r_1 n_5 true) else (if decide ((r_1.S_.length : Int) < (wi64 (n_5 + 1))) then (tontineref03_Reader_Num.j1 n r_1 n_5 true) else (if decide (n_5 > 0) then (if (0 : Int) ≤ 1 ∧ 1 < (r_1.S_.length : Int) then (tontineref03_Reader_Num.j1 n r_1 n_5 (((rdB r_1.S_ 1).toNat : Int) == 0)) else none) else (tontineref03_Reader_Num.j1 n r_1 n_5 false)))))
def tontineref03_Reader_Num.f (n : Nat) (r_1 : T_tontineref03_Reader) : Option (Int × T_tontineref03_Reader) :=
  (if decide ((r_1.S_.length : Int) > 0) then (if (0 : Int) ≤ 0 ∧ 0 < (r_1.S_.length : Int) then (tontineref03_Reader_Num.j0 n r_1 (wi64 ((rdB r_1.S_ 0).toNat : Int))) else none) else (tontineref03_Reader_Num.j0 n r_1 (-1)))
def tontineref03_Reader_Up.j0 (n : Nat) (r_4 : Int × T_tontineref03_Reader) (b_6 : Bool) : Option (Int × T_tontineref03_Reader) :=
  (if b_6 then ((tontineref03_Reader_Fail.f n r_4.2).bind fun r_8 => (some (0, r_8))) else (some (wi64 r_4.1, r_4.2)))
def tontineref03_Reader_Up.f (n : Nat) (r_1 : T_tontineref03_Reader) (limit_3 : Int) : Option (Int × T_tontineref03_Reader) :=
  ((tontineref03_Reader_Num.f n r_1).bind fun r_4 => (if decide (limit_3 < 0) then (tontineref03_Reader_Up.j0 n r_4 true) else (tontineref03_Reader_Up.j0 n r_4 (decide (r_4.1 > (wu64 limit_3))))))
def tontineref16_Said.f (n : Nat) (s_1 : (List UInt8)) : Option (T_api_Reply × Int) :=
  ((tontineref03_Reader_Up.f n (⟨s_1, false⟩ : T_tontineref03_Reader) 52).bind fun r_4 => ((tontineref03_Reader_Num.f n r_4.2).bind fun r_6 => ((tontineref03_Reader_Num.f n r_6.2).bind fun r_7 => (if r_7.2.Bad then (some ((⟨0, 0, 0⟩ : T_api_Reply), 2)) else (if (!(r_7.2.S_ == ([] : List UInt8))) then (some ((⟨0, 0, 0⟩ : T_api_Reply), 2)) else (some ((⟨r_4.1, r_6.1, r_7.1⟩ : T_api_Reply), 0)))))))
def tontineref21_Client_Hear.j2 (n : Nat) (c_1 : T_tontineref21_Client) (x_5 : T_api_Letter) (b_24 : Bool) : Option (T_api_Told × Bool × T_api_Letter × Bool × T_tontineref21_Client) :=
  (if b_24 then (some ((⟨0, (⟨0, 0, 0, 0, [], 0, false, 0, false, 0⟩ : T_api_Command), (⟨0, 0, 0⟩ : T_api_Reply)⟩ : T_api_Told), false, (⟨0, 0, 0, 0, 0, 0, 0, false, [], []⟩ : T_api_Letter), false, (⟨c_1.Id, c_1.Session, c_1.Last, c_1.Calls, c_1.Busy, (⟨c_1.Now.Kind, c_1.Now.Session, c_1.Now.Seq, c_1.Now.Saga, c_1.Now.Steps, c_1.Now.Step, c_1.Now.Back, c_1.Now.Try, c_1.Now.Ok, c_1.Now.Now⟩ : T_api_Command), c_1.To⟩ : T_tontineref21_Client))) else ((tontineref21_Client_letter.f n (⟨c_1.Id, c_1.Session, c_1.Last, c_1.Calls, c_1.Busy, (⟨c_1.Now.Kind, c_1.Now.Session, c_1.Now.Seq, c_1.Now.Saga, c_1.Now.Steps, c_1.Now.Step, c_1.Now.Back, c_1.Now.Try, c_1.Now.Ok, c_1.Now.Now⟩ : T_api_Command), wi64 ((wi64 x_5.Commit) - 1)⟩ : T_tontineref21_Client)).bind fun r_26 => (some ((⟨0, (⟨0, 0, 0, 0, [], 0, false, 0, false, 0⟩ : T_api_Command), (⟨0, 0, 0⟩ : T_api_Reply)⟩ : T_api_Told), false, r_26, true, (⟨c_1.Id, c_1.Session, c_1.Last, c_1.Calls, c_1.Busy, (⟨c_1.Now.Kind, c_1.Now.Session, c_1.Now.Seq, c_1.Now.Saga, c_1.Now.Steps, c_1.Now.Step, c_1.Now.Back, c_1.Now.Try, c_1.Now.Ok, c_1.Now.Now⟩ : T_api_Command), wi64 ((wi64 x_5.Commit) - 1)⟩ : T_tontineref21_Client)))))
def tontineref21_Client_Hear.j3 (n : Nat) (c_1 : T_tontineref21_Client) (r_11 : T_api_Reply × Int) (f_33 : Int) (f_34 : Int) : Option (T_api_Told × Bool × T_api_Letter × Bool × T_tontineref21_Client) :=
  (some ((⟨c_1.Id, (⟨c_1.Now.Kind, c_1.Now.Session, c_1.Now.Seq, c_1.Now.Saga, c_1.Now.Steps, c_1.Now.Step, c_1.Now.Back, c_1.Now.Try, c_1.Now.Ok, c_1.Now.Now⟩ : T_api_Command), r_11.1⟩ : T_api_Told), true, (⟨0, 0, 0, 0, 0, 0, 0, false, [], []⟩ : T_api_Letter), false, (⟨c_1.Id, f_33, f_34, c_1.Calls, false, (⟨c_1.Now.Kind, c_1.Now.Session, c_1.Now.Seq, c_1.Now.Saga, c_1.Now.Steps, c_1.Now.Step, c_1.Now.Back, c_1.Now.Try, c_1.Now.Ok, c_1.Now.Now⟩ : T_api_Command), c_1.To⟩ : T_tontineref21_Client)))
def tontineref21_Client_Hear.j1 (n : Nat) (c_1 : T_tontineref21_Client) (x_5 : T_api_Letter) (r_11 : T_api_Reply × Int) (b_20 : Bool) : Option (T_api_Told × Bool × T_api_Letter × Bool × T_tontineref21_Client) :=
  (if b_20 then (if decide (x_5.Commit < 1) then (tontineref21_Client_Hear.j2 n c_1 x_5 true) else (if decide (x_5.Commit > 7) then (tontineref21_Client_Hear.j2 n c_1 x_5 true) else (tontineref21_Client_Hear.j2 n c_1 x_5 ((wi64 x_5.Commit) == (wi64 (c_1.To + 1)))))) else (if (c_1.Now.Kind == 1) then (if (r_11.1.Err == 0) then (tontineref21_Client_Hear.j3 n c_1 r_11 r_11.1.Num 0) else (tontineref21_Client_Hear.j3 n c_1 r_11 c_1.Session c_1.Last)) else (if (r_11.1.Err == 40) then (tontineref21_Client_Hear.j3 n c_1 r_11 0 0) else (tontineref21_Client_Hear.j3 n c_1 r_11 c_1.Session (wu64 (c_1.Last + 1))))))
def tontineref21_Client_Hear.j0 (n : Nat) (c_1 : T_tontineref21_Client) (x_5 : T_api_Letter) (r_11 : T_api_Reply × Int) (b_17 : Bool) : Option (T_api_Told × Bool × T_api_Letter × Bool × T_tontineref21_Client) :=
  (if b_17 then (some ((⟨0, (⟨0, 0, 0, 0, [], 0, false, 0, false, 0⟩ : T_api_Command), (⟨0, 0, 0⟩ : T_api_Reply)⟩ : T_api_Told), false, (⟨0, 0, 0, 0, 0, 0, 0, false, [], []⟩ : T_api_Letter), false, (⟨c_1.Id, c_1.Session, c_1.Last, c_1.Calls, c_1.Busy, (⟨c_1.Now.Kind, c_1.Now.Session, c_1.Now.Seq, c_1.Now.Saga, c_1.Now.Steps, c_1.Now.Step, c_1.Now.Back, c_1.Now.Try, c_1.Now.Ok, c_1.Now.Now⟩ : T_api_Command), c_1.To⟩ : T_tontineref21_Client))) else (if (r_11.1.Err == 30) then (tontineref21_Client_Hear.j1 n c_1 x_5 r_11 true) else (tontineref21_Client_Hear.j1 n c_1 x_5 r_11 (r_11.1.Err == 31))))
def tontineref21_Client_Hear.f (n : Nat) (c_1 : T_tontineref21_Client) (x_5 : T_api_Letter) : Option (T_api_Told × Bool × T_api_Letter × Bool × T_tontineref21_Client) :=
  ((tontineref16_Said.f n x_5.Data).bind fun r_11 => (if (!c_1.Busy) then (tontineref21_Client_Hear.j0 n c_1 x_5 r_11 true) else (if (x_5.Kind != 9) then (tontineref21_Client_Hear.j0 n c_1 x_5 r_11 true) else (if (x_5.To != (wi64 (200 + c_1.Id))) then (tontineref21_Client_Hear.j0 n c_1 x_5 r_11 true) else (if (x_5.Index != c_1.Calls) then (tontineref21_Client_Hear.j0 n c_1 x_5 r_11 true) else (tontineref21_Client_Hear.j0 n c_1 x_5 r_11 (r_11.2 != 0)))))))
def tontineref13_Same.l0 (n : Nat) (a_1 : (List T_api_Step)) (b_4 : (List T_api_Step)) : Nat → Int → Option Bool
  | 0, _ => none
  | k + 1, i_8 => (if decide (i_8 < (a_1.length : Int)) then (if (0 : Int) ≤ i_8 ∧ i_8 < (a_1.length : Int) then (if (0 : Int) ≤ i_8 ∧ i_8 < (b_4.length : Int) then (if (!((((rdL a_1 i_8).Part) == ((rdL b_4 i_8).Part)) && ((((rdL a_1 i_8).Name) == ((rdL b_4 i_8).Name)) && ((((rdL a_1 i_8).Budget) == ((rdL b_4 i_8).Budget)) && true)))) then (some false) else ((tontineref13_Same.l0 n a_1 b_4 k) (wi64 (i_8 + 1)))) else none) else none) else (some true))
def tontineref13_Same.f (n : Nat) (a_1 : (List T_api_Step)) (b_4 : (List T_api_Step)) : Option Bool :=
  (if ((a_1.length : Int) != (b_4.length : Int)) then (some false) else (tontineref13_Same.l0 n a_1 b_4 n 0))
def tontineref16_Same.f (n : Nat) (a_1 : T_api_Command) (b_4 : T_api_Command) : Option Bool :=
  (if (a_1.Kind == b_4.Kind) then (if (a_1.Session == b_4.Session) then (if (a_1.Seq == b_4.Seq) then (if (a_1.Saga == b_4.Saga) then (if (a_1.Step == b_4.Step) then (if (a_1.Back == b_4.Back) then (if (a_1.Try == b_4.Try) then (if (a_1.Ok == b_4.Ok) then (if (a_1.Now == b_4.Now) then ((tontineref13_Same.f n a_1.Steps b_4.Steps).bind fun r_18 => (some r_18)) else (some false)) else (some false)) else (some false)) else (some false)) else (some false)) else (some false)) else (some false)) else (some false)) else (some false))
def tontineref21_Same.f (n : Nat) (a_1 : T_api_Told) (b_4 : T_api_Told) : Option Bool :=
  (if (a_1.Client == b_4.Client) then (if ((a_1.Reply.Err == b_4.Reply.Err) && ((a_1.Reply.Num == b_4.Reply.Num) && ((a_1.Reply.Extra == b_4.Reply.Extra) && true))) then ((tontineref16_Same.f n (⟨a_1.Command.Kind, a_1.Command.Session, a_1.Command.Seq, a_1.Command.Saga, a_1.Command.Steps, a_1.Command.Step, a_1.Command.Back, a_1.Command.Try, a_1.Command.Ok, a_1.Command.Now⟩ : T_api_Command) (⟨b_4.Command.Kind, b_4.Command.Session, b_4.Command.Seq, b_4.Command.Saga, b_4.Command.Steps, b_4.Command.Step, b_4.Command.Back, b_4.Command.Try, b_4.Command.Ok, b_4.Command.Now⟩ : T_api_Command)).bind fun r_11 => (some r_11)) else (some false)) else (some false))
def client_Client_Give.f (n : Nat) (c_1 : T_client_Client) : Option (Int × T_client_Client) :=
  (if (!c_1.busy) then (some (1, (⟨c_1.id, c_1.session, c_1.seq, c_1.call, c_1.busy, (⟨c_1.now.Kind, c_1.now.Session, c_1.now.Seq, c_1.now.Saga, c_1.now.Steps, c_1.now.Step, c_1.now.Back, c_1.now.Try, c_1.now.Ok, c_1.now.Now⟩ : T_api_Command), c_1.data, c_1.to_⟩ : T_client_Client))) else (some (0, (⟨c_1.id, 0, 0, c_1.call, false, (⟨c_1.now.Kind, c_1.now.Session, c_1.now.Seq, c_1.now.Saga, c_1.now.Steps, c_1.now.Step, c_1.now.Back, c_1.now.Try, c_1.now.Ok, c_1.now.Now⟩ : T_api_Command), c_1.data, c_1.to_⟩ : T_client_Client))))
def tontineref21_Client_Give.f (n : Nat) (c_1 : T_tontineref21_Client) : Option (Int × T_tontineref21_Client) :=
  (if (!c_1.Busy) then (some (1, (⟨c_1.Id, c_1.Session, c_1.Last, c_1.Calls, c_1.Busy, (⟨c_1.Now.Kind, c_1.Now.Session, c_1.Now.Seq, c_1.Now.Saga, c_1.Now.Steps, c_1.Now.Step, c_1.Now.Back, c_1.Now.Try, c_1.Now.Ok, c_1.Now.Now⟩ : T_api_Command), c_1.To⟩ : T_tontineref21_Client))) else (some (0, (⟨c_1.Id, 0, 0, c_1.Calls, false, (⟨c_1.Now.Kind, c_1.Now.Session, c_1.Now.Seq, c_1.Now.Saga, c_1.Now.Steps, c_1.Now.Step, c_1.Now.Back, c_1.Now.Try, c_1.Now.Ok, c_1.Now.Now⟩ : T_api_Command), c_1.To⟩ : T_tontineref21_Client))))
def tontinelaw21_ClientRuns.j1 (n : Nat) (b_18 : Bool) : Option Bool :=
  (some b_18)
def tontinelaw21_ClientRuns.l0 (n : Nat) (calls_2 : (List T_tontinelaw21_Call)) : Nat → Option Bool
  | 0 => none
  | k + 1 => (if decide (0 < (calls_2.length : Int)) then (if (0 : Int) ≤ 0 ∧ 0 < (calls_2.length : Int) then (if (((rdL calls_2 (0 : Int)).Kind) == 0) then none else (if (((rdL calls_2 (0 : Int)).Kind) == 1) then none else (if (((rdL calls_2 (0 : Int)).Kind) == 2) then none else none))) else none) else (some true))
def tontinelaw21_ClientRuns.j0 (n : Nat) (calls_2 : (List T_tontinelaw21_Call)) (r_9 : Option T_client_Client × Int) (b_15 : Bool) : Option Bool :=
  (if b_15 then (if (r_9.2 == 1) then (tontinelaw21_ClientRuns.j1 n true) else (tontinelaw21_ClientRuns.j1 n false)) else (tontinelaw21_ClientRuns.l0 n calls_2 n))
def tontinelaw21_ClientRuns.j3 (n : Nat) : Option Bool :=
  (some false)
def tontinelaw21_ClientRuns.j5 (n : Nat) (L1 : Int → Int → Int → Int → Bool → Int → Int → Int → Int → (List T_api_Step) → Int → Bool → Int → Bool → Int → (List UInt8) → Int → Int → Int → Int → Int → Bool → Int → Int → Int → Int → (List T_api_Step) → Int → Bool → Int → Bool → Int → Int → Int → Option Bool) (x_72 : Int) (f_147 : Int) (f_148 : Int) (f_149 : Int) (f_150 : Int) (f_151 : Bool) (f_152 : Int) (f_153 : Int) (f_154 : Int) (f_155 : Int) (f_156 : (List T_api_Step)) (f_159 : Int) (f_160 : Bool) (f_161 : Int) (f_162 : Bool) (f_163 : Int) (f_164 : (List UInt8)) (f_165 : Int) (f_166 : Int) (f_167 : Int) (f_168 : Int) (f_169 : Int) (f_170 : Bool) (f_171 : Int) (f_172 : Int) (f_173 : Int) (f_174 : Int) (f_175 : (List T_api_Step)) (f_178 : Int) (f_179 : Bool) (f_180 : Int) (f_181 : Bool) (f_182 : Int) (f_183 : Int) (b_187 : Bool) : Option Bool :=
  (if b_187 then (some false) else (L1 f_147 f_148 f_149 f_150 f_151 f_152 f_153 f_154 f_155 f_156 f_159 f_160 f_161 f_162 f_163 f_164 f_165 f_166 f_167 f_168 f_169 f_170 f_171 f_172 f_173 f_174 f_175 f_178 f_179 f_180 f_181 f_182 f_183 (wi64 (x_72 + 1))))
def tontinelaw21_ClientRuns.j4 (n : Nat) (L1 : Int → Int → Int → Int → Bool → Int → Int → Int → Int → (List T_api_Step) → Int → Bool → Int → Bool → Int → (List UInt8) → Int → Int → Int → Int → Int → Bool → Int → Int → Int → Int → (List T_api_Step) → Int → Bool → Int → Bool → Int → Int → Int → Option Bool) (x_72 : Int) (f_147 : Int) (f_148 : Int) (f_149 : Int) (f_150 : Int) (f_151 : Bool) (f_152 : Int) (f_153 : Int) (f_154 : Int) (f_155 : Int) (f_156 : (List T_api_Step)) (f_159 : Int) (f_160 : Bool) (f_161 : Int) (f_162 : Bool) (f_163 : Int) (f_164 : (List UInt8)) (f_165 : Int) (f_166 : Int) (f_167 : Int) (f_168 : Int) (f_169 : Int) (f_170 : Bool) (f_171 : Int) (f_172 : Int) (f_173 : Int) (f_174 : Int) (f_175 : (List T_api_Step)) (f_178 : Int) (f_179 : Bool) (f_180 : Int) (f_181 : Bool) (f_182 : Int) (f_183 : Int) : Option Bool :=
  ((client_Client_Status.f n (⟨f_147, f_148, f_149, f_150, f_151, (⟨f_152, f_153, f_154, f_155, f_156, f_159, f_160, f_161, f_162, f_163⟩ : T_api_Command), f_164, f_165⟩ : T_client_Client)).bind fun r_184 => (if (r_184.1 != f_167) then (tontinelaw21_ClientRuns.j5 n L1 x_72 f_147 f_148 f_149 f_150 f_151 f_152 f_153 f_154 f_155 f_156 f_159 f_160 f_161 f_162 f_163 f_164 f_165 f_166 f_167 f_168 f_169 f_170 f_171 f_172 f_173 f_174 f_175 f_178 f_179 f_180 f_181 f_182 f_183 true) else (if (r_184.2.1 != f_168) then (tontinelaw21_ClientRuns.j5 n L1 x_72 f_147 f_148 f_149 f_150 f_151 f_152 f_153 f_154 f_155 f_156 f_159 f_160 f_161 f_162 f_163 f_164 f_165 f_166 f_167 f_168 f_169 f_170 f_171 f_172 f_173 f_174 f_175 f_178 f_179 f_180 f_181 f_182 f_183 true) else (tontinelaw21_ClientRuns.j5 n L1 x_72 f_147 f_148 f_149 f_150 f_151 f_152 f_153 f_154 f_155 f_156 f_159 f_160 f_161 f_162 f_163 f_164 f_165 f_166 f_167 f_168 f_169 f_170 f_171 f_172 f_173 f_174 f_175 f_178 f_179 f_180 f_181 f_182 f_183 (!(r_184.2.2 == f_170))))))
def tontinelaw21_ClientRuns.j6 (n : Nat) (L1 : Int → Int → Int → Int → Bool → Int → Int → Int → Int → (List T_api_Step) → Int → Bool → Int → Bool → Int → (List UInt8) → Int → Int → Int → Int → Int → Bool → Int → Int → Int → Int → (List T_api_Step) → Int → Bool → Int → Bool → Int → Int → Int → Option Bool) (x_72 : Int) (r_81 : T_api_Letter × Int × T_client_Client) (r_87 : T_api_Letter × Int × T_tontineref21_Client) (b_95 : Bool) : Option Bool :=
  (if b_95 then (some false) else (tontinelaw21_ClientRuns.j4 n L1 x_72 r_81.2.2.id r_81.2.2.session r_81.2.2.seq r_81.2.2.call r_81.2.2.busy r_81.2.2.now.Kind r_81.2.2.now.Session r_81.2.2.now.Seq r_81.2.2.now.Saga r_81.2.2.now.Steps r_81.2.2.now.Step r_81.2.2.now.Back r_81.2.2.now.Try r_81.2.2.now.Ok r_81.2.2.now.Now r_81.2.2.data r_81.2.2.to_ r_87.2.2.Id r_87.2.2.Session r_87.2.2.Last r_87.2.2.Calls r_87.2.2.Busy r_87.2.2.Now.Kind r_87.2.2.Now.Session r_87.2.2.Now.Seq r_87.2.2.Now.Saga r_87.2.2.Now.Steps r_87.2.2.Now.Step r_87.2.2.Now.Back r_87.2.2.Now.Try r_87.2.2.Now.Ok r_87.2.2.Now.Now r_87.2.2.To))
def tontinelaw21_ClientRuns.j7 (n : Nat) (L1 : Int → Int → Int → Int → Bool → Int → Int → Int → Int → (List T_api_Step) → Int → Bool → Int → Bool → Int → (List UInt8) → Int → Int → Int → Int → Int → Bool → Int → Int → Int → Int → (List T_api_Step) → Int → Bool → Int → Bool → Int → Int → Int → Option Bool) (x_72 : Int) (r_100 : T_api_Letter × Int × T_client_Client) (r_106 : T_api_Letter × Int × T_tontineref21_Client) (b_114 : Bool) : Option Bool :=
  (if b_114 then (some false) else (tontinelaw21_ClientRuns.j4 n L1 x_72 r_100.2.2.id r_100.2.2.session r_100.2.2.seq r_100.2.2.call r_100.2.2.busy r_100.2.2.now.Kind r_100.2.2.now.Session r_100.2.2.now.Seq r_100.2.2.now.Saga r_100.2.2.now.Steps r_100.2.2.now.Step r_100.2.2.now.Back r_100.2.2.now.Try r_100.2.2.now.Ok r_100.2.2.now.Now r_100.2.2.data r_100.2.2.to_ r_106.2.2.Id r_106.2.2.Session r_106.2.2.Last r_106.2.2.Calls r_106.2.2.Busy r_106.2.2.Now.Kind r_106.2.2.Now.Session r_106.2.2.Now.Seq r_106.2.2.Now.Saga r_106.2.2.Now.Steps r_106.2.2.Now.Step r_106.2.2.Now.Back r_106.2.2.Now.Try r_106.2.2.Now.Ok r_106.2.2.Now.Now r_106.2.2.To))
def tontinelaw21_ClientRuns.j8 (n : Nat) (L1 : Int → Int → Int → Int → Bool → Int → Int → Int → Int → (List T_api_Step) → Int → Bool → Int → Bool → Int → (List UInt8) → Int → Int → Int → Int → Int → Bool → Int → Int → Int → Int → (List T_api_Step) → Int → Bool → Int → Bool → Int → Int → Int → Option Bool) (x_72 : Int) (r_119 : T_api_Told × Bool × T_api_Letter × Bool × T_client_Client) (r_128 : T_api_Told × Bool × T_api_Letter × Bool × T_tontineref21_Client) (b_142 : Bool) : Option Bool :=
  (if b_142 then (some false) else (tontinelaw21_ClientRuns.j4 n L1 x_72 r_119.2.2.2.2.id r_119.2.2.2.2.session r_119.2.2.2.2.seq r_119.2.2.2.2.call r_119.2.2.2.2.busy r_119.2.2.2.2.now.Kind r_119.2.2.2.2.now.Session r_119.2.2.2.2.now.Seq r_119.2.2.2.2.now.Saga r_119.2.2.2.2.now.Steps r_119.2.2.2.2.now.Step r_119.2.2.2.2.now.Back r_119.2.2.2.2.now.Try r_119.2.2.2.2.now.Ok r_119.2.2.2.2.now.Now r_119.2.2.2.2.data r_119.2.2.2.2.to_ r_128.2.2.2.2.Id r_128.2.2.2.2.Session r_128.2.2.2.2.Last r_128.2.2.2.2.Calls r_128.2.2.2.2.Busy r_128.2.2.2.2.Now.Kind r_128.2.2.2.2.Now.Session r_128.2.2.2.2.Now.Seq r_128.2.2.2.2.Now.Saga r_128.2.2.2.2.Now.Steps r_128.2.2.2.2.Now.Step r_128.2.2.2.2.Now.Back r_128.2.2.2.2.Now.Try r_128.2.2.2.2.Now.Ok r_128.2.2.2.2.Now.Now r_128.2.2.2.2.To))
def tontinelaw21_ClientRuns.l1 (n : Nat) (calls_2 : (List T_tontinelaw21_Call)) : Nat → Int → Int → Int → Int → Bool → Int → Int → Int → Int → (List T_api_Step) → Int → Bool → Int → Bool → Int → (List UInt8) → Int → Int → Int → Int → Int → Bool → Int → Int → Int → Int → (List T_api_Step) → Int → Bool → Int → Bool → Int → Int → Int → Option Bool
  | 0, _, _, _, _, _, _, _, _, _, _, _, _, _, _, _, _, _, _, _, _, _, _, _, _, _, _, _, _, _, _, _, _, _, _ => none
  | k + 1, f_35, f_36, f_37, f_38, f_39, f_40, f_41, f_42, f_43, f_44, f_47, f_48, f_49, f_50, f_51, f_52, f_53, f_54, f_55, f_56, f_57, f_58, f_59, f_60, f_61, f_62, f_63, f_66, f_67, f_68, f_69, f_70, f_71, x_72 => (if decide (x_72 < (calls_2.length : Int)) then (if (0 : Int) ≤ x_72 ∧ x_72 < (calls_2.length : Int) then (if (((rdL calls_2 x_72).Kind) == 0) then ((client_Client_Call.f n (⟨f_35, f_36, f_37, f_38, f_39, (⟨f_40, f_41, f_42, f_43, f_44, f_47, f_48, f_49, f_50, f_51⟩ : T_api_Command), f_52, f_53⟩ : T_client_Client) (⟨(rdL calls_2 x_72).Command.Kind, (rdL calls_2 x_72).Command.Session, (rdL calls_2 x_72).Command.Seq, (rdL calls_2 x_72).Command.Saga, (rdL calls_2 x_72).Command.Steps, (rdL calls_2 x_72).Command.Step, (rdL calls_2 x_72).Command.Back, (rdL calls_2 x_72).Command.Try, (rdL calls_2 x_72).Command.Ok, (rdL calls_2 x_72).Command.Now⟩ : T_api_Command)).bind fun r_81 => ((tontineref21_Client_Call.f n (⟨f_54, f_55, f_56, f_57, f_58, (⟨f_59, f_60, f_61, f_62, f_63, f_66, f_67, f_68, f_69, f_70⟩ : T_api_Command), f_71⟩ : T_tontineref21_Client) (⟨(rdL calls_2 x_72).Command.Kind, (rdL calls_2 x_72).Command.Session, (rdL calls_2 x_72).Command.Seq, (rdL calls_2 x_72).Command.Saga, (rdL calls_2 x_72).Command.Steps, (rdL calls_2 x_72).Command.Step, (rdL calls_2 x_72).Command.Back, (rdL calls_2 x_72).Command.Try, (rdL calls_2 x_72).Command.Ok, (rdL calls_2 x_72).Command.Now⟩ : T_api_Command)).bind fun r_87 => ((tontineref10_Same.f n r_81.1 r_87.1).bind fun r_93 => (if (!r_93) then (tontinelaw21_ClientRuns.j6 n (tontinelaw21_ClientRuns.l1 n calls_2 k) x_72 r_81 r_87 true) else (tontinelaw21_ClientRuns.j6 n (tontinelaw21_ClientRuns.l1 n calls_2 k) x_72 r_81 r_87 (r_81.2.1 != r_87.2.1)))))) else (if (((rdL calls_2 x_72).Kind) == 1) then ((client_Client_Again.f n (⟨f_35, f_36, f_37, f_38, f_39, (⟨f_40, f_41, f_42, f_43, f_44, f_47, f_48, f_49, f_50, f_51⟩ : T_api_Command), f_52, f_53⟩ : T_client_Client)).bind fun r_100 => ((tontineref21_Client_Again.f n (⟨f_54, f_55, f_56, f_57, f_58, (⟨f_59, f_60, f_61, f_62, f_63, f_66, f_67, f_68, f_69, f_70⟩ : T_api_Command), f_71⟩ : T_tontineref21_Client)).bind fun r_106 => ((tontineref10_Same.f n r_100.1 r_106.1).bind fun r_112 => (if (!r_112) then (tontinelaw21_ClientRuns.j7 n (tontinelaw21_ClientRuns.l1 n calls_2 k) x_72 r_100 r_106 true) else (tontinelaw21_ClientRuns.j7 n (tontinelaw21_ClientRuns.l1 n calls_2 k) x_72 r_100 r_106 (r_100.2.1 != r_106.2.1)))))) else (if (((rdL calls_2 x_72).Kind) == 2) then ((client_Client_Hear.f n (⟨f_35, f_36, f_37, f_38, f_39, (⟨f_40, f_41, f_42, f_43, f_44, f_47, f_48, f_49, f_50, f_51⟩ : T_api_Command), f_52, f_53⟩ : T_client_Client) (⟨(rdL calls_2 x_72).Letter.Kind, (rdL calls_2 x_72).Letter.From, (rdL calls_2 x_72).Letter.To, (rdL calls_2 x_72).Letter.Term, (rdL calls_2 x_72).Letter.Index, (rdL calls_2 x_72).Letter.Prev, (rdL calls_2 x_72).Letter.Commit, (rdL calls_2 x_72).Letter.Ok, (rdL calls_2 x_72).Letter.Entries, (rdL calls_2 x_72).Letter.Data⟩ : T_api_Letter)).bind fun r_119 => ((tontineref21_Client_Hear.f n (⟨f_54, f_55, f_56, f_57, f_58, (⟨f_59, f_60, f_61, f_62, f_63, f_66, f_67, f_68, f_69, f_70⟩ : T_api_Command), f_71⟩ : T_tontineref21_Client) (⟨(rdL calls_2 x_72).Letter.Kind, (rdL calls_2 x_72).Letter.From, (rdL calls_2 x_72).Letter.To, (rdL calls_2 x_72).Letter.Term, (rdL calls_2 x_72).Letter.Index, (rdL calls_2 x_72).Letter.Prev, (rdL calls_2 x_72).Letter.Commit, (rdL calls_2 x_72).Letter.Ok, (rdL calls_2 x_72).Letter.Entries, (rdL calls_2 x_72).Letter.Data⟩ : T_api_Letter)).bind fun r_128 => ((tontineref21_Same.f n (⟨r_119.1.Client, (⟨r_119.1.Command.Kind, r_119.1.Command.Session, r_119.1.Command.Seq, r_119.1.Command.Saga, r_119.1.Command.Steps, r_119.1.Command.Step, r_119.1.Command.Back, r_119.1.Command.Try, r_119.1.Command.Ok, r_119.1.Command.Now⟩ : T_api_Command), (⟨r_119.1.Reply.Err, r_119.1.Reply.Num, r_119.1.Reply.Extra⟩ : T_api_Reply)⟩ : T_api_Told) (⟨r_128.1.Client, (⟨r_128.1.Command.Kind, r_128.1.Command.Session, r_128.1.Command.Seq, r_128.1.Command.Saga, r_128.1.Command.Steps, r_128.1.Command.Step, r_128.1.Command.Back, r_128.1.Command.Try, r_128.1.Command.Ok, r_128.1.Command.Now⟩ : T_api_Command), (⟨r_128.1.Reply.Err, r_128.1.Reply.Num, r_128.1.Reply.Extra⟩ : T_api_Reply)⟩ : T_api_Told)).bind fun r_137 => (if (!r_137) then (tontinelaw21_ClientRuns.j8 n (tontinelaw21_ClientRuns.l1 n calls_2 k) x_72 r_119 r_128 true) else (if (!(r_119.2.1 == r_128.2.1)) then (tontinelaw21_ClientRuns.j8 n (tontinelaw21_ClientRuns.l1 n calls_2 k) x_72 r_119 r_128 true) else (if (!(r_119.2.2.2.1 == r_128.2.2.2.1)) then (tontinelaw21_ClientRuns.j8 n (tontinelaw21_ClientRuns.l1 n calls_2 k) x_72 r_119 r_128 true) else ((tontineref10_Same.f n r_119.2.2.1 r_128.2.2.1).bind fun r_141 => (tontinelaw21_ClientRuns.j8 n (tontinelaw21_ClientRuns.l1 n calls_2 k) x_72 r_119 r_128 (!r_141))))))))) else ((client_Client_Give.f n (⟨f_35, f_36, f_37, f_38, f_39, (⟨f_40, f_41, f_42, f_43, f_44, f_47, f_48, f_49, f_50, f_51⟩ : T_api_Command), f_52, f_53⟩ : T_client_Client)).bind fun r_146 => ((tontineref21_Client_Give.f n (⟨f_54, f_55, f_56, f_57, f_58, (⟨f_59, f_60, f_61, f_62, f_63, f_66, f_67, f_68, f_69, f_70⟩ : T_api_Command), f_71⟩ : T_tontineref21_Client)).bind fun r_149 => (if (r_146.1 != r_149.1) then (some false) else (tontinelaw21_ClientRuns.j4 n (tontinelaw21_ClientRuns.l1 n calls_2 k) x_72 r_146.2.id r_146.2.session r_146.2.seq r_146.2.call r_146.2.busy r_146.2.now.Kind r_146.2.now.Session r_146.2.now.Seq r_146.2.now.Saga r_146.2.now.Steps r_146.2.now.Step r_146.2.now.Back r_146.2.now.Try r_146.2.now.Ok r_146.2.now.Now r_146.2.data r_146.2.to_ r_149.2.Id r_149.2.Session r_149.2.Last r_149.2.Calls r_149.2.Busy r_149.2.Now.Kind r_149.2.Now.Session r_149.2.Now.Seq r_149.2.Now.Saga r_149.2.Now.Steps r_149.2.Now.Step r_149.2.Now.Back r_149.2.Now.Try r_149.2.Now.Ok r_149.2.Now.Now r_149.2.To))))))) else none) else (some true))
def tontinelaw21_ClientRuns.j2 (n : Nat) (id_1 : Int) (calls_2 : (List T_tontinelaw21_Call)) (r_9 : Option T_client_Client × Int) (o_13 : T_client_Client) (b_31 : Bool) : Option Bool :=
  (if b_31 then (if (r_9.2 == 1) then (tontinelaw21_ClientRuns.j3 n) else (tontinelaw21_ClientRuns.j3 n)) else (tontinelaw21_ClientRuns.l1 n calls_2 n o_13.id o_13.session o_13.seq o_13.call o_13.busy o_13.now.Kind o_13.now.Session o_13.now.Seq o_13.now.Saga o_13.now.Steps o_13.now.Step o_13.now.Back o_13.now.Try o_13.now.Ok o_13.now.Now o_13.data o_13.to_ id_1 0 0 0 false 0 0 0 0 ([] : List T_api_Step) 0 false 0 false 0 0 0))
def tontinelaw21_ClientRuns.f (n : Nat) (id_1 : Int) (calls_2 : (List T_tontinelaw21_Call)) : Option Bool :=
  ((tontinelaw21_begun.f n).bind fun r_5 => (if (!r_5) then (some false) else ((tontinelaw21_light.f n calls_2).bind fun r_7 => (if (!r_7) then (some true) else ((client_New.f n id_1).bind fun r_9 => (match r_9.1 with | none => (if decide (id_1 < 0) then (tontinelaw21_ClientRuns.j0 n calls_2 r_9 true) else (tontinelaw21_ClientRuns.j0 n calls_2 r_9 (decide (id_1 ≥ 4)))) | some o_13 => (if decide (id_1 < 0) then (tontinelaw21_ClientRuns.j2 n id_1 calls_2 r_9 o_13 true) else (tontinelaw21_ClientRuns.j2 n id_1 calls_2 r_9 o_13 (decide (id_1 ≥ 4))))))))))
end Go.GL
