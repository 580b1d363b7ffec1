import Derived.Test.YtfeddlhkiomdaaaG18
set_option linter.unusedVariables false
namespace Go.GL
open Go

structure T_api_Step where
  Part : Int
  Name : (List UInt8)
  Budget : Int
  deriving DecidableEq
instance : Inhabited T_api_Step := ⟨⟨0, [], 0⟩⟩
structure T_api_Command where
  Kind : Int
  Session : Int
  Seq : Int
  Saga : Int
  Steps : (List T_api_Step)
  Step : Int
  Back : Bool
  Try : Int
  Ok : Bool
  Now : Int
  deriving DecidableEq
instance : Inhabited T_api_Command := ⟨⟨0, 0, 0, 0, [], 0, false, 0, false, 0⟩⟩
structure T_pack_Writer where
  b : (List UInt8)
  deriving DecidableEq
instance : Inhabited T_pack_Writer := ⟨⟨[]⟩⟩
structure T_api_Saga where
  Steps : (List T_api_Step)
  State : Int
  Cursor : Int
  Failed : Int
  deriving DecidableEq
instance : Inhabited T_api_Saga := ⟨⟨[], 0, 0, 0⟩⟩
structure T_tontinelaw14_Call where
  Step : Int
  Taken : Bool
  Try : Int
  Ok : Bool
  deriving DecidableEq
instance : Inhabited T_tontinelaw14_Call := ⟨⟨0, false, 0, false⟩⟩
structure T_api_Reply where
  Err : Int
  Num : Int
  Extra : Int
  deriving DecidableEq
instance : Inhabited T_api_Reply := ⟨⟨0, 0, 0⟩⟩
structure T_pack_Reader where
  s : (List UInt8)
  bad : Bool
  deriving DecidableEq
instance : Inhabited T_pack_Reader := ⟨⟨[], false⟩⟩
structure T_tontineref03_Reader where
  S_ : (List UInt8)
  Bad : Bool
  deriving DecidableEq
instance : Inhabited T_tontineref03_Reader := ⟨⟨[], false⟩⟩

def plan_Check.j1 (n : Nat) (L0 : Int → Option Int) (x_7 : Int) (b_16 : Bool) : Option Int :=
  (if b_16 then (some 44) else (L0 (wi64 (x_7 + 1))))
def plan_Check.l0 (n : Nat) (l_1 : (List T_api_Step)) : Nat → Int → Option Int
  | 0, _ => none
  | k + 1, x_7 => (if decide (x_7 < (l_1.length : Int)) then (if (0 : Int) ≤ x_7 ∧ x_7 < (l_1.length : Int) then (if decide (((rdL l_1 x_7).Part) < 0) then (plan_Check.j1 n (plan_Check.l0 n l_1 k) x_7 true) else (if decide (((rdL l_1 x_7).Part) ≥ 4) then (plan_Check.j1 n (plan_Check.l0 n l_1 k) x_7 true) else (if (((rdL l_1 x_7).Name) == ([] : List UInt8)) then (plan_Check.j1 n (plan_Check.l0 n l_1 k) x_7 true) else (if decide ((((rdL l_1 x_7).Name).length : Int) > 16) then (plan_Check.j1 n (plan_Check.l0 n l_1 k) x_7 true) else (if decide (((rdL l_1 x_7).Budget) < 1) then (plan_Check.j1 n (plan_Check.l0 n l_1 k) x_7 true) else (plan_Check.j1 n (plan_Check.l0 n l_1 k) x_7 (decide (((rdL l_1 x_7).Budget) > 9)))))))) else none) else (some 0))
def plan_Check.j0 (n : Nat) (l_1 : (List T_api_Step)) (b_5 : Bool) : Option Int :=
  (if b_5 then (some 44) else (plan_Check.l0 n l_1 n 0))
def plan_Check.f (n : Nat) (l_1 : (List T_api_Step)) : Option Int :=
  (if decide ((l_1.length : Int) < 1) then (plan_Check.j0 n l_1 true) else (plan_Check.j0 n l_1 (decide ((l_1.length : Int) > 64))))

def command_May.j1 (n : Nat) (b_13 : Bool) : Option Bool :=
  (some b_13)
def command_May.j2 (n : Nat) (b_20 : Bool) : Option Bool :=
  (some b_20)
def command_May.j3 (n : Nat) (b_28 : Bool) : Option Bool :=
  (some b_28)
def command_May.j0 (n : Nat) (c_1 : T_api_Command) (b_7 : Bool) : Option Bool :=
  (if b_7 then (if ((c_1.Steps.length : Int) == 0) then (if (c_1.Step == 0) then (if (!c_1.Back) then (if (c_1.Try == 0) then (command_May.j1 n (!c_1.Ok)) else (command_May.j1 n false)) else (command_May.j1 n false)) else (command_May.j1 n false)) else (command_May.j1 n false)) else (if (c_1.Kind == 2) then ((plan_Check.f n c_1.Steps).bind fun r_15 => (if (r_15 == 0) then (if (c_1.Step == 0) then (if (!c_1.Back) then (if (c_1.Try == 0) then (command_May.j2 n (!c_1.Ok)) else (command_May.j2 n false)) else (command_May.j2 n false)) else (command_May.j2 n false)) else (command_May.j2 n false))) else (if (c_1.Kind == 4) then (if ((c_1.Steps.length : Int) == 0) then (if decide (c_1.Step ≥ 0) then (if decide (c_1.Step < 64) then (if decide (c_1.Try ≥ 0) then (if decide (c_1.Try < 9) then (if (c_1.Session == 0) then (command_May.j3 n (c_1.Seq == 0)) else (command_May.j3 n false)) else (command_May.j3 n false)) else (command_May.j3 n false)) else (command_May.j3 n false)) else (command_May.j3 n false)) else (command_May.j3 n false)) else (some false))))
def command_May.f (n : Nat) (c_1 : T_api_Command) : Option Bool :=
  (if (c_1.Kind == 1) then (command_May.j0 n c_1 (c_1.Kind == 1)) else (if (c_1.Kind == 3) then (command_May.j0 n c_1 (c_1.Kind == 3)) else (command_May.j0 n c_1 (c_1.Kind == 5))))

def pack_Writer_Num.l1 (n : Nat) (x_5 : Int) : Nat → (List UInt8) → Int → Option T_pack_Writer
  | 0, _, _ => none
  | k + 1, f_14, i_17 => (if decide (i_17 ≥ 0) then (if (0 : Int) ≤ (wi64 (8 * i_17)) then (if capOk 1 (f_14 ++ [u8of (shR .u64 x_5 (wi64 (8 * i_17)))]).length then ((pack_Writer_Num.l1 n x_5 k) (f_14 ++ [u8of (shR .u64 x_5 (wi64 (8 * i_17)))]) (wi64 (i_17 - 1))) else none) else none) else (some (⟨f_14⟩ : T_pack_Writer)))
def pack_Writer_Num.l0 (n : Nat) (w_1 : T_pack_Writer) (x_5 : Int) : Nat → Int → Int → Option T_pack_Writer
  | 0, _, _ => none
  | k + 1, n_6, y_7 => (if decide (y_7 > 0) then ((pack_Writer_Num.l0 n w_1 x_5 k) (wi64 (n_6 + 1)) (shR .u64 y_7 8)) else (if capOk 1 (w_1.b ++ [u8of n_6]).length then (pack_Writer_Num.l1 n x_5 n (w_1.b ++ [u8of n_6]) (wi64 (n_6 - 1))) else none))
def pack_Writer_Num.f (n : Nat) (w_1 : T_pack_Writer) (x_5 : Int) : Option T_pack_Writer :=
  (pack_Writer_Num.l0 n w_1 x_5 n 0 x_5)

def pack_Writer_Text.f (n : Nat) (w_1 : T_pack_Writer) (s_5 : (List UInt8)) : Option T_pack_Writer :=
  ((pack_Writer_Num.f n w_1 (wu64 (s_5.length : Int))).bind fun r_6 => (if capOk 1 (r_6.b ++ s_5).length then (some (⟨r_6.b ++ s_5⟩ : T_pack_Writer)) else none))

def plan_Write.l0 (n : Nat) (l_5 : (List T_api_Step)) : Nat → (List UInt8) → Int → Option T_pack_Writer
  | 0, _, _ => none
  | k + 1, f_11, x_14 => (if decide (x_14 < (l_5.length : Int)) then (if (0 : Int) ≤ x_14 ∧ x_14 < (l_5.length : Int) then ((pack_Writer_Num.f n (⟨f_11⟩ : T_pack_Writer) (wu64 ((rdL l_5 x_14).Part))).bind fun r_18 => ((pack_Writer_Text.f n r_18 ((rdL l_5 x_14).Name)).bind fun r_21 => ((pack_Writer_Num.f n r_21 (wu64 ((rdL l_5 x_14).Budget))).bind fun r_24 => ((plan_Write.l0 n l_5 k) r_24.b (wi64 (x_14 + 1)))))) else none) else (some (⟨f_11⟩ : T_pack_Writer)))
def plan_Write.f (n : Nat) (w_1 : T_pack_Writer) (l_5 : (List T_api_Step)) : Option T_pack_Writer :=
  ((pack_Writer_Num.f n w_1 (wu64 (l_5.length : Int))).bind fun r_8 => (plan_Write.l0 n l_5 n r_8.b 0))

def pack_Writer_Bool.f (n : Nat) (w_1 : T_pack_Writer) (x_5 : Bool) : Option T_pack_Writer :=
  (if x_5 then ((pack_Writer_Num.f n w_1 1).bind fun r_7 => (some r_7)) else ((pack_Writer_Num.f n w_1 0).bind fun r_11 => (some r_11)))

def pack_Writer_Bytes.f (n : Nat) (w_1 : T_pack_Writer) : Option (List UInt8) :=
  (some w_1.b)

def command_Encode.j1 (n : Nat) (f_44 : (List UInt8)) : Option ((List UInt8) × Int) :=
  ((pack_Writer_Bytes.f n (⟨f_44⟩ : T_pack_Writer)).bind fun r_47 => (some (r_47, 0)))
def command_Encode.j0 (n : Nat) (c_1 : T_api_Command) (b_7 : Bool) : Option ((List UInt8) × Int) :=
  (if b_7 then (some ([], 44)) else ((command_May.f n c_1).bind fun r_9 => (if (!r_9) then (some ([], 1)) else ((pack_Writer_Num.f n (⟨[]⟩ : T_pack_Writer) (wu64 c_1.Kind)).bind fun r_12 => ((pack_Writer_Num.f n r_12 c_1.Session).bind fun r_15 => ((pack_Writer_Num.f n r_15 c_1.Seq).bind fun r_18 => ((pack_Writer_Num.f n r_18 c_1.Saga).bind fun r_21 => ((pack_Writer_Num.f n r_21 c_1.Now).bind fun r_24 => (if (c_1.Kind == 2) then ((plan_Write.f n r_24 c_1.Steps).bind fun r_28 => (command_Encode.j1 n r_28.b)) else (if (c_1.Kind == 4) then ((pack_Writer_Num.f n r_24 (wu64 c_1.Step)).bind fun r_33 => ((pack_Writer_Bool.f n r_33 c_1.Back).bind fun r_36 => ((pack_Writer_Num.f n r_36 (wu64 c_1.Try)).bind fun r_39 => ((pack_Writer_Bool.f n r_39 c_1.Ok).bind fun r_42 => (command_Encode.j1 n r_42.b))))) else (command_Encode.j1 n r_24.b)))))))))))
def command_Encode.f (n : Nat) (c_1 : T_api_Command) : Option ((List UInt8) × Int) :=
  (if (c_1.Kind == 2) then ((plan_Check.f n c_1.Steps).bind fun r_6 => (command_Encode.j0 n c_1 (r_6 != 0))) else (command_Encode.j0 n c_1 false))

def tontinelaw16_begun.f (n : Nat) : Option Bool :=
  ((command_Encode.f n (⟨5, 2, 3, 5, [], 0, false, 0, false, 0⟩ : T_api_Command)).bind fun r_1 => (if (r_1.2 == 0) then (some (r_1.1 == ([1, 5, 1, 2, 1, 3, 1, 5, 0] : List UInt8))) else (some false)))

def tontineref13_Check.j2 (n : Nat) (L0 : Bool → Int → Option Int) (i_7 : Int) (bad_18 : Bool) : Option Int :=
  (L0 bad_18 (wi64 (i_7 + 1)))
def tontineref13_Check.j1 (n : Nat) (L0 : Bool → Int → Option Int) (l_1 : (List T_api_Step)) (bad_6 : Bool) (i_7 : Int) (b_9 : Bool) : Option Int :=
  (if b_9 then (if (0 : Int) ≤ i_7 ∧ i_7 < (l_1.length : Int) then (if decide (((rdL l_1 i_7).Part) < 0) then (tontineref13_Check.j2 n L0 i_7 true) else (if decide (((rdL l_1 i_7).Part) > 3) then (tontineref13_Check.j2 n L0 i_7 true) else (if decide ((((rdL l_1 i_7).Name).length : Int) < 1) then (tontineref13_Check.j2 n L0 i_7 true) else (if decide ((((rdL l_1 i_7).Name).length : Int) > 16) then (tontineref13_Check.j2 n L0 i_7 true) else (if decide (((rdL l_1 i_7).Budget) < 1) then (tontineref13_Check.j2 n L0 i_7 true) else (tontineref13_Check.j2 n L0 i_7 (decide (((rdL l_1 i_7).Budget) > 9)))))))) else none) else (if bad_6 then (some 44) else (some 0)))
def tontineref13_Check.l0 (n : Nat) (l_1 : (List T_api_Step)) : Nat → Bool → Int → Option Int
  | 0, _, _ => none
  | k + 1, bad_6, i_7 => (if decide (i_7 < (l_1.length : Int)) then (tontineref13_Check.j1 n (tontineref13_Check.l0 n l_1 k) l_1 bad_6 i_7 (!bad_6)) else (tontineref13_Check.j1 n (tontineref13_Check.l0 n l_1 k) l_1 bad_6 i_7 false))
def tontineref13_Check.j0 (n : Nat) (l_1 : (List T_api_Step)) (bad_5 : Bool) : Option Int :=
  (tontineref13_Check.l0 n l_1 n bad_5 0)
def tontineref13_Check.f (n : Nat) (l_1 : (List T_api_Step)) : Option Int :=
  (if ((l_1.length : Int) == 0) then (tontineref13_Check.j0 n l_1 true) else (tontineref13_Check.j0 n l_1 (decide ((l_1.length : Int) > 64))))

def tontineref16_bare.f (n : Nat) (c_1 : T_api_Command) : Option Bool :=
  (if (c_1.Step == 0) then (if (!c_1.Back) then (if (c_1.Try == 0) then (some (!c_1.Ok)) else (some false)) else (some false)) else (some false))

def tontineref16_May.j1 (n : Nat) (b_25 : Bool) : Option Bool :=
  (some b_25)
def tontineref16_May.j0 (n : Nat) (c_1 : T_api_Command) (b_7 : Bool) : Option Bool :=
  (if b_7 then (if ((c_1.Steps.length : Int) == 0) then ((tontineref16_bare.f n c_1).bind fun r_10 => (some r_10)) else (some false)) else (if (c_1.Kind == 2) then ((tontineref13_Check.f n c_1.Steps).bind fun r_13 => (if (r_13 == 0) then ((tontineref16_bare.f n c_1).bind fun r_15 => (some r_15)) else (some false))) else (if (c_1.Kind == 4) then (if ((c_1.Steps.length : Int) == 0) then (if decide (c_1.Step ≥ 0) then (if decide (c_1.Step ≤ 63) then (if decide (c_1.Try ≥ 0) then (if decide (c_1.Try ≤ 8) then (if (c_1.Session == 0) then (tontineref16_May.j1 n (c_1.Seq == 0)) else (tontineref16_May.j1 n false)) else (tontineref16_May.j1 n false)) else (tontineref16_May.j1 n false)) else (tontineref16_May.j1 n false)) else (tontineref16_May.j1 n false)) else (tontineref16_May.j1 n false)) else (some false))))
def tontineref16_May.f (n : Nat) (c_1 : T_api_Command) : Option Bool :=
  (if (c_1.Kind == 1) then (tontineref16_May.j0 n c_1 (c_1.Kind == 1)) else (if (c_1.Kind == 3) then (tontineref16_May.j0 n c_1 (c_1.Kind == 3)) else (tontineref16_May.j0 n c_1 (c_1.Kind == 5))))

def tontineref03_Num.l0 (n : Nat) : Nat → Int → (List UInt8) → Int → Option (List UInt8)
  | 0, _, _, _ => none
  | k + 1, x_2, s_3, n_4 => (if decide (x_2 > 0) then (if ([u8of (x_2.tmod 256)] : List UInt8).length + s_3.length ≤ i64max then ((tontineref03_Num.l0 n k) (wu64 (x_2.tdiv 256)) ([u8of (x_2.tmod 256)] ++ s_3) (wi64 (n_4 + 1))) else none) else (if ([u8of n_4] : List UInt8).length + s_3.length ≤ i64max then (some ([u8of n_4] ++ s_3)) else none))
def tontineref03_Num.f (n : Nat) (x_1 : Int) : Option (List UInt8) :=
  (tontineref03_Num.l0 n n x_1 [] 0)

def tontineref16_nums.l0 (n : Nat) (l_1 : (List Int)) : Nat → (List UInt8) → Int → Option (List UInt8)
  | 0, _, _ => none
  | k + 1, s_4, i_5 => (if decide (i_5 < (l_1.length : Int)) then (if (0 : Int) ≤ i_5 ∧ i_5 < (l_1.length : Int) then ((tontineref03_Num.f n (rdL l_1 i_5)).bind fun r_8 => (if s_4.length + r_8.length ≤ i64max then ((tontineref16_nums.l0 n l_1 k) (s_4 ++ r_8) (wi64 (i_5 + 1))) else none)) else none) else (some s_4))
def tontineref16_nums.f (n : Nat) (l_1 : (List Int)) : Option (List UInt8) :=
  (tontineref16_nums.l0 n l_1 n [] 0)

def tontineref03_Text.f (n : Nat) (s_1 : (List UInt8)) : Option (List UInt8) :=
  ((tontineref03_Num.f n (wu64 (s_1.length : Int))).bind fun r_2 => (if r_2.length + s_1.length ≤ i64max then (some (r_2 ++ s_1)) else none))

def tontineref13_Bytes.l0 (n : Nat) (l_1 : (List T_api_Step)) : Nat → (List UInt8) → Int → Option (List UInt8)
  | 0, _, _ => none
  | k + 1, s_5, i_6 => (if decide (i_6 < (l_1.length : Int)) then (if (0 : Int) ≤ i_6 ∧ i_6 < (l_1.length : Int) then (if (0 : Int) ≤ i_6 ∧ i_6 < (l_1.length : Int) then (if (0 : Int) ≤ i_6 ∧ i_6 < (l_1.length : Int) then ((tontineref03_Num.f n (wu64 ((rdL l_1 i_6).Part))).bind fun r_11 => ((tontineref03_Text.f n ((rdL l_1 i_6).Name)).bind fun r_12 => (if r_11.length + r_12.length ≤ i64max then ((tontineref03_Num.f n (wu64 ((rdL l_1 i_6).Budget))).bind fun r_14 => (if (r_11 ++ r_12).length + r_14.length ≤ i64max then (if s_5.length + ((r_11 ++ r_12) ++ r_14).length ≤ i64max then ((tontineref13_Bytes.l0 n l_1 k) (s_5 ++ ((r_11 ++ r_12) ++ r_14)) (wi64 (i_6 + 1))) else none) else none)) else none))) else none) else none) else none) else (some s_5))
def tontineref13_Bytes.f (n : Nat) (l_1 : (List T_api_Step)) : Option (List UInt8) :=
  ((tontineref03_Num.f n (wu64 (l_1.length : Int))).bind fun r_4 => (tontineref13_Bytes.l0 n l_1 n r_4 0))

def tontineref16_truth.f (n : Nat) (x_1 : Bool) : Option Int :=
  (if x_1 then (some 1) else (some 0))

def tontineref16_Encode.j1 (n : Nat) (c_1 : T_api_Command) (s_17 : (List UInt8)) : Option ((List UInt8) × Int) :=
  (if (c_1.Kind == 4) then ((tontineref16_truth.f n c_1.Back).bind fun r_19 => ((tontineref16_truth.f n c_1.Ok).bind fun r_20 => ((tontineref16_nums.f n [wu64 c_1.Step, r_19, wu64 c_1.Try, r_20]).bind fun r_23 => (if s_17.length + r_23.length ≤ i64max then (some (s_17 ++ r_23, 0)) else none)))) else (some (s_17, 0)))
def tontineref16_Encode.j0 (n : Nat) (c_1 : T_api_Command) (b_7 : Bool) : Option ((List UInt8) × Int) :=
  (if b_7 then (some ([], 44)) else ((tontineref16_May.f n c_1).bind fun r_9 => (if (!r_9) then (some ([], 1)) else ((tontineref16_nums.f n [wu64 c_1.Kind, c_1.Session, c_1.Seq, c_1.Saga, c_1.Now]).bind fun r_13 => (if (c_1.Kind == 2) then ((tontineref13_Bytes.f n c_1.Steps).bind fun r_15 => (if r_13.length + r_15.length ≤ i64max then (tontineref16_Encode.j1 n c_1 (r_13 ++ r_15)) else none)) else (tontineref16_Encode.j1 n c_1 r_13))))))
def tontineref16_Encode.f (n : Nat) (c_1 : T_api_Command) : Option ((List UInt8) × Int) :=
  (if (c_1.Kind == 2) then ((tontineref13_Check.f n c_1.Steps).bind fun r_6 => (tontineref16_Encode.j0 n c_1 (r_6 != 0))) else (tontineref16_Encode.j0 n c_1 false))

def tontinelaw16_CommandEncodes.f (n : Nat) (c_1 : T_api_Command) : Option Bool :=
  ((tontinelaw16_begun.f n).bind fun r_5 => (if (!r_5) then (some false) else ((command_Encode.f n c_1).bind fun r_7 => ((tontineref16_Encode.f n c_1).bind fun r_8 => (if (r_7.1 == r_8.1) then (if (r_7.2 == r_8.2) then ((command_May.f n c_1).bind fun r_11 => ((tontineref16_May.f n c_1).bind fun r_12 => (some (r_11 == r_12)))) else (some false)) else (some false))))))

def saga_New.f (n : Nat) (l_1 : (List T_api_Step)) : Option (T_api_Saga × Int) :=
  ((plan_Check.f n l_1).bind fun r_5 => (if (r_5 != 0) then (some ((⟨[], 0, 0, 0⟩ : T_api_Saga), r_5)) else (if capOk 32 (([] : List T_api_Step) ++ l_1).length then (some ((⟨([] : List T_api_Step) ++ l_1, 1, 0, 0⟩ : T_api_Saga), 0)) else none)))

def saga_Sound.j0 (n : Nat) (s_1 : T_api_Saga) (b_7 : Bool) : Option Bool :=
  (if b_7 then (some false) else (if (s_1.State == 1) then (if decide (s_1.Cursor ≥ 0) then (if decide (s_1.Cursor < (s_1.Steps.length : Int)) then (some (s_1.Failed == 0)) else (some false)) else (some false)) else (if (s_1.State == 2) then (if decide (s_1.Cursor ≥ 0) then (if decide (s_1.Cursor < (s_1.Steps.length : Int)) then (if (0 : Int) ≤ s_1.Cursor ∧ s_1.Cursor < (s_1.Steps.length : Int) then (some (decide (s_1.Failed < ((rdL s_1.Steps s_1.Cursor).Budget)))) else none) else (some false)) else (some false)) else (if (s_1.State == 3) then (if (s_1.Cursor == (s_1.Steps.length : Int)) then (some (s_1.Failed == 0)) else (some false)) else (if (s_1.State == 4) then (if (s_1.Cursor == 0) then (some (s_1.Failed == 0)) else (some false)) else (if (s_1.State == 5) then (if decide (s_1.Cursor ≥ 0) then (if decide (s_1.Cursor < (s_1.Steps.length : Int)) then (if (0 : Int) ≤ s_1.Cursor ∧ s_1.Cursor < (s_1.Steps.length : Int) then (some (s_1.Failed == ((rdL s_1.Steps s_1.Cursor).Budget))) else none) else (some false)) else (some false)) else (some false)))))))
def saga_Sound.f (n : Nat) (s_1 : T_api_Saga) : Option Bool :=
  ((plan_Check.f n s_1.Steps).bind fun r_5 => (if (r_5 != 0) then (saga_Sound.j0 n s_1 true) else (saga_Sound.j0 n s_1 (decide (s_1.Failed < 0)))))

def saga_Ended.f (n : Nat) (s_1 : T_api_Saga) : Option Bool :=
  (if decide (s_1.State ≥ 3) then (some (decide (s_1.State ≤ 5))) else (some false))

def saga_Wants.j0 (n : Nat) (s_1 : T_api_Saga) (b_8 : Bool) : Option (Int × Bool × Bool) :=
  (if b_8 then (some (0, false, false)) else (some (s_1.Cursor, (s_1.State == 2), true)))
def saga_Wants.f (n : Nat) (s_1 : T_api_Saga) : Option (Int × Bool × Bool) :=
  ((saga_Sound.f n s_1).bind fun r_5 => (if (!r_5) then (saga_Wants.j0 n s_1 true) else ((saga_Ended.f n s_1).bind fun r_7 => (saga_Wants.j0 n s_1 r_7))))

def saga_back.f (n : Nat) (s_1 : T_api_Saga) (step_4 : Int) : Option T_api_Saga :=
  (if decide (step_4 < 0) then (some (⟨s_1.Steps, 4, 0, 0⟩ : T_api_Saga)) else (some (⟨s_1.Steps, 2, step_4, 0⟩ : T_api_Saga)))

def saga_Outcome.j1 (n : Nat) (s_1 : T_api_Saga) (step_4 : Int) : Option (T_api_Saga × Bool) :=
  ((saga_back.f n s_1 (wi64 (step_4 - 1))).bind fun r_24 => (some (r_24, true)))
def saga_Outcome.j3 (n : Nat) (s_1 : T_api_Saga) (f_21 : Int) : Option (T_api_Saga × Bool) :=
  (some ((⟨s_1.Steps, f_21, wi64 (s_1.Cursor + 1), s_1.Failed⟩ : T_api_Saga), true))
def saga_Outcome.j2 (n : Nat) (s_1 : T_api_Saga) (step_4 : Int) (taken_5 : Bool) (ok_7 : Bool) (b_18 : Bool) : Option (T_api_Saga × Bool) :=
  (if b_18 then (if ((wi64 (s_1.Cursor + 1)) == (s_1.Steps.length : Int)) then (saga_Outcome.j3 n s_1 3) else (saga_Outcome.j3 n s_1 s_1.State)) else (if (!taken_5) then (saga_Outcome.j1 n s_1 step_4) else (if ok_7 then (saga_Outcome.j1 n s_1 step_4) else (if (0 : Int) ≤ step_4 ∧ step_4 < (s_1.Steps.length : Int) then (if ((wi64 (s_1.Failed + 1)) == ((rdL s_1.Steps step_4).Budget)) then (some ((⟨s_1.Steps, 5, s_1.Cursor, wi64 (s_1.Failed + 1)⟩ : T_api_Saga), true)) else (some ((⟨s_1.Steps, s_1.State, s_1.Cursor, wi64 (s_1.Failed + 1)⟩ : T_api_Saga), true))) else none))))
def saga_Outcome.j0 (n : Nat) (s_1 : T_api_Saga) (step_4 : Int) (taken_5 : Bool) (ok_7 : Bool) (b_15 : Bool) : Option (T_api_Saga × Bool) :=
  (if b_15 then (some (s_1, false)) else (if (!taken_5) then (saga_Outcome.j2 n s_1 step_4 taken_5 ok_7 ok_7) else (saga_Outcome.j2 n s_1 step_4 taken_5 ok_7 false)))
def saga_Outcome.f (n : Nat) (s_1 : T_api_Saga) (step_4 : Int) (taken_5 : Bool) (try_6 : Int) (ok_7 : Bool) : Option (T_api_Saga × Bool) :=
  ((saga_Wants.f n s_1).bind fun r_10 => (if (!r_10.2.2) then (saga_Outcome.j0 n s_1 step_4 taken_5 ok_7 true) else (if (r_10.1 != step_4) then (saga_Outcome.j0 n s_1 step_4 taken_5 ok_7 true) else (if (!(r_10.2.1 == taken_5)) then (saga_Outcome.j0 n s_1 step_4 taken_5 ok_7 true) else (if (!ok_7) then (saga_Outcome.j0 n s_1 step_4 taken_5 ok_7 (try_6 != s_1.Failed)) else (saga_Outcome.j0 n s_1 step_4 taken_5 ok_7 false))))))

def tontinelaw14_begun.f (n : Nat) : Option Bool :=
  ((saga_New.f n [(⟨0, [97], 1⟩ : T_api_Step), (⟨0, [98], 1⟩ : T_api_Step)]).bind fun r_3 => ((saga_Outcome.f n r_3.1 0 false 0 true).bind fun r_7 => ((saga_Outcome.f n r_7.1 1 false 0 false).bind fun r_10 => ((saga_Outcome.f n r_10.1 0 true 0 true).bind fun r_13 => (if (r_3.2 == 0) then (if r_7.2 then (if r_10.2 then (if r_13.2 then (if (r_10.1.State == 2) then (if (r_10.1.Cursor == 0) then (some (r_13.1.State == 4)) else (some false)) else (some false)) else (some false)) else (some false)) else (some false)) else (some false))))))

def tontineref14_Sound.j6 (n : Nat) (s_1 : T_api_Saga) (b_36 : Bool) : Option Bool :=
  (if b_36 then (if (0 : Int) ≤ s_1.Cursor ∧ s_1.Cursor < (s_1.Steps.length : Int) then (some (s_1.Failed == ((rdL s_1.Steps s_1.Cursor).Budget))) else none) else (some false))
def tontineref14_Sound.j5 (n : Nat) (s_1 : T_api_Saga) (within_8 : Bool) (b_33 : Bool) : Option Bool :=
  (if b_33 then (some true) else (if (s_1.State == 5) then (tontineref14_Sound.j6 n s_1 within_8) else (tontineref14_Sound.j6 n s_1 false)))
def tontineref14_Sound.j8 (n : Nat) (s_1 : T_api_Saga) (within_8 : Bool) (b_32 : Bool) : Option Bool :=
  (tontineref14_Sound.j5 n s_1 within_8 b_32)
def tontineref14_Sound.j7 (n : Nat) (s_1 : T_api_Saga) (within_8 : Bool) (b_30 : Bool) : Option Bool :=
  (if b_30 then (tontineref14_Sound.j8 n s_1 within_8 (s_1.Failed == 0)) else (tontineref14_Sound.j8 n s_1 within_8 false))
def tontineref14_Sound.j4 (n : Nat) (s_1 : T_api_Saga) (within_8 : Bool) (b_27 : Bool) : Option Bool :=
  (if b_27 then (tontineref14_Sound.j5 n s_1 within_8 true) else (if (s_1.State == 4) then (tontineref14_Sound.j7 n s_1 within_8 (s_1.Cursor == 0)) else (tontineref14_Sound.j7 n s_1 within_8 false)))
def tontineref14_Sound.j10 (n : Nat) (s_1 : T_api_Saga) (within_8 : Bool) (b_26 : Bool) : Option Bool :=
  (tontineref14_Sound.j4 n s_1 within_8 b_26)
def tontineref14_Sound.j9 (n : Nat) (s_1 : T_api_Saga) (within_8 : Bool) (b_24 : Bool) : Option Bool :=
  (if b_24 then (tontineref14_Sound.j10 n s_1 within_8 (s_1.Failed == 0)) else (tontineref14_Sound.j10 n s_1 within_8 false))
def tontineref14_Sound.j3 (n : Nat) (s_1 : T_api_Saga) (within_8 : Bool) (b_21 : Bool) : Option Bool :=
  (if b_21 then (tontineref14_Sound.j4 n s_1 within_8 true) else (if (s_1.State == 3) then (tontineref14_Sound.j9 n s_1 within_8 (s_1.Cursor == (s_1.Steps.length : Int))) else (tontineref14_Sound.j9 n s_1 within_8 false)))
def tontineref14_Sound.j13 (n : Nat) (s_1 : T_api_Saga) (within_8 : Bool) (b_20 : Bool) : Option Bool :=
  (tontineref14_Sound.j3 n s_1 within_8 b_20)
def tontineref14_Sound.j12 (n : Nat) (s_1 : T_api_Saga) (within_8 : Bool) (b_17 : Bool) : Option Bool :=
  (if b_17 then (if (0 : Int) ≤ s_1.Cursor ∧ s_1.Cursor < (s_1.Steps.length : Int) then (tontineref14_Sound.j13 n s_1 within_8 (decide (s_1.Failed < ((rdL s_1.Steps s_1.Cursor).Budget)))) else none) else (tontineref14_Sound.j13 n s_1 within_8 false))
def tontineref14_Sound.j11 (n : Nat) (s_1 : T_api_Saga) (within_8 : Bool) (b_15 : Bool) : Option Bool :=
  (if b_15 then (tontineref14_Sound.j12 n s_1 within_8 (decide (s_1.Failed ≥ 0))) else (tontineref14_Sound.j12 n s_1 within_8 false))
def tontineref14_Sound.j2 (n : Nat) (s_1 : T_api_Saga) (within_8 : Bool) (b_12 : Bool) : Option Bool :=
  (if b_12 then (tontineref14_Sound.j3 n s_1 within_8 true) else (if (s_1.State == 2) then (tontineref14_Sound.j11 n s_1 within_8 within_8) else (tontineref14_Sound.j11 n s_1 within_8 false)))
def tontineref14_Sound.j1 (n : Nat) (s_1 : T_api_Saga) (within_8 : Bool) (b_10 : Bool) : Option Bool :=
  (if b_10 then (tontineref14_Sound.j2 n s_1 within_8 (s_1.Failed == 0)) else (tontineref14_Sound.j2 n s_1 within_8 false))
def tontineref14_Sound.j0 (n : Nat) (s_1 : T_api_Saga) (within_8 : Bool) : Option Bool :=
  (if (s_1.State == 1) then (tontineref14_Sound.j1 n s_1 within_8 within_8) else (tontineref14_Sound.j1 n s_1 within_8 false))
def tontineref14_Sound.f (n : Nat) (s_1 : T_api_Saga) : Option Bool :=
  ((tontineref13_Check.f n s_1.Steps).bind fun r_5 => (if (r_5 != 0) then (some false) else (if decide (s_1.Cursor ≥ 0) then (tontineref14_Sound.j0 n s_1 (decide (s_1.Cursor < (s_1.Steps.length : Int)))) else (tontineref14_Sound.j0 n s_1 false))))

def tontineref14_From.f (n : Nat) (s_1 : T_api_Saga) (k_4 : Int) : Option T_api_Saga :=
  (if decide (k_4 < 0) then (some (⟨s_1.Steps, 4, 0, 0⟩ : T_api_Saga)) else (some (⟨s_1.Steps, 2, k_4, 0⟩ : T_api_Saga)))

def tontineref14_Outcome.j2 (n : Nat) (s_1 : T_api_Saga) (step_4 : Int) (b_23 : Bool) : Option (T_api_Saga × Bool) :=
  (if b_23 then ((tontineref14_From.f n s_1 (wi64 (step_4 - 1))).bind fun r_25 => (some (r_25, true))) else (if (0 : Int) ≤ step_4 ∧ step_4 < (s_1.Steps.length : Int) then (if ((wi64 (s_1.Failed + 1)) == ((rdL s_1.Steps step_4).Budget)) then (some ((⟨s_1.Steps, 5, step_4, wi64 (s_1.Failed + 1)⟩ : T_api_Saga), true)) else (some ((⟨s_1.Steps, 2, step_4, wi64 (s_1.Failed + 1)⟩ : T_api_Saga), true))) else none))
def tontineref14_Outcome.j1 (n : Nat) (s_1 : T_api_Saga) (step_4 : Int) (taken_5 : Bool) (ok_7 : Bool) (b_19 : Bool) : Option (T_api_Saga × Bool) :=
  (if b_19 then (if ((wi64 (step_4 + 1)) == (s_1.Steps.length : Int)) then (some ((⟨s_1.Steps, 3, wi64 (step_4 + 1), 0⟩ : T_api_Saga), true)) else (some ((⟨s_1.Steps, 1, wi64 (step_4 + 1), 0⟩ : T_api_Saga), true))) else (if ok_7 then (tontineref14_Outcome.j2 n s_1 step_4 true) else (tontineref14_Outcome.j2 n s_1 step_4 (!taken_5))))
def tontineref14_Outcome.j0 (n : Nat) (s_1 : T_api_Saga) (step_4 : Int) (taken_5 : Bool) (ok_7 : Bool) (b_16 : Bool) : Option (T_api_Saga × Bool) :=
  (if b_16 then (some (s_1, false)) else (if ok_7 then (tontineref14_Outcome.j1 n s_1 step_4 taken_5 ok_7 (!taken_5)) else (tontineref14_Outcome.j1 n s_1 step_4 taken_5 ok_7 false)))
def tontineref14_Outcome.f (n : Nat) (s_1 : T_api_Saga) (step_4 : Int) (taken_5 : Bool) (try_6 : Int) (ok_7 : Bool) : Option (T_api_Saga × Bool) :=
  ((tontineref14_Sound.f n s_1).bind fun r_10 => (if (!r_10) then (tontineref14_Outcome.j0 n s_1 step_4 taken_5 ok_7 true) else (if decide (s_1.State > 2) then (tontineref14_Outcome.j0 n s_1 step_4 taken_5 ok_7 true) else (if (step_4 != s_1.Cursor) then (tontineref14_Outcome.j0 n s_1 step_4 taken_5 ok_7 true) else (if (!(taken_5 == (s_1.State == 2))) then (tontineref14_Outcome.j0 n s_1 step_4 taken_5 ok_7 true) else (if (!ok_7) then (tontineref14_Outcome.j0 n s_1 step_4 taken_5 ok_7 (try_6 != s_1.Failed)) else (tontineref14_Outcome.j0 n s_1 step_4 taken_5 ok_7 false)))))))

def saga_Abort.j0 (n : Nat) (s_1 : T_api_Saga) (b_8 : Bool) : Option (T_api_Saga × Bool) :=
  (if b_8 then (some (s_1, false)) else ((saga_back.f n s_1 s_1.Cursor).bind fun r_10 => (some (r_10, true))))
def saga_Abort.f (n : Nat) (s_1 : T_api_Saga) : Option (T_api_Saga × Bool) :=
  ((saga_Sound.f n s_1).bind fun r_6 => (if (!r_6) then (saga_Abort.j0 n s_1 true) else (saga_Abort.j0 n s_1 (s_1.State != 1))))

def tontineref14_Abort.j0 (n : Nat) (s_1 : T_api_Saga) (b_8 : Bool) : Option (T_api_Saga × Bool) :=
  (if b_8 then (some (s_1, false)) else ((tontineref14_From.f n s_1 s_1.Cursor).bind fun r_10 => (some (r_10, true))))
def tontineref14_Abort.f (n : Nat) (s_1 : T_api_Saga) : Option (T_api_Saga × Bool) :=
  ((tontineref14_Sound.f n s_1).bind fun r_6 => (if (!r_6) then (tontineref14_Abort.j0 n s_1 true) else (tontineref14_Abort.j0 n s_1 (s_1.State != 1))))

def tontineref13_Same.l0 (n : Nat) (a_1 : (List T_api_Step)) (b_4 : (List T_api_Step)) : Nat → Int → Option Bool
  | 0, _ => none
  | k + 1, i_8 => (if decide (i_8 < (a_1.length : Int)) then (if (0 : Int) ≤ i_8 ∧ i_8 < (a_1.length : Int) then (if (0 : Int) ≤ i_8 ∧ i_8 < (b_4.length : Int) then (if (!((((rdL a_1 i_8).Part) == ((rdL b_4 i_8).Part)) && ((((rdL a_1 i_8).Name) == ((rdL b_4 i_8).Name)) && ((((rdL a_1 i_8).Budget) == ((rdL b_4 i_8).Budget)) && true)))) then (some false) else ((tontineref13_Same.l0 n a_1 b_4 k) (wi64 (i_8 + 1)))) else none) else none) else (some true))
def tontineref13_Same.f (n : Nat) (a_1 : (List T_api_Step)) (b_4 : (List T_api_Step)) : Option Bool :=
  (if ((a_1.length : Int) != (b_4.length : Int)) then (some false) else (tontineref13_Same.l0 n a_1 b_4 n 0))

def tontineref14_Same.f (n : Nat) (a_1 : T_api_Saga) (b_4 : T_api_Saga) : Option Bool :=
  (if (a_1.State == b_4.State) then (if (a_1.Cursor == b_4.Cursor) then (if (a_1.Failed == b_4.Failed) then ((tontineref13_Same.f n a_1.Steps b_4.Steps).bind fun r_12 => (some r_12)) else (some false)) else (some false)) else (some false))

def tontinelaw14_SagaSteps.j8 (n : Nat) (s_1 : T_api_Saga) (r_25 : Int × Bool × Bool) (open_28 : Bool) (b_52 : Bool) : Option Bool :=
  (if b_52 then (some true) else (if open_28 then (if (r_25.1 == s_1.Cursor) then (some (r_25.2.1 == (s_1.State == 2))) else (some false)) else (some false)))
def tontinelaw14_SagaSteps.j7 (n : Nat) (s_1 : T_api_Saga) (r_25 : Int × Bool × Bool) (open_28 : Bool) (b_50 : Bool) : Option Bool :=
  (if b_50 then (tontinelaw14_SagaSteps.j8 n s_1 r_25 open_28 (!r_25.2.1)) else (tontinelaw14_SagaSteps.j8 n s_1 r_25 open_28 false))
def tontinelaw14_SagaSteps.j6 (n : Nat) (s_1 : T_api_Saga) (r_25 : Int × Bool × Bool) (open_28 : Bool) (b_47 : Bool) : Option Bool :=
  (if b_47 then (if (!open_28) then (tontinelaw14_SagaSteps.j7 n s_1 r_25 open_28 (r_25.1 == 0)) else (tontinelaw14_SagaSteps.j7 n s_1 r_25 open_28 false)) else (some false))
def tontinelaw14_SagaSteps.j5 (n : Nat) (s_1 : T_api_Saga) (r_25 : Int × Bool × Bool) (open_28 : Bool) (b_45 : Bool) : Option Bool :=
  (if b_45 then (tontinelaw14_SagaSteps.j6 n s_1 r_25 open_28 (r_25.2.2 == open_28)) else (tontinelaw14_SagaSteps.j6 n s_1 r_25 open_28 false))
def tontinelaw14_SagaSteps.j9 (n : Nat) (s_1 : T_api_Saga) (r_25 : Int × Bool × Bool) (open_28 : Bool) (r_42 : Bool) (b_44 : Bool) : Option Bool :=
  (tontinelaw14_SagaSteps.j5 n s_1 r_25 open_28 (r_42 == b_44))
def tontinelaw14_SagaSteps.j4 (n : Nat) (s_1 : T_api_Saga) (r_25 : Int × Bool × Bool) (open_28 : Bool) (b_40 : Bool) : Option Bool :=
  (if b_40 then ((saga_Ended.f n s_1).bind fun r_42 => (if decide (s_1.State ≥ 3) then (tontinelaw14_SagaSteps.j9 n s_1 r_25 open_28 r_42 (decide (s_1.State ≤ 5))) else (tontinelaw14_SagaSteps.j9 n s_1 r_25 open_28 r_42 false))) else (tontinelaw14_SagaSteps.j5 n s_1 r_25 open_28 false))
def tontinelaw14_SagaSteps.j3 (n : Nat) (s_1 : T_api_Saga) (r_25 : Int × Bool × Bool) (open_28 : Bool) (b_36 : Bool) : Option Bool :=
  (if b_36 then ((saga_Sound.f n s_1).bind fun r_38 => ((tontineref14_Sound.f n s_1).bind fun r_39 => (tontinelaw14_SagaSteps.j4 n s_1 r_25 open_28 (r_38 == r_39)))) else (tontinelaw14_SagaSteps.j4 n s_1 r_25 open_28 false))
def tontinelaw14_SagaSteps.j2 (n : Nat) (s_1 : T_api_Saga) (r_17 : T_api_Saga × Bool) (r_21 : T_api_Saga × Bool) (r_25 : Int × Bool × Bool) (open_28 : Bool) (b_33 : Bool) : Option Bool :=
  (if b_33 then ((tontineref14_Same.f n r_17.1 r_21.1).bind fun r_35 => (tontinelaw14_SagaSteps.j3 n s_1 r_25 open_28 r_35)) else (tontinelaw14_SagaSteps.j3 n s_1 r_25 open_28 false))
def tontinelaw14_SagaSteps.j1 (n : Nat) (s_1 : T_api_Saga) (r_17 : T_api_Saga × Bool) (r_21 : T_api_Saga × Bool) (r_25 : Int × Bool × Bool) (open_28 : Bool) (b_31 : Bool) : Option Bool :=
  (if b_31 then (tontinelaw14_SagaSteps.j2 n s_1 r_17 r_21 r_25 open_28 (r_17.2 == r_21.2)) else (tontinelaw14_SagaSteps.j2 n s_1 r_17 r_21 r_25 open_28 false))
def tontinelaw14_SagaSteps.j0 (n : Nat) (s_1 : T_api_Saga) (r_9 : T_api_Saga × Bool) (r_13 : T_api_Saga × Bool) (r_17 : T_api_Saga × Bool) (r_21 : T_api_Saga × Bool) (r_25 : Int × Bool × Bool) (open_28 : Bool) : Option Bool :=
  (if (r_9.2 == r_13.2) then ((tontineref14_Same.f n r_9.1 r_13.1).bind fun r_30 => (tontinelaw14_SagaSteps.j1 n s_1 r_17 r_21 r_25 open_28 r_30)) else (tontinelaw14_SagaSteps.j1 n s_1 r_17 r_21 r_25 open_28 false))
def tontinelaw14_SagaSteps.f (n : Nat) (s_1 : T_api_Saga) (c_4 : T_tontinelaw14_Call) : Option Bool :=
  ((tontinelaw14_begun.f n).bind fun r_7 => (if (!r_7) then (some false) else ((saga_Outcome.f n s_1 c_4.Step c_4.Taken c_4.Try c_4.Ok).bind fun r_9 => ((tontineref14_Outcome.f n s_1 c_4.Step c_4.Taken c_4.Try c_4.Ok).bind fun r_13 => ((saga_Abort.f n s_1).bind fun r_17 => ((tontineref14_Abort.f n s_1).bind fun r_21 => ((saga_Wants.f n s_1).bind fun r_25 => ((tontineref14_Sound.f n s_1).bind fun r_26 => (if r_26 then (tontinelaw14_SagaSteps.j0 n s_1 r_9 r_13 r_17 r_21 r_25 (decide (s_1.State < 3))) else (tontinelaw14_SagaSteps.j0 n s_1 r_9 r_13 r_17 r_21 r_25 false))))))))))

def tontinelaw14_SagaOrder.j1 (n : Nat) (l_1 : (List T_api_Step)) (f_22 : Int) (f_23 : Int) (f_24 : Int) (done_25 : Int) (undone_26 : Int) (aborted_27 : Bool) (fails_28 : Int) : Option Bool :=
  (if (f_22 == 3) then (if (done_25 == (l_1.length : Int)) then (some (!aborted_27)) else (some false)) else (if (f_22 == 4) then (some (undone_26 == (-1))) else (if (f_22 == 5) then (if (undone_26 == f_23) then (if (0 : Int) ≤ f_23 ∧ f_23 < (l_1.length : Int) then (some (fails_28 == ((rdL l_1 f_23).Budget))) else none) else (some false)) else (if (f_22 == 2) then (if (undone_26 == f_23) then (some (fails_28 == f_24)) else (some false)) else (if (f_22 == 1) then (some (f_23 == done_25)) else (some false))))))
def tontinelaw14_SagaOrder.j3 (n : Nat) (L0 : (List T_api_Step) → Int → Int → Int → Int → Int → Bool → Int → Int → Option Bool) (x_29 : Int) (f_55 : (List T_api_Step)) (f_58 : Int) (f_59 : Int) (f_60 : Int) (done_61 : Int) (undone_62 : Int) (aborted_63 : Bool) (fails_64 : Int) (b_72 : Bool) : Option Bool :=
  (if b_72 then (some false) else (L0 f_55 f_58 f_59 f_60 done_61 undone_62 aborted_63 fails_64 (wi64 (x_29 + 1))))
def tontinelaw14_SagaOrder.j2 (n : Nat) (L0 : (List T_api_Step) → Int → Int → Int → Int → Int → Bool → Int → Int → Option Bool) (f_19 : (List T_api_Step)) (f_22 : Int) (f_23 : Int) (f_24 : Int) (x_29 : Int) (f_55 : (List T_api_Step)) (f_58 : Int) (f_59 : Int) (f_60 : Int) (done_61 : Int) (undone_62 : Int) (aborted_63 : Bool) (fails_64 : Int) (took_65 : Bool) : Option Bool :=
  ((saga_Sound.f n (⟨f_55, f_58, f_59, f_60⟩ : T_api_Saga)).bind fun r_66 => (if (!r_66) then (tontinelaw14_SagaOrder.j3 n L0 x_29 f_55 f_58 f_59 f_60 done_61 undone_62 aborted_63 fails_64 true) else ((saga_Ended.f n (⟨f_19, f_22, f_23, f_24⟩ : T_api_Saga)).bind fun r_68 => (if r_68 then (if took_65 then (tontinelaw14_SagaOrder.j3 n L0 x_29 f_55 f_58 f_59 f_60 done_61 undone_62 aborted_63 fails_64 true) else ((tontineref14_Same.f n (⟨f_55, f_58, f_59, f_60⟩ : T_api_Saga) (⟨f_19, f_22, f_23, f_24⟩ : T_api_Saga)).bind fun r_71 => (tontinelaw14_SagaOrder.j3 n L0 x_29 f_55 f_58 f_59 f_60 done_61 undone_62 aborted_63 fails_64 (!r_71)))) else (tontinelaw14_SagaOrder.j3 n L0 x_29 f_55 f_58 f_59 f_60 done_61 undone_62 aborted_63 fails_64 false)))))
def tontinelaw14_SagaOrder.j6 (n : Nat) (L0 : (List T_api_Step) → Int → Int → Int → Int → Int → Bool → Int → Int → Option Bool) (f_19 : (List T_api_Step)) (f_22 : Int) (f_23 : Int) (f_24 : Int) (aborted_27 : Bool) (x_29 : Int) (r_44 : T_api_Saga × Bool) (done_53 : Int) (undone_54 : Int) (fails_55 : Int) : Option Bool :=
  (tontinelaw14_SagaOrder.j2 n L0 f_19 f_22 f_23 f_24 x_29 r_44.1.Steps r_44.1.State r_44.1.Cursor r_44.1.Failed done_53 undone_54 aborted_27 fails_55 r_44.2)
def tontinelaw14_SagaOrder.j5 (n : Nat) (L0 : (List T_api_Step) → Int → Int → Int → Int → Int → Bool → Int → Int → Option Bool) (calls_4 : (List T_tontinelaw14_Call)) (f_19 : (List T_api_Step)) (f_22 : Int) (f_23 : Int) (f_24 : Int) (done_25 : Int) (undone_26 : Int) (aborted_27 : Bool) (fails_28 : Int) (x_29 : Int) (r_41 : Int × Bool × Bool) (r_44 : T_api_Saga × Bool) (b_49 : Bool) : Option Bool :=
  (if b_49 then (tontinelaw14_SagaOrder.j6 n L0 f_19 f_22 f_23 f_24 aborted_27 x_29 r_44 (wi64 (done_25 + 1)) undone_26 fails_28) else (if (!r_41.2.1) then (tontinelaw14_SagaOrder.j6 n L0 f_19 f_22 f_23 f_24 aborted_27 x_29 r_44 done_25 (wi64 (done_25 - 1)) fails_28) else (if (rdL calls_4 x_29).Ok then (tontinelaw14_SagaOrder.j6 n L0 f_19 f_22 f_23 f_24 aborted_27 x_29 r_44 done_25 (wi64 (undone_26 - 1)) 0) else (tontinelaw14_SagaOrder.j6 n L0 f_19 f_22 f_23 f_24 aborted_27 x_29 r_44 done_25 undone_26 (wi64 (fails_28 + 1))))))
def tontinelaw14_SagaOrder.j4 (n : Nat) (L0 : (List T_api_Step) → Int → Int → Int → Int → Int → Bool → Int → Int → Option Bool) (calls_4 : (List T_tontinelaw14_Call)) (f_19 : (List T_api_Step)) (f_22 : Int) (f_23 : Int) (f_24 : Int) (done_25 : Int) (undone_26 : Int) (aborted_27 : Bool) (fails_28 : Int) (x_29 : Int) (r_41 : Int × Bool × Bool) (step_43 : Int) : Option Bool :=
  ((saga_Outcome.f n (⟨f_19, f_22, f_23, f_24⟩ : T_api_Saga) step_43 r_41.2.1 ((rdL calls_4 x_29).Try) ((rdL calls_4 x_29).Ok)).bind fun r_44 => (if r_44.2 then (if (!r_41.2.1) then (tontinelaw14_SagaOrder.j5 n L0 calls_4 f_19 f_22 f_23 f_24 done_25 undone_26 aborted_27 fails_28 x_29 r_41 r_44 ((rdL calls_4 x_29).Ok)) else (tontinelaw14_SagaOrder.j5 n L0 calls_4 f_19 f_22 f_23 f_24 done_25 undone_26 aborted_27 fails_28 x_29 r_41 r_44 false)) else (tontinelaw14_SagaOrder.j2 n L0 f_19 f_22 f_23 f_24 x_29 r_44.1.Steps r_44.1.State r_44.1.Cursor r_44.1.Failed done_25 undone_26 aborted_27 fails_28 r_44.2)))
def tontinelaw14_SagaOrder.l0 (n : Nat) (l_1 : (List T_api_Step)) (calls_4 : (List T_tontinelaw14_Call)) : Nat → (List T_api_Step) → Int → Int → Int → Int → Int → Bool → Int → Int → Option Bool
  | 0, _, _, _, _, _, _, _, _, _ => none
  | k + 1, f_19, f_22, f_23, f_24, done_25, undone_26, aborted_27, fails_28, x_29 => (if decide (x_29 < (calls_4.length : Int)) then (if (0 : Int) ≤ x_29 ∧ x_29 < (calls_4.length : Int) then (if (x_29 == 1000) then (tontinelaw14_SagaOrder.j1 n l_1 f_22 f_23 f_24 done_25 undone_26 aborted_27 fails_28) else (if decide (((rdL calls_4 x_29).Step) < 0) then ((saga_Abort.f n (⟨f_19, f_22, f_23, f_24⟩ : T_api_Saga)).bind fun r_36 => (if r_36.2 then (tontinelaw14_SagaOrder.j2 n (tontinelaw14_SagaOrder.l0 n l_1 calls_4 k) f_19 f_22 f_23 f_24 x_29 r_36.1.Steps r_36.1.State r_36.1.Cursor r_36.1.Failed done_25 done_25 true fails_28 r_36.2) else (tontinelaw14_SagaOrder.j2 n (tontinelaw14_SagaOrder.l0 n l_1 calls_4 k) f_19 f_22 f_23 f_24 x_29 r_36.1.Steps r_36.1.State r_36.1.Cursor r_36.1.Failed done_25 undone_26 aborted_27 fails_28 r_36.2))) else ((saga_Wants.f n (⟨f_19, f_22, f_23, f_24⟩ : T_api_Saga)).bind fun r_41 => (if (!r_41.2.2) then (tontinelaw14_SagaOrder.j4 n (tontinelaw14_SagaOrder.l0 n l_1 calls_4 k) calls_4 f_19 f_22 f_23 f_24 done_25 undone_26 aborted_27 fails_28 x_29 r_41 ((rdL calls_4 x_29).Step)) else (tontinelaw14_SagaOrder.j4 n (tontinelaw14_SagaOrder.l0 n l_1 calls_4 k) calls_4 f_19 f_22 f_23 f_24 done_25 undone_26 aborted_27 fails_28 x_29 r_41 r_41.1))))) else none) else (tontinelaw14_SagaOrder.j1 n l_1 f_22 f_23 f_24 done_25 undone_26 aborted_27 fails_28))
def tontinelaw14_SagaOrder.j0 (n : Nat) (l_1 : (List T_api_Step)) (calls_4 : (List T_tontinelaw14_Call)) (r_9 : T_api_Saga × Int) (b_15 : Bool) : Option Bool :=
  (if b_15 then ((tontineref13_Check.f n l_1).bind fun r_17 => (some (r_9.2 == r_17))) else (tontinelaw14_SagaOrder.l0 n l_1 calls_4 n r_9.1.Steps r_9.1.State r_9.1.Cursor r_9.1.Failed 0 (-1) false 0 0))
def tontinelaw14_SagaOrder.f (n : Nat) (l_1 : (List T_api_Step)) (calls_4 : (List T_tontinelaw14_Call)) : Option Bool :=
  ((tontinelaw14_begun.f n).bind fun r_7 => (if (!r_7) then (some false) else ((saga_New.f n l_1).bind fun r_9 => ((tontineref13_Check.f n l_1).bind fun r_13 => (if (r_9.2 != r_13) then (tontinelaw14_SagaOrder.j0 n l_1 calls_4 r_9 true) else (tontinelaw14_SagaOrder.j0 n l_1 calls_4 r_9 (r_9.2 != 0)))))))

def tontinelaw14_SagaEnds.j2 (n : Nat) (L0 : (List T_api_Step) → Int → Int → Int → Int → Option Bool) (l_1 : (List T_api_Step)) (n_23 : Int) (r_39 : T_api_Saga × Bool) (b_43 : Bool) : Option Bool :=
  (if b_43 then (some false) else (if decide ((wi64 (n_23 + 1)) > (wi64 ((l_1.length : Int) + (wi64 ((l_1.length : Int) * 9))))) then (some false) else (L0 r_39.1.Steps r_39.1.State r_39.1.Cursor r_39.1.Failed (wi64 (n_23 + 1)))))
def tontinelaw14_SagaEnds.j1 (n : Nat) (L0 : (List T_api_Step) → Int → Int → Int → Int → Option Bool) (l_1 : (List T_api_Step)) (oks_4 : (List Bool)) (n_23 : Int) (f_30 : (List T_api_Step)) (f_33 : Int) (f_34 : Int) (f_35 : Int) : Option Bool :=
  ((saga_Wants.f n (⟨f_30, f_33, f_34, f_35⟩ : T_api_Saga)).bind fun r_36 => (if (oks_4.length : Int) ≠ 0 then (if (0 : Int) ≤ (n_23.tmod (oks_4.length : Int)) ∧ (n_23.tmod (oks_4.length : Int)) < (oks_4.length : Int) then ((saga_Outcome.f n (⟨f_30, f_33, f_34, f_35⟩ : T_api_Saga) r_36.1 r_36.2.1 f_35 (rdL oks_4 (n_23.tmod (oks_4.length : Int)))).bind fun r_39 => (if (!r_36.2.2) then (tontinelaw14_SagaEnds.j2 n L0 l_1 n_23 r_39 true) else (tontinelaw14_SagaEnds.j2 n L0 l_1 n_23 r_39 (!r_39.2)))) else none) else none))
def tontinelaw14_SagaEnds.l0 (n : Nat) (l_1 : (List T_api_Step)) (oks_4 : (List Bool)) (abort_7 : Int) : Nat → (List T_api_Step) → Int → Int → Int → Int → Option Bool
  | 0, _, _, _, _, _ => none
  | k + 1, f_17, f_20, f_21, f_22, n_23 => ((saga_Ended.f n (⟨f_17, f_20, f_21, f_22⟩ : T_api_Saga)).bind fun r_24 => (if (!r_24) then (if (n_23 == abort_7) then ((saga_Abort.f n (⟨f_17, f_20, f_21, f_22⟩ : T_api_Saga)).bind fun r_27 => (tontinelaw14_SagaEnds.j1 n (tontinelaw14_SagaEnds.l0 n l_1 oks_4 abort_7 k) l_1 oks_4 n_23 r_27.1.Steps r_27.1.State r_27.1.Cursor r_27.1.Failed)) else (tontinelaw14_SagaEnds.j1 n (tontinelaw14_SagaEnds.l0 n l_1 oks_4 abort_7 k) l_1 oks_4 n_23 f_17 f_20 f_21 f_22)) else (some true)))
def tontinelaw14_SagaEnds.j0 (n : Nat) (l_1 : (List T_api_Step)) (oks_4 : (List Bool)) (abort_7 : Int) (r_10 : T_api_Saga × Int) (b_15 : Bool) : Option Bool :=
  (if b_15 then (some true) else (tontinelaw14_SagaEnds.l0 n l_1 oks_4 abort_7 n r_10.1.Steps r_10.1.State r_10.1.Cursor r_10.1.Failed 0))
def tontinelaw14_SagaEnds.f (n : Nat) (l_1 : (List T_api_Step)) (oks_4 : (List Bool)) (abort_7 : Int) : Option Bool :=
  ((tontinelaw14_begun.f n).bind fun r_8 => (if (!r_8) then (some false) else ((saga_New.f n l_1).bind fun r_10 => (if (r_10.2 != 0) then (tontinelaw14_SagaEnds.j0 n l_1 oks_4 abort_7 r_10 true) else (tontinelaw14_SagaEnds.j0 n l_1 oks_4 abort_7 r_10 ((oks_4.length : Int) == 0))))))

def tontinelaw14_SagaTwice.f (n : Nat) (s_1 : T_api_Saga) (c_4 : T_tontinelaw14_Call) : Option Bool :=
  ((tontinelaw14_begun.f n).bind fun r_7 => (if (!r_7) then (some false) else ((saga_Outcome.f n s_1 c_4.Step c_4.Taken c_4.Try c_4.Ok).bind fun r_9 => (if (!r_9.2) then ((tontineref14_Same.f n s_1 r_9.1).bind fun r_14 => (some r_14)) else ((saga_Outcome.f n r_9.1 c_4.Step c_4.Taken c_4.Try c_4.Ok).bind fun r_16 => ((saga_Abort.f n r_9.1).bind fun r_20 => (if (!r_16.2) then ((tontineref14_Same.f n r_9.1 r_16.1).bind fun r_25 => (if r_25 then (if (r_20.2 == (r_9.1.State == 1)) then ((saga_Sound.f n r_20.1).bind fun r_28 => (some r_28)) else (some false)) else (some false))) else (some false))))))))

def tontinelaw14_SagaBudgets.j0 (n : Nat) (b_46 : Bool) : Option Bool :=
  (some b_46)
def tontinelaw14_SagaBudgets.l2 (n : Nat) (r_26 : T_api_Saga × Bool) : Nat → (List T_api_Step) → Int → Int → Int → Int → Option Bool
  | 0, _, _, _, _, _ => none
  | k + 1, f_47, f_50, f_51, f_52, i_53 => (if decide (i_53 ≥ 0) then ((saga_Outcome.f n (⟨f_47, f_50, f_51, f_52⟩ : T_api_Saga) i_53 true 7 true).bind fun r_55 => ((tontinelaw14_SagaBudgets.l2 n r_26 k) r_55.1.Steps r_55.1.State r_55.1.Cursor r_55.1.Failed (wi64 (i_53 - 1)))) else (if r_26.2 then (some (f_50 == 4)) else (some false)))
def tontinelaw14_SagaBudgets.l1 (n : Nat) (l_1 : (List T_api_Step)) (at_4 : Int) (fails_5 : Int) (r_26 : T_api_Saga × Bool) : Nat → (List T_api_Step) → Int → Int → Int → Int → Option Bool
  | 0, _, _, _, _, _ => none
  | k + 1, f_30, f_33, f_34, f_35, x_36 => (if decide (x_36 < ((wi64 ((fails_5.tmod 12) + 12)).tmod 12)) then ((saga_Outcome.f n (⟨f_30, f_33, f_34, f_35⟩ : T_api_Saga) ((wi64 ((at_4.tmod (l_1.length : Int)) + (l_1.length : Int))).tmod (l_1.length : Int)) true x_36 false).bind fun r_38 => (if (!(r_38.2 == (decide (x_36 < ((rdL l_1 ((wi64 ((at_4.tmod (l_1.length : Int)) + (l_1.length : Int))).tmod (l_1.length : Int))).Budget))))) then (some false) else ((tontinelaw14_SagaBudgets.l1 n l_1 at_4 fails_5 r_26 k) r_38.1.Steps r_38.1.State r_38.1.Cursor r_38.1.Failed (wi64 (x_36 + 1))))) else (if decide (((wi64 ((fails_5.tmod 12) + 12)).tmod 12) ≥ ((rdL l_1 ((wi64 ((at_4.tmod (l_1.length : Int)) + (l_1.length : Int))).tmod (l_1.length : Int))).Budget)) then (if r_26.2 then (if (f_33 == 5) then (tontinelaw14_SagaBudgets.j0 n (f_34 == ((wi64 ((at_4.tmod (l_1.length : Int)) + (l_1.length : Int))).tmod (l_1.length : Int)))) else (tontinelaw14_SagaBudgets.j0 n false)) else (tontinelaw14_SagaBudgets.j0 n false)) else (tontinelaw14_SagaBudgets.l2 n r_26 n f_30 f_33 f_34 f_35 ((wi64 ((at_4.tmod (l_1.length : Int)) + (l_1.length : Int))).tmod (l_1.length : Int)))))
def tontinelaw14_SagaBudgets.l0 (n : Nat) (l_1 : (List T_api_Step)) (at_4 : Int) (fails_5 : Int) : Nat → (List T_api_Step) → Int → Int → Int → Int → Option Bool
  | 0, _, _, _, _, _ => none
  | k + 1, f_14, f_17, f_18, f_19, x_20 => (if decide (x_20 < ((wi64 ((at_4.tmod (l_1.length : Int)) + (l_1.length : Int))).tmod (l_1.length : Int))) then ((saga_Outcome.f n (⟨f_14, f_17, f_18, f_19⟩ : T_api_Saga) x_20 false 0 true).bind fun r_22 => ((tontinelaw14_SagaBudgets.l0 n l_1 at_4 fails_5 k) r_22.1.Steps r_22.1.State r_22.1.Cursor r_22.1.Failed (wi64 (x_20 + 1)))) else ((saga_Abort.f n (⟨f_14, f_17, f_18, f_19⟩ : T_api_Saga)).bind fun r_26 => (if (0 : Int) ≤ ((wi64 ((at_4.tmod (l_1.length : Int)) + (l_1.length : Int))).tmod (l_1.length : Int)) ∧ ((wi64 ((at_4.tmod (l_1.length : Int)) + (l_1.length : Int))).tmod (l_1.length : Int)) < (l_1.length : Int) then (tontinelaw14_SagaBudgets.l1 n l_1 at_4 fails_5 r_26 n r_26.1.Steps r_26.1.State r_26.1.Cursor r_26.1.Failed 0) else none)))
def tontinelaw14_SagaBudgets.f (n : Nat) (l_1 : (List T_api_Step)) (at_4 : Int) (fails_5 : Int) : Option Bool :=
  ((tontinelaw14_begun.f n).bind fun r_6 => (if (!r_6) then (some false) else ((saga_New.f n l_1).bind fun r_8 => (if (r_8.2 != 0) then (some true) else (if (l_1.length : Int) ≠ 0 then (tontinelaw14_SagaBudgets.l0 n l_1 at_4 fails_5 n r_8.1.Steps r_8.1.State r_8.1.Cursor r_8.1.Failed 0) else none)))))

def command_Answer.f (n : Nat) (y_1 : T_api_Reply) : Option (List UInt8) :=
  ((pack_Writer_Num.f n (⟨[]⟩ : T_pack_Writer) (wu64 (if y_1.Err > 0 then y_1.Err else 0))).bind fun r_4 => ((pack_Writer_Num.f n r_4 y_1.Num).bind fun r_7 => ((pack_Writer_Num.f n r_7 y_1.Extra).bind fun r_10 => ((pack_Writer_Bytes.f n r_10).bind fun r_13 => (some r_13)))))

def pack_From.f (n : Nat) (s_1 : (List UInt8)) : Option T_pack_Reader :=
  (some (⟨s_1, false⟩ : T_pack_Reader))

def pack_Reader_fail.f (n : Nat) (r_1 : T_pack_Reader) : Option (Int × T_pack_Reader) :=
  (some (0, (⟨[], true⟩ : T_pack_Reader)))

def pack_Reader_Num.l0 (n : Nat) (r_1 : T_pack_Reader) : Nat → Int → Int → Option (Int × T_pack_Reader)
  | 0, _, _ => none
  | k + 1, x_15, i_16 => (if decide (i_16 ≤ (wi64 ((rdB r_1.s 0).toNat : Int))) then (if (0 : Int) ≤ i_16 ∧ i_16 < (r_1.s.length : Int) then ((pack_Reader_Num.l0 n r_1 k) (bOr .u64 (shL .u64 x_15 8) (wu64 ((rdB r_1.s i_16).toNat : Int))) (wi64 (i_16 + 1))) else none) else (if (0 : Int) ≤ (wi64 ((wi64 ((rdB r_1.s 0).toNat : Int)) + 1)) ∧ (wi64 ((wi64 ((rdB r_1.s 0).toNat : Int)) + 1)) ≤ (r_1.s.length : Int) then (some (x_15, (⟨r_1.s.drop (wi64 ((wi64 ((rdB r_1.s 0).toNat : Int)) + 1)).toNat, r_1.bad⟩ : T_pack_Reader))) else none))
def pack_Reader_Num.j0 (n : Nat) (r_1 : T_pack_Reader) (b_11 : Bool) : Option (Int × T_pack_Reader) :=
  (if b_11 then ((pack_Reader_fail.f n r_1).bind fun r_13 => (some (r_13.1, r_13.2))) else (pack_Reader_Num.l0 n r_1 n 0 1))
def pack_Reader_Num.f (n : Nat) (r_1 : T_pack_Reader) : Option (Int × T_pack_Reader) :=
  (if (r_1.s == ([] : List UInt8)) then ((pack_Reader_fail.f n r_1).bind fun r_4 => (some (r_4.1, r_4.2))) else (if (0 : Int) ≤ 0 ∧ 0 < (r_1.s.length : Int) then (if decide ((wi64 ((rdB r_1.s 0).toNat : Int)) > 8) then (pack_Reader_Num.j0 n r_1 true) else (if decide ((wi64 ((rdB r_1.s 0).toNat : Int)) > (wi64 ((r_1.s.length : Int) - 1))) then (pack_Reader_Num.j0 n r_1 true) else (if decide ((wi64 ((rdB r_1.s 0).toNat : Int)) > 0) then (if (0 : Int) ≤ 1 ∧ 1 < (r_1.s.length : Int) then (pack_Reader_Num.j0 n r_1 (((rdB r_1.s 1).toNat : Int) == 0)) else none) else (pack_Reader_Num.j0 n r_1 false)))) else none))

def pack_Reader_Up.j0 (n : Nat) (r_4 : Int × T_pack_Reader) (b_6 : Bool) : Option (Int × T_pack_Reader) :=
  (if b_6 then ((pack_Reader_fail.f n r_4.2).bind fun r_8 => (some (wi64 r_8.1, r_8.2))) else (some (wi64 r_4.1, r_4.2)))
def pack_Reader_Up.f (n : Nat) (r_1 : T_pack_Reader) (limit_3 : Int) : Option (Int × T_pack_Reader) :=
  ((pack_Reader_Num.f n r_1).bind fun r_4 => (if decide (limit_3 < 0) then (pack_Reader_Up.j0 n r_4 true) else (pack_Reader_Up.j0 n r_4 (decide (r_4.1 > (wu64 limit_3))))))

def pack_Reader_Left.f (n : Nat) (r_1 : T_pack_Reader) : Option (Int × Bool) :=
  (some ((r_1.s.length : Int), (!r_1.bad)))

def pack_Reader_Done.f (n : Nat) (r_1 : T_pack_Reader) : Option Bool :=
  ((pack_Reader_Left.f n r_1).bind fun r_3 => (if (r_3.1 == 0) then (some r_3.2) else (some false)))

def command_Said.f (n : Nat) (s_1 : (List UInt8)) : Option (T_api_Reply × Int) :=
  ((pack_From.f n s_1).bind fun r_3 => ((pack_Reader_Up.f n r_3 52).bind fun r_5 => ((pack_Reader_Num.f n r_5.2).bind fun r_7 => ((pack_Reader_Num.f n r_7.2).bind fun r_8 => ((pack_Reader_Done.f n r_8.2).bind fun r_9 => (if (!r_9) then (some ((⟨0, 0, 0⟩ : T_api_Reply), 2)) else (some ((⟨r_5.1, r_7.1, r_8.1⟩ : T_api_Reply), 0))))))))

def tontineref03_Reader_Fail.f (n : Nat) (r_1 : T_tontineref03_Reader) : Option T_tontineref03_Reader :=
  (some (⟨[], true⟩ : T_tontineref03_Reader))

def tontineref03_Reader_Num.l0 (n : Nat) (r_1 : T_tontineref03_Reader) (n_5 : Int) : Nat → Int → Int → Option (Int × T_tontineref03_Reader)
  | 0, _, _ => none
  | k + 1, x_15, i_16 => (if decide (i_16 ≤ n_5) then (if (0 : Int) ≤ i_16 ∧ i_16 < (r_1.S_.length : Int) then ((tontineref03_Reader_Num.l0 n r_1 n_5 k) (wu64 ((wu64 (256 * x_15)) + (wu64 ((rdB r_1.S_ i_16).toNat : Int)))) (wi64 (i_16 + 1))) else none) else (if (0 : Int) ≤ (wi64 (n_5 + 1)) ∧ (wi64 (n_5 + 1)) ≤ (r_1.S_.length : Int) then (some (x_15, (⟨r_1.S_.drop (wi64 (n_5 + 1)).toNat, r_1.Bad⟩ : T_tontineref03_Reader))) else none))
def tontineref03_Reader_Num.j1 (n : Nat) (r_1 : T_tontineref03_Reader) (n_5 : Int) (b_11 : Bool) : Option (Int × T_tontineref03_Reader) :=
  (if b_11 then ((tontineref03_Reader_Fail.f n r_1).bind fun r_13 => (some (0, r_13))) else (tontineref03_Reader_Num.l0 n r_1 n_5 n 0 1))
def tontineref03_Reader_Num.j0 (n : Nat) (r_1 : T_tontineref03_Reader) (n_5 : Int) : Option (Int × T_tontineref03_Reader) :=
  (if decide (n_5 < 0) then (tontineref03_Reader_Num.j1 n r_1 n_5 true) else (if decide (n_5 > 8) then (tontineref03_Reader_Num.j1 n r_1 n_5 true) else (if decide ((r_1.S_.length : Int) < (wi64 (n_5 + 1))) then (tontineref03_Reader_Num.j1 n r_1 n_5 true) else (if decide (n_5 > 0) then (if (0 : Int) ≤ 1 ∧ 1 < (r_1.S_.length : Int) then (tontineref03_Reader_Num.j1 n r_1 n_5 (((rdB r_1.S_ 1).toNat : Int) == 0)) else none) else (tontineref03_Reader_Num.j1 n r_1 n_5 false)))))
def tontineref03_Reader_Num.f (n : Nat) (r_1 : T_tontineref03_Reader) : Option (Int × T_tontineref03_Reader) :=
  (if decide ((r_1.S_.length : Int) > 0) then (if (0 : Int) ≤ 0 ∧ 0 < (r_1.S_.length : Int) then (tontineref03_Reader_Num.j0 n r_1 (wi64 ((rdB r_1.S_ 0).toNat : Int))) else none) else (tontineref03_Reader_Num.j0 n r_1 (-1)))

def tontineref03_Reader_Up.j0 (n : Nat) (r_4 : Int × T_tontineref03_Reader) (b_6 : Bool) : Option (Int × T_tontineref03_Reader) :=
  (if b_6 then ((tontineref03_Reader_Fail.f n r_4.2).bind fun r_8 => (some (0, r_8))) else (some (wi64 r_4.1, r_4.2)))
def tontineref03_Reader_Up.f (n : Nat) (r_1 : T_tontineref03_Reader) (limit_3 : Int) : Option (Int × T_tontineref03_Reader) :=
  ((tontineref03_Reader_Num.f n r_1).bind fun r_4 => (if decide (limit_3 < 0) then (tontineref03_Reader_Up.j0 n r_4 true) else (tontineref03_Reader_Up.j0 n r_4 (decide (r_4.1 > (wu64 limit_3))))))

def tontineref16_Said.f (n : Nat) (s_1 : (List UInt8)) : Option (T_api_Reply × Int) :=
  ((tontineref03_Reader_Up.f n (⟨s_1, false⟩ : T_tontineref03_Reader) 52).bind fun r_4 => ((tontineref03_Reader_Num.f n r_4.2).bind fun r_6 => ((tontineref03_Reader_Num.f n r_6.2).bind fun r_7 => (if r_7.2.Bad then (some ((⟨0, 0, 0⟩ : T_api_Reply), 2)) else (if (!(r_7.2.S_ == ([] : List UInt8))) then (some ((⟨0, 0, 0⟩ : T_api_Reply), 2)) else (some ((⟨r_4.1, r_6.1, r_7.1⟩ : T_api_Reply), 0)))))))

def tontineref16_Answer.f (n : Nat) (y_1 : T_api_Reply) : Option (List UInt8) :=
  ((tontineref16_nums.f n [wu64 (if y_1.Err > 0 then y_1.Err else 0), y_1.Num, y_1.Extra]).bind fun r_5 => (some r_5))

def tontinelaw16_CommandReplies.f (n : Nat) (y_1 : T_api_Reply) (s_2 : (List UInt8)) : Option Bool :=
  ((tontinelaw16_begun.f n).bind fun r_4 => (if (!r_4) then (some false) else ((command_Answer.f n y_1).bind fun r_6 => ((command_Said.f n s_2).bind fun r_7 => ((tontineref16_Said.f n s_2).bind fun r_9 => ((command_Said.f n r_6).bind fun r_11 => ((tontineref16_Answer.f n y_1).bind fun r_13 => (if (r_6 == r_13) then (if ((r_7.1.Err == r_9.1.Err) && ((r_7.1.Num == r_9.1.Num) && ((r_7.1.Extra == r_9.1.Extra) && true))) then (if (r_7.2 == r_9.2) then (if decide (y_1.Err < 0) then (some true) else (if decide (y_1.Err > 52) then (some true) else (if (r_11.2 == 0) then (some ((r_11.1.Err == y_1.Err) && ((r_11.1.Num == y_1.Num) && ((r_11.1.Extra == y_1.Extra) && true)))) else (some false)))) else (some false)) else (some false)) else (some false)))))))))

def pack_Reader_Text.f (n : Nat) (r_1 : T_pack_Reader) (limit_3 : Int) : Option ((List UInt8) × T_pack_Reader) :=
  ((pack_Reader_Up.f n r_1 limit_3).bind fun r_4 => (if decide (r_4.1 > (r_4.2.s.length : Int)) then ((pack_Reader_fail.f n r_4.2).bind fun r_6 => (some ([], r_6.2))) else (if (0 : Int) ≤ r_4.1 ∧ r_4.1 ≤ (r_4.2.s.length : Int) then (if (0 : Int) ≤ r_4.1 ∧ r_4.1 ≤ (r_4.2.s.length : Int) then (some (r_4.2.s.take r_4.1.toNat, (⟨r_4.2.s.drop r_4.1.toNat, r_4.2.bad⟩ : T_pack_Reader))) else none) else none)))

def plan_Read.l0 (n : Nat) : Nat → (List UInt8) → Bool → (List T_api_Step) → Int → Option ((List T_api_Step) × T_pack_Reader)
  | 0, _, _, _, _ => none
  | k + 1, f_4, f_5, l_6, n_9 => (if decide (n_9 > 0) then ((pack_Reader_Up.f n (⟨f_4, f_5⟩ : T_pack_Reader) 3).bind fun r_11 => ((pack_Reader_Text.f n r_11.2 16).bind fun r_13 => ((pack_Reader_Up.f n r_13.2 9).bind fun r_14 => (if capOk 32 (l_6 ++ [(⟨r_11.1, r_13.1, r_14.1⟩ : T_api_Step)]).length then ((plan_Read.l0 n k) r_14.2.s r_14.2.bad (l_6 ++ [(⟨r_11.1, r_13.1, r_14.1⟩ : T_api_Step)]) (wi64 (n_9 - 1))) else none)))) else ((pack_Reader_Left.f n (⟨f_4, f_5⟩ : T_pack_Reader)).bind fun r_23 => (if (!r_23.2) then (some (([] : List T_api_Step), (⟨f_4, f_5⟩ : T_pack_Reader))) else (some (l_6, (⟨f_4, f_5⟩ : T_pack_Reader))))))
def plan_Read.f (n : Nat) (r_1 : T_pack_Reader) : Option ((List T_api_Step) × T_pack_Reader) :=
  ((pack_Reader_Up.f n r_1 64).bind fun r_3 => (plan_Read.l0 n n r_3.2.s r_3.2.bad ([] : List T_api_Step) r_3.1))

def pack_Reader_Bool.f (n : Nat) (r_1 : T_pack_Reader) : Option (Bool × T_pack_Reader) :=
  ((pack_Reader_Up.f n r_1 1).bind fun r_3 => (some ((r_3.1 == 1), r_3.2)))

def command_Decode.j0 (n : Nat) (r_5 : Int × T_pack_Reader) (r_7 : Int × T_pack_Reader) (r_8 : Int × T_pack_Reader) (r_9 : Int × T_pack_Reader) (r_10 : Int × T_pack_Reader) (f_20 : (List UInt8)) (f_21 : Bool) (f_22 : (List T_api_Step)) (f_25 : Int) (f_26 : Bool) (f_27 : Int) (f_28 : Bool) : Option (T_api_Command × Int) :=
  ((pack_Reader_Done.f n (⟨f_20, f_21⟩ : T_pack_Reader)).bind fun r_29 => (if (!r_29) then (some ((⟨0, 0, 0, 0, [], 0, false, 0, false, 0⟩ : T_api_Command), 2)) else ((command_May.f n (⟨r_5.1, r_7.1, r_8.1, r_9.1, f_22, f_25, f_26, f_27, f_28, r_10.1⟩ : T_api_Command)).bind fun r_31 => (if (!r_31) then (some ((⟨0, 0, 0, 0, [], 0, false, 0, false, 0⟩ : T_api_Command), 2)) else (some ((⟨r_5.1, r_7.1, r_8.1, r_9.1, f_22, f_25, f_26, f_27, f_28, r_10.1⟩ : T_api_Command), 0))))))
def command_Decode.f (n : Nat) (s_1 : (List UInt8)) : Option (T_api_Command × Int) :=
  ((pack_From.f n s_1).bind fun r_3 => ((pack_Reader_Up.f n r_3 5).bind fun r_5 => ((pack_Reader_Num.f n r_5.2).bind fun r_7 => ((pack_Reader_Num.f n r_7.2).bind fun r_8 => ((pack_Reader_Num.f n r_8.2).bind fun r_9 => ((pack_Reader_Num.f n r_9.2).bind fun r_10 => (if (r_5.1 == 2) then ((plan_Read.f n r_10.2).bind fun r_12 => (command_Decode.j0 n r_5 r_7 r_8 r_9 r_10 r_12.2.s r_12.2.bad r_12.1 0 false 0 false)) else (if (r_5.1 == 4) then ((pack_Reader_Up.f n r_10.2 64).bind fun r_17 => ((pack_Reader_Bool.f n r_17.2).bind fun r_18 => ((pack_Reader_Up.f n r_18.2 9).bind fun r_19 => ((pack_Reader_Bool.f n r_19.2).bind fun r_20 => (command_Decode.j0 n r_5 r_7 r_8 r_9 r_10 r_20.2.s r_20.2.bad ([] : List T_api_Step) r_17.1 r_18.1 r_19.1 r_20.1))))) else (command_Decode.j0 n r_5 r_7 r_8 r_9 r_10 r_10.2.s r_10.2.bad ([] : List T_api_Step) 0 false 0 false)))))))))

def tontineref03_Reader_Text.f (n : Nat) (r_1 : T_tontineref03_Reader) (limit_3 : Int) : Option ((List UInt8) × T_tontineref03_Reader) :=
  ((tontineref03_Reader_Up.f n r_1 limit_3).bind fun r_4 => (if decide (r_4.1 > (r_4.2.S_.length : Int)) then ((tontineref03_Reader_Fail.f n r_4.2).bind fun r_6 => (some ([], r_6))) else (if (0 : Int) ≤ r_4.1 ∧ r_4.1 ≤ (r_4.2.S_.length : Int) then (if (0 : Int) ≤ r_4.1 ∧ r_4.1 ≤ (r_4.2.S_.length : Int) then (some (r_4.2.S_.take r_4.1.toNat, (⟨r_4.2.S_.drop r_4.1.toNat, r_4.2.Bad⟩ : T_tontineref03_Reader))) else none) else none)))

def tontineref13_Read.l0 (n : Nat) (r_3 : Int × T_tontineref03_Reader) : Nat → (List UInt8) → Bool → (List T_api_Step) → Int → Option ((List T_api_Step) × T_tontineref03_Reader)
  | 0, _, _, _, _ => none
  | k + 1, f_4, f_5, l_6, i_9 => (if decide (i_9 < r_3.1) then ((tontineref03_Reader_Up.f n (⟨f_4, f_5⟩ : T_tontineref03_Reader) 3).bind fun r_11 => ((tontineref03_Reader_Text.f n r_11.2 16).bind fun r_12 => ((tontineref03_Reader_Up.f n r_12.2 9).bind fun r_13 => (if capOk 32 (l_6 ++ [(⟨r_11.1, r_12.1, r_13.1⟩ : T_api_Step)]).length then ((tontineref13_Read.l0 n r_3 k) r_13.2.S_ r_13.2.Bad (l_6 ++ [(⟨r_11.1, r_12.1, r_13.1⟩ : T_api_Step)]) (wi64 (i_9 + 1))) else none)))) else (if f_5 then (some (([] : List T_api_Step), (⟨f_4, f_5⟩ : T_tontineref03_Reader))) else (some (l_6, (⟨f_4, f_5⟩ : T_tontineref03_Reader)))))
def tontineref13_Read.f (n : Nat) (r_1 : T_tontineref03_Reader) : Option ((List T_api_Step) × T_tontineref03_Reader) :=
  ((tontineref03_Reader_Up.f n r_1 64).bind fun r_3 => (tontineref13_Read.l0 n r_3 n r_3.2.S_ r_3.2.Bad ([] : List T_api_Step) 0))

def tontineref16_Decode.j2 (n : Nat) (r_4 : Int × T_tontineref03_Reader) (r_6 : Int × T_tontineref03_Reader) (r_7 : Int × T_tontineref03_Reader) (r_8 : Int × T_tontineref03_Reader) (r_9 : Int × T_tontineref03_Reader) (f_16 : (List T_api_Step)) (f_26 : Int) (f_27 : Bool) (f_28 : Int) (f_29 : Bool) (b_34 : Bool) : Option (T_api_Command × Int) :=
  (if b_34 then (some ((⟨0, 0, 0, 0, [], 0, false, 0, false, 0⟩ : T_api_Command), 2)) else (some ((⟨r_4.1, r_6.1, r_7.1, r_8.1, f_16, f_26, f_27, f_28, f_29, r_9.1⟩ : T_api_Command), 0)))
def tontineref16_Decode.j1 (n : Nat) (s_1 : (List UInt8)) (r_4 : Int × T_tontineref03_Reader) (r_6 : Int × T_tontineref03_Reader) (r_7 : Int × T_tontineref03_Reader) (r_8 : Int × T_tontineref03_Reader) (r_9 : Int × T_tontineref03_Reader) (f_16 : (List T_api_Step)) (f_24 : (List UInt8)) (f_25 : Bool) (f_26 : Int) (f_27 : Bool) (f_28 : Int) (f_29 : Bool) : Option (T_api_Command × Int) :=
  ((tontineref16_Encode.f n (⟨r_4.1, r_6.1, r_7.1, r_8.1, f_16, f_26, f_27, f_28, f_29, r_9.1⟩ : T_api_Command)).bind fun r_30 => (if f_25 then (tontineref16_Decode.j2 n r_4 r_6 r_7 r_8 r_9 f_16 f_26 f_27 f_28 f_29 true) else (if (!(f_24 == ([] : List UInt8))) then (tontineref16_Decode.j2 n r_4 r_6 r_7 r_8 r_9 f_16 f_26 f_27 f_28 f_29 true) else (if (r_30.2 != 0) then (tontineref16_Decode.j2 n r_4 r_6 r_7 r_8 r_9 f_16 f_26 f_27 f_28 f_29 true) else (tontineref16_Decode.j2 n r_4 r_6 r_7 r_8 r_9 f_16 f_26 f_27 f_28 f_29 (!(r_30.1 == s_1)))))))
def tontineref16_Decode.j0 (n : Nat) (s_1 : (List UInt8)) (r_4 : Int × T_tontineref03_Reader) (r_6 : Int × T_tontineref03_Reader) (r_7 : Int × T_tontineref03_Reader) (r_8 : Int × T_tontineref03_Reader) (r_9 : Int × T_tontineref03_Reader) (f_14 : (List UInt8)) (f_15 : Bool) (f_16 : (List T_api_Step)) : Option (T_api_Command × Int) :=
  (if (r_4.1 == 4) then ((tontineref03_Reader_Up.f n (⟨f_14, f_15⟩ : T_tontineref03_Reader) 63).bind fun r_20 => ((tontineref03_Reader_Up.f n r_20.2 1).bind fun r_21 => ((tontineref03_Reader_Up.f n r_21.2 8).bind fun r_22 => ((tontineref03_Reader_Up.f n r_22.2 1).bind fun r_23 => (tontineref16_Decode.j1 n s_1 r_4 r_6 r_7 r_8 r_9 f_16 r_23.2.S_ r_23.2.Bad r_20.1 (r_21.1 == 1) r_22.1 (r_23.1 == 1)))))) else (tontineref16_Decode.j1 n s_1 r_4 r_6 r_7 r_8 r_9 f_16 f_14 f_15 0 false 0 false))
def tontineref16_Decode.f (n : Nat) (s_1 : (List UInt8)) : Option (T_api_Command × Int) :=
  ((tontineref03_Reader_Up.f n (⟨s_1, false⟩ : T_tontineref03_Reader) 5).bind fun r_4 => ((tontineref03_Reader_Num.f n r_4.2).bind fun r_6 => ((tontineref03_Reader_Num.f n r_6.2).bind fun r_7 => ((tontineref03_Reader_Num.f n r_7.2).bind fun r_8 => ((tontineref03_Reader_Num.f n r_8.2).bind fun r_9 => (if (r_4.1 == 2) then ((tontineref13_Read.f n r_9.2).bind fun r_11 => (tontineref16_Decode.j0 n s_1 r_4 r_6 r_7 r_8 r_9 r_11.2.S_ r_11.2.Bad r_11.1)) else (tontineref16_Decode.j0 n s_1 r_4 r_6 r_7 r_8 r_9 r_9.2.S_ r_9.2.Bad ([] : List T_api_Step))))))))

def tontineref16_Same.f (n : Nat) (a_1 : T_api_Command) (b_4 : T_api_Command) : Option Bool :=
  (if (a_1.Kind == b_4.Kind) then (if (a_1.Session == b_4.Session) then (if (a_1.Seq == b_4.Seq) then (if (a_1.Saga == b_4.Saga) then (if (a_1.Step == b_4.Step) then (if (a_1.Back == b_4.Back) then (if (a_1.Try == b_4.Try) then (if (a_1.Ok == b_4.Ok) then (if (a_1.Now == b_4.Now) then ((tontineref13_Same.f n a_1.Steps b_4.Steps).bind fun r_18 => (some r_18)) else (some false)) else (some false)) else (some false)) else (some false)) else (some false)) else (some false)) else (some false)) else (some false)) else (some false))

def tontinelaw16_CommandDecodes.f (n : Nat) (s_1 : (List UInt8)) : Option Bool :=
  ((tontinelaw16_begun.f n).bind fun r_2 => (if (!r_2) then (some false) else ((command_Decode.f n s_1).bind fun r_4 => ((tontineref16_Decode.f n s_1).bind fun r_8 => (if (r_4.2 == r_8.2) then ((tontineref16_Same.f n r_4.1 r_8.1).bind fun r_13 => (some r_13)) else (some false))))))

def tontinelaw16_CommandBack.j0 (n : Nat) (b_12 : Bool) : Option Bool :=
  (some b_12)
def tontinelaw16_CommandBack.f (n : Nat) (c_1 : T_api_Command) : Option Bool :=
  ((tontinelaw16_begun.f n).bind fun r_5 => (if (!r_5) then (some false) else ((command_Encode.f n c_1).bind fun r_7 => (if (r_7.2 != 0) then (if (r_7.1 == ([] : List UInt8)) then (if (r_7.2 == 1) then (tontinelaw16_CommandBack.j0 n true) else (if (r_7.2 == 44) then (tontinelaw16_CommandBack.j0 n (c_1.Kind == 2)) else (tontinelaw16_CommandBack.j0 n false))) else (tontinelaw16_CommandBack.j0 n false)) else ((command_Decode.f n r_7.1).bind fun r_13 => (if (r_13.2 == 0) then ((tontineref16_Same.f n c_1 r_13.1).bind fun r_18 => (some r_18)) else (some false)))))))

def tontinelaw16_CommandOne.j0 (n : Nat) (b_11 : Bool) : Option Bool :=
  (some b_11)
def tontinelaw16_CommandOne.f (n : Nat) (s_1 : (List UInt8)) : Option Bool :=
  ((tontinelaw16_begun.f n).bind fun r_2 => (if (!r_2) then (some false) else ((command_Decode.f n s_1).bind fun r_4 => (if (r_4.2 != 0) then (if (r_4.2 == 2) then ((tontineref16_Same.f n r_4.1 (⟨0, 0, 0, 0, [], 0, false, 0, false, 0⟩ : T_api_Command)).bind fun r_10 => (tontinelaw16_CommandOne.j0 n r_10)) else (tontinelaw16_CommandOne.j0 n false)) else ((command_Encode.f n r_4.1).bind fun r_12 => (if (r_12.2 == 0) then (if (s_1 == r_12.1) then ((command_May.f n r_4.1).bind fun r_15 => (some r_15)) else (some false)) else (some false)))))))

def tontinelaw16_CommandTimes.f (n : Nat) (c_1 : T_api_Command) (now_4 : Int) : Option Bool :=
  ((tontinelaw16_begun.f n).bind fun r_6 => (if (!r_6) then (some false) else ((command_Encode.f n c_1).bind fun r_8 => (if (r_8.2 != 0) then (some true) else ((command_Encode.f n (⟨c_1.Kind, c_1.Session, c_1.Seq, c_1.Saga, c_1.Steps, c_1.Step, c_1.Back, c_1.Try, c_1.Ok, now_4⟩ : T_api_Command)).bind fun r_11 => ((command_Decode.f n r_11.1).bind fun r_12 => (if (r_11.2 == 0) then (if (r_12.2 == 0) then ((tontineref16_Same.f n (⟨r_12.1.Kind, r_12.1.Session, r_12.1.Seq, r_12.1.Saga, r_12.1.Steps, r_12.1.Step, r_12.1.Back, r_12.1.Try, r_12.1.Ok, c_1.Now⟩ : T_api_Command) c_1).bind fun r_18 => (if r_18 then (some ((r_8.1 == r_11.1) == (c_1.Now == now_4))) else (some false))) else (some false)) else (some false))))))))

def saga_Write.f (n : Nat) (w_1 : T_pack_Writer) (s_5 : T_api_Saga) : Option T_pack_Writer :=
  ((plan_Write.f n w_1 s_5.Steps).bind fun r_9 => ((pack_Writer_Num.f n r_9 (wu64 s_5.State)).bind fun r_12 => ((pack_Writer_Num.f n r_12 (wu64 s_5.Cursor)).bind fun r_15 => ((pack_Writer_Num.f n r_15 (wu64 s_5.Failed)).bind fun r_18 => (some r_18)))))

def tontineref14_Bytes.f (n : Nat) (s_1 : T_api_Saga) : Option (List UInt8) :=
  ((tontineref13_Bytes.f n s_1.Steps).bind fun r_5 => ((tontineref03_Num.f n (wu64 s_1.State)).bind fun r_6 => (if r_5.length + r_6.length ≤ i64max then ((tontineref03_Num.f n (wu64 s_1.Cursor)).bind fun r_8 => (if (r_5 ++ r_6).length + r_8.length ≤ i64max then ((tontineref03_Num.f n (wu64 s_1.Failed)).bind fun r_10 => (if ((r_5 ++ r_6) ++ r_8).length + r_10.length ≤ i64max then (some (((r_5 ++ r_6) ++ r_8) ++ r_10)) else none)) else none)) else none)))

def saga_Read.f (n : Nat) (r_1 : T_pack_Reader) : Option (T_api_Saga × Bool × T_pack_Reader) :=
  ((plan_Read.f n r_1).bind fun r_4 => ((pack_Reader_Up.f n r_4.2 5).bind fun r_8 => ((pack_Reader_Up.f n r_8.2 64).bind fun r_9 => ((pack_Reader_Up.f n r_9.2 9).bind fun r_10 => ((pack_Reader_Left.f n r_10.2).bind fun r_11 => (if (!r_11.2) then (some ((⟨[], 0, 0, 0⟩ : T_api_Saga), false, r_10.2)) else ((saga_Sound.f n (⟨r_4.1, r_8.1, r_9.1, r_10.1⟩ : T_api_Saga)).bind fun r_13 => (if (!r_13) then (some ((⟨[], 0, 0, 0⟩ : T_api_Saga), false, r_10.2)) else (some ((⟨r_4.1, r_8.1, r_9.1, r_10.1⟩ : T_api_Saga), true, r_10.2))))))))))

def tontineref14_Read.f (n : Nat) (r_1 : T_tontineref03_Reader) : Option (T_api_Saga × Bool × T_tontineref03_Reader) :=
  ((tontineref13_Read.f n r_1).bind fun r_4 => ((tontineref03_Reader_Up.f n r_4.2 5).bind fun r_8 => ((tontineref03_Reader_Up.f n r_8.2 64).bind fun r_9 => ((tontineref03_Reader_Up.f n r_9.2 9).bind fun r_10 => (if r_10.2.Bad then (some ((⟨[], 0, 0, 0⟩ : T_api_Saga), false, r_10.2)) else ((tontineref14_Sound.f n (⟨r_4.1, r_8.1, r_9.1, r_10.1⟩ : T_api_Saga)).bind fun r_12 => (if (!r_12) then (some ((⟨[], 0, 0, 0⟩ : T_api_Saga), false, r_10.2)) else (some ((⟨r_4.1, r_8.1, r_9.1, r_10.1⟩ : T_api_Saga), true, r_10.2)))))))))

def tontinelaw14_SagaBytes.j0 (n : Nat) (L0 : Int → Option Bool) (x_19 : Int) (b_37 : Bool) : Option Bool :=
  (if b_37 then (some false) else (L0 (wi64 (x_19 + 1))))
def tontinelaw14_SagaBytes.l0 (n : Nat) (s_1 : T_api_Saga) (b_4 : (List UInt8)) (r_10 : T_pack_Writer) (r_16 : (List UInt8)) : Nat → Int → Option Bool
  | 0, _ => none
  | k + 1, x_19 => (if decide (x_19 < ([b_4, r_16].length : Int)) then (if (0 : Int) ≤ x_19 ∧ x_19 < ([b_4, r_16].length : Int) then ((pack_From.f n (rdL [b_4, r_16] x_19)).bind fun r_22 => ((saga_Read.f n r_22).bind fun r_25 => ((tontineref14_Read.f n (⟨(rdL [b_4, r_16] x_19), false⟩ : T_tontineref03_Reader)).bind fun r_29 => ((pack_Reader_Left.f n r_25.2.2).bind fun r_33 => (if (!(r_25.2.1 == r_29.2.1)) then (tontinelaw14_SagaBytes.j0 n (tontinelaw14_SagaBytes.l0 n s_1 b_4 r_10 r_16 k) x_19 true) else ((tontineref14_Same.f n r_25.1 r_29.1).bind fun r_35 => (if (!r_35) then (tontinelaw14_SagaBytes.j0 n (tontinelaw14_SagaBytes.l0 n s_1 b_4 r_10 r_16 k) x_19 true) else (tontinelaw14_SagaBytes.j0 n (tontinelaw14_SagaBytes.l0 n s_1 b_4 r_10 r_16 k) x_19 (r_33.1 != (r_29.2.2.S_.length : Int)))))))))) else none) else ((pack_Writer_Bytes.f n r_10).bind fun r_43 => ((pack_From.f n r_43).bind fun r_44 => ((saga_Read.f n r_44).bind fun r_46 => ((saga_Sound.f n s_1).bind fun r_50 => (if (!r_50) then (some true) else (if r_46.2.1 then ((tontineref14_Same.f n s_1 r_46.1).bind fun r_53 => (if r_53 then ((pack_Reader_Done.f n r_46.2.2).bind fun r_55 => (some r_55)) else (some false))) else (some false))))))))
def tontinelaw14_SagaBytes.f (n : Nat) (s_1 : T_api_Saga) (b_4 : (List UInt8)) : Option Bool :=
  ((tontinelaw14_begun.f n).bind fun r_6 => (if (!r_6) then (some false) else (if decide ((s_1.Steps.length : Int) > 500) then (some true) else ((saga_Write.f n (⟨[]⟩ : T_pack_Writer) s_1).bind fun r_10 => ((pack_Writer_Bytes.f n r_10).bind fun r_13 => ((tontineref14_Bytes.f n s_1).bind fun r_14 => (if (!(r_13 == r_14)) then (some false) else ((pack_Writer_Bytes.f n r_10).bind fun r_16 => (tontinelaw14_SagaBytes.l0 n s_1 b_4 r_10 r_16 n 0)))))))))
end Go.GL
