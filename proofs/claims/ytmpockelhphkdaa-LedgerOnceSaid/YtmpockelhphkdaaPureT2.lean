import Derived.Test.YtmpockelhphkdaaG18
set_option linter.unusedVariables false
namespace Go.GL
open Go

structure T_api_Token where
  Term : Int
  Index : Int
  deriving DecidableEq
instance : Inhabited T_api_Token := ⟨⟨0, 0⟩⟩
structure T_api_Key where
  Saga : Int
  Step : Int
  Back : Bool
  deriving DecidableEq
instance : Inhabited T_api_Key := ⟨⟨0, 0, false⟩⟩
structure T_ledger_Effect where
  Key : T_api_Key
  Name : (List UInt8)
  deriving DecidableEq
instance : Inhabited T_ledger_Effect := ⟨⟨⟨0, 0, false⟩, []⟩⟩
structure T_ledger_Ledger where
  fence : T_api_Token
  effects : (List T_ledger_Effect)
  said : (List (T_api_Key × Bool))
  tombs : (List (T_api_Key × Bool))
  deriving DecidableEq
instance : Inhabited T_ledger_Ledger := ⟨⟨⟨0, 0⟩, [], [], []⟩⟩
structure T_tontinelaw18_Call where
  Token : T_api_Token
  Key : T_api_Key
  Name : (List UInt8)
  Fail : Bool
  deriving DecidableEq
instance : Inhabited T_tontinelaw18_Call := ⟨⟨⟨0, 0⟩, ⟨0, 0, false⟩, [], false⟩⟩
structure T_tontineref18_Said where
  Key : T_api_Key
  Ok : Bool
  deriving DecidableEq
instance : Inhabited T_tontineref18_Said := ⟨⟨⟨0, 0, false⟩, false⟩⟩
structure T_tontineref18_Ledger where
  Fence : T_api_Token
  Keys : (List T_api_Key)
  Names : (List (List UInt8))
  Good : (List T_tontineref18_Said)
  Dead : (List T_api_Key)
  deriving DecidableEq
instance : Inhabited T_tontineref18_Ledger := ⟨⟨⟨0, 0⟩, [], [], [], []⟩⟩

noncomputable section
def ledger_New.f (n : Nat) : Option T_ledger_Ledger :=
  (some (⟨(⟨0, 0⟩ : T_api_Token), [], [], []⟩ : T_ledger_Ledger))

def ledger_Less.f (n : Nat) (a_1 : T_api_Token) (b_2 : T_api_Token) : Option Bool :=
  (if decide (a_1.Term < b_2.Term) then (some true) else (if (a_1.Term == b_2.Term) then (some (decide (a_1.Index < b_2.Index))) else (some false)))

def ledger_Ledger_undo.j0 (n : Nat) (l_1 : T_ledger_Ledger) (k_9 : T_api_Key) (f_21 : (List T_ledger_Effect)) (f_24 : (List (T_api_Key × Bool))) : Option (Bool × Int × T_ledger_Ledger) :=
  (some (true, 0, (⟨(⟨l_1.fence.Term, l_1.fence.Index⟩ : T_api_Token), f_21, (putA k_9 true l_1.said), f_24⟩ : T_ledger_Ledger)))
def ledger_Ledger_undo.f (n : Nat) (l_1 : T_ledger_Ledger) (k_9 : T_api_Key) (name_10 : (List UInt8)) (fail_11 : Bool) : Option (Bool × Int × T_ledger_Ledger) :=
  (if fail_11 then (some (false, 0, (⟨(⟨l_1.fence.Term, l_1.fence.Index⟩ : T_api_Token), l_1.effects, l_1.said, l_1.tombs⟩ : T_ledger_Ledger))) else (if ((getA (⟨k_9.Saga, k_9.Step, false⟩ : T_api_Key) l_1.said).getD false) then (if capOk 40 (l_1.effects ++ [(⟨k_9, name_10⟩ : T_ledger_Effect)]).length then (ledger_Ledger_undo.j0 n l_1 k_9 (l_1.effects ++ [(⟨k_9, name_10⟩ : T_ledger_Effect)]) l_1.tombs) else none) else (ledger_Ledger_undo.j0 n l_1 k_9 l_1.effects (putA (⟨k_9.Saga, k_9.Step, false⟩ : T_api_Key) true l_1.tombs))))

def ledger_Ledger_Ask.j0 (n : Nat) (l_1 : T_ledger_Ledger) (t_9 : T_api_Token) (k_10 : T_api_Key) (name_11 : (List UInt8)) (fail_12 : Bool) (b_17 : Bool) : Option (Bool × Int × T_ledger_Ledger) :=
  (if b_17 then (some (false, 1, (⟨(⟨l_1.fence.Term, l_1.fence.Index⟩ : T_api_Token), l_1.effects, l_1.said, l_1.tombs⟩ : T_ledger_Ledger))) else ((ledger_Less.f n t_9 (⟨l_1.fence.Term, l_1.fence.Index⟩ : T_api_Token)).bind fun r_19 => (if r_19 then (some (false, 50, (⟨(⟨l_1.fence.Term, l_1.fence.Index⟩ : T_api_Token), l_1.effects, l_1.said, l_1.tombs⟩ : T_ledger_Ledger))) else (if (getA k_10 l_1.said).isSome then (some (((getA k_10 l_1.said).getD false), 0, (⟨t_9, l_1.effects, l_1.said, l_1.tombs⟩ : T_ledger_Ledger))) else (if k_10.Back then ((ledger_Ledger_undo.f n (⟨t_9, l_1.effects, l_1.said, l_1.tombs⟩ : T_ledger_Ledger) k_10 name_11 fail_12).bind fun r_23 => (some (r_23.1, r_23.2.1, (⟨(⟨r_23.2.2.fence.Term, r_23.2.2.fence.Index⟩ : T_api_Token), r_23.2.2.effects, r_23.2.2.said, r_23.2.2.tombs⟩ : T_ledger_Ledger)))) else (if ((getA k_10 l_1.tombs).getD false) then (some (false, 51, (⟨t_9, l_1.effects, l_1.said, l_1.tombs⟩ : T_ledger_Ledger))) else (if (!fail_12) then (if capOk 40 (l_1.effects ++ [(⟨k_10, name_11⟩ : T_ledger_Effect)]).length then (some ((!fail_12), 0, (⟨t_9, l_1.effects ++ [(⟨k_10, name_11⟩ : T_ledger_Effect)], (putA k_10 (!fail_12) l_1.said), l_1.tombs⟩ : T_ledger_Ledger))) else none) else (some ((!fail_12), 0, (⟨t_9, l_1.effects, (putA k_10 (!fail_12) l_1.said), l_1.tombs⟩ : T_ledger_Ledger))))))))))
def ledger_Ledger_Ask.f (n : Nat) (l_1 : T_ledger_Ledger) (t_9 : T_api_Token) (k_10 : T_api_Key) (name_11 : (List UInt8)) (fail_12 : Bool) : Option (Bool × Int × T_ledger_Ledger) :=
  (if decide (k_10.Step < 0) then (ledger_Ledger_Ask.j0 n l_1 t_9 k_10 name_11 fail_12 true) else (if decide (k_10.Step ≥ 64) then (ledger_Ledger_Ask.j0 n l_1 t_9 k_10 name_11 fail_12 true) else (ledger_Ledger_Ask.j0 n l_1 t_9 k_10 name_11 fail_12 (decide ((name_11.length : Int) > 16)))))

def ledger_Ledger_Dead.f (n : Nat) (l_1 : T_ledger_Ledger) (saga_9 : Int) (step_10 : Int) : Option Bool :=
  (some ((getA (⟨saga_9, step_10, false⟩ : T_api_Key) l_1.tombs).getD false))

def ledger_Ledger_Effects.f (n : Nat) (l_1 : T_ledger_Ledger) : Option (List T_ledger_Effect) :=
  (if capOk 40 (([] : List T_ledger_Effect) ++ l_1.effects).length then (some (([] : List T_ledger_Effect) ++ l_1.effects)) else none)

def tontinelaw18_begun.f (n : Nat) : Option Bool :=
  ((ledger_New.f n).bind fun r_1 => ((ledger_Ledger_Ask.f n (⟨(⟨r_1.fence.Term, r_1.fence.Index⟩ : T_api_Token), r_1.effects, r_1.said, r_1.tombs⟩ : T_ledger_Ledger) (⟨2, 5⟩ : T_api_Token) (⟨1, 0, false⟩ : T_api_Key) [115] false).bind fun r_9 => ((ledger_Ledger_Ask.f n (⟨(⟨r_9.2.2.fence.Term, r_9.2.2.fence.Index⟩ : T_api_Token), r_9.2.2.effects, r_9.2.2.said, r_9.2.2.tombs⟩ : T_ledger_Ledger) (⟨1, 9⟩ : T_api_Token) (⟨1, 1, false⟩ : T_api_Key) [116] false).bind fun r_16 => ((ledger_Ledger_Ask.f n (⟨(⟨r_16.2.2.fence.Term, r_16.2.2.fence.Index⟩ : T_api_Token), r_16.2.2.effects, r_16.2.2.said, r_16.2.2.tombs⟩ : T_ledger_Ledger) (⟨2, 5⟩ : T_api_Token) (⟨1, 1, true⟩ : T_api_Key) [116] false).bind fun r_23 => (if r_9.1 then (if (r_9.2.1 == 0) then (if (r_16.2.1 == 50) then (if r_23.1 then (if (r_23.2.1 == 0) then ((ledger_Ledger_Dead.f n (⟨(⟨r_23.2.2.fence.Term, r_23.2.2.fence.Index⟩ : T_api_Token), r_23.2.2.effects, r_23.2.2.said, r_23.2.2.tombs⟩ : T_ledger_Ledger) 1 1).bind fun r_35 => (if r_35 then ((ledger_Ledger_Effects.f n (⟨(⟨r_23.2.2.fence.Term, r_23.2.2.fence.Index⟩ : T_api_Token), r_23.2.2.effects, r_23.2.2.said, r_23.2.2.tombs⟩ : T_ledger_Ledger)).bind fun r_37 => (some ((r_37.length : Int) == 1))) else (some false))) else (some false)) else (some false)) else (some false)) else (some false)) else (some false))))))

def tontineref18_Less.f (n : Nat) (a_1 : T_api_Token) (b_2 : T_api_Token) : Option Bool :=
  (if (a_1.Term != b_2.Term) then (some (decide (a_1.Term < b_2.Term))) else (some (decide (a_1.Index < b_2.Index))))

def tontinelaw18_LedgerTokens.j0 (n : Nat) (a_1 : T_api_Token) (b_2 : T_api_Token) (c_3 : T_api_Token) (b_26 : Bool) : Option Bool :=
  (if b_26 then (some false) else ((ledger_Less.f n a_1 b_2).bind fun r_28 => (if (!r_28) then (some true) else ((ledger_Less.f n b_2 c_3).bind fun r_30 => (if (!r_30) then (some true) else ((ledger_Less.f n a_1 c_3).bind fun r_32 => (some r_32)))))))
def tontinelaw18_LedgerTokens.f (n : Nat) (a_1 : T_api_Token) (b_2 : T_api_Token) (c_3 : T_api_Token) : Option Bool :=
  ((tontinelaw18_begun.f n).bind fun r_7 => (if (!r_7) then (some false) else ((ledger_Less.f n a_1 b_2).bind fun r_9 => ((tontineref18_Less.f n a_1 b_2).bind fun r_10 => (if (!(r_9 == r_10)) then (tontinelaw18_LedgerTokens.j0 n a_1 b_2 c_3 true) else ((ledger_Less.f n a_1 a_1).bind fun r_12 => (if r_12 then (tontinelaw18_LedgerTokens.j0 n a_1 b_2 c_3 true) else ((ledger_Less.f n a_1 b_2).bind fun r_14 => (if r_14 then ((ledger_Less.f n b_2 a_1).bind fun r_16 => (if r_16 then (tontinelaw18_LedgerTokens.j0 n a_1 b_2 c_3 true) else (if (!((a_1.Term == b_2.Term) && ((a_1.Index == b_2.Index) && true))) then ((ledger_Less.f n a_1 b_2).bind fun r_19 => (if (!r_19) then ((ledger_Less.f n b_2 a_1).bind fun r_21 => (tontinelaw18_LedgerTokens.j0 n a_1 b_2 c_3 (!r_21))) else (tontinelaw18_LedgerTokens.j0 n a_1 b_2 c_3 false))) else (tontinelaw18_LedgerTokens.j0 n a_1 b_2 c_3 false)))) else (if (!((a_1.Term == b_2.Term) && ((a_1.Index == b_2.Index) && true))) then ((ledger_Less.f n a_1 b_2).bind fun r_26 => (if (!r_26) then ((ledger_Less.f n b_2 a_1).bind fun r_28 => (tontinelaw18_LedgerTokens.j0 n a_1 b_2 c_3 (!r_28))) else (tontinelaw18_LedgerTokens.j0 n a_1 b_2 c_3 false))) else (tontinelaw18_LedgerTokens.j0 n a_1 b_2 c_3 false)))))))))))

def ledger_Ledger_Ask_n0.f (n : Nat) (t_1 : T_api_Token) (k_2 : T_api_Key) (name_3 : (List UInt8)) (fail_4 : Bool) : Option (Bool × Int) :=
  (some (false, 1))

def ledger_Ledger_Fence_n0.f (n : Nat) : Option T_api_Token :=
  (some (⟨0, 0⟩ : T_api_Token))

def ledger_Ledger_Effects_n0.f (n : Nat) : Option (List T_ledger_Effect) :=
  (some ([] : List T_ledger_Effect))

def ledger_Ledger_Dead_n0.f (n : Nat) (saga_1 : Int) (step_2 : Int) : Option Bool :=
  (some false)

def ledger_Ledger_Fence.f (n : Nat) (l_1 : T_ledger_Ledger) : Option T_api_Token :=
  (some (⟨l_1.fence.Term, l_1.fence.Index⟩ : T_api_Token))

def tontinelaw18_LedgerNone.j0 (n : Nat) (k_2 : T_api_Key) (r_8 : Bool × Int) (r_17 : Bool × Int × T_ledger_Ledger) (bad_26 : Bool) : Option Bool :=
  (if (r_8.2 == 1) then ((ledger_Ledger_Fence_n0.f n).bind fun r_28 => (if ((r_28.Term == 0) && ((r_28.Index == 0) && true)) then ((ledger_Ledger_Effects_n0.f n).bind fun r_30 => (if ((r_30.length : Int) == 0) then ((ledger_Ledger_Dead_n0.f n k_2.Saga k_2.Step).bind fun r_34 => (if (!r_34) then (if ((r_17.2.1 == 1) == bad_26) then (if ((r_17.2.1 == 0) == (!bad_26)) then (if (!bad_26) then (some true) else ((ledger_Ledger_Fence.f n (⟨(⟨r_17.2.2.fence.Term, r_17.2.2.fence.Index⟩ : T_api_Token), r_17.2.2.effects, r_17.2.2.said, r_17.2.2.tombs⟩ : T_ledger_Ledger)).bind fun r_39 => (some ((r_39.Term == 0) && ((r_39.Index == 0) && true))))) else (some false)) else (some false)) else (some false))) else (some false))) else (some false))) else (some false))
def tontinelaw18_LedgerNone.f (n : Nat) (t_1 : T_api_Token) (k_2 : T_api_Key) (name_3 : (List UInt8)) : Option Bool :=
  ((tontinelaw18_begun.f n).bind fun r_6 => (if (!r_6) then (some false) else ((ledger_Ledger_Ask_n0.f n t_1 k_2 name_3 false).bind fun r_8 => ((ledger_New.f n).bind fun r_9 => ((ledger_Ledger_Ask.f n (⟨(⟨r_9.fence.Term, r_9.fence.Index⟩ : T_api_Token), r_9.effects, r_9.said, r_9.tombs⟩ : T_ledger_Ledger) t_1 k_2 name_3 false).bind fun r_17 => (if decide (k_2.Step < 0) then (tontinelaw18_LedgerNone.j0 n k_2 r_8 r_17 true) else (if decide (k_2.Step ≥ 64) then (tontinelaw18_LedgerNone.j0 n k_2 r_8 r_17 true) else (tontinelaw18_LedgerNone.j0 n k_2 r_8 r_17 (decide ((name_3.length : Int) > 16))))))))))

def tontineref18_Ledger_said.l0 (n : Nat) (l_1 : T_tontineref18_Ledger) (k_11 : T_api_Key) : Nat → Int → Option (Bool × Bool)
  | 0, _ => none
  | k + 1, i_13 => (if decide (i_13 < (l_1.Good.length : Int)) then (if (0 : Int) ≤ i_13 ∧ i_13 < (l_1.Good.length : Int) then (if ((((rdL l_1.Good i_13).Key.Saga) == k_11.Saga) && ((((rdL l_1.Good i_13).Key.Step) == k_11.Step) && ((((rdL l_1.Good i_13).Key.Back) == k_11.Back) && true))) then (if (0 : Int) ≤ i_13 ∧ i_13 < (l_1.Good.length : Int) then (some ((rdL l_1.Good i_13).Ok, true)) else none) else ((tontineref18_Ledger_said.l0 n l_1 k_11 k) (wi64 (i_13 + 1)))) else none) else (some (false, false)))
def tontineref18_Ledger_said.f (n : Nat) (l_1 : T_tontineref18_Ledger) (k_11 : T_api_Key) : Option (Bool × Bool) :=
  (tontineref18_Ledger_said.l0 n l_1 k_11 n 0)

def tontineref18_Ledger_IsDead.l0 (n : Nat) (l_1 : T_tontineref18_Ledger) (k_11 : T_api_Key) : Nat → Int → Option Bool
  | 0, _ => none
  | k + 1, i_13 => (if decide (i_13 < (l_1.Dead.length : Int)) then (if (0 : Int) ≤ i_13 ∧ i_13 < (l_1.Dead.length : Int) then (if ((((rdL l_1.Dead i_13).Saga) == k_11.Saga) && ((((rdL l_1.Dead i_13).Step) == k_11.Step) && ((((rdL l_1.Dead i_13).Back) == k_11.Back) && true))) then (some true) else ((tontineref18_Ledger_IsDead.l0 n l_1 k_11 k) (wi64 (i_13 + 1)))) else none) else (some false))
def tontineref18_Ledger_IsDead.f (n : Nat) (l_1 : T_tontineref18_Ledger) (k_11 : T_api_Key) : Option Bool :=
  (tontineref18_Ledger_IsDead.l0 n l_1 k_11 n 0)

def tontineref18_Ledger_effect.f (n : Nat) (l_1 : T_tontineref18_Ledger) (k_11 : T_api_Key) (name_12 : (List UInt8)) : Option T_tontineref18_Ledger :=
  (if capOk 24 (l_1.Keys ++ [k_11]).length then (if capOk 16 (l_1.Names ++ [name_12]).length then (some (⟨(⟨l_1.Fence.Term, l_1.Fence.Index⟩ : T_api_Token), l_1.Keys ++ [k_11], l_1.Names ++ [name_12], l_1.Good, l_1.Dead⟩ : T_tontineref18_Ledger)) else none) else none)

def tontineref18_Ledger_Ask.j2 (n : Nat) (k_12 : T_api_Key) (f_67 : Int) (f_68 : Int) (f_69 : (List T_api_Key)) (f_72 : (List (List UInt8))) (f_75 : (List T_tontineref18_Said)) (f_78 : (List T_api_Key)) : Option (Bool × Int × T_tontineref18_Ledger) :=
  (if capOk 32 (f_75 ++ [(⟨k_12, true⟩ : T_tontineref18_Said)]).length then (some (true, 0, (⟨(⟨f_67, f_68⟩ : T_api_Token), f_69, f_72, f_75 ++ [(⟨k_12, true⟩ : T_tontineref18_Said)], f_78⟩ : T_tontineref18_Ledger))) else none)
def tontineref18_Ledger_Ask.j4 (n : Nat) (l_1 : T_tontineref18_Ledger) (t_11 : T_api_Token) (k_12 : T_api_Key) (name_13 : (List UInt8)) (b_34 : Bool) : Option (Bool × Int × T_tontineref18_Ledger) :=
  (if b_34 then (if capOk 32 (l_1.Good ++ [(⟨k_12, false⟩ : T_tontineref18_Said)]).length then (some (false, 0, (⟨t_11, l_1.Keys, l_1.Names, l_1.Good ++ [(⟨k_12, false⟩ : T_tontineref18_Said)], l_1.Dead⟩ : T_tontineref18_Ledger))) else none) else (if k_12.Back then ((tontineref18_Ledger_said.f n (⟨t_11, l_1.Keys, l_1.Names, l_1.Good, l_1.Dead⟩ : T_tontineref18_Ledger) (⟨k_12.Saga, k_12.Step, false⟩ : T_api_Key)).bind fun r_42 => (if r_42.1 then ((tontineref18_Ledger_effect.f n (⟨t_11, l_1.Keys, l_1.Names, l_1.Good, l_1.Dead⟩ : T_tontineref18_Ledger) k_12 name_13).bind fun r_44 => (tontineref18_Ledger_Ask.j2 n k_12 r_44.Fence.Term r_44.Fence.Index r_44.Keys r_44.Names r_44.Good r_44.Dead)) else (if capOk 24 (l_1.Dead ++ [(⟨k_12.Saga, k_12.Step, false⟩ : T_api_Key)]).length then (tontineref18_Ledger_Ask.j2 n k_12 t_11.Term t_11.Index l_1.Keys l_1.Names l_1.Good (l_1.Dead ++ [(⟨k_12.Saga, k_12.Step, false⟩ : T_api_Key)])) else none))) else ((tontineref18_Ledger_effect.f n (⟨t_11, l_1.Keys, l_1.Names, l_1.Good, l_1.Dead⟩ : T_tontineref18_Ledger) k_12 name_13).bind fun r_60 => (tontineref18_Ledger_Ask.j2 n k_12 r_60.Fence.Term r_60.Fence.Index r_60.Keys r_60.Names r_60.Good r_60.Dead))))
def tontineref18_Ledger_Ask.j3 (n : Nat) (l_1 : T_tontineref18_Ledger) (t_11 : T_api_Token) (k_12 : T_api_Key) (name_13 : (List UInt8)) (fail_14 : Bool) (b_31 : Bool) : Option (Bool × Int × T_tontineref18_Ledger) :=
  (if b_31 then (some (false, 0, (⟨t_11, l_1.Keys, l_1.Names, l_1.Good, l_1.Dead⟩ : T_tontineref18_Ledger))) else (if (!k_12.Back) then (tontineref18_Ledger_Ask.j4 n l_1 t_11 k_12 name_13 fail_14) else (tontineref18_Ledger_Ask.j4 n l_1 t_11 k_12 name_13 false)))
def tontineref18_Ledger_Ask.j1 (n : Nat) (l_1 : T_tontineref18_Ledger) (t_11 : T_api_Token) (k_12 : T_api_Key) (name_13 : (List UInt8)) (fail_14 : Bool) (b_28 : Bool) : Option (Bool × Int × T_tontineref18_Ledger) :=
  (if b_28 then (some (false, 51, (⟨t_11, l_1.Keys, l_1.Names, l_1.Good, l_1.Dead⟩ : T_tontineref18_Ledger))) else (if k_12.Back then (tontineref18_Ledger_Ask.j3 n l_1 t_11 k_12 name_13 fail_14 fail_14) else (tontineref18_Ledger_Ask.j3 n l_1 t_11 k_12 name_13 fail_14 false)))
def tontineref18_Ledger_Ask.j0 (n : Nat) (l_1 : T_tontineref18_Ledger) (t_11 : T_api_Token) (k_12 : T_api_Key) (name_13 : (List UInt8)) (fail_14 : Bool) (b_19 : Bool) : Option (Bool × Int × T_tontineref18_Ledger) :=
  (if b_19 then (some (false, 1, (⟨(⟨l_1.Fence.Term, l_1.Fence.Index⟩ : T_api_Token), l_1.Keys, l_1.Names, l_1.Good, l_1.Dead⟩ : T_tontineref18_Ledger))) else ((tontineref18_Less.f n t_11 (⟨l_1.Fence.Term, l_1.Fence.Index⟩ : T_api_Token)).bind fun r_21 => (if r_21 then (some (false, 50, (⟨(⟨l_1.Fence.Term, l_1.Fence.Index⟩ : T_api_Token), l_1.Keys, l_1.Names, l_1.Good, l_1.Dead⟩ : T_tontineref18_Ledger))) else ((tontineref18_Ledger_said.f n (⟨t_11, l_1.Keys, l_1.Names, l_1.Good, l_1.Dead⟩ : T_tontineref18_Ledger) k_12).bind fun r_23 => (if r_23.2 then (some (r_23.1, 0, (⟨t_11, l_1.Keys, l_1.Names, l_1.Good, l_1.Dead⟩ : T_tontineref18_Ledger))) else (if (!k_12.Back) then ((tontineref18_Ledger_IsDead.f n (⟨t_11, l_1.Keys, l_1.Names, l_1.Good, l_1.Dead⟩ : T_tontineref18_Ledger) k_12).bind fun r_27 => (tontineref18_Ledger_Ask.j1 n l_1 t_11 k_12 name_13 fail_14 r_27)) else (tontineref18_Ledger_Ask.j1 n l_1 t_11 k_12 name_13 fail_14 false)))))))
def tontineref18_Ledger_Ask.f (n : Nat) (l_1 : T_tontineref18_Ledger) (t_11 : T_api_Token) (k_12 : T_api_Key) (name_13 : (List UInt8)) (fail_14 : Bool) : Option (Bool × Int × T_tontineref18_Ledger) :=
  (if decide (k_12.Step < 0) then (tontineref18_Ledger_Ask.j0 n l_1 t_11 k_12 name_13 fail_14 true) else (if decide (k_12.Step > 63) then (tontineref18_Ledger_Ask.j0 n l_1 t_11 k_12 name_13 fail_14 true) else (tontineref18_Ledger_Ask.j0 n l_1 t_11 k_12 name_13 fail_14 (decide ((name_13.length : Int) > 16)))))

def tontinelaw18_LedgerRuns.l0 (n : Nat) (f_28 : (List T_api_Key)) (f_31 : (List (List UInt8))) (r_73 : (List T_ledger_Effect)) : Nat → Int → Option Bool
  | 0, _ => none
  | k + 1, x_76 => (if decide (x_76 < (r_73.length : Int)) then (if (0 : Int) ≤ x_76 ∧ x_76 < (r_73.length : Int) then (if (0 : Int) ≤ x_76 ∧ x_76 < (f_28.length : Int) then (if (!((((rdL r_73 x_76).Key.Saga) == ((rdL f_28 x_76).Saga)) && ((((rdL r_73 x_76).Key.Step) == ((rdL f_28 x_76).Step)) && ((((rdL r_73 x_76).Key.Back) == ((rdL f_28 x_76).Back)) && true)))) then (some false) else (if (0 : Int) ≤ x_76 ∧ x_76 < (f_31.length : Int) then (if (!(((rdL r_73 x_76).Name) == (rdL f_31 x_76))) then (some false) else ((tontinelaw18_LedgerRuns.l0 n f_28 f_31 r_73 k) (wi64 (x_76 + 1)))) else none)) else none) else none) else (some true))
def tontinelaw18_LedgerRuns.j0 (n : Nat) (f_15 : Int) (f_16 : Int) (f_17 : (List T_ledger_Effect)) (f_20 : (List (T_api_Key × Bool))) (f_23 : (List (T_api_Key × Bool))) (f_28 : (List T_api_Key)) (f_31 : (List (List UInt8))) : Option Bool :=
  ((ledger_Ledger_Effects.f n (⟨(⟨f_15, f_16⟩ : T_api_Token), f_17, f_20, f_23⟩ : T_ledger_Ledger)).bind fun r_73 => (tontinelaw18_LedgerRuns.l0 n f_28 f_31 r_73 n 0))
def tontinelaw18_LedgerRuns.j1 (n : Nat) (L1 : Int → Int → (List T_ledger_Effect) → (List (T_api_Key × Bool)) → (List (T_api_Key × Bool)) → Int → Int → (List T_api_Key) → (List (List UInt8)) → (List T_tontineref18_Said) → (List T_api_Key) → Int → Option Bool) (x_40 : Int) (r_45 : Bool × Int × T_ledger_Ledger) (r_52 : Bool × Int × T_tontineref18_Ledger) (b_71 : Bool) : Option Bool :=
  (if b_71 then (some false) else (L1 r_45.2.2.fence.Term r_45.2.2.fence.Index r_45.2.2.effects r_45.2.2.said r_45.2.2.tombs r_52.2.2.Fence.Term r_52.2.2.Fence.Index r_52.2.2.Keys r_52.2.2.Names r_52.2.2.Good r_52.2.2.Dead (wi64 (x_40 + 1))))
def tontinelaw18_LedgerRuns.l1 (n : Nat) (calls_1 : (List T_tontinelaw18_Call)) : Nat → Int → Int → (List T_ledger_Effect) → (List (T_api_Key × Bool)) → (List (T_api_Key × Bool)) → Int → Int → (List T_api_Key) → (List (List UInt8)) → (List T_tontineref18_Said) → (List T_api_Key) → Int → Option Bool
  | 0, _, _, _, _, _, _, _, _, _, _, _, _ => none
  | k + 1, f_15, f_16, f_17, f_20, f_23, f_26, f_27, f_28, f_31, f_34, f_37, x_40 => (if decide (x_40 < (calls_1.length : Int)) then (if (0 : Int) ≤ x_40 ∧ x_40 < (calls_1.length : Int) then (if (x_40 == 300) then (tontinelaw18_LedgerRuns.j0 n f_15 f_16 f_17 f_20 f_23 f_28 f_31) else ((ledger_Ledger_Ask.f n (⟨(⟨f_15, f_16⟩ : T_api_Token), f_17, f_20, f_23⟩ : T_ledger_Ledger) (⟨(rdL calls_1 x_40).Token.Term, (rdL calls_1 x_40).Token.Index⟩ : T_api_Token) (⟨(rdL calls_1 x_40).Key.Saga, (rdL calls_1 x_40).Key.Step, (rdL calls_1 x_40).Key.Back⟩ : T_api_Key) ((rdL calls_1 x_40).Name) ((rdL calls_1 x_40).Fail)).bind fun r_45 => ((tontineref18_Ledger_Ask.f n (⟨(⟨f_26, f_27⟩ : T_api_Token), f_28, f_31, f_34, f_37⟩ : T_tontineref18_Ledger) (⟨(rdL calls_1 x_40).Token.Term, (rdL calls_1 x_40).Token.Index⟩ : T_api_Token) (⟨(rdL calls_1 x_40).Key.Saga, (rdL calls_1 x_40).Key.Step, (rdL calls_1 x_40).Key.Back⟩ : T_api_Key) ((rdL calls_1 x_40).Name) ((rdL calls_1 x_40).Fail)).bind fun r_52 => (if (!(r_45.1 == r_52.1)) then (tontinelaw18_LedgerRuns.j1 n (tontinelaw18_LedgerRuns.l1 n calls_1 k) x_40 r_45 r_52 true) else (if (r_45.2.1 != r_52.2.1) then (tontinelaw18_LedgerRuns.j1 n (tontinelaw18_LedgerRuns.l1 n calls_1 k) x_40 r_45 r_52 true) else ((ledger_Ledger_Fence.f n (⟨(⟨r_45.2.2.fence.Term, r_45.2.2.fence.Index⟩ : T_api_Token), r_45.2.2.effects, r_45.2.2.said, r_45.2.2.tombs⟩ : T_ledger_Ledger)).bind fun r_63 => (if (!((r_63.Term == r_52.2.2.Fence.Term) && ((r_63.Index == r_52.2.2.Fence.Index) && true))) then (tontinelaw18_LedgerRuns.j1 n (tontinelaw18_LedgerRuns.l1 n calls_1 k) x_40 r_45 r_52 true) else ((ledger_Ledger_Dead.f n (⟨(⟨r_45.2.2.fence.Term, r_45.2.2.fence.Index⟩ : T_api_Token), r_45.2.2.effects, r_45.2.2.said, r_45.2.2.tombs⟩ : T_ledger_Ledger) ((rdL calls_1 x_40).Key.Saga) ((rdL calls_1 x_40).Key.Step)).bind fun r_65 => ((tontineref18_Ledger_IsDead.f n (⟨(⟨r_52.2.2.Fence.Term, r_52.2.2.Fence.Index⟩ : T_api_Token), r_52.2.2.Keys, r_52.2.2.Names, r_52.2.2.Good, r_52.2.2.Dead⟩ : T_tontineref18_Ledger) (⟨(rdL calls_1 x_40).Key.Saga, (rdL calls_1 x_40).Key.Step, false⟩ : T_api_Key)).bind fun r_66 => (if (!(r_65 == r_66)) then (tontinelaw18_LedgerRuns.j1 n (tontinelaw18_LedgerRuns.l1 n calls_1 k) x_40 r_45 r_52 true) else ((ledger_Ledger_Effects.f n (⟨(⟨r_45.2.2.fence.Term, r_45.2.2.fence.Index⟩ : T_api_Token), r_45.2.2.effects, r_45.2.2.said, r_45.2.2.tombs⟩ : T_ledger_Ledger)).bind fun r_68 => (tontinelaw18_LedgerRuns.j1 n (tontinelaw18_LedgerRuns.l1 n calls_1 k) x_40 r_45 r_52 ((r_68.length : Int) != (r_52.2.2.Keys.length : Int)))))))))))))) else none) else (tontinelaw18_LedgerRuns.j0 n f_15 f_16 f_17 f_20 f_23 f_28 f_31))
def tontinelaw18_LedgerRuns.f (n : Nat) (calls_1 : (List T_tontinelaw18_Call)) : Option Bool :=
  ((tontinelaw18_begun.f n).bind fun r_4 => (if (!r_4) then (some false) else ((ledger_New.f n).bind fun r_6 => (tontinelaw18_LedgerRuns.l1 n calls_1 n r_6.fence.Term r_6.fence.Index r_6.effects r_6.said r_6.tombs 0 0 ([] : List T_api_Key) ([] : List (List UInt8)) ([] : List T_tontineref18_Said) ([] : List T_api_Key) 0))))

def tontinelaw18_LedgerFences.j0 (n : Nat) (L0 : Int → Int → (List T_ledger_Effect) → (List (T_api_Key × Bool)) → (List (T_api_Key × Bool)) → Int → Int → Int → Option Bool) (x_28 : Int) (r_33 : Bool × Int × T_ledger_Ledger) (f_46 : Int) (f_47 : Int) : Option Bool :=
  ((ledger_Ledger_Fence.f n (⟨(⟨r_33.2.2.fence.Term, r_33.2.2.fence.Index⟩ : T_api_Token), r_33.2.2.effects, r_33.2.2.said, r_33.2.2.tombs⟩ : T_ledger_Ledger)).bind fun r_48 => (if (!((r_48.Term == f_46) && ((r_48.Index == f_47) && true))) then (some false) else (L0 r_33.2.2.fence.Term r_33.2.2.fence.Index r_33.2.2.effects r_33.2.2.said r_33.2.2.tombs f_46 f_47 (wi64 (x_28 + 1)))))
def tontinelaw18_LedgerFences.l0 (n : Nat) (calls_1 : (List T_tontinelaw18_Call)) : Nat → Int → Int → (List T_ledger_Effect) → (List (T_api_Key × Bool)) → (List (T_api_Key × Bool)) → Int → Int → Int → Option Bool
  | 0, _, _, _, _, _, _, _, _ => none
  | k + 1, f_15, f_16, f_17, f_20, f_23, f_26, f_27, x_28 => (if decide (x_28 < (calls_1.length : Int)) then (if (0 : Int) ≤ x_28 ∧ x_28 < (calls_1.length : Int) then (if (x_28 == 500) then (some true) else ((ledger_Ledger_Ask.f n (⟨(⟨f_15, f_16⟩ : T_api_Token), f_17, f_20, f_23⟩ : T_ledger_Ledger) (⟨(rdL calls_1 x_28).Token.Term, (rdL calls_1 x_28).Token.Index⟩ : T_api_Token) (⟨(rdL calls_1 x_28).Key.Saga, (rdL calls_1 x_28).Key.Step, (rdL calls_1 x_28).Key.Back⟩ : T_api_Key) ((rdL calls_1 x_28).Name) ((rdL calls_1 x_28).Fail)).bind fun r_33 => (if (r_33.2.1 == 1) then (tontinelaw18_LedgerFences.j0 n (tontinelaw18_LedgerFences.l0 n calls_1 k) x_28 r_33 f_26 f_27) else (if (r_33.2.1 == 50) then ((ledger_Less.f n (⟨(rdL calls_1 x_28).Token.Term, (rdL calls_1 x_28).Token.Index⟩ : T_api_Token) (⟨f_26, f_27⟩ : T_api_Token)).bind fun r_42 => (if (!r_42) then (some false) else (tontinelaw18_LedgerFences.j0 n (tontinelaw18_LedgerFences.l0 n calls_1 k) x_28 r_33 f_26 f_27))) else ((ledger_Less.f n (⟨(rdL calls_1 x_28).Token.Term, (rdL calls_1 x_28).Token.Index⟩ : T_api_Token) (⟨f_26, f_27⟩ : T_api_Token)).bind fun r_45 => (if r_45 then (some false) else (tontinelaw18_LedgerFences.j0 n (tontinelaw18_LedgerFences.l0 n calls_1 k) x_28 r_33 ((rdL calls_1 x_28).Token.Term) ((rdL calls_1 x_28).Token.Index)))))))) else none) else (some true))
def tontinelaw18_LedgerFences.f (n : Nat) (calls_1 : (List T_tontinelaw18_Call)) : Option Bool :=
  ((tontinelaw18_begun.f n).bind fun r_4 => (if (!r_4) then (some false) else ((ledger_New.f n).bind fun r_6 => (tontinelaw18_LedgerFences.l0 n calls_1 n r_6.fence.Term r_6.fence.Index r_6.effects r_6.said r_6.tombs 0 0 0))))

def tontinelaw18_LedgerDead.j2 (n : Nat) (k_1 : T_api_Key) (done_5 : Bool) (f_45 : Int) (f_46 : Int) (f_47 : (List T_ledger_Effect)) (f_50 : (List (T_api_Key × Bool))) (f_53 : (List (T_api_Key × Bool))) (n_93 : Int) : Option Bool :=
  ((ledger_Ledger_Effects.f n (⟨(⟨f_45, f_46⟩ : T_api_Token), f_47, f_50, f_53⟩ : T_ledger_Ledger)).bind fun r_94 => (if ((r_94.length : Int) == n_93) then ((ledger_Ledger_Dead.f n (⟨(⟨f_45, f_46⟩ : T_api_Token), f_47, f_50, f_53⟩ : T_ledger_Ledger) k_1.Saga ((wi64 ((k_1.Step.tmod 64) + 64)).tmod 64)).bind fun r_98 => (some (r_98 == (!done_5)))) else (some false)))
def tontinelaw18_LedgerDead.j1 (n : Nat) (k_1 : T_api_Key) (done_5 : Bool) (f_45 : Int) (f_46 : Int) (f_47 : (List T_ledger_Effect)) (f_50 : (List (T_api_Key × Bool))) (f_53 : (List (T_api_Key × Bool))) : Option Bool :=
  (if done_5 then (tontinelaw18_LedgerDead.j2 n k_1 done_5 f_45 f_46 f_47 f_50 f_53 2) else (tontinelaw18_LedgerDead.j2 n k_1 done_5 f_45 f_46 f_47 f_50 f_53 0))
def tontinelaw18_LedgerDead.j3 (n : Nat) (L0 : Int → Int → (List T_ledger_Effect) → (List (T_api_Key × Bool)) → (List (T_api_Key × Bool)) → Int → Option Bool) (x_56 : Int) (r_70 : Bool × Int × T_ledger_Ledger) (b_85 : Bool) : Option Bool :=
  (if b_85 then (some false) else (L0 r_70.2.2.fence.Term r_70.2.2.fence.Index r_70.2.2.effects r_70.2.2.said r_70.2.2.tombs (wi64 (x_56 + 1))))
def tontinelaw18_LedgerDead.j4 (n : Nat) (L0 : Int → Int → (List T_ledger_Effect) → (List (T_api_Key × Bool)) → (List (T_api_Key × Bool)) → Int → Option Bool) (x_56 : Int) (r_70 : Bool × Int × T_ledger_Ledger) (b_89 : Bool) : Option Bool :=
  (if b_89 then (some false) else (L0 r_70.2.2.fence.Term r_70.2.2.fence.Index r_70.2.2.effects r_70.2.2.said r_70.2.2.tombs (wi64 (x_56 + 1))))
def tontinelaw18_LedgerDead.l0 (n : Nat) (k_1 : T_api_Key) (tokens_2 : (List T_api_Token)) (done_5 : Bool) : Nat → Int → Int → (List T_ledger_Effect) → (List (T_api_Key × Bool)) → (List (T_api_Key × Bool)) → Int → Option Bool
  | 0, _, _, _, _, _, _ => none
  | k + 1, f_45, f_46, f_47, f_50, f_53, x_56 => (if decide (x_56 < (tokens_2.length : Int)) then (if (0 : Int) ≤ x_56 ∧ x_56 < (tokens_2.length : Int) then (if (x_56 == 200) then (tontinelaw18_LedgerDead.j1 n k_1 done_5 f_45 f_46 f_47 f_50 f_53) else ((ledger_Ledger_Fence.f n (⟨(⟨f_45, f_46⟩ : T_api_Token), f_47, f_50, f_53⟩ : T_ledger_Ledger)).bind fun r_61 => ((ledger_Ledger_Ask.f n (⟨(⟨f_45, f_46⟩ : T_api_Token), f_47, f_50, f_53⟩ : T_ledger_Ledger) (rdL tokens_2 x_56) (⟨k_1.Saga, (wi64 ((k_1.Step.tmod 64) + 64)).tmod 64, false⟩ : T_api_Key) [110] false).bind fun r_63 => ((ledger_Ledger_Ask.f n (⟨(⟨r_63.2.2.fence.Term, r_63.2.2.fence.Index⟩ : T_api_Token), r_63.2.2.effects, r_63.2.2.said, r_63.2.2.tombs⟩ : T_ledger_Ledger) (rdL tokens_2 x_56) (⟨k_1.Saga, (wi64 ((k_1.Step.tmod 64) + 64)).tmod 64, true⟩ : T_api_Key) [110] ((x_56.tmod 2) == 0)).bind fun r_70 => ((ledger_Less.f n (rdL tokens_2 x_56) r_61).bind fun r_77 => (if r_77 then (if (r_63.2.1 != 50) then (some false) else (if (r_70.2.1 != 50) then (some false) else ((tontinelaw18_LedgerDead.l0 n k_1 tokens_2 done_5 k) r_70.2.2.fence.Term r_70.2.2.fence.Index r_70.2.2.effects r_70.2.2.said r_70.2.2.tombs (wi64 (x_56 + 1))))) else (if done_5 then (if (!r_63.1) then (tontinelaw18_LedgerDead.j3 n (tontinelaw18_LedgerDead.l0 n k_1 tokens_2 done_5 k) x_56 r_70 true) else (if (r_63.2.1 != 0) then (tontinelaw18_LedgerDead.j3 n (tontinelaw18_LedgerDead.l0 n k_1 tokens_2 done_5 k) x_56 r_70 true) else (if (!r_70.1) then (tontinelaw18_LedgerDead.j3 n (tontinelaw18_LedgerDead.l0 n k_1 tokens_2 done_5 k) x_56 r_70 true) else (tontinelaw18_LedgerDead.j3 n (tontinelaw18_LedgerDead.l0 n k_1 tokens_2 done_5 k) x_56 r_70 (r_70.2.1 != 0))))) else (if (r_63.2.1 != 51) then (tontinelaw18_LedgerDead.j4 n (tontinelaw18_LedgerDead.l0 n k_1 tokens_2 done_5 k) x_56 r_70 true) else (if (!r_70.1) then (tontinelaw18_LedgerDead.j4 n (tontinelaw18_LedgerDead.l0 n k_1 tokens_2 done_5 k) x_56 r_70 true) else (tontinelaw18_LedgerDead.j4 n (tontinelaw18_LedgerDead.l0 n k_1 tokens_2 done_5 k) x_56 r_70 (r_70.2.1 != 0))))))))))) else none) else (tontinelaw18_LedgerDead.j1 n k_1 done_5 f_45 f_46 f_47 f_50 f_53))
def tontinelaw18_LedgerDead.j0 (n : Nat) (k_1 : T_api_Key) (tokens_2 : (List T_api_Token)) (done_5 : Bool) (f_27 : Int) (f_28 : Int) (f_29 : (List T_ledger_Effect)) (f_32 : (List (T_api_Key × Bool))) (f_35 : (List (T_api_Key × Bool))) : Option Bool :=
  ((ledger_Ledger_Ask.f n (⟨(⟨f_27, f_28⟩ : T_api_Token), f_29, f_32, f_35⟩ : T_ledger_Ledger) (⟨0, 0⟩ : T_api_Token) (⟨k_1.Saga, (wi64 ((k_1.Step.tmod 64) + 64)).tmod 64, true⟩ : T_api_Key) [110] false).bind fun r_38 => (tontinelaw18_LedgerDead.l0 n k_1 tokens_2 done_5 n r_38.2.2.fence.Term r_38.2.2.fence.Index r_38.2.2.effects r_38.2.2.said r_38.2.2.tombs 0))
def tontinelaw18_LedgerDead.f (n : Nat) (k_1 : T_api_Key) (tokens_2 : (List T_api_Token)) (done_5 : Bool) : Option Bool :=
  ((tontinelaw18_begun.f n).bind fun r_7 => (if (!r_7) then (some false) else ((ledger_New.f n).bind fun r_9 => (if done_5 then ((ledger_Ledger_Ask.f n (⟨(⟨r_9.fence.Term, r_9.fence.Index⟩ : T_api_Token), r_9.effects, r_9.said, r_9.tombs⟩ : T_ledger_Ledger) (⟨0, 0⟩ : T_api_Token) (⟨k_1.Saga, (wi64 ((k_1.Step.tmod 64) + 64)).tmod 64, false⟩ : T_api_Key) [110] false).bind fun r_20 => (tontinelaw18_LedgerDead.j0 n k_1 tokens_2 done_5 r_20.2.2.fence.Term r_20.2.2.fence.Index r_20.2.2.effects r_20.2.2.said r_20.2.2.tombs)) else (tontinelaw18_LedgerDead.j0 n k_1 tokens_2 done_5 r_9.fence.Term r_9.fence.Index r_9.effects r_9.said r_9.tombs)))))

def tontinelaw18_LedgerOnce.j5 (n : Nat) (L1 : (List (T_api_Key × Bool)) → Option Bool) (at_60 : (List (T_api_Key × Int))) (kv_70 : (T_api_Key × Bool)) (rem_71 : (List (T_api_Key × Bool))) (b_99 : Bool) : Option Bool :=
  (if b_99 then (if decide (((getA kv_70.1 at_60).getD 0) ≤ ((getA (⟨kv_70.1.Saga, kv_70.1.Step, false⟩ : T_api_Key) at_60).getD 0)) then (some false) else (L1 rem_71)) else (L1 rem_71))
def tontinelaw18_LedgerOnce.j4 (n : Nat) (L1 : (List (T_api_Key × Bool)) → Option Bool) (at_60 : (List (T_api_Key × Int))) (kv_70 : (T_api_Key × Bool)) (rem_71 : (List (T_api_Key × Bool))) (b_96 : Bool) : Option Bool :=
  (if b_96 then (some false) else (if kv_70.1.Back then (tontinelaw18_LedgerOnce.j5 n L1 at_60 kv_70 rem_71 (decide (((getA kv_70.1 at_60).getD 0) > 0))) else (tontinelaw18_LedgerOnce.j5 n L1 at_60 kv_70 rem_71 false)))
def tontinelaw18_LedgerOnce.j8 (n : Nat) (L1 : (List (T_api_Key × Bool)) → Option Bool) (at_60 : (List (T_api_Key × Int))) (kv_70 : (T_api_Key × Bool)) (rem_71 : (List (T_api_Key × Bool))) (b_95 : Bool) : Option Bool :=
  (tontinelaw18_LedgerOnce.j4 n L1 at_60 kv_70 rem_71 b_95)
def tontinelaw18_LedgerOnce.j7 (n : Nat) (L1 : (List (T_api_Key × Bool)) → Option Bool) (at_60 : (List (T_api_Key × Int))) (kv_70 : (T_api_Key × Bool)) (rem_71 : (List (T_api_Key × Bool))) (r_74 : Bool) (b_93 : Bool) : Option Bool :=
  (if b_93 then (tontinelaw18_LedgerOnce.j8 n L1 at_60 kv_70 rem_71 (!r_74)) else (tontinelaw18_LedgerOnce.j8 n L1 at_60 kv_70 rem_71 false))
def tontinelaw18_LedgerOnce.j6 (n : Nat) (L1 : (List (T_api_Key × Bool)) → Option Bool) (at_60 : (List (T_api_Key × Int))) (kv_70 : (T_api_Key × Bool)) (rem_71 : (List (T_api_Key × Bool))) (r_74 : Bool) (b_91 : Bool) : Option Bool :=
  (if b_91 then (tontinelaw18_LedgerOnce.j7 n L1 at_60 kv_70 rem_71 r_74 (!(decide (((getA (⟨kv_70.1.Saga, kv_70.1.Step, false⟩ : T_api_Key) at_60).getD 0) > 0)))) else (tontinelaw18_LedgerOnce.j7 n L1 at_60 kv_70 rem_71 r_74 false))
def tontinelaw18_LedgerOnce.j3 (n : Nat) (L1 : (List (T_api_Key × Bool)) → Option Bool) (at_60 : (List (T_api_Key × Int))) (kv_70 : (T_api_Key × Bool)) (rem_71 : (List (T_api_Key × Bool))) (r_74 : Bool) (b_88 : Bool) : Option Bool :=
  (if b_88 then (tontinelaw18_LedgerOnce.j4 n L1 at_60 kv_70 rem_71 true) else (if kv_70.1.Back then (tontinelaw18_LedgerOnce.j6 n L1 at_60 kv_70 rem_71 r_74 kv_70.2) else (tontinelaw18_LedgerOnce.j6 n L1 at_60 kv_70 rem_71 r_74 false)))
def tontinelaw18_LedgerOnce.j2 (n : Nat) (L1 : (List (T_api_Key × Bool)) → Option Bool) (at_60 : (List (T_api_Key × Int))) (kv_70 : (T_api_Key × Bool)) (rem_71 : (List (T_api_Key × Bool))) (r_74 : Bool) (b_86 : Bool) : Option Bool :=
  (if b_86 then (tontinelaw18_LedgerOnce.j3 n L1 at_60 kv_70 rem_71 r_74 (!((decide (((getA kv_70.1 at_60).getD 0) > 0)) == (decide (((getA (⟨kv_70.1.Saga, kv_70.1.Step, false⟩ : T_api_Key) at_60).getD 0) > 0))))) else (tontinelaw18_LedgerOnce.j3 n L1 at_60 kv_70 rem_71 r_74 false))
def tontinelaw18_LedgerOnce.j1 (n : Nat) (L1 : (List (T_api_Key × Bool)) → Option Bool) (at_60 : (List (T_api_Key × Int))) (kv_70 : (T_api_Key × Bool)) (rem_71 : (List (T_api_Key × Bool))) (r_74 : Bool) (b_83 : Bool) : Option Bool :=
  (if b_83 then (some false) else (if kv_70.1.Back then (tontinelaw18_LedgerOnce.j2 n L1 at_60 kv_70 rem_71 r_74 kv_70.2) else (tontinelaw18_LedgerOnce.j2 n L1 at_60 kv_70 rem_71 r_74 false)))
def tontinelaw18_LedgerOnce.j10 (n : Nat) (L1 : (List (T_api_Key × Bool)) → Option Bool) (at_60 : (List (T_api_Key × Int))) (kv_70 : (T_api_Key × Bool)) (rem_71 : (List (T_api_Key × Bool))) (r_74 : Bool) (b_80 : Bool) : Option Bool :=
  (if b_80 then (tontinelaw18_LedgerOnce.j1 n L1 at_60 kv_70 rem_71 r_74 true) else (if (!kv_70.1.Back) then (tontinelaw18_LedgerOnce.j1 n L1 at_60 kv_70 rem_71 r_74 (!(kv_70.2 == (decide (((getA (⟨kv_70.1.Saga, kv_70.1.Step, false⟩ : T_api_Key) at_60).getD 0) > 0))))) else (tontinelaw18_LedgerOnce.j1 n L1 at_60 kv_70 rem_71 r_74 false)))
def tontinelaw18_LedgerOnce.j11 (n : Nat) (L1 : (List (T_api_Key × Bool)) → Option Bool) (at_60 : (List (T_api_Key × Int))) (kv_70 : (T_api_Key × Bool)) (rem_71 : (List (T_api_Key × Bool))) (r_74 : Bool) (b_79 : Bool) : Option Bool :=
  (tontinelaw18_LedgerOnce.j10 n L1 at_60 kv_70 rem_71 r_74 b_79)
def tontinelaw18_LedgerOnce.j9 (n : Nat) (L1 : (List (T_api_Key × Bool)) → Option Bool) (at_60 : (List (T_api_Key × Int))) (kv_70 : (T_api_Key × Bool)) (rem_71 : (List (T_api_Key × Bool))) (r_74 : Bool) (b_76 : Bool) : Option Bool :=
  (if b_76 then (tontinelaw18_LedgerOnce.j10 n L1 at_60 kv_70 rem_71 r_74 true) else (if decide (((getA kv_70.1 at_60).getD 0) > 0) then (tontinelaw18_LedgerOnce.j11 n L1 at_60 kv_70 rem_71 r_74 (!kv_70.2)) else (tontinelaw18_LedgerOnce.j11 n L1 at_60 kv_70 rem_71 r_74 false)))
def tontinelaw18_LedgerOnce.l1 (n : Nat) (f_16 : Int) (f_17 : Int) (f_18 : (List T_ledger_Effect)) (f_21 : (List (T_api_Key × Bool))) (f_24 : (List (T_api_Key × Bool))) (at_60 : (List (T_api_Key × Int))) : Nat → (List (T_api_Key × Bool)) → Option Bool
  | 0, _ => none
  | k + 1, rem_69 => (nextO rem_69 (some true) (fun kv_70 => fun rem_71 => ((ledger_Ledger_Dead.f n (⟨(⟨f_16, f_17⟩ : T_api_Token), f_18, f_21, f_24⟩ : T_ledger_Ledger) kv_70.1.Saga kv_70.1.Step).bind fun r_74 => (if decide (((getA (⟨kv_70.1.Saga, kv_70.1.Step, false⟩ : T_api_Key) at_60).getD 0) > 0) then (tontinelaw18_LedgerOnce.j9 n (tontinelaw18_LedgerOnce.l1 n f_16 f_17 f_18 f_21 f_24 at_60 k) at_60 kv_70 rem_71 r_74 r_74) else (tontinelaw18_LedgerOnce.j9 n (tontinelaw18_LedgerOnce.l1 n f_16 f_17 f_18 f_21 f_24 at_60 k) at_60 kv_70 rem_71 r_74 false)))))
def tontinelaw18_LedgerOnce.l0 (n : Nat) (f_16 : Int) (f_17 : Int) (f_18 : (List T_ledger_Effect)) (f_21 : (List (T_api_Key × Bool))) (f_24 : (List (T_api_Key × Bool))) (good_27 : (List (T_api_Key × Bool))) (r_57 : (List T_ledger_Effect)) : Nat → (List (T_api_Key × Int)) → Int → Option Bool
  | 0, _, _ => none
  | k + 1, at_60, x_63 => (if decide (x_63 < (r_57.length : Int)) then (if (0 : Int) ≤ x_63 ∧ x_63 < (r_57.length : Int) then (if decide (((getA (⟨(rdL r_57 x_63).Key.Saga, (rdL r_57 x_63).Key.Step, (rdL r_57 x_63).Key.Back⟩ : T_api_Key) at_60).getD 0) > 0) then (some false) else ((tontinelaw18_LedgerOnce.l0 n f_16 f_17 f_18 f_21 f_24 good_27 r_57 k) (putA (⟨(rdL r_57 x_63).Key.Saga, (rdL r_57 x_63).Key.Step, (rdL r_57 x_63).Key.Back⟩ : T_api_Key) (wi64 (x_63 + 1)) at_60) (wi64 (x_63 + 1)))) else none) else (tontinelaw18_LedgerOnce.l1 n f_16 f_17 f_18 f_21 f_24 at_60 n good_27))
def tontinelaw18_LedgerOnce.j0 (n : Nat) (f_16 : Int) (f_17 : Int) (f_18 : (List T_ledger_Effect)) (f_21 : (List (T_api_Key × Bool))) (f_24 : (List (T_api_Key × Bool))) (good_27 : (List (T_api_Key × Bool))) : Option Bool :=
  ((ledger_Ledger_Effects.f n (⟨(⟨f_16, f_17⟩ : T_api_Token), f_18, f_21, f_24⟩ : T_ledger_Ledger)).bind fun r_57 => (tontinelaw18_LedgerOnce.l0 n f_16 f_17 f_18 f_21 f_24 good_27 r_57 n ([] : List (T_api_Key × Int)) 0))
def tontinelaw18_LedgerOnce.j13 (n : Nat) (L2 : Int → Int → (List T_ledger_Effect) → (List (T_api_Key × Bool)) → (List (T_api_Key × Bool)) → (List (T_api_Key × Bool)) → Int → Option Bool) (calls_1 : (List T_tontinelaw18_Call)) (good_27 : (List (T_api_Key × Bool))) (x_30 : Int) (r_35 : Bool × Int × T_ledger_Ledger) (b_47 : Bool) : Option Bool :=
  (if b_47 then (L2 r_35.2.2.fence.Term r_35.2.2.fence.Index r_35.2.2.effects r_35.2.2.said r_35.2.2.tombs (putA (⟨(rdL calls_1 x_30).Key.Saga, (rdL calls_1 x_30).Key.Step, (rdL calls_1 x_30).Key.Back⟩ : T_api_Key) r_35.1 good_27) (wi64 (x_30 + 1))) else (L2 r_35.2.2.fence.Term r_35.2.2.fence.Index r_35.2.2.effects r_35.2.2.said r_35.2.2.tombs good_27 (wi64 (x_30 + 1))))
def tontinelaw18_LedgerOnce.j12 (n : Nat) (L2 : Int → Int → (List T_ledger_Effect) → (List (T_api_Key × Bool)) → (List (T_api_Key × Bool)) → (List (T_api_Key × Bool)) → Int → Option Bool) (calls_1 : (List T_tontinelaw18_Call)) (good_27 : (List (T_api_Key × Bool))) (x_30 : Int) (r_35 : Bool × Int × T_ledger_Ledger) (b_44 : Bool) : Option Bool :=
  (if b_44 then (some false) else (if r_35.1 then (tontinelaw18_LedgerOnce.j13 n L2 calls_1 good_27 x_30 r_35 true) else (tontinelaw18_LedgerOnce.j13 n L2 calls_1 good_27 x_30 r_35 (!((rdL calls_1 x_30).Key.Back)))))
def tontinelaw18_LedgerOnce.l2 (n : Nat) (calls_1 : (List T_tontinelaw18_Call)) : Nat → Int → Int → (List T_ledger_Effect) → (List (T_api_Key × Bool)) → (List (T_api_Key × Bool)) → (List (T_api_Key × Bool)) → Int → Option Bool
  | 0, _, _, _, _, _, _, _ => none
  | k + 1, f_16, f_17, f_18, f_21, f_24, good_27, x_30 => (if decide (x_30 < (calls_1.length : Int)) then (if (0 : Int) ≤ x_30 ∧ x_30 < (calls_1.length : Int) then (if (x_30 == 500) then (tontinelaw18_LedgerOnce.j0 n f_16 f_17 f_18 f_21 f_24 good_27) else ((ledger_Ledger_Ask.f n (⟨(⟨f_16, f_17⟩ : T_api_Token), f_18, f_21, f_24⟩ : T_ledger_Ledger) (⟨(rdL calls_1 x_30).Token.Term, (rdL calls_1 x_30).Token.Index⟩ : T_api_Token) (⟨(rdL calls_1 x_30).Key.Saga, (rdL calls_1 x_30).Key.Step, (rdL calls_1 x_30).Key.Back⟩ : T_api_Key) ((rdL calls_1 x_30).Name) ((rdL calls_1 x_30).Fail)).bind fun r_35 => (if (r_35.2.1 != 0) then ((tontinelaw18_LedgerOnce.l2 n calls_1 k) r_35.2.2.fence.Term r_35.2.2.fence.Index r_35.2.2.effects r_35.2.2.said r_35.2.2.tombs good_27 (wi64 (x_30 + 1))) else (if (getA (⟨(rdL calls_1 x_30).Key.Saga, (rdL calls_1 x_30).Key.Step, (rdL calls_1 x_30).Key.Back⟩ : T_api_Key) good_27).isSome then (tontinelaw18_LedgerOnce.j12 n (tontinelaw18_LedgerOnce.l2 n calls_1 k) calls_1 good_27 x_30 r_35 (!(((getA (⟨(rdL calls_1 x_30).Key.Saga, (rdL calls_1 x_30).Key.Step, (rdL calls_1 x_30).Key.Back⟩ : T_api_Key) good_27).getD false) == r_35.1))) else (tontinelaw18_LedgerOnce.j12 n (tontinelaw18_LedgerOnce.l2 n calls_1 k) calls_1 good_27 x_30 r_35 false))))) else none) else (tontinelaw18_LedgerOnce.j0 n f_16 f_17 f_18 f_21 f_24 good_27))
def tontinelaw18_LedgerOnce.f (n : Nat) (calls_1 : (List T_tontinelaw18_Call)) : Option Bool :=
  ((tontinelaw18_begun.f n).bind fun r_4 => (if (!r_4) then (some false) else ((ledger_New.f n).bind fun r_6 => (tontinelaw18_LedgerOnce.l2 n calls_1 n r_6.fence.Term r_6.fence.Index r_6.effects r_6.said r_6.tombs ([] : List (T_api_Key × Bool)) 0))))
end
end Go.GL
