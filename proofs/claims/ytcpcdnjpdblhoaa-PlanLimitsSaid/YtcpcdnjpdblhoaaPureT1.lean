import Derived.Test.YtcpcdnjpdblhoaaG13
set_option linter.unusedVariables false
namespace Go.GL
open Go

structure T_api_Step where
  Part : Int
  Name : (List UInt8)
  Budget : Int
  deriving DecidableEq
instance : Inhabited T_api_Step := ⟨⟨0, [], 0⟩⟩
structure T_pack_Writer where
  b : (List UInt8)
  deriving DecidableEq
instance : Inhabited T_pack_Writer := ⟨⟨[]⟩⟩
structure T_pack_Reader where
  s : (List UInt8)
  bad : Bool
  deriving DecidableEq
instance : Inhabited T_pack_Reader := ⟨⟨[], false⟩⟩
structure T_tontinelaw03_Thing where
  Kind : Int
  Num : Int
  Text : (List UInt8)
  deriving DecidableEq
instance : Inhabited T_tontinelaw03_Thing := ⟨⟨0, 0, []⟩⟩
structure T_tontineref03_Reader where
  S_ : (List UInt8)
  Bad : Bool
  deriving DecidableEq
instance : Inhabited T_tontineref03_Reader := ⟨⟨[], false⟩⟩

def pack_Writer_Num.l1 (n : Nat) (x_5 : Int) : Nat → (List UInt8) → Int → Option T_pack_Writer
  | 0, _, _ => none
  | k + 1, f_14, i_17 => (if decide (i_17 ≥ 0) then (if (0 : Int) ≤ (wi64 (8 * i_17)) then (if capOk 1 (f_14 ++ [u8of (shR .u64 x_5 (wi64 (8 * i_17)))]).length then ((pack_Writer_Num.l1 n x_5 k) (f_14 ++ [u8of (shR .u64 x_5 (wi64 (8 * i_17)))]) (wi64 (i_17 - 1))) else none) else none) else (some (⟨f_14⟩ : T_pack_Writer)))
def pack_Writer_Num.l0 (n : Nat) (w_1 : T_pack_Writer) (x_5 : Int) : Nat → Int → Int → Option T_pack_Writer
  | 0, _, _ => none
  | k + 1, n_6, y_7 => (if decide (y_7 > 0) then ((pack_Writer_Num.l0 n w_1 x_5 k) (wi64 (n_6 + 1)) (shR .u64 y_7 8)) else (if capOk 1 (w_1.b ++ [u8of n_6]).length then (pack_Writer_Num.l1 n x_5 n (w_1.b ++ [u8of n_6]) (wi64 (n_6 - 1))) else none))
def pack_Writer_Num.f (n : Nat) (w_1 : T_pack_Writer) (x_5 : Int) : Option T_pack_Writer :=
  (pack_Writer_Num.l0 n w_1 x_5 n 0 x_5)

def pack_Writer_Text.f (n : Nat) (w_1 : T_pack_Writer) (s_5 : (List UInt8)) : Option T_pack_Writer :=
  ((pack_Writer_Num.f n w_1 (wu64 (s_5.length : Int))).bind fun r_6 => (if capOk 1 (r_6.b ++ s_5).length then (some (⟨r_6.b ++ s_5⟩ : T_pack_Writer)) else none))

def plan_Write.l0 (n : Nat) (l_5 : (List T_api_Step)) : Nat → (List UInt8) → Int → Option T_pack_Writer
  | 0, _, _ => none
  | k + 1, f_11, x_14 => (if decide (x_14 < (l_5.length : Int)) then (if (0 : Int) ≤ x_14 ∧ x_14 < (l_5.length : Int) then ((pack_Writer_Num.f n (⟨f_11⟩ : T_pack_Writer) (wu64 ((rdL l_5 x_14).Part))).bind fun r_18 => ((pack_Writer_Text.f n r_18 ((rdL l_5 x_14).Name)).bind fun r_21 => ((pack_Writer_Num.f n r_21 (wu64 ((rdL l_5 x_14).Budget))).bind fun r_24 => ((plan_Write.l0 n l_5 k) r_24.b (wi64 (x_14 + 1)))))) else none) else (some (⟨f_11⟩ : T_pack_Writer)))
def plan_Write.f (n : Nat) (w_1 : T_pack_Writer) (l_5 : (List T_api_Step)) : Option T_pack_Writer :=
  ((pack_Writer_Num.f n w_1 (wu64 (l_5.length : Int))).bind fun r_8 => (plan_Write.l0 n l_5 n r_8.b 0))

def plan_Check.j1 (n : Nat) (L0 : Int → Option Int) (x_7 : Int) (b_16 : Bool) : Option Int :=
  (if b_16 then (some 44) else (L0 (wi64 (x_7 + 1))))
def plan_Check.l0 (n : Nat) (l_1 : (List T_api_Step)) : Nat → Int → Option Int
  | 0, _ => none
  | k + 1, x_7 => (if decide (x_7 < (l_1.length : Int)) then (if (0 : Int) ≤ x_7 ∧ x_7 < (l_1.length : Int) then (if decide (((rdL l_1 x_7).Part) < 0) then (plan_Check.j1 n (plan_Check.l0 n l_1 k) x_7 true) else (if decide (((rdL l_1 x_7).Part) ≥ 4) then (plan_Check.j1 n (plan_Check.l0 n l_1 k) x_7 true) else (if (((rdL l_1 x_7).Name) == ([] : List UInt8)) then (plan_Check.j1 n (plan_Check.l0 n l_1 k) x_7 true) else (if decide ((((rdL l_1 x_7).Name).length : Int) > 16) then (plan_Check.j1 n (plan_Check.l0 n l_1 k) x_7 true) else (if decide (((rdL l_1 x_7).Budget) < 1) then (plan_Check.j1 n (plan_Check.l0 n l_1 k) x_7 true) else (plan_Check.j1 n (plan_Check.l0 n l_1 k) x_7 (decide (((rdL l_1 x_7).Budget) > 9)))))))) else none) else (some 0))
def plan_Check.j0 (n : Nat) (l_1 : (List T_api_Step)) (b_5 : Bool) : Option Int :=
  (if b_5 then (some 44) else (plan_Check.l0 n l_1 n 0))
def plan_Check.f (n : Nat) (l_1 : (List T_api_Step)) : Option Int :=
  (if decide ((l_1.length : Int) < 1) then (plan_Check.j0 n l_1 true) else (plan_Check.j0 n l_1 (decide ((l_1.length : Int) > 64))))

def pack_Writer_Bytes.f (n : Nat) (w_1 : T_pack_Writer) : Option (List UInt8) :=
  (some w_1.b)

def tontinelaw13_begun.f (n : Nat) : Option Bool :=
  ((plan_Write.f n (⟨[]⟩ : T_pack_Writer) [(⟨2, [112, 97, 121], 3⟩ : T_api_Step)]).bind fun r_4 => ((plan_Check.f n [(⟨2, [112, 97, 121], 3⟩ : T_api_Step)]).bind fun r_7 => (if (r_7 == 0) then ((pack_Writer_Bytes.f n r_4).bind fun r_9 => (if (r_9 == ([1, 1, 1, 2, 1, 3, 112, 97, 121, 1, 3] : List UInt8)) then ((plan_Check.f n ([] : List T_api_Step)).bind fun r_11 => (some (r_11 == 44))) else (some false))) else (some false))))

def tontineref13_Check.j2 (n : Nat) (L0 : Bool → Int → Option Int) (i_7 : Int) (bad_18 : Bool) : Option Int :=
  (L0 bad_18 (wi64 (i_7 + 1)))
def tontineref13_Check.j1 (n : Nat) (L0 : Bool → Int → Option Int) (l_1 : (List T_api_Step)) (bad_6 : Bool) (i_7 : Int) (b_9 : Bool) : Option Int :=
  (if b_9 then (if (0 : Int) ≤ i_7 ∧ i_7 < (l_1.length : Int) then (if decide (((rdL l_1 i_7).Part) < 0) then (tontineref13_Check.j2 n L0 i_7 true) else (if decide (((rdL l_1 i_7).Part) > 3) then (tontineref13_Check.j2 n L0 i_7 true) else (if decide ((((rdL l_1 i_7).Name).length : Int) < 1) then (tontineref13_Check.j2 n L0 i_7 true) else (if decide ((((rdL l_1 i_7).Name).length : Int) > 16) then (tontineref13_Check.j2 n L0 i_7 true) else (if decide (((rdL l_1 i_7).Budget) < 1) then (tontineref13_Check.j2 n L0 i_7 true) else (tontineref13_Check.j2 n L0 i_7 (decide (((rdL l_1 i_7).Budget) > 9)))))))) else none) else (if bad_6 then (some 44) else (some 0)))
def tontineref13_Check.l0 (n : Nat) (l_1 : (List T_api_Step)) : Nat → Bool → Int → Option Int
  | 0, _, _ => none
  | k + 1, bad_6, i_7 => (if decide (i_7 < (l_1.length : Int)) then (tontineref13_Check.j1 n (tontineref13_Check.l0 n l_1 k) l_1 bad_6 i_7 (!bad_6)) else (tontineref13_Check.j1 n (tontineref13_Check.l0 n l_1 k) l_1 bad_6 i_7 false))
def tontineref13_Check.j0 (n : Nat) (l_1 : (List T_api_Step)) (bad_5 : Bool) : Option Int :=
  (tontineref13_Check.l0 n l_1 n bad_5 0)
def tontineref13_Check.f (n : Nat) (l_1 : (List T_api_Step)) : Option Int :=
  (if ((l_1.length : Int) == 0) then (tontineref13_Check.j0 n l_1 true) else (tontineref13_Check.j0 n l_1 (decide ((l_1.length : Int) > 64))))

def tontinelaw13_PlanChecks.f (n : Nat) (l_1 : (List T_api_Step)) : Option Bool :=
  ((tontinelaw13_begun.f n).bind fun r_4 => (if (!r_4) then (some false) else ((plan_Check.f n l_1).bind fun r_6 => ((tontineref13_Check.f n l_1).bind fun r_7 => (some (r_6 == r_7))))))

def tontineref03_Num.l0 (n : Nat) : Nat → Int → (List UInt8) → Int → Option (List UInt8)
  | 0, _, _, _ => none
  | k + 1, x_2, s_3, n_4 => (if decide (x_2 > 0) then (if ([u8of (x_2.tmod 256)] : List UInt8).length + s_3.length ≤ i64max then ((tontineref03_Num.l0 n k) (wu64 (x_2.tdiv 256)) ([u8of (x_2.tmod 256)] ++ s_3) (wi64 (n_4 + 1))) else none) else (if ([u8of n_4] : List UInt8).length + s_3.length ≤ i64max then (some ([u8of n_4] ++ s_3)) else none))
def tontineref03_Num.f (n : Nat) (x_1 : Int) : Option (List UInt8) :=
  (tontineref03_Num.l0 n n x_1 [] 0)

def tontineref03_Text.f (n : Nat) (s_1 : (List UInt8)) : Option (List UInt8) :=
  ((tontineref03_Num.f n (wu64 (s_1.length : Int))).bind fun r_2 => (if r_2.length + s_1.length ≤ i64max then (some (r_2 ++ s_1)) else none))

def tontineref13_Bytes.l0 (n : Nat) (l_1 : (List T_api_Step)) : Nat → (List UInt8) → Int → Option (List UInt8)
  | 0, _, _ => none
  | k + 1, s_5, i_6 => (if decide (i_6 < (l_1.length : Int)) then (if (0 : Int) ≤ i_6 ∧ i_6 < (l_1.length : Int) then (if (0 : Int) ≤ i_6 ∧ i_6 < (l_1.length : Int) then (if (0 : Int) ≤ i_6 ∧ i_6 < (l_1.length : Int) then ((tontineref03_Num.f n (wu64 ((rdL l_1 i_6).Part))).bind fun r_11 => ((tontineref03_Text.f n ((rdL l_1 i_6).Name)).bind fun r_12 => (if r_11.length + r_12.length ≤ i64max then ((tontineref03_Num.f n (wu64 ((rdL l_1 i_6).Budget))).bind fun r_14 => (if (r_11 ++ r_12).length + r_14.length ≤ i64max then (if s_5.length + ((r_11 ++ r_12) ++ r_14).length ≤ i64max then ((tontineref13_Bytes.l0 n l_1 k) (s_5 ++ ((r_11 ++ r_12) ++ r_14)) (wi64 (i_6 + 1))) else none) else none)) else none))) else none) else none) else none) else (some s_5))
def tontineref13_Bytes.f (n : Nat) (l_1 : (List T_api_Step)) : Option (List UInt8) :=
  ((tontineref03_Num.f n (wu64 (l_1.length : Int))).bind fun r_4 => (tontineref13_Bytes.l0 n l_1 n r_4 0))

def tontinelaw13_PlanWrites.f (n : Nat) (l_1 : (List T_api_Step)) (ahead_4 : Int) : Option Bool :=
  ((tontinelaw13_begun.f n).bind fun r_5 => (if (!r_5) then (some false) else (if decide ((l_1.length : Int) > 500) then (some true) else ((pack_Writer_Num.f n (⟨[]⟩ : T_pack_Writer) ahead_4).bind fun r_9 => ((plan_Write.f n r_9 l_1).bind fun r_12 => ((pack_Writer_Bytes.f n r_12).bind fun r_15 => ((tontineref03_Num.f n ahead_4).bind fun r_16 => ((tontineref13_Bytes.f n l_1).bind fun r_17 => (if r_16.length + r_17.length ≤ i64max then (some (r_15 == (r_16 ++ r_17))) else none)))))))))

def tontinelaw13_PlanLimits.j1 (n : Nat) (l_28 : (List T_api_Step)) (ok_38 : Bool) : Option Bool :=
  ((plan_Check.f n l_28).bind fun r_39 => (some ((r_39 == 0) == ok_38)))
def tontinelaw13_PlanLimits.j0 (n : Nat) (z_1 : (List Int)) (l_28 : (List T_api_Step)) : Option Bool :=
  (if decide (((wi64 (((rdL z_1 (3 : Int)).tmod 70) + 70)).tmod 70) ≥ 1) then (if decide (((wi64 (((rdL z_1 (3 : Int)).tmod 70) + 70)).tmod 70) ≤ 64) then (if decide (((rdL z_1 (0 : Int)).tmod 8) ≥ 0) then (if decide (((rdL z_1 (0 : Int)).tmod 8) < 4) then (if decide (((wi64 (((rdL z_1 (1 : Int)).tmod 30) + 30)).tmod 30) ≥ 1) then (if decide (((wi64 (((rdL z_1 (1 : Int)).tmod 30) + 30)).tmod 30) ≤ 16) then (if decide (((rdL z_1 (2 : Int)).tmod 14) ≥ 1) then (tontinelaw13_PlanLimits.j1 n l_28 (decide (((rdL z_1 (2 : Int)).tmod 14) ≤ 9))) else (tontinelaw13_PlanLimits.j1 n l_28 false)) else (tontinelaw13_PlanLimits.j1 n l_28 false)) else (tontinelaw13_PlanLimits.j1 n l_28 false)) else (tontinelaw13_PlanLimits.j1 n l_28 false)) else (tontinelaw13_PlanLimits.j1 n l_28 false)) else (tontinelaw13_PlanLimits.j1 n l_28 false)) else (tontinelaw13_PlanLimits.j1 n l_28 false))
def tontinelaw13_PlanLimits.l0 (n : Nat) (z_1 : (List Int)) : Nat → (List T_api_Step) → Int → Option Bool
  | 0, _, _ => none
  | k + 1, l_13, x_16 => (if decide (x_16 < ((wi64 (((rdL z_1 (3 : Int)).tmod 70) + 70)).tmod 70)) then (if capOk 32 (l_13 ++ [(⟨1, [115], 1⟩ : T_api_Step)]).length then ((tontinelaw13_PlanLimits.l0 n z_1 k) (l_13 ++ [(⟨1, [115], 1⟩ : T_api_Step)]) (wi64 (x_16 + 1))) else none) else (if decide (((wi64 (((rdL z_1 (3 : Int)).tmod 70) + 70)).tmod 70) > 0) then (if (0 : Int) ≤ ((wi64 (((rdL z_1 (1 : Int)).tmod 30) + 30)).tmod 30) ∧ ((wi64 (((rdL z_1 (1 : Int)).tmod 30) + 30)).tmod 30) ≤ ((wi64 (((rdL z_1 (1 : Int)).tmod 30) + 30)).tmod 30) ∧ 1 * ((wi64 (((rdL z_1 (1 : Int)).tmod 30) + 30)).tmod 30) ≤ 281474976710656 then (if (0 : Int) ≤ (wi64 (((wi64 (((rdL z_1 (3 : Int)).tmod 70) + 70)).tmod 70) - 1)) ∧ (wi64 (((wi64 (((rdL z_1 (3 : Int)).tmod 70) + 70)).tmod 70) - 1)) < (l_13.length : Int) then (tontinelaw13_PlanLimits.j0 n z_1 (l_13.set ((wi64 (((wi64 (((rdL z_1 (3 : Int)).tmod 70) + 70)).tmod 70) - 1)).toNat) (⟨(rdL z_1 (0 : Int)).tmod 8, List.replicate ((wi64 (((rdL z_1 (1 : Int)).tmod 30) + 30)).tmod 30).toNat (0 : UInt8), (rdL z_1 (2 : Int)).tmod 14⟩ : T_api_Step))) else none) else none) else (tontinelaw13_PlanLimits.j0 n z_1 l_13)))
def tontinelaw13_PlanLimits.f (n : Nat) (z_1 : (List Int)) : Option Bool :=
  (if (0 : Int) ≤ (0 : Int) ∧ (0 : Int) < (4 : Int) then (if z_1.length = 4 ∧ (0 : Int) ≤ (0 : Int) ∧ (0 : Int) < (z_1.length : Int) then (if (0 : Int) ≤ (1 : Int) ∧ (1 : Int) < (4 : Int) then (if z_1.length = 4 ∧ (0 : Int) ≤ (1 : Int) ∧ (1 : Int) < (z_1.length : Int) then (if (0 : Int) ≤ (2 : Int) ∧ (2 : Int) < (4 : Int) then (if z_1.length = 4 ∧ (0 : Int) ≤ (2 : Int) ∧ (2 : Int) < (z_1.length : Int) then (if (0 : Int) ≤ (3 : Int) ∧ (3 : Int) < (4 : Int) then (if z_1.length = 4 ∧ (0 : Int) ≤ (3 : Int) ∧ (3 : Int) < (z_1.length : Int) then ((tontinelaw13_begun.f n).bind fun r_11 => (if (!r_11) then (some false) else (tontinelaw13_PlanLimits.l0 n z_1 n ([] : List T_api_Step) 0))) else none) else none) else none) else none) else none) else none) else none) else none)

def pack_From.f (n : Nat) (s_1 : (List UInt8)) : Option T_pack_Reader :=
  (some (⟨s_1, false⟩ : T_pack_Reader))

def pack_Reader_fail.f (n : Nat) (r_1 : T_pack_Reader) : Option (Int × T_pack_Reader) :=
  (some (0, (⟨[], true⟩ : T_pack_Reader)))

def pack_Reader_Num.l0 (n : Nat) (r_1 : T_pack_Reader) : Nat → Int → Int → Option (Int × T_pack_Reader)
  | 0, _, _ => none
  | k + 1, x_15, i_16 => (if decide (i_16 ≤ (wi64 ((rdB r_1.s 0).toNat : Int))) then (if (0 : Int) ≤ i_16 ∧ i_16 < (r_1.s.length : Int) then ((pack_Reader_Num.l0 n r_1 k) (bOr .u64 (shL .u64 x_15 8) (wu64 ((rdB r_1.s i_16).toNat : Int))) (wi64 (i_16 + 1))) else none) else (if (0 : Int) ≤ (wi64 ((wi64 ((rdB r_1.s 0).toNat : Int)) + 1)) ∧ (wi64 ((wi64 ((rdB r_1.s 0).toNat : Int)) + 1)) ≤ (r_1.s.length : Int) then (some (x_15, (⟨r_1.s.drop (wi64 ((wi64 ((rdB r_1.s 0).toNat : Int)) + 1)).toNat, r_1.bad⟩ : T_pack_Reader))) else none))
def pack_Reader_Num.j0 (n : Nat) (r_1 : T_pack_Reader) (b_11 : Bool) : Option (Int × T_pack_Reader) :=
  (if b_11 then ((pack_Reader_fail.f n r_1).bind fun r_13 => (some (r_13.1, r_13.2))) else (pack_Reader_Num.l0 n r_1 n 0 1))
def pack_Reader_Num.f (n : Nat) (r_1 : T_pack_Reader) : Option (Int × T_pack_Reader) :=
  (if (r_1.s == ([] : List UInt8)) then ((pack_Reader_fail.f n r_1).bind fun r_4 => (some (r_4.1, r_4.2))) else (if (0 : Int) ≤ 0 ∧ 0 < (r_1.s.length : Int) then (if decide ((wi64 ((rdB r_1.s 0).toNat : Int)) > 8) then (pack_Reader_Num.j0 n r_1 true) else (if decide ((wi64 ((rdB r_1.s 0).toNat : Int)) > (wi64 ((r_1.s.length : Int) - 1))) then (pack_Reader_Num.j0 n r_1 true) else (if decide ((wi64 ((rdB r_1.s 0).toNat : Int)) > 0) then (if (0 : Int) ≤ 1 ∧ 1 < (r_1.s.length : Int) then (pack_Reader_Num.j0 n r_1 (((rdB r_1.s 1).toNat : Int) == 0)) else none) else (pack_Reader_Num.j0 n r_1 false)))) else none))

def pack_Reader_Up.j0 (n : Nat) (r_4 : Int × T_pack_Reader) (b_6 : Bool) : Option (Int × T_pack_Reader) :=
  (if b_6 then ((pack_Reader_fail.f n r_4.2).bind fun r_8 => (some (wi64 r_8.1, r_8.2))) else (some (wi64 r_4.1, r_4.2)))
def pack_Reader_Up.f (n : Nat) (r_1 : T_pack_Reader) (limit_3 : Int) : Option (Int × T_pack_Reader) :=
  ((pack_Reader_Num.f n r_1).bind fun r_4 => (if decide (limit_3 < 0) then (pack_Reader_Up.j0 n r_4 true) else (pack_Reader_Up.j0 n r_4 (decide (r_4.1 > (wu64 limit_3))))))

def pack_Reader_Text.f (n : Nat) (r_1 : T_pack_Reader) (limit_3 : Int) : Option ((List UInt8) × T_pack_Reader) :=
  ((pack_Reader_Up.f n r_1 limit_3).bind fun r_4 => (if decide (r_4.1 > (r_4.2.s.length : Int)) then ((pack_Reader_fail.f n r_4.2).bind fun r_6 => (some ([], r_6.2))) else (if (0 : Int) ≤ r_4.1 ∧ r_4.1 ≤ (r_4.2.s.length : Int) then (if (0 : Int) ≤ r_4.1 ∧ r_4.1 ≤ (r_4.2.s.length : Int) then (some (r_4.2.s.take r_4.1.toNat, (⟨r_4.2.s.drop r_4.1.toNat, r_4.2.bad⟩ : T_pack_Reader))) else none) else none)))

def pack_Reader_Left.f (n : Nat) (r_1 : T_pack_Reader) : Option (Int × Bool) :=
  (some ((r_1.s.length : Int), (!r_1.bad)))

def pack_Reader_Done.f (n : Nat) (r_1 : T_pack_Reader) : Option Bool :=
  ((pack_Reader_Left.f n r_1).bind fun r_3 => (if (r_3.1 == 0) then (some r_3.2) else (some false)))

def tontinelaw03_begun.f (n : Nat) : Option Bool :=
  ((pack_Writer_Num.f n (⟨[]⟩ : T_pack_Writer) 300).bind fun r_2 => ((pack_Writer_Text.f n r_2 [97, 98]).bind fun r_5 => ((pack_Writer_Bytes.f n r_5).bind fun r_8 => ((pack_From.f n r_8).bind fun r_9 => (if (r_8 == ([2, 1, 44, 1, 2, 97, 98] : List UInt8)) then ((pack_Reader_Num.f n r_9).bind fun r_12 => (if (r_12.1 == 300) then ((pack_Reader_Text.f n r_12.2 2).bind fun r_14 => (if (r_14.1 == ([97, 98] : List UInt8)) then ((pack_Reader_Done.f n r_14.2).bind fun r_16 => (some r_16)) else (some false))) else (some false))) else (some false))))))

def tontinelaw03_PackOne.j0 (n : Nat) (a_2 : Int) (b_3 : Int) (r_8 : Int × T_pack_Reader) (r_9 : Int × Bool) (b_17 : Bool) : Option Bool :=
  (if b_17 then (some false) else ((pack_Writer_Num.f n (⟨[]⟩ : T_pack_Writer) a_2).bind fun r_20 => ((pack_Writer_Bytes.f n r_20).bind fun r_23 => ((pack_Writer_Num.f n (⟨[]⟩ : T_pack_Writer) b_3).bind fun r_25 => ((pack_Writer_Bytes.f n r_25).bind fun r_28 => (if ((r_23 == r_28) == (a_2 == b_3)) then (if ((Op.bytesLess r_23 r_28) == (decide (a_2 < b_3))) then (if r_9.2 then (some true) else (if (r_8.1 == 0) then (some (r_9.1 == 0)) else (some false))) else (some false)) else (some false)))))))
def tontinelaw03_PackOne.f (n : Nat) (s_1 : (List UInt8)) (a_2 : Int) (b_3 : Int) : Option Bool :=
  ((tontinelaw03_begun.f n).bind fun r_4 => (if (!r_4) then (some false) else ((pack_From.f n s_1).bind fun r_6 => ((pack_Reader_Num.f n r_6).bind fun r_8 => ((pack_Reader_Left.f n r_8.2).bind fun r_9 => (if r_9.2 then (if (0 : Int) ≤ (wi64 ((s_1.length : Int) - r_9.1)) ∧ (wi64 ((s_1.length : Int) - r_9.1)) ≤ (s_1.length : Int) then ((pack_Writer_Num.f n (⟨[]⟩ : T_pack_Writer) r_8.1).bind fun r_13 => ((pack_Writer_Bytes.f n r_13).bind fun r_16 => (tontinelaw03_PackOne.j0 n a_2 b_3 r_8 r_9 (!(r_16 == (s_1.take (wi64 ((s_1.length : Int) - r_9.1)).toNat)))))) else none) else (tontinelaw03_PackOne.j0 n a_2 b_3 r_8 r_9 false)))))))

def tontinelaw03_PackLimits.j1 (n : Nat) (b_42 : Bool) : Option Bool :=
  (some b_42)
def tontinelaw03_PackLimits.j0 (n : Nat) (x_1 : Int) (s_2 : (List UInt8)) (less_3 : Bool) (a_8 : Int) (b_9 : Int) : Option Bool :=
  ((pack_Writer_Num.f n (⟨[]⟩ : T_pack_Writer) (shR .u64 x_1 1)).bind fun r_11 => ((pack_Writer_Num.f n r_11 7).bind fun r_14 => ((pack_Writer_Bytes.f n r_14).bind fun r_17 => ((pack_From.f n r_17).bind fun r_18 => ((pack_Writer_Text.f n (⟨[]⟩ : T_pack_Writer) s_2).bind fun r_21 => ((pack_Writer_Num.f n r_21 7).bind fun r_24 => ((pack_Writer_Bytes.f n r_24).bind fun r_27 => ((pack_From.f n r_27).bind fun r_28 => ((pack_Reader_Up.f n r_18 a_8).bind fun r_30 => ((pack_Reader_Text.f n r_28 b_9).bind fun r_31 => ((pack_Reader_Left.f n r_30.2).bind fun r_32 => ((pack_Reader_Left.f n r_31.2).bind fun r_33 => (if less_3 then (if (r_30.1 == 0) then (if (r_31.1 == ([] : List UInt8)) then (if (!r_32.2) then (if (!r_33.2) then ((pack_Reader_Num.f n r_30.2).bind fun r_39 => (if (r_39.1 == 0) then ((pack_Reader_Num.f n r_31.2).bind fun r_41 => (tontinelaw03_PackLimits.j1 n (r_41.1 == 0))) else (tontinelaw03_PackLimits.j1 n false))) else (tontinelaw03_PackLimits.j1 n false)) else (tontinelaw03_PackLimits.j1 n false)) else (tontinelaw03_PackLimits.j1 n false)) else (tontinelaw03_PackLimits.j1 n false)) else (if (r_30.1 == (wi64 (shR .u64 x_1 1))) then (if (r_31.1 == s_2) then (if r_32.2 then (if r_33.2 then ((pack_Reader_Num.f n r_30.2).bind fun r_48 => (if (r_48.1 == 7) then ((pack_Reader_Num.f n r_31.2).bind fun r_50 => (if (r_50.1 == 7) then ((pack_Reader_Done.f n r_48.2).bind fun r_52 => (if r_52 then ((pack_Reader_Done.f n r_50.2).bind fun r_54 => (some r_54)) else (some false))) else (some false))) else (some false))) else (some false)) else (some false)) else (some false)) else (some false)))))))))))))))
def tontinelaw03_PackLimits.f (n : Nat) (x_1 : Int) (s_2 : (List UInt8)) (less_3 : Bool) : Option Bool :=
  ((tontinelaw03_begun.f n).bind fun r_4 => (if (!r_4) then (some false) else (if decide ((s_2.length : Int) > 10000) then (some true) else (if less_3 then (tontinelaw03_PackLimits.j0 n x_1 s_2 less_3 (wi64 ((wi64 (shR .u64 x_1 1)) - 1)) (wi64 ((s_2.length : Int) - 1))) else (tontinelaw03_PackLimits.j0 n x_1 s_2 less_3 (wi64 (shR .u64 x_1 1)) (s_2.length : Int))))))

def tontineref03_Reader_Fail.f (n : Nat) (r_1 : T_tontineref03_Reader) : Option T_tontineref03_Reader :=
  (some (⟨[], true⟩ : T_tontineref03_Reader))

def tontineref03_Reader_Num.l0 (n : Nat) (r_1 : T_tontineref03_Reader) (n_5 : Int) : Nat → Int → Int → Option (Int × T_tontineref03_Reader)
  | 0, _, _ => none
  | k + 1, x_15, i_16 => (if decide (i_16 ≤ n_5) then (if (0 : Int) ≤ i_16 ∧ i_16 < (r_1.S_.length : Int) then ((tontineref03_Reader_Num.l0 n r_1 n_5 k) (wu64 ((wu64 (256 * x_15)) + (wu64 ((rdB r_1.S_ i_16).toNat : Int)))) (wi64 (i_16 + 1))) else none) else (if (0 : Int) ≤ (wi64 (n_5 + 1)) ∧ (wi64 (n_5 + 1)) ≤ (r_1.S_.length : Int) then (some (x_15, (⟨r_1.S_.drop (wi64 (n_5 + 1)).toNat, r_1.Bad⟩ : T_tontineref03_Reader))) else none))
def tontineref03_Reader_Num.j1 (n : Nat) (r_1 : T_tontineref03_Reader) (n_5 : Int) (b_11 : Bool) : Option (Int × T_tontineref03_Reader) :=
  (if b_11 then ((tontineref03_Reader_Fail.f n r_1).bind fun r_13 => (some (0, r_13))) else (tontineref03_Reader_Num.l0 n r_1 n_5 n 0 1))
def tontineref03_Reader_Num.j0 (n : Nat) (r_1 : T_tontineref03_Reader) (n_5 : Int) : Option (Int × T_tontineref03_Reader) :=
  (if decide (n_5 < 0) then (tontineref03_Reader_Num.j1 n r_1 n_5 true) else (if decide (n_5 > 8) then (tontineref03_Reader_Num.j1 n r_1 n_5 true) else (if decide ((r_1.S_.length : Int) < (wi64 (n_5 + 1))) then (tontineref03_Reader_Num.j1 n r_1 n_5 true) else (if decide (n_5 > 0) then (if (0 : Int) ≤ 1 ∧ 1 < (r_1.S_.length : Int) then (tontineref03_Reader_Num.j1 n r_1 n_5 (((rdB r_1.S_ 1).toNat : Int) == 0)) else none) else (tontineref03_Reader_Num.j1 n r_1 n_5 false)))))
def tontineref03_Reader_Num.f (n : Nat) (r_1 : T_tontineref03_Reader) : Option (Int × T_tontineref03_Reader) :=
  (if decide ((r_1.S_.length : Int) > 0) then (if (0 : Int) ≤ 0 ∧ 0 < (r_1.S_.length : Int) then (tontineref03_Reader_Num.j0 n r_1 (wi64 ((rdB r_1.S_ 0).toNat : Int))) else none) else (tontineref03_Reader_Num.j0 n r_1 (-1)))

def pack_Reader_Int.f (n : Nat) (r_1 : T_pack_Reader) : Option (Int × T_pack_Reader) :=
  ((pack_Reader_Num.f n r_1).bind fun r_3 => (some (bXor .i64 (wi64 (shR .u64 r_3.1 1)) (wi64 (0 - (wi64 (bAnd .u64 r_3.1 1)))), r_3.2)))

def tontineref03_Reader_Int.f (n : Nat) (r_1 : T_tontineref03_Reader) : Option (Int × T_tontineref03_Reader) :=
  ((tontineref03_Reader_Num.f n r_1).bind fun r_3 => (if ((r_3.1.tmod 2) == 0) then (some (wi64 (wu64 (r_3.1.tdiv 2)), r_3.2)) else (some (wi64 ((wi64 (0 - (wi64 (wu64 (r_3.1.tdiv 2))))) - 1), r_3.2))))

def pack_Reader_Bool.f (n : Nat) (r_1 : T_pack_Reader) : Option (Bool × T_pack_Reader) :=
  ((pack_Reader_Up.f n r_1 1).bind fun r_3 => (some ((r_3.1 == 1), r_3.2)))

def tontineref03_Reader_Up.j0 (n : Nat) (r_4 : Int × T_tontineref03_Reader) (b_6 : Bool) : Option (Int × T_tontineref03_Reader) :=
  (if b_6 then ((tontineref03_Reader_Fail.f n r_4.2).bind fun r_8 => (some (0, r_8))) else (some (wi64 r_4.1, r_4.2)))
def tontineref03_Reader_Up.f (n : Nat) (r_1 : T_tontineref03_Reader) (limit_3 : Int) : Option (Int × T_tontineref03_Reader) :=
  ((tontineref03_Reader_Num.f n r_1).bind fun r_4 => (if decide (limit_3 < 0) then (tontineref03_Reader_Up.j0 n r_4 true) else (tontineref03_Reader_Up.j0 n r_4 (decide (r_4.1 > (wu64 limit_3))))))

def tontineref03_Reader_Text.f (n : Nat) (r_1 : T_tontineref03_Reader) (limit_3 : Int) : Option ((List UInt8) × T_tontineref03_Reader) :=
  ((tontineref03_Reader_Up.f n r_1 limit_3).bind fun r_4 => (if decide (r_4.1 > (r_4.2.S_.length : Int)) then ((tontineref03_Reader_Fail.f n r_4.2).bind fun r_6 => (some ([], r_6))) else (if (0 : Int) ≤ r_4.1 ∧ r_4.1 ≤ (r_4.2.S_.length : Int) then (if (0 : Int) ≤ r_4.1 ∧ r_4.1 ≤ (r_4.2.S_.length : Int) then (some (r_4.2.S_.take r_4.1.toNat, (⟨r_4.2.S_.drop r_4.1.toNat, r_4.2.Bad⟩ : T_tontineref03_Reader))) else none) else none)))

def tontinelaw03_PackReads.j1 (n : Nat) (L0 : (List UInt8) → Bool → (List UInt8) → Bool → Int → Option Bool) (x_14 : Int) (f_38 : (List UInt8)) (f_39 : Bool) (f_40 : (List UInt8)) (f_41 : Bool) (b_47 : Bool) : Option Bool :=
  (if b_47 then (some false) else (L0 f_38 f_39 f_40 f_41 (wi64 (x_14 + 1))))
def tontinelaw03_PackReads.j0 (n : Nat) (L0 : (List UInt8) → Bool → (List UInt8) → Bool → Int → Option Bool) (x_14 : Int) (f_38 : (List UInt8)) (f_39 : Bool) (f_40 : (List UInt8)) (f_41 : Bool) : Option Bool :=
  ((pack_Reader_Left.f n (⟨f_38, f_39⟩ : T_pack_Reader)).bind fun r_42 => (if (r_42.1 != (f_40.length : Int)) then (tontinelaw03_PackReads.j1 n L0 x_14 f_38 f_39 f_40 f_41 true) else (if (r_42.2 == f_41) then (tontinelaw03_PackReads.j1 n L0 x_14 f_38 f_39 f_40 f_41 true) else ((pack_Reader_Done.f n (⟨f_38, f_39⟩ : T_pack_Reader)).bind fun r_45 => (if r_42.2 then (tontinelaw03_PackReads.j1 n L0 x_14 f_38 f_39 f_40 f_41 (!(r_45 == (r_42.1 == 0)))) else (tontinelaw03_PackReads.j1 n L0 x_14 f_38 f_39 f_40 f_41 (!(r_45 == false))))))))
def tontinelaw03_PackReads.l0 (n : Nat) (asks_2 : (List T_tontinelaw03_Thing)) : Nat → (List UInt8) → Bool → (List UInt8) → Bool → Int → Option Bool
  | 0, _, _, _, _, _ => none
  | k + 1, f_10, f_11, f_12, f_13, x_14 => (if decide (x_14 < (asks_2.length : Int)) then (if (0 : Int) ≤ x_14 ∧ x_14 < (asks_2.length : Int) then (if (x_14 == 200) then (some true) else (if (((rdL asks_2 x_14).Kind) == 0) then ((pack_Reader_Num.f n (⟨f_10, f_11⟩ : T_pack_Reader)).bind fun r_20 => ((tontineref03_Reader_Num.f n (⟨f_12, f_13⟩ : T_tontineref03_Reader)).bind fun r_21 => (if (r_20.1 != r_21.1) then (some false) else (tontinelaw03_PackReads.j0 n (tontinelaw03_PackReads.l0 n asks_2 k) x_14 r_20.2.s r_20.2.bad r_21.2.S_ r_21.2.Bad)))) else (if (((rdL asks_2 x_14).Kind) == 1) then ((pack_Reader_Int.f n (⟨f_10, f_11⟩ : T_pack_Reader)).bind fun r_26 => ((tontineref03_Reader_Int.f n (⟨f_12, f_13⟩ : T_tontineref03_Reader)).bind fun r_27 => (if (r_26.1 != r_27.1) then (some false) else (tontinelaw03_PackReads.j0 n (tontinelaw03_PackReads.l0 n asks_2 k) x_14 r_26.2.s r_26.2.bad r_27.2.S_ r_27.2.Bad)))) else (if (((rdL asks_2 x_14).Kind) == 2) then ((pack_Reader_Bool.f n (⟨f_10, f_11⟩ : T_pack_Reader)).bind fun r_32 => ((tontineref03_Reader_Up.f n (⟨f_12, f_13⟩ : T_tontineref03_Reader) 1).bind fun r_33 => (if (!(r_32.1 == (r_33.1 == 1))) then (some false) else (tontinelaw03_PackReads.j0 n (tontinelaw03_PackReads.l0 n asks_2 k) x_14 r_32.2.s r_32.2.bad r_33.2.S_ r_33.2.Bad)))) else (if (((rdL asks_2 x_14).Kind) == 3) then ((pack_Reader_Text.f n (⟨f_10, f_11⟩ : T_pack_Reader) (wi64 ((rdL asks_2 x_14).Num))).bind fun r_38 => ((tontineref03_Reader_Text.f n (⟨f_12, f_13⟩ : T_tontineref03_Reader) (wi64 ((rdL asks_2 x_14).Num))).bind fun r_39 => (if (!(r_38.1 == r_39.1)) then (some false) else (tontinelaw03_PackReads.j0 n (tontinelaw03_PackReads.l0 n asks_2 k) x_14 r_38.2.s r_38.2.bad r_39.2.S_ r_39.2.Bad)))) else ((pack_Reader_Up.f n (⟨f_10, f_11⟩ : T_pack_Reader) (wi64 ((rdL asks_2 x_14).Num))).bind fun r_43 => ((tontineref03_Reader_Up.f n (⟨f_12, f_13⟩ : T_tontineref03_Reader) (wi64 ((rdL asks_2 x_14).Num))).bind fun r_44 => (if (r_43.1 != r_44.1) then (some false) else (tontinelaw03_PackReads.j0 n (tontinelaw03_PackReads.l0 n asks_2 k) x_14 r_43.2.s r_43.2.bad r_44.2.S_ r_44.2.Bad))))))))) else none) else (some true))
def tontinelaw03_PackReads.f (n : Nat) (s_1 : (List UInt8)) (asks_2 : (List T_tontinelaw03_Thing)) : Option Bool :=
  ((tontinelaw03_begun.f n).bind fun r_5 => (if (!r_5) then (some false) else ((pack_From.f n s_1).bind fun r_7 => (tontinelaw03_PackReads.l0 n asks_2 n r_7.s r_7.bad s_1 false 0))))

def pack_Writer_Int.f (n : Nat) (w_1 : T_pack_Writer) (x_5 : Int) : Option T_pack_Writer :=
  ((pack_Writer_Num.f n w_1 (bXor .u64 (shL .u64 (wu64 x_5) 1) (wu64 (shR .i64 x_5 63)))).bind fun r_6 => (some r_6))

def tontineref03_Int.f (n : Nat) (x_1 : Int) : Option (List UInt8) :=
  (if decide (x_1 ≥ 0) then ((tontineref03_Num.f n (wu64 (2 * (wu64 x_1)))).bind fun r_3 => (some r_3)) else ((tontineref03_Num.f n (wu64 ((wu64 (2 * (wu64 (wi64 (0 - (wi64 (x_1 + 1))))))) + 1))).bind fun r_5 => (some r_5)))

def pack_Writer_Bool.f (n : Nat) (w_1 : T_pack_Writer) (x_5 : Bool) : Option T_pack_Writer :=
  (if x_5 then ((pack_Writer_Num.f n w_1 1).bind fun r_7 => (some r_7)) else ((pack_Writer_Num.f n w_1 0).bind fun r_11 => (some r_11)))

def tontinelaw03_PackLays.j0 (n : Nat) (L0 : (List UInt8) → (List UInt8) → Int → Option Bool) (l_1 : (List T_tontinelaw03_Thing)) (f_7 : (List UInt8)) (want_10 : (List UInt8)) (x_11 : Int) (b_16 : Bool) : Option Bool :=
  (if b_16 then ((pack_Writer_Bytes.f n (⟨f_7⟩ : T_pack_Writer)).bind fun r_18 => (some (r_18 == want_10))) else (if (((rdL l_1 x_11).Kind) == 0) then ((pack_Writer_Num.f n (⟨f_7⟩ : T_pack_Writer) ((rdL l_1 x_11).Num)).bind fun r_21 => ((tontineref03_Num.f n ((rdL l_1 x_11).Num)).bind fun r_24 => (if want_10.length + r_24.length ≤ i64max then (L0 r_21.b (want_10 ++ r_24) (wi64 (x_11 + 1))) else none))) else (if (((rdL l_1 x_11).Kind) == 1) then ((pack_Writer_Int.f n (⟨f_7⟩ : T_pack_Writer) (wi64 ((rdL l_1 x_11).Num))).bind fun r_29 => ((tontineref03_Int.f n (wi64 ((rdL l_1 x_11).Num))).bind fun r_32 => (if want_10.length + r_32.length ≤ i64max then (L0 r_29.b (want_10 ++ r_32) (wi64 (x_11 + 1))) else none))) else (if (((rdL l_1 x_11).Kind) == 2) then ((pack_Writer_Bool.f n (⟨f_7⟩ : T_pack_Writer) ((bAnd .u64 ((rdL l_1 x_11).Num) 1) == 1)).bind fun r_37 => ((tontineref03_Num.f n (bAnd .u64 ((rdL l_1 x_11).Num) 1)).bind fun r_40 => (if want_10.length + r_40.length ≤ i64max then (L0 r_37.b (want_10 ++ r_40) (wi64 (x_11 + 1))) else none))) else ((pack_Writer_Text.f n (⟨f_7⟩ : T_pack_Writer) ((rdL l_1 x_11).Text)).bind fun r_44 => ((tontineref03_Text.f n ((rdL l_1 x_11).Text)).bind fun r_47 => (if want_10.length + r_47.length ≤ i64max then (L0 r_44.b (want_10 ++ r_47) (wi64 (x_11 + 1))) else none)))))))
def tontinelaw03_PackLays.l0 (n : Nat) (l_1 : (List T_tontinelaw03_Thing)) : Nat → (List UInt8) → (List UInt8) → Int → Option Bool
  | 0, _, _, _ => none
  | k + 1, f_7, want_10, x_11 => (if decide (x_11 < (l_1.length : Int)) then (if (0 : Int) ≤ x_11 ∧ x_11 < (l_1.length : Int) then (if (x_11 == 200) then (tontinelaw03_PackLays.j0 n (tontinelaw03_PackLays.l0 n l_1 k) l_1 f_7 want_10 x_11 true) else (tontinelaw03_PackLays.j0 n (tontinelaw03_PackLays.l0 n l_1 k) l_1 f_7 want_10 x_11 (decide ((((rdL l_1 x_11).Text).length : Int) > 1000)))) else none) else ((pack_Writer_Bytes.f n (⟨f_7⟩ : T_pack_Writer)).bind fun r_51 => (some (r_51 == want_10))))
def tontinelaw03_PackLays.f (n : Nat) (l_1 : (List T_tontinelaw03_Thing)) : Option Bool :=
  ((tontinelaw03_begun.f n).bind fun r_4 => (if (!r_4) then (some false) else (tontinelaw03_PackLays.l0 n l_1 n ([] : List UInt8) [] 0)))

def tontinelaw03_PackBack.j0 (n : Nat) (L0 : (List UInt8) → Int → Int → Option Bool) (l_1 : (List T_tontinelaw03_Thing)) (f_7 : (List UInt8)) (n_10 : Int) (x_11 : Int) (b_16 : Bool) : Option Bool :=
  (if b_16 then (some true) else ((pack_Writer_Num.f n (⟨f_7⟩ : T_pack_Writer) ((rdL l_1 x_11).Num)).bind fun r_18 => ((pack_Writer_Int.f n r_18 (wi64 ((rdL l_1 x_11).Num))).bind fun r_21 => ((pack_Writer_Bool.f n r_21 ((bAnd .u64 ((rdL l_1 x_11).Num) 1) == 1)).bind fun r_24 => ((pack_Writer_Text.f n r_24 ((rdL l_1 x_11).Text)).bind fun r_27 => (L0 r_27.b (wi64 (n_10 + 1)) (wi64 (x_11 + 1))))))))
def tontinelaw03_PackBack.j1 (n : Nat) (L1 : (List UInt8) → Bool → Int → Option Bool) (x_39 : Int) (f_50 : (List UInt8)) (f_51 : Bool) (b_52 : Bool) : Option Bool :=
  (if b_52 then (some false) else (L1 f_50 f_51 (wi64 (x_39 + 1))))
def tontinelaw03_PackBack.l1 (n : Nat) (l_1 : (List T_tontinelaw03_Thing)) : Nat → (List UInt8) → Bool → Int → Option Bool
  | 0, _, _, _ => none
  | k + 1, f_37, f_38, x_39 => (if decide (x_39 < (l_1.length : Int)) then (if (0 : Int) ≤ x_39 ∧ x_39 < (l_1.length : Int) then ((pack_Reader_Num.f n (⟨f_37, f_38⟩ : T_pack_Reader)).bind fun r_43 => (if (r_43.1 != ((rdL l_1 x_39).Num)) then (tontinelaw03_PackBack.j1 n (tontinelaw03_PackBack.l1 n l_1 k) x_39 r_43.2.s r_43.2.bad true) else ((pack_Reader_Int.f n r_43.2).bind fun r_45 => (if (r_45.1 != (wi64 ((rdL l_1 x_39).Num))) then (tontinelaw03_PackBack.j1 n (tontinelaw03_PackBack.l1 n l_1 k) x_39 r_45.2.s r_45.2.bad true) else ((pack_Reader_Bool.f n r_45.2).bind fun r_47 => (if (!(r_47.1 == ((bAnd .u64 ((rdL l_1 x_39).Num) 1) == 1))) then (tontinelaw03_PackBack.j1 n (tontinelaw03_PackBack.l1 n l_1 k) x_39 r_47.2.s r_47.2.bad true) else ((pack_Reader_Text.f n r_47.2 (((rdL l_1 x_39).Text).length : Int)).bind fun r_49 => (tontinelaw03_PackBack.j1 n (tontinelaw03_PackBack.l1 n l_1 k) x_39 r_49.2.s r_49.2.bad (!(r_49.1 == ((rdL l_1 x_39).Text))))))))))) else none) else ((pack_Reader_Done.f n (⟨f_37, f_38⟩ : T_pack_Reader)).bind fun r_54 => (some r_54)))
def tontinelaw03_PackBack.l0 (n : Nat) (l_1 : (List T_tontinelaw03_Thing)) : Nat → (List UInt8) → Int → Int → Option Bool
  | 0, _, _, _ => none
  | k + 1, f_7, n_10, x_11 => (if decide (x_11 < (l_1.length : Int)) then (if (0 : Int) ≤ x_11 ∧ x_11 < (l_1.length : Int) then (if decide ((wi64 (n_10 + 1)) > 200) then (tontinelaw03_PackBack.j0 n (tontinelaw03_PackBack.l0 n l_1 k) l_1 f_7 n_10 x_11 true) else (tontinelaw03_PackBack.j0 n (tontinelaw03_PackBack.l0 n l_1 k) l_1 f_7 n_10 x_11 (decide ((((rdL l_1 x_11).Text).length : Int) > 1000)))) else none) else ((pack_Writer_Bytes.f n (⟨f_7⟩ : T_pack_Writer)).bind fun r_34 => ((pack_From.f n r_34).bind fun r_35 => (tontinelaw03_PackBack.l1 n l_1 n r_35.s r_35.bad 0))))
def tontinelaw03_PackBack.f (n : Nat) (l_1 : (List T_tontinelaw03_Thing)) : Option Bool :=
  ((tontinelaw03_begun.f n).bind fun r_4 => (if (!r_4) then (some false) else (tontinelaw03_PackBack.l0 n l_1 n ([] : List UInt8) 0 0)))

def pack_Reader_Left_n0.f (n : Nat) : Option (Int × Bool) :=
  (some (0, false))

def pack_Writer_Num_n0.f (n : Nat) (x_1 : Int) : Option Unit :=
  (some ())

def pack_Writer_Int_n0.f (n : Nat) (x_1 : Int) : Option Unit :=
  ((pack_Writer_Num_n0.f n (bXor .u64 (shL .u64 (wu64 x_1) 1) (wu64 (shR .i64 x_1 63)))).bind fun r_2 => (some ()))

def pack_Writer_Bool_n0.f (n : Nat) (x_1 : Bool) : Option Unit :=
  (if x_1 then ((pack_Writer_Num_n0.f n 1).bind fun r_3 => (some ())) else ((pack_Writer_Num_n0.f n 0).bind fun r_5 => (some ())))

def pack_Writer_Text_n0.f (n : Nat) (s_1 : (List UInt8)) : Option Unit :=
  (some ())

def pack_Writer_Bytes_n0.f (n : Nat) : Option (List UInt8) :=
  (some [])

def pack_Reader_fail_n0.f (n : Nat) : Option Int :=
  (some 0)

def pack_Reader_Num_n0.f (n : Nat) : Option Int :=
  ((pack_Reader_fail_n0.f n).bind fun r_1 => (some r_1))

def pack_Reader_Int_n0.f (n : Nat) : Option Int :=
  ((pack_Reader_Num_n0.f n).bind fun r_1 => (some (bXor .i64 (wi64 (shR .u64 r_1 1)) (wi64 (0 - (wi64 (bAnd .u64 r_1 1)))))))

def pack_Reader_Up_n0.j0 (n : Nat) (r_2 : Int) (b_4 : Bool) : Option Int :=
  (if b_4 then ((pack_Reader_fail_n0.f n).bind fun r_6 => (some (wi64 r_6))) else (some (wi64 r_2)))
def pack_Reader_Up_n0.f (n : Nat) (limit_1 : Int) : Option Int :=
  ((pack_Reader_Num_n0.f n).bind fun r_2 => (if decide (limit_1 < 0) then (pack_Reader_Up_n0.j0 n r_2 true) else (pack_Reader_Up_n0.j0 n r_2 (decide (r_2 > (wu64 limit_1))))))

def pack_Reader_Bool_n0.f (n : Nat) : Option Bool :=
  ((pack_Reader_Up_n0.f n 1).bind fun r_1 => (some (r_1 == 1)))

def pack_Reader_Text_n0.f (n : Nat) (limit_1 : Int) : Option (List UInt8) :=
  ((pack_Reader_Up_n0.f n limit_1).bind fun r_2 => ((pack_Reader_fail_n0.f n).bind fun r_3 => (some [])))

def pack_Reader_Done_n0.f (n : Nat) : Option Bool :=
  ((pack_Reader_Left_n0.f n).bind fun r_1 => (if (r_1.1 == 0) then (some r_1.2) else (some false)))

def tontinelaw03_PackNone.f (n : Nat) (x_1 : Int) (s_2 : (List UInt8)) : Option Bool :=
  ((tontinelaw03_begun.f n).bind fun r_3 => (if (!r_3) then (some false) else ((pack_Reader_Left_n0.f n).bind fun r_5 => ((pack_Writer_Num_n0.f n x_1).bind fun r_6 => ((pack_Writer_Int_n0.f n (wi64 x_1)).bind fun r_7 => ((pack_Writer_Bool_n0.f n true).bind fun r_8 => ((pack_Writer_Text_n0.f n s_2).bind fun r_9 => ((pack_Writer_Bytes_n0.f n).bind fun r_10 => (if (r_10 == ([] : List UInt8)) then ((pack_Reader_Num_n0.f n).bind fun r_12 => (if (r_12 == 0) then ((pack_Reader_Int_n0.f n).bind fun r_14 => (if (r_14 == 0) then ((pack_Reader_Up_n0.f n (wi64 (shR .u64 x_1 1))).bind fun r_16 => (if (r_16 == 0) then ((pack_Reader_Bool_n0.f n).bind fun r_18 => (if (!r_18) then ((pack_Reader_Text_n0.f n (wi64 (shR .u64 x_1 1))).bind fun r_20 => (if (r_20 == ([] : List UInt8)) then (if (r_5.1 == 0) then (if (!r_5.2) then ((pack_Reader_Done_n0.f n).bind fun r_24 => (some (!r_24))) else (some false)) else (some false)) else (some false))) else (some false))) else (some false))) else (some false))) else (some false))) else (some false))))))))))

def plan_Read.l0 (n : Nat) : Nat → (List UInt8) → Bool → (List T_api_Step) → Int → Option ((List T_api_Step) × T_pack_Reader)
  | 0, _, _, _, _ => none
  | k + 1, f_4, f_5, l_6, n_9 => (if decide (n_9 > 0) then ((pack_Reader_Up.f n (⟨f_4, f_5⟩ : T_pack_Reader) 3).bind fun r_11 => ((pack_Reader_Text.f n r_11.2 16).bind fun r_13 => ((pack_Reader_Up.f n r_13.2 9).bind fun r_14 => (if capOk 32 (l_6 ++ [(⟨r_11.1, r_13.1, r_14.1⟩ : T_api_Step)]).length then ((plan_Read.l0 n k) r_14.2.s r_14.2.bad (l_6 ++ [(⟨r_11.1, r_13.1, r_14.1⟩ : T_api_Step)]) (wi64 (n_9 - 1))) else none)))) else ((pack_Reader_Left.f n (⟨f_4, f_5⟩ : T_pack_Reader)).bind fun r_23 => (if (!r_23.2) then (some (([] : List T_api_Step), (⟨f_4, f_5⟩ : T_pack_Reader))) else (some (l_6, (⟨f_4, f_5⟩ : T_pack_Reader))))))
def plan_Read.f (n : Nat) (r_1 : T_pack_Reader) : Option ((List T_api_Step) × T_pack_Reader) :=
  ((pack_Reader_Up.f n r_1 64).bind fun r_3 => (plan_Read.l0 n n r_3.2.s r_3.2.bad ([] : List T_api_Step) r_3.1))

def tontineref13_Read.l0 (n : Nat) (r_3 : Int × T_tontineref03_Reader) : Nat → (List UInt8) → Bool → (List T_api_Step) → Int → Option ((List T_api_Step) × T_tontineref03_Reader)
  | 0, _, _, _, _ => none
  | k + 1, f_4, f_5, l_6, i_9 => (if decide (i_9 < r_3.1) then ((tontineref03_Reader_Up.f n (⟨f_4, f_5⟩ : T_tontineref03_Reader) 3).bind fun r_11 => ((tontineref03_Reader_Text.f n r_11.2 16).bind fun r_12 => ((tontineref03_Reader_Up.f n r_12.2 9).bind fun r_13 => (if capOk 32 (l_6 ++ [(⟨r_11.1, r_12.1, r_13.1⟩ : T_api_Step)]).length then ((tontineref13_Read.l0 n r_3 k) r_13.2.S_ r_13.2.Bad (l_6 ++ [(⟨r_11.1, r_12.1, r_13.1⟩ : T_api_Step)]) (wi64 (i_9 + 1))) else none)))) else (if f_5 then (some (([] : List T_api_Step), (⟨f_4, f_5⟩ : T_tontineref03_Reader))) else (some (l_6, (⟨f_4, f_5⟩ : T_tontineref03_Reader)))))
def tontineref13_Read.f (n : Nat) (r_1 : T_tontineref03_Reader) : Option ((List T_api_Step) × T_tontineref03_Reader) :=
  ((tontineref03_Reader_Up.f n r_1 64).bind fun r_3 => (tontineref13_Read.l0 n r_3 n r_3.2.S_ r_3.2.Bad ([] : List T_api_Step) 0))

def tontineref13_Same.l0 (n : Nat) (a_1 : (List T_api_Step)) (b_4 : (List T_api_Step)) : Nat → Int → Option Bool
  | 0, _ => none
  | k + 1, i_8 => (if decide (i_8 < (a_1.length : Int)) then (if (0 : Int) ≤ i_8 ∧ i_8 < (a_1.length : Int) then (if (0 : Int) ≤ i_8 ∧ i_8 < (b_4.length : Int) then (if (!((((rdL a_1 i_8).Part) == ((rdL b_4 i_8).Part)) && ((((rdL a_1 i_8).Name) == ((rdL b_4 i_8).Name)) && ((((rdL a_1 i_8).Budget) == ((rdL b_4 i_8).Budget)) && true)))) then (some false) else ((tontineref13_Same.l0 n a_1 b_4 k) (wi64 (i_8 + 1)))) else none) else none) else (some true))
def tontineref13_Same.f (n : Nat) (a_1 : (List T_api_Step)) (b_4 : (List T_api_Step)) : Option Bool :=
  (if ((a_1.length : Int) != (b_4.length : Int)) then (some false) else (tontineref13_Same.l0 n a_1 b_4 n 0))

def tontinelaw13_PlanReads.f (n : Nat) (s_1 : (List UInt8)) : Option Bool :=
  ((tontinelaw13_begun.f n).bind fun r_2 => (if (!r_2) then (some false) else ((pack_From.f n s_1).bind fun r_4 => ((plan_Read.f n r_4).bind fun r_7 => ((tontineref13_Read.f n (⟨s_1, false⟩ : T_tontineref03_Reader)).bind fun r_10 => ((pack_Reader_Left.f n r_7.2).bind fun r_13 => ((tontineref13_Same.f n r_7.1 r_10.1).bind fun r_14 => (if r_14 then (if (r_13.1 == (r_10.2.S_.length : Int)) then (some (!(r_13.2 == r_10.2.Bad))) else (some false)) else (some false)))))))))

def tontinelaw13_PlanBack.f (n : Nat) (l_1 : (List T_api_Step)) : Option Bool :=
  ((tontinelaw13_begun.f n).bind fun r_4 => (if (!r_4) then (some false) else ((plan_Check.f n l_1).bind fun r_6 => (if (r_6 != 0) then (some true) else ((plan_Write.f n (⟨[]⟩ : T_pack_Writer) l_1).bind fun r_9 => ((pack_Writer_Bytes.f n r_9).bind fun r_12 => ((pack_From.f n r_12).bind fun r_13 => ((plan_Read.f n r_13).bind fun r_15 => ((tontineref13_Same.f n r_15.1 l_1).bind fun r_18 => (if r_18 then ((pack_Reader_Done.f n r_15.2).bind fun r_20 => (some r_20)) else (some false)))))))))))
end Go.GL
