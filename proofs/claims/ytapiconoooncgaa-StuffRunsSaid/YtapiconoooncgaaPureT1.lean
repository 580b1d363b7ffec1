import Derived.Test.YtapiconoooncgaaG13
set_option linter.unusedVariables false
namespace Go.GL
open Go



def crc_Add.l1 (n : Nat) (L0 : Int → Int → Option Int) (x_6 : Int) : Nat → Int → Int → Option Int
  | 0, _, _ => none
  | k + 1, x_9, x_10 => (if decide (x_10 < 8) then ((crc_Add.l1 n L0 x_6 k) (bXor .u32 (shR .u32 x_9 1) (bAnd .u32 2197175160 (wu32 (0 - (bAnd .u32 x_9 1))))) (wi64 (x_10 + 1))) else (L0 x_9 (wi64 (x_6 + 1))))
def crc_Add.l0 (n : Nat) (b_2 : (List UInt8)) : Nat → Int → Int → Option Int
  | 0, _, _ => none
  | k + 1, x_5, x_6 => (if decide (x_6 < (b_2.length : Int)) then (if (0 : Int) ≤ x_6 ∧ x_6 < (b_2.length : Int) then (crc_Add.l1 n (crc_Add.l0 n b_2 k) x_6 n (bXor .u32 x_5 (wu32 (((rdL b_2 x_6)).toNat : Int))) 0) else none) else (some (bNot .u32 x_5)))
def crc_Add.f (n : Nat) (sum_1 : Int) (b_2 : (List UInt8)) : Option Int :=
  (crc_Add.l0 n b_2 n (bNot .u32 sum_1) 0)

def crc_Sum.f (n : Nat) (b_1 : (List UInt8)) : Option Int :=
  ((crc_Add.f n 0 b_1).bind fun r_4 => (some r_4))

def tontinelaw02_begun.f (n : Nat) : Option Bool :=
  ((crc_Sum.f n [(49 : UInt8), (50 : UInt8), (51 : UInt8), (52 : UInt8), (53 : UInt8), (54 : UInt8), (55 : UInt8), (56 : UInt8), (57 : UInt8)]).bind fun r_3 => (if (r_3 == 3808858755) then ((crc_Sum.f n ([] : List UInt8)).bind fun r_5 => (some (r_5 == 0))) else (some false)))

def tontineref02_half.f (n : Nat) (x_1 : Int) : Option Int :=
  (if ((x_1.tmod 2) == 1) then (some (bXor .u32 (wu32 (x_1.tdiv 2)) 2197175160)) else (some (wu32 (x_1.tdiv 2))))

def tontineref02_Add.l1 (n : Nat) (L0 : Int → Int → Option Int) (i_6 : Int) : Nat → Int → Int → Option Int
  | 0, _, _ => none
  | k + 1, x_9, k_10 => (if decide (k_10 < 8) then ((tontineref02_half.f n x_9).bind fun r_12 => ((tontineref02_Add.l1 n L0 i_6 k) r_12 (wi64 (k_10 + 1)))) else (L0 x_9 (wi64 (i_6 + 1))))
def tontineref02_Add.l0 (n : Nat) (b_2 : (List UInt8)) : Nat → Int → Int → Option Int
  | 0, _, _ => none
  | k + 1, x_5, i_6 => (if decide (i_6 < (b_2.length : Int)) then (if (0 : Int) ≤ i_6 ∧ i_6 < (b_2.length : Int) then (tontineref02_Add.l1 n (tontineref02_Add.l0 n b_2 k) i_6 n (bXor .u32 x_5 (wu32 (((rdL b_2 i_6)).toNat : Int))) 0) else none) else (some (wu32 (4294967295 - x_5))))
def tontineref02_Add.f (n : Nat) (sum_1 : Int) (b_2 : (List UInt8)) : Option Int :=
  (tontineref02_Add.l0 n b_2 n (wu32 (4294967295 - sum_1)) 0)

def tontinelaw02_CrcSums.f (n : Nat) (sum_1 : Int) (b_2 : (List UInt8)) : Option Bool :=
  ((tontinelaw02_begun.f n).bind fun r_5 => (if (!r_5) then (some false) else ((crc_Add.f n sum_1 b_2).bind fun r_7 => ((tontineref02_Add.f n sum_1 b_2).bind fun r_8 => (if (r_7 == r_8) then ((crc_Sum.f n b_2).bind fun r_10 => ((tontineref02_Add.f n 0 b_2).bind fun r_11 => (some (r_10 == r_11)))) else (some false))))))

def tontinelaw02_CrcBursts.j1 (n : Nat) (L0 : (List UInt8) → Bool → Int → Option Bool) (b_1 : (List UInt8)) (at_4 : Int) (c_15 : (List UInt8)) (turned_18 : Bool) (x_19 : Int) (b_23 : Bool) : Option Bool :=
  (if b_23 then (if (0 : Int) ≤ ((wi64 (((wi64 ((at_4.tmod (wi64 (8 * (b_1.length : Int)))) + (wi64 (8 * (b_1.length : Int))))).tmod (wi64 (8 * (b_1.length : Int)))) + x_19)).tmod 8) then (if (0 : Int) ≤ (wi64 ((wi64 (((wi64 ((at_4.tmod (wi64 (8 * (b_1.length : Int)))) + (wi64 (8 * (b_1.length : Int))))).tmod (wi64 (8 * (b_1.length : Int)))) + x_19)).tdiv 8)) ∧ (wi64 ((wi64 (((wi64 ((at_4.tmod (wi64 (8 * (b_1.length : Int)))) + (wi64 (8 * (b_1.length : Int))))).tmod (wi64 (8 * (b_1.length : Int)))) + x_19)).tdiv 8)) < (c_15.length : Int) then (if (0 : Int) ≤ (wi64 ((wi64 (((wi64 ((at_4.tmod (wi64 (8 * (b_1.length : Int)))) + (wi64 (8 * (b_1.length : Int))))).tmod (wi64 (8 * (b_1.length : Int)))) + x_19)).tdiv 8)) ∧ (wi64 ((wi64 (((wi64 ((at_4.tmod (wi64 (8 * (b_1.length : Int)))) + (wi64 (8 * (b_1.length : Int))))).tmod (wi64 (8 * (b_1.length : Int)))) + x_19)).tdiv 8)) < (c_15.length : Int) then (L0 (c_15.set ((wi64 ((wi64 (((wi64 ((at_4.tmod (wi64 (8 * (b_1.length : Int)))) + (wi64 (8 * (b_1.length : Int))))).tmod (wi64 (8 * (b_1.length : Int)))) + x_19)).tdiv 8)).toNat) (u8of (bXor .u8 (((rdL c_15 (wi64 ((wi64 (((wi64 ((at_4.tmod (wi64 (8 * (b_1.length : Int)))) + (wi64 (8 * (b_1.length : Int))))).tmod (wi64 (8 * (b_1.length : Int)))) + x_19)).tdiv 8)))).toNat : Int) (shL .u8 1 ((wi64 (((wi64 ((at_4.tmod (wi64 (8 * (b_1.length : Int)))) + (wi64 (8 * (b_1.length : Int))))).tmod (wi64 (8 * (b_1.length : Int)))) + x_19)).tmod 8))))) true (wi64 (x_19 + 1))) else none) else none) else none) else (L0 c_15 turned_18 (wi64 (x_19 + 1))))
def tontinelaw02_CrcBursts.l0 (n : Nat) (b_1 : (List UInt8)) (at_4 : Int) (burst_5 : Int) : Nat → (List UInt8) → Bool → Int → Option Bool
  | 0, _, _, _ => none
  | k + 1, c_15, turned_18, x_19 => (if decide (x_19 < 32) then (if (0 : Int) ≤ x_19 then (if ((bAnd .u32 (shR .u32 burst_5 x_19) 1) == 1) then (tontinelaw02_CrcBursts.j1 n (tontinelaw02_CrcBursts.l0 n b_1 at_4 burst_5 k) b_1 at_4 c_15 turned_18 x_19 (decide ((wi64 (((wi64 ((at_4.tmod (wi64 (8 * (b_1.length : Int)))) + (wi64 (8 * (b_1.length : Int))))).tmod (wi64 (8 * (b_1.length : Int)))) + x_19)) < (wi64 (8 * (b_1.length : Int)))))) else (tontinelaw02_CrcBursts.j1 n (tontinelaw02_CrcBursts.l0 n b_1 at_4 burst_5 k) b_1 at_4 c_15 turned_18 x_19 false)) else none) else ((crc_Sum.f n c_15).bind fun r_28 => ((crc_Sum.f n b_1).bind fun r_29 => (some ((r_28 != r_29) == turned_18)))))
def tontinelaw02_CrcBursts.j0 (n : Nat) (b_1 : (List UInt8)) (at_4 : Int) (burst_5 : Int) (b_9 : Bool) : Option Bool :=
  (if b_9 then (some true) else (if (wi64 (8 * (b_1.length : Int))) ≠ 0 then (if capOk 1 (([] : List UInt8) ++ b_1).length then (tontinelaw02_CrcBursts.l0 n b_1 at_4 burst_5 n (([] : List UInt8) ++ b_1) false 0) else none) else none))
def tontinelaw02_CrcBursts.f (n : Nat) (b_1 : (List UInt8)) (at_4 : Int) (burst_5 : Int) : Option Bool :=
  ((tontinelaw02_begun.f n).bind fun r_6 => (if (!r_6) then (some false) else (if ((b_1.length : Int) == 0) then (tontinelaw02_CrcBursts.j0 n b_1 at_4 burst_5 true) else (tontinelaw02_CrcBursts.j0 n b_1 at_4 burst_5 (burst_5 == 0)))))

def tontinelaw02_CrcThree.l0 (n : Nat) (a_1 : (List UInt8)) (b_4 : (List UInt8)) (c_7 : (List UInt8)) : Nat → (List UInt8) → Int → Option Bool
  | 0, _, _ => none
  | k + 1, x_15, x_18 => (if decide (x_18 < ((List.replicate (if (c_7.length : Int) < (if (b_4.length : Int) < (a_1.length : Int) then (b_4.length : Int) else (a_1.length : Int)) then (c_7.length : Int) else (if (b_4.length : Int) < (a_1.length : Int) then (b_4.length : Int) else (a_1.length : Int))).toNat (0 : UInt8)).length : Int)) then (if (0 : Int) ≤ x_18 ∧ x_18 < (a_1.length : Int) then (if (0 : Int) ≤ x_18 ∧ x_18 < (b_4.length : Int) then (if (0 : Int) ≤ x_18 ∧ x_18 < (c_7.length : Int) then (if (0 : Int) ≤ x_18 ∧ x_18 < (x_15.length : Int) then ((tontinelaw02_CrcThree.l0 n a_1 b_4 c_7 k) (x_15.set x_18.toNat (u8of (bXor .u8 (bXor .u8 (((rdL a_1 x_18)).toNat : Int) (((rdL b_4 x_18)).toNat : Int)) (((rdL c_7 x_18)).toNat : Int)))) (wi64 (x_18 + 1))) else none) else none) else none) else none) else (if (0 : Int) ≤ (0 : Int) ∧ (0 : Int) ≤ (if (c_7.length : Int) < (if (b_4.length : Int) < (a_1.length : Int) then (b_4.length : Int) else (a_1.length : Int)) then (c_7.length : Int) else (if (b_4.length : Int) < (a_1.length : Int) then (b_4.length : Int) else (a_1.length : Int))) ∧ (if (c_7.length : Int) < (if (b_4.length : Int) < (a_1.length : Int) then (b_4.length : Int) else (a_1.length : Int)) then (c_7.length : Int) else (if (b_4.length : Int) < (a_1.length : Int) then (b_4.length : Int) else (a_1.length : Int))) ≤ (a_1.length : Int) then (if (0 : Int) ≤ (0 : Int) ∧ (0 : Int) ≤ (if (c_7.length : Int) < (if (b_4.length : Int) < (a_1.length : Int) then (b_4.length : Int) else (a_1.length : Int)) then (c_7.length : Int) else (if (b_4.length : Int) < (a_1.length : Int) then (b_4.length : Int) else (a_1.length : Int))) ∧ (if (c_7.length : Int) < (if (b_4.length : Int) < (a_1.length : Int) then (b_4.length : Int) else (a_1.length : Int)) then (c_7.length : Int) else (if (b_4.length : Int) < (a_1.length : Int) then (b_4.length : Int) else (a_1.length : Int))) ≤ (b_4.length : Int) then (if (0 : Int) ≤ (0 : Int) ∧ (0 : Int) ≤ (if (c_7.length : Int) < (if (b_4.length : Int) < (a_1.length : Int) then (b_4.length : Int) else (a_1.length : Int)) then (c_7.length : Int) else (if (b_4.length : Int) < (a_1.length : Int) then (b_4.length : Int) else (a_1.length : Int))) ∧ (if (c_7.length : Int) < (if (b_4.length : Int) < (a_1.length : Int) then (b_4.length : Int) else (a_1.length : Int)) then (c_7.length : Int) else (if (b_4.length : Int) < (a_1.length : Int) then (b_4.length : Int) else (a_1.length : Int))) ≤ (c_7.length : Int) then ((crc_Sum.f n x_15).bind fun r_33 => ((crc_Sum.f n ((a_1.take (if (c_7.length : Int) < (if (b_4.length : Int) < (a_1.length : Int) then (b_4.length : Int) else (a_1.length : Int)) then (c_7.length : Int) else (if (b_4.length : Int) < (a_1.length : Int) then (b_4.length : Int) else (a_1.length : Int))).toNat).drop (0 : Int).toNat)).bind fun r_34 => ((crc_Sum.f n ((b_4.take (if (c_7.length : Int) < (if (b_4.length : Int) < (a_1.length : Int) then (b_4.length : Int) else (a_1.length : Int)) then (c_7.length : Int) else (if (b_4.length : Int) < (a_1.length : Int) then (b_4.length : Int) else (a_1.length : Int))).toNat).drop (0 : Int).toNat)).bind fun r_35 => ((crc_Sum.f n ((c_7.take (if (c_7.length : Int) < (if (b_4.length : Int) < (a_1.length : Int) then (b_4.length : Int) else (a_1.length : Int)) then (c_7.length : Int) else (if (b_4.length : Int) < (a_1.length : Int) then (b_4.length : Int) else (a_1.length : Int))).toNat).drop (0 : Int).toNat)).bind fun r_36 => (some (r_33 == (bXor .u32 (bXor .u32 r_34 r_35) r_36))))))) else none) else none) else none))
def tontinelaw02_CrcThree.f (n : Nat) (a_1 : (List UInt8)) (b_4 : (List UInt8)) (c_7 : (List UInt8)) : Option Bool :=
  ((tontinelaw02_begun.f n).bind fun r_10 => (if (!r_10) then (some false) else (if (0 : Int) ≤ (if (c_7.length : Int) < (if (b_4.length : Int) < (a_1.length : Int) then (b_4.length : Int) else (a_1.length : Int)) then (c_7.length : Int) else (if (b_4.length : Int) < (a_1.length : Int) then (b_4.length : Int) else (a_1.length : Int))) ∧ (if (c_7.length : Int) < (if (b_4.length : Int) < (a_1.length : Int) then (b_4.length : Int) else (a_1.length : Int)) then (c_7.length : Int) else (if (b_4.length : Int) < (a_1.length : Int) then (b_4.length : Int) else (a_1.length : Int))) ≤ (if (c_7.length : Int) < (if (b_4.length : Int) < (a_1.length : Int) then (b_4.length : Int) else (a_1.length : Int)) then (c_7.length : Int) else (if (b_4.length : Int) < (a_1.length : Int) then (b_4.length : Int) else (a_1.length : Int))) ∧ 1 * (if (c_7.length : Int) < (if (b_4.length : Int) < (a_1.length : Int) then (b_4.length : Int) else (a_1.length : Int)) then (c_7.length : Int) else (if (b_4.length : Int) < (a_1.length : Int) then (b_4.length : Int) else (a_1.length : Int))) ≤ 281474976710656 then (tontinelaw02_CrcThree.l0 n a_1 b_4 c_7 n (List.replicate (if (c_7.length : Int) < (if (b_4.length : Int) < (a_1.length : Int) then (b_4.length : Int) else (a_1.length : Int)) then (c_7.length : Int) else (if (b_4.length : Int) < (a_1.length : Int) then (b_4.length : Int) else (a_1.length : Int))).toNat (0 : UInt8)) 0) else none)))

def stuff_Decode.l1 (n : Nat) (L0 : (List UInt8) → (List UInt8) → Option ((List UInt8) × Int)) (b_4 : (List UInt8)) : Nat → (List UInt8) → Int → Option ((List UInt8) × Int)
  | 0, _, _ => none
  | k + 1, out_18, x_21 => (if decide (x_21 < (((b_4.take (wi64 (((rdL b_4 (0 : Int))).toNat : Int)).toNat).drop (1 : Int).toNat).length : Int)) then (if (0 : Int) ≤ x_21 ∧ x_21 < (((b_4.take (wi64 (((rdL b_4 (0 : Int))).toNat : Int)).toNat).drop (1 : Int).toNat).length : Int) then (if ((((rdL ((b_4.take (wi64 (((rdL b_4 (0 : Int))).toNat : Int)).toNat).drop (1 : Int).toNat) x_21)).toNat : Int) == 0) then (some (([] : List UInt8), 2)) else (if capOk 1 (out_18 ++ [(rdL ((b_4.take (wi64 (((rdL b_4 (0 : Int))).toNat : Int)).toNat).drop (1 : Int).toNat) x_21)]).length then ((stuff_Decode.l1 n L0 b_4 k) (out_18 ++ [(rdL ((b_4.take (wi64 (((rdL b_4 (0 : Int))).toNat : Int)).toNat).drop (1 : Int).toNat) x_21)]) (wi64 (x_21 + 1))) else none)) else none) else (if (0 : Int) ≤ (wi64 (((rdL b_4 (0 : Int))).toNat : Int)) ∧ (wi64 (((rdL b_4 (0 : Int))).toNat : Int)) ≤ (b_4.length : Int) ∧ (b_4.length : Int) ≤ (b_4.length : Int) then (if ((((b_4.take (b_4.length : Int).toNat).drop (wi64 (((rdL b_4 (0 : Int))).toNat : Int)).toNat).length : Int) == 0) then (if ((wi64 (((rdL b_4 (0 : Int))).toNat : Int)) == 255) then (some (([] : List UInt8), 2)) else (some (out_18, 0))) else (if decide ((wi64 (((rdL b_4 (0 : Int))).toNat : Int)) < 255) then (if capOk 1 (out_18 ++ [(0 : UInt8)]).length then (L0 ((b_4.take (b_4.length : Int).toNat).drop (wi64 (((rdL b_4 (0 : Int))).toNat : Int)).toNat) (out_18 ++ [(0 : UInt8)])) else none) else (L0 ((b_4.take (b_4.length : Int).toNat).drop (wi64 (((rdL b_4 (0 : Int))).toNat : Int)).toNat) out_18))) else none))
def stuff_Decode.j0 (n : Nat) (L0 : (List UInt8) → (List UInt8) → Option ((List UInt8) × Int)) (b_4 : (List UInt8)) (out_7 : (List UInt8)) (b_13 : Bool) : Option ((List UInt8) × Int) :=
  (if b_13 then (some (([] : List UInt8), 2)) else (if (0 : Int) ≤ (1 : Int) ∧ (1 : Int) ≤ (wi64 (((rdL b_4 (0 : Int))).toNat : Int)) ∧ (wi64 (((rdL b_4 (0 : Int))).toNat : Int)) ≤ (b_4.length : Int) then (stuff_Decode.l1 n L0 b_4 n out_7 0) else none))
def stuff_Decode.l0 (n : Nat) : Nat → (List UInt8) → (List UInt8) → Option ((List UInt8) × Int)
  | 0, _, _ => none
  | k + 1, b_4, out_7 => (if decide ((b_4.length : Int) > 0) then (if (0 : Int) ≤ 0 ∧ 0 < (b_4.length : Int) then (if ((wi64 (((rdL b_4 (0 : Int))).toNat : Int)) == 0) then (stuff_Decode.j0 n (stuff_Decode.l0 n k) b_4 out_7 true) else (stuff_Decode.j0 n (stuff_Decode.l0 n k) b_4 out_7 (decide ((wi64 (((rdL b_4 (0 : Int))).toNat : Int)) > (b_4.length : Int))))) else none) else (some (([] : List UInt8), 2)))
def stuff_Decode.f (n : Nat) (b_1 : (List UInt8)) : Option ((List UInt8) × Int) :=
  (stuff_Decode.l0 n n b_1 ([] : List UInt8))

def stuff_Encode.j1 (n : Nat) (L0 : (List UInt8) → Int → Int → Option (List UInt8)) (at_10 : Int) (x_11 : Int) (out_20 : (List UInt8)) (b_24 : Bool) : Option (List UInt8) :=
  (if b_24 then (if (0 : Int) ≤ at_10 ∧ at_10 < (out_20.length : Int) then (if capOk 1 ((out_20.set at_10.toNat (u8of (wi64 ((out_20.length : Int) - at_10)))) ++ [(0 : UInt8)]).length then (L0 ((out_20.set at_10.toNat (u8of (wi64 ((out_20.length : Int) - at_10)))) ++ [(0 : UInt8)]) ((out_20.set at_10.toNat (u8of (wi64 ((out_20.length : Int) - at_10)))).length : Int) (wi64 (x_11 + 1))) else none) else none) else (L0 out_20 at_10 (wi64 (x_11 + 1))))
def stuff_Encode.j0 (n : Nat) (L0 : (List UInt8) → Int → Int → Option (List UInt8)) (b_1 : (List UInt8)) (at_10 : Int) (x_11 : Int) (out_20 : (List UInt8)) : Option (List UInt8) :=
  (if ((((rdL b_1 x_11)).toNat : Int) == 0) then (stuff_Encode.j1 n L0 at_10 x_11 out_20 true) else (stuff_Encode.j1 n L0 at_10 x_11 out_20 ((wi64 ((out_20.length : Int) - at_10)) == 255)))
def stuff_Encode.l0 (n : Nat) (b_1 : (List UInt8)) : Nat → (List UInt8) → Int → Int → Option (List UInt8)
  | 0, _, _, _ => none
  | k + 1, out_7, at_10, x_11 => (if decide (x_11 < (b_1.length : Int)) then (if (0 : Int) ≤ x_11 ∧ x_11 < (b_1.length : Int) then (if ((((rdL b_1 x_11)).toNat : Int) != 0) then (if capOk 1 (out_7 ++ [(rdL b_1 x_11)]).length then (stuff_Encode.j0 n (stuff_Encode.l0 n b_1 k) b_1 at_10 x_11 (out_7 ++ [(rdL b_1 x_11)])) else none) else (stuff_Encode.j0 n (stuff_Encode.l0 n b_1 k) b_1 at_10 x_11 out_7)) else none) else (if (0 : Int) ≤ at_10 ∧ at_10 < (out_7.length : Int) then (some (out_7.set at_10.toNat (u8of (wi64 ((out_7.length : Int) - at_10))))) else none))
def stuff_Encode.f (n : Nat) (b_1 : (List UInt8)) : Option (List UInt8) :=
  (if (0 : Int) ≤ (1 : Int) ∧ (1 : Int) ≤ (wi64 ((wi64 ((b_1.length : Int) + (wi64 ((b_1.length : Int).tdiv 254)))) + 1)) ∧ 1 * (wi64 ((wi64 ((b_1.length : Int) + (wi64 ((b_1.length : Int).tdiv 254)))) + 1)) ≤ 281474976710656 then (stuff_Encode.l0 n b_1 n (List.replicate (1 : Int).toNat (0 : UInt8)) 0 0) else none)

def tontinelaw01_begun.f (n : Nat) : Option Bool :=
  ((stuff_Decode.f n [(3 : UInt8), (17 : UInt8)]).bind fun r_3 => ((stuff_Encode.f n [(17 : UInt8), (0 : UInt8), (34 : UInt8)]).bind fun r_8 => (if (r_8 == ([2, 17, 2, 34] : List UInt8)) then (some (r_3.2 == 2)) else (some false))))

def tontineref01_zero.l0 (n : Nat) (b_1 : (List UInt8)) : Nat → Int → Option Int
  | 0, _ => none
  | k + 1, i_4 => (if decide (i_4 < (b_1.length : Int)) then (if (0 : Int) ≤ i_4 ∧ i_4 < (b_1.length : Int) then (if ((((rdL b_1 i_4)).toNat : Int) == 0) then (some i_4) else ((tontineref01_zero.l0 n b_1 k) (wi64 (i_4 + 1)))) else none) else (some (b_1.length : Int)))
def tontineref01_zero.f (n : Nat) (b_1 : (List UInt8)) : Option Int :=
  (tontineref01_zero.l0 n b_1 n 0)

def tontineref01_Encode.l0 (n : Nat) : Nat → (List UInt8) → (List UInt8) → Option (List UInt8)
  | 0, _, _ => none
  | k + 1, b_4, out_7 => ((tontineref01_zero.f n b_4).bind fun r_10 => (if decide (r_10 ≥ 254) then (if capOk 1 (out_7 ++ [(255 : UInt8)]).length then (if (0 : Int) ≤ (0 : Int) ∧ (0 : Int) ≤ (254 : Int) ∧ (254 : Int) ≤ (b_4.length : Int) then (if capOk 1 ((out_7 ++ [(255 : UInt8)]) ++ ((b_4.take (254 : Int).toNat).drop (0 : Int).toNat)).length then (if (0 : Int) ≤ (254 : Int) ∧ (254 : Int) ≤ (b_4.length : Int) ∧ (b_4.length : Int) ≤ (b_4.length : Int) then ((tontineref01_Encode.l0 n k) ((b_4.take (b_4.length : Int).toNat).drop (254 : Int).toNat) ((out_7 ++ [(255 : UInt8)]) ++ ((b_4.take (254 : Int).toNat).drop (0 : Int).toNat))) else none) else none) else none) else none) else (if capOk 1 (out_7 ++ [u8of (wi64 (r_10 + 1))]).length then (if (0 : Int) ≤ (0 : Int) ∧ (0 : Int) ≤ r_10 ∧ r_10 ≤ (b_4.length : Int) then (if capOk 1 ((out_7 ++ [u8of (wi64 (r_10 + 1))]) ++ ((b_4.take r_10.toNat).drop (0 : Int).toNat)).length then (if (r_10 == (b_4.length : Int)) then (some ((out_7 ++ [u8of (wi64 (r_10 + 1))]) ++ ((b_4.take r_10.toNat).drop (0 : Int).toNat))) else (if (0 : Int) ≤ (wi64 (r_10 + 1)) ∧ (wi64 (r_10 + 1)) ≤ (b_4.length : Int) ∧ (b_4.length : Int) ≤ (b_4.length : Int) then ((tontineref01_Encode.l0 n k) ((b_4.take (b_4.length : Int).toNat).drop (wi64 (r_10 + 1)).toNat) ((out_7 ++ [u8of (wi64 (r_10 + 1))]) ++ ((b_4.take r_10.toNat).drop (0 : Int).toNat))) else none)) else none) else none) else none)))
def tontineref01_Encode.f (n : Nat) (b_1 : (List UInt8)) : Option (List UInt8) :=
  (tontineref01_Encode.l0 n n b_1 ([] : List UInt8))

def tontinelaw01_StuffEncodes.f (n : Nat) (b_1 : (List UInt8)) : Option Bool :=
  ((tontinelaw01_begun.f n).bind fun r_4 => (if (!r_4) then (some false) else ((stuff_Encode.f n b_1).bind fun r_6 => ((tontineref01_Encode.f n b_1).bind fun r_9 => (some (r_6 == r_9))))))

def tontineref01_plain.j2 (n : Nat) (L0 : (List UInt8) → (List UInt8) → Bool → Bool → Option ((List UInt8) × Bool)) (b_4 : (List UInt8)) (out_30 : (List UInt8)) : Option ((List UInt8) × Bool) :=
  (if (0 : Int) ≤ (1 : Int) ∧ (1 : Int) ≤ (wi64 (((rdL b_4 (0 : Int))).toNat : Int)) ∧ (wi64 (((rdL b_4 (0 : Int))).toNat : Int)) ≤ (b_4.length : Int) then (if capOk 1 (out_30 ++ ((b_4.take (wi64 (((rdL b_4 (0 : Int))).toNat : Int)).toNat).drop (1 : Int).toNat)).length then (if (0 : Int) ≤ (wi64 (((rdL b_4 (0 : Int))).toNat : Int)) ∧ (wi64 (((rdL b_4 (0 : Int))).toNat : Int)) ≤ (b_4.length : Int) ∧ (b_4.length : Int) ≤ (b_4.length : Int) then (L0 ((b_4.take (b_4.length : Int).toNat).drop (wi64 (((rdL b_4 (0 : Int))).toNat : Int)).toNat) (out_30 ++ ((b_4.take (wi64 (((rdL b_4 (0 : Int))).toNat : Int)).toNat).drop (1 : Int).toNat)) ((wi64 (((rdL b_4 (0 : Int))).toNat : Int)) == 255) false) else none) else none) else none)
def tontineref01_plain.j1 (n : Nat) (L0 : (List UInt8) → (List UInt8) → Bool → Bool → Option ((List UInt8) × Bool)) (b_4 : (List UInt8)) (out_7 : (List UInt8)) (b_23 : Bool) : Option ((List UInt8) × Bool) :=
  (if b_23 then (if capOk 1 (out_7 ++ [(0 : UInt8)]).length then (tontineref01_plain.j2 n L0 b_4 (out_7 ++ [(0 : UInt8)])) else none) else (tontineref01_plain.j2 n L0 b_4 out_7))
def tontineref01_plain.j0 (n : Nat) (L0 : (List UInt8) → (List UInt8) → Bool → Bool → Option ((List UInt8) × Bool)) (b_4 : (List UInt8)) (out_7 : (List UInt8)) (full_10 : Bool) (first_11 : Bool) (b_20 : Bool) : Option ((List UInt8) × Bool) :=
  (if b_20 then (some (([] : List UInt8), false)) else (if (!first_11) then (tontineref01_plain.j1 n L0 b_4 out_7 (!full_10)) else (tontineref01_plain.j1 n L0 b_4 out_7 false)))
def tontineref01_plain.l0 (n : Nat) : Nat → (List UInt8) → (List UInt8) → Bool → Bool → Option ((List UInt8) × Bool)
  | 0, _, _, _, _ => none
  | k + 1, b_4, out_7, full_10, first_11 => (if decide ((b_4.length : Int) > 0) then (if (0 : Int) ≤ 0 ∧ 0 < (b_4.length : Int) then (if ((wi64 (((rdL b_4 (0 : Int))).toNat : Int)) == 0) then (tontineref01_plain.j0 n (tontineref01_plain.l0 n k) b_4 out_7 full_10 first_11 true) else (if decide ((wi64 (((rdL b_4 (0 : Int))).toNat : Int)) > (b_4.length : Int)) then (tontineref01_plain.j0 n (tontineref01_plain.l0 n k) b_4 out_7 full_10 first_11 true) else (if (0 : Int) ≤ (1 : Int) ∧ (1 : Int) ≤ (wi64 (((rdL b_4 (0 : Int))).toNat : Int)) ∧ (wi64 (((rdL b_4 (0 : Int))).toNat : Int)) ≤ (b_4.length : Int) then ((tontineref01_zero.f n ((b_4.take (wi64 (((rdL b_4 (0 : Int))).toNat : Int)).toNat).drop (1 : Int).toNat)).bind fun r_19 => (tontineref01_plain.j0 n (tontineref01_plain.l0 n k) b_4 out_7 full_10 first_11 (decide (r_19 < (wi64 ((wi64 (((rdL b_4 (0 : Int))).toNat : Int)) - 1)))))) else none))) else none) else (some (out_7, (!first_11))))
def tontineref01_plain.f (n : Nat) (b_1 : (List UInt8)) : Option ((List UInt8) × Bool) :=
  (tontineref01_plain.l0 n n b_1 ([] : List UInt8) true true)

def tontineref01_Decode.f (n : Nat) (b_1 : (List UInt8)) : Option ((List UInt8) × Int) :=
  ((tontineref01_plain.f n b_1).bind fun r_4 => (if (!r_4.2) then (some (([] : List UInt8), 2)) else ((tontineref01_Encode.f n r_4.1).bind fun r_8 => (if (!(r_8 == b_1)) then (some (([] : List UInt8), 2)) else (some (r_4.1, 0))))))

def tontinelaw01_StuffDecodes.f (n : Nat) (b_1 : (List UInt8)) : Option Bool :=
  ((tontinelaw01_begun.f n).bind fun r_4 => (if (!r_4) then (some false) else ((stuff_Decode.f n b_1).bind fun r_6 => ((tontineref01_Decode.f n b_1).bind fun r_9 => (if (r_6.2 == r_9.2) then (some (r_6.1 == r_9.1)) else (some false))))))

def tontinelaw01_StuffBack.l0 (n : Nat) (b_1 : (List UInt8)) (r_6 : (List UInt8)) : Nat → Int → Option Bool
  | 0, _ => none
  | k + 1, x_9 => (if decide (x_9 < (r_6.length : Int)) then (if (0 : Int) ≤ x_9 ∧ x_9 < (r_6.length : Int) then (if ((((rdL r_6 x_9)).toNat : Int) == 0) then (some false) else ((tontinelaw01_StuffBack.l0 n b_1 r_6 k) (wi64 (x_9 + 1)))) else none) else ((stuff_Decode.f n r_6).bind fun r_13 => (if (r_13.2 == 0) then (if (r_13.1 == b_1) then (if decide ((r_6.length : Int) > (b_1.length : Int)) then (some (decide ((r_6.length : Int) ≤ (wi64 ((wi64 ((b_1.length : Int) + (wi64 ((b_1.length : Int).tdiv 254)))) + 1))))) else (some false)) else (some false)) else (some false))))
def tontinelaw01_StuffBack.f (n : Nat) (b_1 : (List UInt8)) : Option Bool :=
  ((tontinelaw01_begun.f n).bind fun r_4 => (if (!r_4) then (some false) else ((stuff_Encode.f n b_1).bind fun r_6 => (tontinelaw01_StuffBack.l0 n b_1 r_6 n 0))))

def tontinelaw01_StuffOne.f (n : Nat) (b_1 : (List UInt8)) : Option Bool :=
  ((tontinelaw01_begun.f n).bind fun r_4 => (if (!r_4) then (some false) else ((stuff_Decode.f n b_1).bind fun r_6 => (if (r_6.2 != 0) then (if (r_6.2 == 2) then (some ((r_6.1.length : Int) == 0)) else (some false)) else ((stuff_Encode.f n r_6.1).bind fun r_11 => (some (r_11 == b_1)))))))

def tontinelaw01_StuffRuns.l2 (n : Nat) (n_1 : Int) (zeros_3 : Int) (r_28 : (List UInt8)) : Nat → Int → Option Bool
  | 0, _ => none
  | k + 1, x_31 => (if decide (x_31 < (wi64 (((wi64 ((n_1.tmod 1100) + 1100)).tmod 1100).tdiv 254))) then (if (0 : Int) ≤ (wi64 (255 * x_31)) ∧ (wi64 (255 * x_31)) < (r_28.length : Int) then (if ((((rdL r_28 (wi64 (255 * x_31)))).toNat : Int) != 255) then (some false) else ((tontinelaw01_StuffRuns.l2 n n_1 zeros_3 r_28 k) (wi64 (x_31 + 1)))) else none) else (if ((r_28.length : Int) == (wi64 ((wi64 ((wi64 (((wi64 ((n_1.tmod 1100) + 1100)).tmod 1100) + (wi64 (((wi64 ((n_1.tmod 1100) + 1100)).tmod 1100).tdiv 254)))) + ((wi64 ((zeros_3.tmod 5) + 5)).tmod 5))) + 1))) then (if (0 : Int) ≤ (wi64 (255 * (wi64 (((wi64 ((n_1.tmod 1100) + 1100)).tmod 1100).tdiv 254)))) ∧ (wi64 (255 * (wi64 (((wi64 ((n_1.tmod 1100) + 1100)).tmod 1100).tdiv 254)))) < (r_28.length : Int) then (some ((wi64 (((rdL r_28 (wi64 (255 * (wi64 (((wi64 ((n_1.tmod 1100) + 1100)).tmod 1100).tdiv 254)))))).toNat : Int)) == (wi64 ((((wi64 ((n_1.tmod 1100) + 1100)).tmod 1100).tmod 254) + 1)))) else none) else (some false)))
def tontinelaw01_StuffRuns.l1 (n : Nat) (n_1 : Int) (zeros_3 : Int) : Nat → (List UInt8) → Int → Option Bool
  | 0, _, _ => none
  | k + 1, b_18, x_21 => (if decide (x_21 < ((wi64 ((zeros_3.tmod 5) + 5)).tmod 5)) then (if capOk 1 (b_18 ++ [(0 : UInt8)]).length then ((tontinelaw01_StuffRuns.l1 n n_1 zeros_3 k) (b_18 ++ [(0 : UInt8)]) (wi64 (x_21 + 1))) else none) else ((stuff_Encode.f n b_18).bind fun r_28 => (tontinelaw01_StuffRuns.l2 n n_1 zeros_3 r_28 n 0)))
def tontinelaw01_StuffRuns.l0 (n : Nat) (n_1 : Int) (zeros_3 : Int) (c_7 : UInt8) : Nat → (List UInt8) → Int → Option Bool
  | 0, _, _ => none
  | k + 1, b_8, x_11 => (if decide (x_11 < ((wi64 ((n_1.tmod 1100) + 1100)).tmod 1100)) then (if capOk 1 (b_8 ++ [c_7]).length then ((tontinelaw01_StuffRuns.l0 n n_1 zeros_3 c_7 k) (b_8 ++ [c_7]) (wi64 (x_11 + 1))) else none) else (tontinelaw01_StuffRuns.l1 n n_1 zeros_3 n b_8 0))
def tontinelaw01_StuffRuns.j0 (n : Nat) (n_1 : Int) (zeros_3 : Int) (c_7 : UInt8) : Option Bool :=
  (tontinelaw01_StuffRuns.l0 n n_1 zeros_3 c_7 n ([] : List UInt8) 0)
def tontinelaw01_StuffRuns.f (n : Nat) (n_1 : Int) (c_2 : UInt8) (zeros_3 : Int) : Option Bool :=
  ((tontinelaw01_begun.f n).bind fun r_4 => (if (!r_4) then (some false) else (if (((c_2).toNat : Int) == 0) then (tontinelaw01_StuffRuns.j0 n n_1 zeros_3 (1 : UInt8)) else (tontinelaw01_StuffRuns.j0 n n_1 zeros_3 c_2))))

def tontinelaw01_StuffJoins.f (n : Nat) (a_1 : (List UInt8)) (b_4 : (List UInt8)) : Option Bool :=
  ((tontinelaw01_begun.f n).bind fun r_7 => (if (!r_7) then (some false) else (if capOk 1 (([] : List UInt8) ++ a_1).length then (if capOk 1 ((([] : List UInt8) ++ a_1) ++ [(0 : UInt8)]).length then (if capOk 1 (((([] : List UInt8) ++ a_1) ++ [(0 : UInt8)]) ++ b_4).length then ((stuff_Encode.f n (((([] : List UInt8) ++ a_1) ++ [(0 : UInt8)]) ++ b_4)).bind fun r_20 => ((stuff_Encode.f n a_1).bind fun r_23 => ((stuff_Encode.f n b_4).bind fun r_26 => (if r_23.length + r_26.length ≤ i64max then (some (r_20 == (r_23 ++ r_26))) else none)))) else none) else none) else none)))

def crc_times.l0 (n : Nat) (m_1 : (List Int)) : Nat → Int → Int → Int → Option Int
  | 0, _, _, _ => none
  | k + 1, x_4, y_5, i_6 => (if decide (x_4 > 0) then (if (0 : Int) ≤ i_6 ∧ i_6 < (32 : Int) then (if m_1.length = 32 ∧ (0 : Int) ≤ i_6 ∧ i_6 < (m_1.length : Int) then ((crc_times.l0 n m_1 k) (shR .u32 x_4 1) (bXor .u32 y_5 (bAnd .u32 (rdL m_1 i_6) (wu32 (0 - (bAnd .u32 x_4 1))))) (wi64 (i_6 + 1))) else none) else none) else (some y_5))
def crc_times.f (n : Nat) (m_1 : (List Int)) (x_2 : Int) : Option Int :=
  (crc_times.l0 n m_1 n x_2 0 0)

def crc_squared.l0 (n : Nat) (m_1 : (List Int)) : Nat → (List Int) → Int → Option (List Int)
  | 0, _, _ => none
  | k + 1, f_6, x_7 => (if decide (x_7 < 32) then (if m_1.length = 32 ∧ (0 : Int) ≤ x_7 ∧ x_7 < (m_1.length : Int) then (if m_1.length = 32 then ((crc_times.f n m_1 (rdL m_1 x_7)).bind fun r_11 => (if (0 : Int) ≤ x_7 ∧ x_7 < (32 : Int) then (if f_6.length = 32 ∧ (0 : Int) ≤ x_7 ∧ x_7 < (f_6.length : Int) then ((crc_squared.l0 n m_1 k) (f_6.set x_7.toNat r_11) (wi64 (x_7 + 1))) else none) else none)) else none) else none) else (if f_6.length = 32 then (if (List.replicate 32 (0 : Int)).length = 32 ∧ f_6.length = 32 then (if f_6.length = 32 then some f_6 else none) else none) else none))
def crc_squared.f (n : Nat) (m_1 : (List Int)) : Option (List Int) :=
  (if m_1.length = 32 then (crc_squared.l0 n m_1 n (List.replicate 32 (0 : Int)) 0) else none)

def crc_Join.l1 (n : Nat) (b_2 : Int) : Nat → Int → (List Int) → Int → Option Int
  | 0, _, _, _ => none
  | k + 1, a_15, f_16, k_17 => (if decide (k_17 > 0) then (if ((bAnd .u64 k_17 1) == 1) then (if f_16.length = 32 then ((crc_times.f n f_16 a_15).bind fun r_21 => (if f_16.length = 32 then ((crc_squared.f n f_16).bind fun r_23 => (if f_16.length = 32 ∧ r_23.length = 32 then ((crc_Join.l1 n b_2 k) r_21 r_23 (shR .u64 k_17 1)) else none)) else none)) else none) else (if f_16.length = 32 then ((crc_squared.f n f_16).bind fun r_28 => (if f_16.length = 32 ∧ r_28.length = 32 then ((crc_Join.l1 n b_2 k) a_15 r_28 (shR .u64 k_17 1)) else none)) else none)) else (some (bXor .u32 a_15 b_2)))
def crc_Join.l0 (n : Nat) (a_1 : Int) (b_2 : Int) (n_3 : Int) : Nat → (List Int) → Int → Option Int
  | 0, _, _ => none
  | k + 1, f_9, i_10 => (if decide (i_10 < 32) then (if (0 : Int) ≤ (wi64 (i_10 - 1)) then (if (0 : Int) ≤ i_10 ∧ i_10 < (32 : Int) then (if f_9.length = 32 ∧ (0 : Int) ≤ i_10 ∧ i_10 < (f_9.length : Int) then ((crc_Join.l0 n a_1 b_2 n_3 k) (f_9.set i_10.toNat (shL .u32 1 (wi64 (i_10 - 1)))) (wi64 (i_10 + 1))) else none) else none) else none) else (crc_Join.l1 n b_2 n a_1 f_9 (wu64 (8 * (wu64 n_3)))))
def crc_Join.f (n : Nat) (a_1 : Int) (b_2 : Int) (n_3 : Int) : Option Int :=
  (if decide (n_3 < 0) then (some 0) else (if (List.replicate 32 (0 : Int)).length = 32 ∧ (List.replicate 32 (0 : Int)).length = 32 then (if (0 : Int) ≤ (0 : Int) ∧ (0 : Int) < (32 : Int) then (if (List.replicate 32 (0 : Int)).length = 32 ∧ (0 : Int) ≤ (0 : Int) ∧ (0 : Int) < ((List.replicate 32 (0 : Int)).length : Int) then (crc_Join.l0 n a_1 b_2 n_3 n ((List.replicate 32 (0 : Int)).set (0 : Int).toNat 2197175160) 1) else none) else none) else none))

def tontineref02_Join.l1 (n : Nat) (L0 : Int → Int → Option Int) (i_6 : Int) : Nat → Int → Int → Option Int
  | 0, _, _ => none
  | k + 1, a_8, k_9 => (if decide (k_9 < 8) then ((tontineref02_half.f n a_8).bind fun r_11 => ((tontineref02_Join.l1 n L0 i_6 k) r_11 (wi64 (k_9 + 1)))) else (L0 a_8 (wi64 (i_6 + 1))))
def tontineref02_Join.l0 (n : Nat) (b_2 : Int) (n_3 : Int) : Nat → Int → Int → Option Int
  | 0, _, _ => none
  | k + 1, a_5, i_6 => (if decide (i_6 < n_3) then (tontineref02_Join.l1 n (tontineref02_Join.l0 n b_2 n_3 k) i_6 n a_5 0) else (some (bXor .u32 a_5 b_2)))
def tontineref02_Join.f (n : Nat) (a_1 : Int) (b_2 : Int) (n_3 : Int) : Option Int :=
  (if decide (n_3 < 0) then (some 0) else (tontineref02_Join.l0 n b_2 n_3 n a_1 0))

def tontinelaw02_CrcJoins.j0 (n : Nat) (a_1 : Int) (b_2 : Int) (n_7 : Int) : Option Bool :=
  ((crc_Join.f n a_1 b_2 n_7).bind fun r_8 => ((tontineref02_Join.f n a_1 b_2 n_7).bind fun r_9 => (some (r_8 == r_9))))
def tontinelaw02_CrcJoins.f (n : Nat) (a_1 : Int) (b_2 : Int) (n_3 : Int) : Option Bool :=
  ((tontinelaw02_begun.f n).bind fun r_4 => (if (!r_4) then (some false) else (if decide (n_3 > 5000) then (tontinelaw02_CrcJoins.j0 n a_1 b_2 (n_3.tmod 5000)) else (tontinelaw02_CrcJoins.j0 n a_1 b_2 n_3))))

def tontinelaw02_CrcParts.f (n : Nat) (a_1 : (List UInt8)) (b_4 : (List UInt8)) : Option Bool :=
  ((tontinelaw02_begun.f n).bind fun r_7 => (if (!r_7) then (some false) else (if capOk 1 (([] : List UInt8) ++ a_1).length then (if capOk 1 ((([] : List UInt8) ++ a_1) ++ b_4).length then ((crc_Sum.f n ((([] : List UInt8) ++ a_1) ++ b_4)).bind fun r_15 => ((crc_Sum.f n a_1).bind fun r_16 => ((crc_Add.f n r_16 b_4).bind fun r_17 => (if (r_15 == r_17) then ((crc_Sum.f n ((([] : List UInt8) ++ a_1) ++ b_4)).bind fun r_19 => ((crc_Sum.f n a_1).bind fun r_20 => ((crc_Sum.f n b_4).bind fun r_21 => ((crc_Join.f n r_20 r_21 (b_4.length : Int)).bind fun r_22 => (some (r_19 == r_22)))))) else (some false))))) else none) else none)))

def tontinelaw02_CrcMany.l1 (n : Nat) (l_1 : (List (List UInt8))) (whole_6 : (List UInt8)) (left_9 : Int) : Nat → Int → Int → Int → Option Bool
  | 0, _, _, _ => none
  | k + 1, right_22, n_23, i_24 => (if decide (i_24 ≥ 0) then (if (0 : Int) ≤ i_24 ∧ i_24 < (l_1.length : Int) then ((crc_Sum.f n (rdL l_1 i_24)).bind fun r_29 => ((crc_Join.f n r_29 right_22 n_23).bind fun r_30 => (if (0 : Int) ≤ i_24 ∧ i_24 < (l_1.length : Int) then ((tontinelaw02_CrcMany.l1 n l_1 whole_6 left_9 k) r_30 (wi64 (n_23 + ((rdL l_1 i_24).length : Int))) (wi64 (i_24 - 1))) else none))) else none) else ((crc_Sum.f n whole_6).bind fun r_36 => (if (r_36 == left_9) then (some (left_9 == right_22)) else (some false))))
def tontinelaw02_CrcMany.l0 (n : Nat) (l_1 : (List (List UInt8))) : Nat → (List UInt8) → Int → Int → Option Bool
  | 0, _, _, _ => none
  | k + 1, whole_6, left_9, x_10 => (if decide (x_10 < (l_1.length : Int)) then (if (0 : Int) ≤ x_10 ∧ x_10 < (l_1.length : Int) then (if capOk 1 (whole_6 ++ (rdL l_1 x_10)).length then ((crc_Sum.f n (rdL l_1 x_10)).bind fun r_18 => ((crc_Join.f n left_9 r_18 ((rdL l_1 x_10).length : Int)).bind fun r_19 => ((tontinelaw02_CrcMany.l0 n l_1 k) (whole_6 ++ (rdL l_1 x_10)) r_19 (wi64 (x_10 + 1))))) else none) else none) else (tontinelaw02_CrcMany.l1 n l_1 whole_6 left_9 n 0 0 (wi64 ((l_1.length : Int) - 1))))
def tontinelaw02_CrcMany.f (n : Nat) (l_1 : (List (List UInt8))) : Option Bool :=
  ((tontinelaw02_begun.f n).bind fun r_4 => (if (!r_4) then (some false) else (tontinelaw02_CrcMany.l0 n l_1 n ([] : List UInt8) 0 0)))
end Go.GL
