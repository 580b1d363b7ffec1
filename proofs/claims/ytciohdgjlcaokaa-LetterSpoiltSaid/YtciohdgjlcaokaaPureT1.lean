import Derived.Test.YtciohdgjlcaokaaG17
set_option linter.unusedVariables false
namespace Go.GL
open Go

structure T_api_Entry where
  Term : Int
  Index : Int
  Kind : Int
  Data : (List UInt8)
  deriving DecidableEq
instance : Inhabited T_api_Entry := ⟨⟨0, 0, 0, []⟩⟩
structure T_api_Letter where
  Kind : Int
  From : Int
  To : Int
  Term : Int
  Index : Int
  Prev : Int
  Commit : Int
  Ok : Bool
  Entries : (List T_api_Entry)
  Data : (List UInt8)
  deriving DecidableEq
instance : Inhabited T_api_Letter := ⟨⟨0, 0, 0, 0, 0, 0, 0, false, [], []⟩⟩
structure T_pack_Writer where
  b : (List UInt8)
  deriving DecidableEq
instance : Inhabited T_pack_Writer := ⟨⟨[]⟩⟩
structure T_pack_Reader where
  s : (List UInt8)
  bad : Bool
  deriving DecidableEq
instance : Inhabited T_pack_Reader := ⟨⟨[], false⟩⟩
structure T_tontineref03_Reader where
  S_ : (List UInt8)
  Bad : Bool
  deriving DecidableEq
instance : Inhabited T_tontineref03_Reader := ⟨⟨[], false⟩⟩

def letter_May.j2 (n : Nat) (L0 : Int → Option Bool) (x_17 : Int) (b_23 : Bool) : Option Bool :=
  (if b_23 then (some false) else (L0 (wi64 (x_17 + 1))))
def letter_May.l0 (n : Nat) (x_1 : T_api_Letter) : Nat → Int → Option Bool
  | 0, _ => none
  | k + 1, x_17 => (if decide (x_17 < (x_1.Entries.length : Int)) then (if (0 : Int) ≤ x_17 ∧ x_17 < (x_1.Entries.length : Int) then (if decide (((rdL x_1.Entries x_17).Kind) < 0) then (letter_May.j2 n (letter_May.l0 n x_1 k) x_17 true) else (if decide (((rdL x_1.Entries x_17).Kind) > 2) then (letter_May.j2 n (letter_May.l0 n x_1 k) x_17 true) else (letter_May.j2 n (letter_May.l0 n x_1 k) x_17 (decide ((((rdL x_1.Entries x_17).Data).length : Int) > 65536))))) else none) else (some true))
def letter_May.j1 (n : Nat) (x_1 : T_api_Letter) (b_15 : Bool) : Option Bool :=
  (if b_15 then (some false) else (letter_May.l0 n x_1 n 0))
def letter_May.j0 (n : Nat) (x_1 : T_api_Letter) (b_12 : Bool) : Option Bool :=
  (if b_12 then (some false) else (if decide ((x_1.Entries.length : Int) > 0) then (letter_May.j1 n x_1 (x_1.Kind != 3)) else (letter_May.j1 n x_1 false)))
def letter_May.f (n : Nat) (x_1 : T_api_Letter) : Option Bool :=
  (if decide (x_1.Kind < 1) then (letter_May.j0 n x_1 true) else (if decide (x_1.Kind > 9) then (letter_May.j0 n x_1 true) else (if decide (x_1.From < 0) then (letter_May.j0 n x_1 true) else (if decide (x_1.From > 255) then (letter_May.j0 n x_1 true) else (if decide (x_1.To < 0) then (letter_May.j0 n x_1 true) else (if decide (x_1.To > 255) then (letter_May.j0 n x_1 true) else (if decide ((x_1.Entries.length : Int) > 8) then (letter_May.j0 n x_1 true) else (letter_May.j0 n x_1 (decide ((x_1.Data.length : Int) > 65536))))))))))

def pack_Writer_Num.l1 (n : Nat) (x_5 : Int) : Nat → (List UInt8) → Int → Option T_pack_Writer
  | 0, _, _ => none
  | k + 1, f_14, i_17 => (if decide (i_17 ≥ 0) then (if (0 : Int) ≤ (wi64 (8 * i_17)) then (if capOk 1 (f_14 ++ [u8of (shR .u64 x_5 (wi64 (8 * i_17)))]).length then ((pack_Writer_Num.l1 n x_5 k) (f_14 ++ [u8of (shR .u64 x_5 (wi64 (8 * i_17)))]) (wi64 (i_17 - 1))) else none) else none) else (some (⟨f_14⟩ : T_pack_Writer)))
def pack_Writer_Num.l0 (n : Nat) (w_1 : T_pack_Writer) (x_5 : Int) : Nat → Int → Int → Option T_pack_Writer
  | 0, _, _ => none
  | k + 1, n_6, y_7 => (if decide (y_7 > 0) then ((pack_Writer_Num.l0 n w_1 x_5 k) (wi64 (n_6 + 1)) (shR .u64 y_7 8)) else (if capOk 1 (w_1.b ++ [u8of n_6]).length then (pack_Writer_Num.l1 n x_5 n (w_1.b ++ [u8of n_6]) (wi64 (n_6 - 1))) else none))
def pack_Writer_Num.f (n : Nat) (w_1 : T_pack_Writer) (x_5 : Int) : Option T_pack_Writer :=
  (pack_Writer_Num.l0 n w_1 x_5 n 0 x_5)

def pack_Writer_Bool.f (n : Nat) (w_1 : T_pack_Writer) (x_5 : Bool) : Option T_pack_Writer :=
  (if x_5 then ((pack_Writer_Num.f n w_1 1).bind fun r_7 => (some r_7)) else ((pack_Writer_Num.f n w_1 0).bind fun r_11 => (some r_11)))

def pack_Writer_Text.f (n : Nat) (w_1 : T_pack_Writer) (s_5 : (List UInt8)) : Option T_pack_Writer :=
  ((pack_Writer_Num.f n w_1 (wu64 (s_5.length : Int))).bind fun r_6 => (if capOk 1 (r_6.b ++ s_5).length then (some (⟨r_6.b ++ s_5⟩ : T_pack_Writer)) else none))

def pack_Writer_Bytes.f (n : Nat) (w_1 : T_pack_Writer) : Option (List UInt8) :=
  (some w_1.b)

def letter_Encode.l0 (n : Nat) (x_1 : T_api_Letter) : Nat → (List UInt8) → Int → Option ((List UInt8) × Int)
  | 0, _, _ => none
  | k + 1, f_35, x_38 => (if decide (x_38 < (x_1.Entries.length : Int)) then (if (0 : Int) ≤ x_38 ∧ x_38 < (x_1.Entries.length : Int) then ((pack_Writer_Num.f n (⟨f_35⟩ : T_pack_Writer) ((rdL x_1.Entries x_38).Term)).bind fun r_42 => ((pack_Writer_Num.f n r_42 ((rdL x_1.Entries x_38).Index)).bind fun r_45 => ((pack_Writer_Num.f n r_45 (wu64 ((rdL x_1.Entries x_38).Kind))).bind fun r_48 => ((pack_Writer_Text.f n r_48 ((rdL x_1.Entries x_38).Data)).bind fun r_51 => ((letter_Encode.l0 n x_1 k) r_51.b (wi64 (x_38 + 1))))))) else none) else ((pack_Writer_Text.f n (⟨f_35⟩ : T_pack_Writer) x_1.Data).bind fun r_58 => ((pack_Writer_Bytes.f n r_58).bind fun r_61 => (some (r_61, 0)))))
def letter_Encode.f (n : Nat) (x_1 : T_api_Letter) : Option ((List UInt8) × Int) :=
  ((letter_May.f n x_1).bind fun r_5 => (if (!r_5) then (some ([], 1)) else ((pack_Writer_Num.f n (⟨[]⟩ : T_pack_Writer) (wu64 x_1.Kind)).bind fun r_8 => ((pack_Writer_Num.f n r_8 (wu64 x_1.From)).bind fun r_11 => ((pack_Writer_Num.f n r_11 (wu64 x_1.To)).bind fun r_14 => ((pack_Writer_Num.f n r_14 x_1.Term).bind fun r_17 => ((pack_Writer_Num.f n r_17 x_1.Index).bind fun r_20 => ((pack_Writer_Num.f n r_20 x_1.Prev).bind fun r_23 => ((pack_Writer_Num.f n r_23 x_1.Commit).bind fun r_26 => ((pack_Writer_Bool.f n r_26 x_1.Ok).bind fun r_29 => ((pack_Writer_Num.f n r_29 (wu64 (x_1.Entries.length : Int))).bind fun r_32 => (letter_Encode.l0 n x_1 n r_32.b 0))))))))))))

def tontinelaw11_begun.f (n : Nat) : Option Bool :=
  ((letter_Encode.f n (⟨2, 0, 1, 3, 0, 0, 0, true, [], []⟩ : T_api_Letter)).bind fun r_1 => (if (r_1.2 == 0) then (some (r_1.1 == ([1, 2, 0, 1, 1, 1, 3, 0, 0, 0, 1, 1, 0, 0] : List UInt8))) else (some false)))

def tontineref11_May.j2 (n : Nat) (L0 : Bool → Int → Option Bool) (x_1 : T_api_Letter) (ok_16 : Bool) (i_17 : Int) (b_19 : Bool) : Option Bool :=
  (if b_19 then (if (0 : Int) ≤ i_17 ∧ i_17 < (x_1.Entries.length : Int) then (if decide (((rdL x_1.Entries i_17).Kind) ≥ 0) then (if decide (((rdL x_1.Entries i_17).Kind) ≤ 2) then (L0 (decide ((((rdL x_1.Entries i_17).Data).length : Int) ≤ 65536)) (wi64 (i_17 + 1))) else (L0 false (wi64 (i_17 + 1)))) else (L0 false (wi64 (i_17 + 1)))) else none) else (some ok_16))
def tontineref11_May.l0 (n : Nat) (x_1 : T_api_Letter) : Nat → Bool → Int → Option Bool
  | 0, _, _ => none
  | k + 1, ok_16, i_17 => (if decide (i_17 < (x_1.Entries.length : Int)) then (tontineref11_May.j2 n (tontineref11_May.l0 n x_1 k) x_1 ok_16 i_17 ok_16) else (tontineref11_May.j2 n (tontineref11_May.l0 n x_1 k) x_1 ok_16 i_17 false))
def tontineref11_May.j1 (n : Nat) (x_1 : T_api_Letter) (ok_12 : Bool) (b_14 : Bool) : Option Bool :=
  (if b_14 then (some false) else (tontineref11_May.l0 n x_1 n ok_12 0))
def tontineref11_May.j0 (n : Nat) (x_1 : T_api_Letter) (ok_12 : Bool) : Option Bool :=
  (if (x_1.Kind != 3) then (tontineref11_May.j1 n x_1 ok_12 (decide ((x_1.Entries.length : Int) > 0))) else (tontineref11_May.j1 n x_1 ok_12 false))
def tontineref11_May.f (n : Nat) (x_1 : T_api_Letter) : Option Bool :=
  (if decide (x_1.Kind ≥ 1) then (if decide (x_1.Kind ≤ 9) then (if decide (x_1.From ≥ 0) then (if decide (x_1.From ≤ 255) then (if decide (x_1.To ≥ 0) then (if decide (x_1.To ≤ 255) then (if decide ((x_1.Entries.length : Int) ≤ 8) then (tontineref11_May.j0 n x_1 (decide ((x_1.Data.length : Int) ≤ 65536))) else (tontineref11_May.j0 n x_1 false)) else (tontineref11_May.j0 n x_1 false)) else (tontineref11_May.j0 n x_1 false)) else (tontineref11_May.j0 n x_1 false)) else (tontineref11_May.j0 n x_1 false)) else (tontineref11_May.j0 n x_1 false)) else (tontineref11_May.j0 n x_1 false))

def tontineref03_Num.l0 (n : Nat) : Nat → Int → (List UInt8) → Int → Option (List UInt8)
  | 0, _, _, _ => none
  | k + 1, x_2, s_3, n_4 => (if decide (x_2 > 0) then (if ([u8of (x_2.tmod 256)] : List UInt8).length + s_3.length ≤ i64max then ((tontineref03_Num.l0 n k) (wu64 (x_2.tdiv 256)) ([u8of (x_2.tmod 256)] ++ s_3) (wi64 (n_4 + 1))) else none) else (if ([u8of n_4] : List UInt8).length + s_3.length ≤ i64max then (some ([u8of n_4] ++ s_3)) else none))
def tontineref03_Num.f (n : Nat) (x_1 : Int) : Option (List UInt8) :=
  (tontineref03_Num.l0 n n x_1 [] 0)

def tontineref03_Text.f (n : Nat) (s_1 : (List UInt8)) : Option (List UInt8) :=
  ((tontineref03_Num.f n (wu64 (s_1.length : Int))).bind fun r_2 => (if r_2.length + s_1.length ≤ i64max then (some (r_2 ++ s_1)) else none))

def tontineref11_Encode.l1 (n : Nat) (x_1 : T_api_Letter) : Nat → (List UInt8) → Int → Option ((List UInt8) × Int)
  | 0, _, _ => none
  | k + 1, s_18, i_19 => (if decide (i_19 < (x_1.Entries.length : Int)) then (if (0 : Int) ≤ i_19 ∧ i_19 < (x_1.Entries.length : Int) then ((tontineref03_Num.f n ((rdL x_1.Entries i_19).Term)).bind fun r_23 => ((tontineref03_Num.f n ((rdL x_1.Entries i_19).Index)).bind fun r_24 => (if r_23.length + r_24.length ≤ i64max then ((tontineref03_Num.f n (wu64 ((rdL x_1.Entries i_19).Kind))).bind fun r_26 => (if (r_23 ++ r_24).length + r_26.length ≤ i64max then ((tontineref03_Text.f n ((rdL x_1.Entries i_19).Data)).bind fun r_28 => (if ((r_23 ++ r_24) ++ r_26).length + r_28.length ≤ i64max then (if s_18.length + (((r_23 ++ r_24) ++ r_26) ++ r_28).length ≤ i64max then ((tontineref11_Encode.l1 n x_1 k) (s_18 ++ (((r_23 ++ r_24) ++ r_26) ++ r_28)) (wi64 (i_19 + 1))) else none) else none)) else none)) else none))) else none) else ((tontineref03_Text.f n x_1.Data).bind fun r_35 => (if s_18.length + r_35.length ≤ i64max then (some (s_18 ++ r_35, 0)) else none)))
def tontineref11_Encode.l0 (n : Nat) (x_1 : T_api_Letter) (truth_8 : Int) : Nat → (List UInt8) → Int → Option ((List UInt8) × Int)
  | 0, _, _ => none
  | k + 1, s_11, i_12 => (if decide (i_12 < ([wu64 x_1.Kind, wu64 x_1.From, wu64 x_1.To, x_1.Term, x_1.Index, x_1.Prev, x_1.Commit, truth_8, wu64 (x_1.Entries.length : Int)].length : Int)) then (if (0 : Int) ≤ i_12 ∧ i_12 < ([wu64 x_1.Kind, wu64 x_1.From, wu64 x_1.To, x_1.Term, x_1.Index, x_1.Prev, x_1.Commit, truth_8, wu64 (x_1.Entries.length : Int)].length : Int) then ((tontineref03_Num.f n (rdL [wu64 x_1.Kind, wu64 x_1.From, wu64 x_1.To, x_1.Term, x_1.Index, x_1.Prev, x_1.Commit, truth_8, wu64 (x_1.Entries.length : Int)] i_12)).bind fun r_15 => (if s_11.length + r_15.length ≤ i64max then ((tontineref11_Encode.l0 n x_1 truth_8 k) (s_11 ++ r_15) (wi64 (i_12 + 1))) else none)) else none) else (tontineref11_Encode.l1 n x_1 n s_11 0))
def tontineref11_Encode.j0 (n : Nat) (x_1 : T_api_Letter) (truth_8 : Int) : Option ((List UInt8) × Int) :=
  (tontineref11_Encode.l0 n x_1 truth_8 n [] 0)
def tontineref11_Encode.f (n : Nat) (x_1 : T_api_Letter) : Option ((List UInt8) × Int) :=
  ((tontineref11_May.f n x_1).bind fun r_5 => (if (!r_5) then (some ([], 1)) else (if x_1.Ok then (tontineref11_Encode.j0 n x_1 1) else (tontineref11_Encode.j0 n x_1 0))))

def tontinelaw11_LetterEncodes.f (n : Nat) (x_1 : T_api_Letter) : Option Bool :=
  ((tontinelaw11_begun.f n).bind fun r_5 => (if (!r_5) then (some false) else ((letter_Encode.f n x_1).bind fun r_7 => ((tontineref11_Encode.f n x_1).bind fun r_8 => (if (r_7.1 == r_8.1) then (if (r_7.2 == r_8.2) then ((letter_May.f n x_1).bind fun r_11 => (some (r_11 == (r_8.2 == 0)))) else (some false)) else (some false))))))

def pack_From.f (n : Nat) (s_1 : (List UInt8)) : Option T_pack_Reader :=
  (some (⟨s_1, false⟩ : T_pack_Reader))

def pack_Reader_fail.f (n : Nat) (r_1 : T_pack_Reader) : Option (Int × T_pack_Reader) :=
  (some (0, (⟨[], true⟩ : T_pack_Reader)))

def pack_Reader_Num.l0 (n : Nat) (r_1 : T_pack_Reader) : Nat → Int → Int → Option (Int × T_pack_Reader)
  | 0, _, _ => none
  | k + 1, x_15, i_16 => (if decide (i_16 ≤ (wi64 ((rdB r_1.s 0).toNat : Int))) then (if (0 : Int) ≤ i_16 ∧ i_16 < (r_1.s.length : Int) then ((pack_Reader_Num.l0 n r_1 k) (bOr .u64 (shL .u64 x_15 8) (wu64 ((rdB r_1.s i_16).toNat : Int))) (wi64 (i_16 + 1))) else none) else (if (0 : Int) ≤ (wi64 ((wi64 ((rdB r_1.s 0).toNat : Int)) + 1)) ∧ (wi64 ((wi64 ((rdB r_1.s 0).toNat : Int)) + 1)) ≤ (r_1.s.length : Int) then (some (x_15, (⟨r_1.s.drop (wi64 ((wi64 ((rdB r_1.s 0).toNat : Int)) + 1)).toNat, r_1.bad⟩ : T_pack_Reader))) else none))
def pack_Reader_Num.j0 (n : Nat) (r_1 : T_pack_Reader) (b_11 : Bool) : Option (Int × T_pack_Reader) :=
  (if b_11 then ((pack_Reader_fail.f n r_1).bind fun r_13 => (some (r_13.1, r_13.2))) else (pack_Reader_Num.l0 n r_1 n 0 1))
def pack_Reader_Num.f (n : Nat) (r_1 : T_pack_Reader) : Option (Int × T_pack_Reader) :=
  (if (r_1.s == ([] : List UInt8)) then ((pack_Reader_fail.f n r_1).bind fun r_4 => (some (r_4.1, r_4.2))) else (if (0 : Int) ≤ 0 ∧ 0 < (r_1.s.length : Int) then (if decide ((wi64 ((rdB r_1.s 0).toNat : Int)) > 8) then (pack_Reader_Num.j0 n r_1 true) else (if decide ((wi64 ((rdB r_1.s 0).toNat : Int)) > (wi64 ((r_1.s.length : Int) - 1))) then (pack_Reader_Num.j0 n r_1 true) else (if decide ((wi64 ((rdB r_1.s 0).toNat : Int)) > 0) then (if (0 : Int) ≤ 1 ∧ 1 < (r_1.s.length : Int) then (pack_Reader_Num.j0 n r_1 (((rdB r_1.s 1).toNat : Int) == 0)) else none) else (pack_Reader_Num.j0 n r_1 false)))) else none))

def pack_Reader_Up.j0 (n : Nat) (r_4 : Int × T_pack_Reader) (b_6 : Bool) : Option (Int × T_pack_Reader) :=
  (if b_6 then ((pack_Reader_fail.f n r_4.2).bind fun r_8 => (some (wi64 r_8.1, r_8.2))) else (some (wi64 r_4.1, r_4.2)))
def pack_Reader_Up.f (n : Nat) (r_1 : T_pack_Reader) (limit_3 : Int) : Option (Int × T_pack_Reader) :=
  ((pack_Reader_Num.f n r_1).bind fun r_4 => (if decide (limit_3 < 0) then (pack_Reader_Up.j0 n r_4 true) else (pack_Reader_Up.j0 n r_4 (decide (r_4.1 > (wu64 limit_3))))))

def pack_Reader_Bool.f (n : Nat) (r_1 : T_pack_Reader) : Option (Bool × T_pack_Reader) :=
  ((pack_Reader_Up.f n r_1 1).bind fun r_3 => (some ((r_3.1 == 1), r_3.2)))

def pack_Reader_Text.f (n : Nat) (r_1 : T_pack_Reader) (limit_3 : Int) : Option ((List UInt8) × T_pack_Reader) :=
  ((pack_Reader_Up.f n r_1 limit_3).bind fun r_4 => (if decide (r_4.1 > (r_4.2.s.length : Int)) then ((pack_Reader_fail.f n r_4.2).bind fun r_6 => (some ([], r_6.2))) else (if (0 : Int) ≤ r_4.1 ∧ r_4.1 ≤ (r_4.2.s.length : Int) then (if (0 : Int) ≤ r_4.1 ∧ r_4.1 ≤ (r_4.2.s.length : Int) then (some (r_4.2.s.take r_4.1.toNat, (⟨r_4.2.s.drop r_4.1.toNat, r_4.2.bad⟩ : T_pack_Reader))) else none) else none)))

def pack_Reader_Left.f (n : Nat) (r_1 : T_pack_Reader) : Option (Int × Bool) :=
  (some ((r_1.s.length : Int), (!r_1.bad)))

def pack_Reader_Done.f (n : Nat) (r_1 : T_pack_Reader) : Option Bool :=
  ((pack_Reader_Left.f n r_1).bind fun r_3 => (if (r_3.1 == 0) then (some r_3.2) else (some false)))

def letter_Decode.l0 (n : Nat) (r_5 : Int × T_pack_Reader) (r_6 : Int × T_pack_Reader) (r_7 : Int × T_pack_Reader) (r_8 : Int × T_pack_Reader) (r_9 : Int × T_pack_Reader) (r_10 : Int × T_pack_Reader) (r_11 : Int × T_pack_Reader) (r_12 : Bool × T_pack_Reader) : Nat → (List UInt8) → Bool → (List T_api_Entry) → Int → Option (T_api_Letter × Int)
  | 0, _, _, _, _ => none
  | k + 1, f_15, f_16, f_17, n_20 => (if decide (n_20 > 0) then ((pack_Reader_Num.f n (⟨f_15, f_16⟩ : T_pack_Reader)).bind fun r_22 => ((pack_Reader_Num.f n r_22.2).bind fun r_23 => ((pack_Reader_Up.f n r_23.2 2).bind fun r_24 => ((pack_Reader_Text.f n r_24.2 65536).bind fun r_25 => (if capOk 40 (f_17 ++ [(⟨r_22.1, r_23.1, r_24.1, r_25.1⟩ : T_api_Entry)]).length then ((letter_Decode.l0 n r_5 r_6 r_7 r_8 r_9 r_10 r_11 r_12 k) r_25.2.s r_25.2.bad (f_17 ++ [(⟨r_22.1, r_23.1, r_24.1, r_25.1⟩ : T_api_Entry)]) (wi64 (n_20 - 1))) else none))))) else ((pack_Reader_Text.f n (⟨f_15, f_16⟩ : T_pack_Reader) 65536).bind fun r_36 => ((pack_Reader_Done.f n r_36.2).bind fun r_37 => (if (!r_37) then (some ((⟨0, 0, 0, 0, 0, 0, 0, false, [], []⟩ : T_api_Letter), 2)) else ((letter_May.f n (⟨r_5.1, r_6.1, r_7.1, r_8.1, r_9.1, r_10.1, r_11.1, r_12.1, f_17, r_36.1⟩ : T_api_Letter)).bind fun r_39 => (if (!r_39) then (some ((⟨0, 0, 0, 0, 0, 0, 0, false, [], []⟩ : T_api_Letter), 2)) else (some ((⟨r_5.1, r_6.1, r_7.1, r_8.1, r_9.1, r_10.1, r_11.1, r_12.1, f_17, r_36.1⟩ : T_api_Letter), 0))))))))
def letter_Decode.f (n : Nat) (s_1 : (List UInt8)) : Option (T_api_Letter × Int) :=
  ((pack_From.f n s_1).bind fun r_3 => ((pack_Reader_Up.f n r_3 9).bind fun r_5 => ((pack_Reader_Up.f n r_5.2 255).bind fun r_6 => ((pack_Reader_Up.f n r_6.2 255).bind fun r_7 => ((pack_Reader_Num.f n r_7.2).bind fun r_8 => ((pack_Reader_Num.f n r_8.2).bind fun r_9 => ((pack_Reader_Num.f n r_9.2).bind fun r_10 => ((pack_Reader_Num.f n r_10.2).bind fun r_11 => ((pack_Reader_Bool.f n r_11.2).bind fun r_12 => ((pack_Reader_Up.f n r_12.2 8).bind fun r_14 => (letter_Decode.l0 n r_5 r_6 r_7 r_8 r_9 r_10 r_11 r_12 n r_14.2.s r_14.2.bad ([] : List T_api_Entry) r_14.1)))))))))))

def tontineref03_Reader_Fail.f (n : Nat) (r_1 : T_tontineref03_Reader) : Option T_tontineref03_Reader :=
  (some (⟨[], true⟩ : T_tontineref03_Reader))

def tontineref03_Reader_Num.l0 (n : Nat) (r_1 : T_tontineref03_Reader) (n_5 : Int) : Nat → Int → Int → Option (Int × T_tontineref03_Reader)
  | 0, _, _ => none
  | k + 1, x_15, i_16 => (if decide (i_16 ≤ n_5) then (if (0 : Int) ≤ i_16 ∧ i_16 < (r_1.S_.length : Int) then ((tontineref03_Reader_Num.l0 n r_1 n_5 k) (wu64 ((wu64 (256 * x_15)) + (wu64 ((rdB r_1.S_ i_16).toNat : Int)))) (wi64 (i_16 + 1))) else none) else (if (0 : Int) ≤ (wi64 (n_5 + 1)) ∧ (wi64 (n_5 + 1)) ≤ (r_1.S_.length : Int) then (some (x_15, (⟨r_1.S_.drop (wi64 (n_5 + 1)).toNat, r_1.Bad⟩ : T_tontineref03_Reader))) else none))
def tontineref03_Reader_Num.j1 (n : Nat) (r_1 : T_tontineref03_Reader) (n_5 : Int) (b_11 : Bool) : Option (Int × T_tontineref03_Reader) :=
  (if b_11 then ((tontineref03_Reader_Fail.f n r_1).bind fun r_13 => (some (0, r_13))) else (tontineref03_Reader_Num.l0 n r_1 n_5 n 0 1))
def tontineref03_Reader_Num.j0 (n : Nat) (r_1 : T_tontineref03_Reader) (n_5 : Int) : Option (Int × T_tontineref03_Reader) :=
  (if decide (n_5 < 0) then (tontineref03_Reader_Num.j1 n r_1 n_5 true) else (if decide (n_5 > 8) then (tontineref03_Reader_Num.j1 n r_1 n_5 true) else (if decide ((r_1.S_.length : Int) < (wi64 (n_5 + 1))) then (tontineref03_Reader_Num.j1 n r_1 n_5 true) else (if decide (n_5 > 0) then (if (0 : Int) ≤ 1 ∧ 1 < (r_1.S_.length : Int) then (tontineref03_Reader_Num.j1 n r_1 n_5 (((rdB r_1.S_ 1).toNat : Int) == 0)) else none) else (tontineref03_Reader_Num.j1 n r_1 n_5 false)))))
def tontineref03_Reader_Num.f (n : Nat) (r_1 : T_tontineref03_Reader) : Option (Int × T_tontineref03_Reader) :=
  (if decide ((r_1.S_.length : Int) > 0) then (if (0 : Int) ≤ 0 ∧ 0 < (r_1.S_.length : Int) then (tontineref03_Reader_Num.j0 n r_1 (wi64 ((rdB r_1.S_ 0).toNat : Int))) else none) else (tontineref03_Reader_Num.j0 n r_1 (-1)))

def tontineref03_Reader_Up.j0 (n : Nat) (r_4 : Int × T_tontineref03_Reader) (b_6 : Bool) : Option (Int × T_tontineref03_Reader) :=
  (if b_6 then ((tontineref03_Reader_Fail.f n r_4.2).bind fun r_8 => (some (0, r_8))) else (some (wi64 r_4.1, r_4.2)))
def tontineref03_Reader_Up.f (n : Nat) (r_1 : T_tontineref03_Reader) (limit_3 : Int) : Option (Int × T_tontineref03_Reader) :=
  ((tontineref03_Reader_Num.f n r_1).bind fun r_4 => (if decide (limit_3 < 0) then (tontineref03_Reader_Up.j0 n r_4 true) else (tontineref03_Reader_Up.j0 n r_4 (decide (r_4.1 > (wu64 limit_3))))))

def tontineref03_Reader_Text.f (n : Nat) (r_1 : T_tontineref03_Reader) (limit_3 : Int) : Option ((List UInt8) × T_tontineref03_Reader) :=
  ((tontineref03_Reader_Up.f n r_1 limit_3).bind fun r_4 => (if decide (r_4.1 > (r_4.2.S_.length : Int)) then ((tontineref03_Reader_Fail.f n r_4.2).bind fun r_6 => (some ([], r_6))) else (if (0 : Int) ≤ r_4.1 ∧ r_4.1 ≤ (r_4.2.S_.length : Int) then (if (0 : Int) ≤ r_4.1 ∧ r_4.1 ≤ (r_4.2.S_.length : Int) then (some (r_4.2.S_.take r_4.1.toNat, (⟨r_4.2.S_.drop r_4.1.toNat, r_4.2.Bad⟩ : T_tontineref03_Reader))) else none) else none)))

def tontineref11_Decode.j0 (n : Nat) (r_4 : Int × T_tontineref03_Reader) (r_6 : Int × T_tontineref03_Reader) (r_7 : Int × T_tontineref03_Reader) (r_8 : Int × T_tontineref03_Reader) (r_9 : Int × T_tontineref03_Reader) (r_10 : Int × T_tontineref03_Reader) (r_11 : Int × T_tontineref03_Reader) (r_12 : Int × T_tontineref03_Reader) (f_16 : (List T_api_Entry)) (r_35 : (List UInt8) × T_tontineref03_Reader) (b_40 : Bool) : Option (T_api_Letter × Int) :=
  (if b_40 then (some ((⟨0, 0, 0, 0, 0, 0, 0, false, [], []⟩ : T_api_Letter), 2)) else (some ((⟨r_4.1, r_6.1, r_7.1, r_8.1, r_9.1, r_10.1, r_11.1, (r_12.1 == 1), f_16, r_35.1⟩ : T_api_Letter), 0)))
def tontineref11_Decode.l0 (n : Nat) (s_1 : (List UInt8)) (r_4 : Int × T_tontineref03_Reader) (r_6 : Int × T_tontineref03_Reader) (r_7 : Int × T_tontineref03_Reader) (r_8 : Int × T_tontineref03_Reader) (r_9 : Int × T_tontineref03_Reader) (r_10 : Int × T_tontineref03_Reader) (r_11 : Int × T_tontineref03_Reader) (r_12 : Int × T_tontineref03_Reader) (r_13 : Int × T_tontineref03_Reader) : Nat → (List UInt8) → Bool → (List T_api_Entry) → Int → Option (T_api_Letter × Int)
  | 0, _, _, _, _ => none
  | k + 1, f_14, f_15, f_16, i_19 => (if decide (i_19 < r_13.1) then ((tontineref03_Reader_Num.f n (⟨f_14, f_15⟩ : T_tontineref03_Reader)).bind fun r_21 => ((tontineref03_Reader_Num.f n r_21.2).bind fun r_23 => ((tontineref03_Reader_Up.f n r_23.2 2).bind fun r_24 => ((tontineref03_Reader_Text.f n r_24.2 65536).bind fun r_25 => (if capOk 40 (f_16 ++ [(⟨r_21.1, r_23.1, r_24.1, r_25.1⟩ : T_api_Entry)]).length then ((tontineref11_Decode.l0 n s_1 r_4 r_6 r_7 r_8 r_9 r_10 r_11 r_12 r_13 k) r_25.2.S_ r_25.2.Bad (f_16 ++ [(⟨r_21.1, r_23.1, r_24.1, r_25.1⟩ : T_api_Entry)]) (wi64 (i_19 + 1))) else none))))) else ((tontineref03_Reader_Text.f n (⟨f_14, f_15⟩ : T_tontineref03_Reader) 65536).bind fun r_35 => ((tontineref11_Encode.f n (⟨r_4.1, r_6.1, r_7.1, r_8.1, r_9.1, r_10.1, r_11.1, (r_12.1 == 1), f_16, r_35.1⟩ : T_api_Letter)).bind fun r_36 => (if r_35.2.Bad then (tontineref11_Decode.j0 n r_4 r_6 r_7 r_8 r_9 r_10 r_11 r_12 f_16 r_35 true) else (if (!(r_35.2.S_ == ([] : List UInt8))) then (tontineref11_Decode.j0 n r_4 r_6 r_7 r_8 r_9 r_10 r_11 r_12 f_16 r_35 true) else (if (r_36.2 != 0) then (tontineref11_Decode.j0 n r_4 r_6 r_7 r_8 r_9 r_10 r_11 r_12 f_16 r_35 true) else (tontineref11_Decode.j0 n r_4 r_6 r_7 r_8 r_9 r_10 r_11 r_12 f_16 r_35 (!(r_36.1 == s_1)))))))))
def tontineref11_Decode.f (n : Nat) (s_1 : (List UInt8)) : Option (T_api_Letter × Int) :=
  ((tontineref03_Reader_Up.f n (⟨s_1, false⟩ : T_tontineref03_Reader) 9).bind fun r_4 => ((tontineref03_Reader_Up.f n r_4.2 255).bind fun r_6 => ((tontineref03_Reader_Up.f n r_6.2 255).bind fun r_7 => ((tontineref03_Reader_Num.f n r_7.2).bind fun r_8 => ((tontineref03_Reader_Num.f n r_8.2).bind fun r_9 => ((tontineref03_Reader_Num.f n r_9.2).bind fun r_10 => ((tontineref03_Reader_Num.f n r_10.2).bind fun r_11 => ((tontineref03_Reader_Up.f n r_11.2 1).bind fun r_12 => ((tontineref03_Reader_Up.f n r_12.2 8).bind fun r_13 => (tontineref11_Decode.l0 n s_1 r_4 r_6 r_7 r_8 r_9 r_10 r_11 r_12 r_13 n r_13.2.S_ r_13.2.Bad ([] : List T_api_Entry) 0))))))))))

def tontineref07_Same.l0 (n : Nat) (a_1 : (List T_api_Entry)) (b_4 : (List T_api_Entry)) : Nat → Int → Option Bool
  | 0, _ => none
  | k + 1, i_8 => (if decide (i_8 < (a_1.length : Int)) then (if (0 : Int) ≤ i_8 ∧ i_8 < (a_1.length : Int) then (if (0 : Int) ≤ i_8 ∧ i_8 < (b_4.length : Int) then (if (!((((rdL a_1 i_8).Term) == ((rdL b_4 i_8).Term)) && ((((rdL a_1 i_8).Index) == ((rdL b_4 i_8).Index)) && ((((rdL a_1 i_8).Kind) == ((rdL b_4 i_8).Kind)) && ((((rdL a_1 i_8).Data) == ((rdL b_4 i_8).Data)) && true))))) then (some false) else ((tontineref07_Same.l0 n a_1 b_4 k) (wi64 (i_8 + 1)))) else none) else none) else (some true))
def tontineref07_Same.f (n : Nat) (a_1 : (List T_api_Entry)) (b_4 : (List T_api_Entry)) : Option Bool :=
  (if ((a_1.length : Int) != (b_4.length : Int)) then (some false) else (tontineref07_Same.l0 n a_1 b_4 n 0))

def tontineref10_Same.f (n : Nat) (a_1 : T_api_Letter) (b_4 : T_api_Letter) : Option Bool :=
  (if (a_1.Kind == b_4.Kind) then (if (a_1.From == b_4.From) then (if (a_1.To == b_4.To) then (if (a_1.Term == b_4.Term) then (if (a_1.Index == b_4.Index) then (if (a_1.Prev == b_4.Prev) then (if (a_1.Commit == b_4.Commit) then (if (a_1.Ok == b_4.Ok) then (if (a_1.Data == b_4.Data) then ((tontineref07_Same.f n a_1.Entries b_4.Entries).bind fun r_18 => (some r_18)) else (some false)) else (some false)) else (some false)) else (some false)) else (some false)) else (some false)) else (some false)) else (some false)) else (some false))

def tontinelaw11_LetterDecodes.f (n : Nat) (s_1 : (List UInt8)) : Option Bool :=
  ((tontinelaw11_begun.f n).bind fun r_2 => (if (!r_2) then (some false) else (if decide ((s_1.length : Int) > 100000) then (some true) else ((letter_Decode.f n s_1).bind fun r_5 => ((tontineref11_Decode.f n s_1).bind fun r_9 => (if (r_5.2 == r_9.2) then ((tontineref10_Same.f n r_5.1 r_9.1).bind fun r_14 => (some r_14)) else (some false)))))))

def tontinelaw11_LetterBack.j0 (n : Nat) (b_10 : Bool) : Option Bool :=
  (some b_10)
def tontinelaw11_LetterBack.f (n : Nat) (x_1 : T_api_Letter) : Option Bool :=
  ((tontinelaw11_begun.f n).bind fun r_5 => (if (!r_5) then (some false) else ((letter_Encode.f n x_1).bind fun r_7 => (if (r_7.2 != 0) then (if (r_7.2 == 1) then (tontinelaw11_LetterBack.j0 n (r_7.1 == ([] : List UInt8))) else (tontinelaw11_LetterBack.j0 n false)) else ((letter_Decode.f n r_7.1).bind fun r_11 => (if r_7.1.length + ([0] : List UInt8).length ≤ i64max then ((letter_Decode.f n (r_7.1 ++ [0])).bind fun r_16 => (if (0 : Int) ≤ (wi64 ((r_7.1.length : Int) - 1)) ∧ (wi64 ((r_7.1.length : Int) - 1)) ≤ (r_7.1.length : Int) then ((letter_Decode.f n (r_7.1.take (wi64 ((r_7.1.length : Int) - 1)).toNat)).bind fun r_21 => (if (r_11.2 == 0) then ((tontineref10_Same.f n x_1 r_11.1).bind fun r_26 => (if r_26 then (if (r_16.2 == 2) then (some (r_21.2 == 2)) else (some false)) else (some false))) else (some false))) else none)) else none))))))

def tontinelaw11_LetterOne.j0 (n : Nat) (b_11 : Bool) : Option Bool :=
  (some b_11)
def tontinelaw11_LetterOne.f (n : Nat) (s_1 : (List UInt8)) : Option Bool :=
  ((tontinelaw11_begun.f n).bind fun r_2 => (if (!r_2) then (some false) else ((letter_Decode.f n s_1).bind fun r_4 => (if (r_4.2 != 0) then (if (r_4.2 == 2) then ((tontineref10_Same.f n r_4.1 (⟨0, 0, 0, 0, 0, 0, 0, false, [], []⟩ : T_api_Letter)).bind fun r_10 => (tontinelaw11_LetterOne.j0 n r_10)) else (tontinelaw11_LetterOne.j0 n false)) else ((letter_Encode.f n r_4.1).bind fun r_12 => (if (r_12.2 == 0) then (if (s_1 == r_12.1) then ((letter_May.f n r_4.1).bind fun r_15 => (some r_15)) else (some false)) else (some false)))))))

def tontinelaw11_LetterSpoilt.j0 (n : Nat) (x_1 : T_api_Letter) (at_4 : Int) (by_5 : UInt8) (r_9 : (List UInt8) × Int) (b_11 : Bool) : Option Bool :=
  (if b_11 then (some true) else (if (r_9.1.length : Int) ≠ 0 then (if (0 : Int) ≤ ((wi64 ((at_4.tmod (r_9.1.length : Int)) + (r_9.1.length : Int))).tmod (r_9.1.length : Int)) ∧ ((wi64 ((at_4.tmod (r_9.1.length : Int)) + (r_9.1.length : Int))).tmod (r_9.1.length : Int)) < (r_9.1.length : Int) then (if (0 : Int) ≤ ((wi64 ((at_4.tmod (r_9.1.length : Int)) + (r_9.1.length : Int))).tmod (r_9.1.length : Int)) ∧ ((wi64 ((at_4.tmod (r_9.1.length : Int)) + (r_9.1.length : Int))).tmod (r_9.1.length : Int)) < (r_9.1.length : Int) then ((letter_Decode.f n (r_9.1.set (((wi64 ((at_4.tmod (r_9.1.length : Int)) + (r_9.1.length : Int))).tmod (r_9.1.length : Int)).toNat) (u8of (bXor .u8 (((rdL r_9.1 ((wi64 ((at_4.tmod (r_9.1.length : Int)) + (r_9.1.length : Int))).tmod (r_9.1.length : Int)))).toNat : Int) ((by_5).toNat : Int))))).bind fun r_18 => (if (r_18.2 == 2) then (some true) else (if (r_18.2 == 0) then ((tontineref10_Same.f n x_1 r_18.1).bind fun r_24 => (if (!r_24) then ((letter_May.f n r_18.1).bind fun r_26 => (some r_26)) else (some false))) else (some false)))) else none) else none) else none))
def tontinelaw11_LetterSpoilt.f (n : Nat) (x_1 : T_api_Letter) (at_4 : Int) (by_5 : UInt8) : Option Bool :=
  ((tontinelaw11_begun.f n).bind fun r_7 => (if (!r_7) then (some false) else ((letter_Encode.f n x_1).bind fun r_9 => (if (r_9.2 != 0) then (tontinelaw11_LetterSpoilt.j0 n x_1 at_4 by_5 r_9 true) else (tontinelaw11_LetterSpoilt.j0 n x_1 at_4 by_5 r_9 (((by_5).toNat : Int) == 0))))))
end Go.GL
