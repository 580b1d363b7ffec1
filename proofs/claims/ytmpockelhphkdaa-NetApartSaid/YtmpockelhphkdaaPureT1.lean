import Derived.Test.YtmpockelhphkdaaG19
set_option linter.unusedVariables false
namespace Go.GL
open Go

structure T_api_Entry where
  Term : Int
  Index : Int
  Kind : Int
  Data : (List UInt8)
  deriving DecidableEq
instance : Inhabited T_api_Entry := ⟨⟨0, 0, 0, []⟩⟩
structure T_api_Letter where
  Kind : Int
  From : Int
  To : Int
  Term : Int
  Index : Int
  Prev : Int
  Commit : Int
  Ok : Bool
  Entries : (List T_api_Entry)
  Data : (List UInt8)
  deriving DecidableEq
instance : Inhabited T_api_Letter := ⟨⟨0, 0, 0, 0, 0, 0, 0, false, [], []⟩⟩
structure T_net_Net where
  l : (List T_api_Letter)
  lost : Int
  deriving DecidableEq
instance : Inhabited T_net_Net := ⟨⟨[], 0⟩⟩
structure T_tontinelaw10_Call where
  Kind : Int
  I : Int
  Letter : T_api_Letter
  deriving DecidableEq
instance : Inhabited T_tontinelaw10_Call := ⟨⟨0, 0, ⟨0, 0, 0, 0, 0, 0, 0, false, [], []⟩⟩⟩
structure T_tontineref10_Net where
  L : (List T_api_Letter)
  Lost : Int
  deriving DecidableEq
instance : Inhabited T_tontineref10_Net := ⟨⟨[], 0⟩⟩

def net_New.f (n : Nat) : Option T_net_Net :=
  (some (⟨[], 0⟩ : T_net_Net))

def net_copied.f (n : Nat) (x_1 : T_api_Letter) : Option T_api_Letter :=
  (if capOk 40 (([] : List T_api_Entry) ++ x_1.Entries).length then (some (⟨x_1.Kind, x_1.From, x_1.To, x_1.Term, x_1.Index, x_1.Prev, x_1.Commit, x_1.Ok, ([] : List T_api_Entry) ++ x_1.Entries, x_1.Data⟩ : T_api_Letter)) else none)

def net_Net_Send.f (n : Nat) (n_1 : T_net_Net) (x_5 : T_api_Letter) : Option (Bool × T_net_Net) :=
  (if ((n_1.l.length : Int) == 256) then (some (false, (⟨n_1.l, wi64 (n_1.lost + 1)⟩ : T_net_Net))) else ((net_copied.f n x_5).bind fun r_10 => (if capOk 104 (n_1.l ++ [r_10]).length then (some (true, (⟨n_1.l ++ [r_10], n_1.lost⟩ : T_net_Net))) else none)))

def net_Net_place.f (n : Nat) (n_1 : T_net_Net) (i_5 : Int) : Option Int :=
  (if ((n_1.l.length : Int) == 0) then (some (-1)) else (if (n_1.l.length : Int) ≠ 0 then (if decide ((i_5.tmod (n_1.l.length : Int)) < 0) then (some (wi64 ((i_5.tmod (n_1.l.length : Int)) + (n_1.l.length : Int)))) else (some (i_5.tmod (n_1.l.length : Int)))) else none))

def net_Net_Take.f (n : Nat) (n_1 : T_net_Net) (i_5 : Int) : Option (T_api_Letter × Bool × T_net_Net) :=
  ((net_Net_place.f n n_1 i_5).bind fun r_7 => (if decide (r_7 < 0) then (some ((⟨0, 0, 0, 0, 0, 0, 0, false, [], []⟩ : T_api_Letter), false, n_1)) else (if (0 : Int) ≤ r_7 ∧ r_7 < (n_1.l.length : Int) then (if (0 : Int) ≤ r_7 ∧ r_7 ≤ (n_1.l.length : Int) then (if (0 : Int) ≤ (wi64 (r_7 + 1)) ∧ (wi64 (r_7 + 1)) ≤ (n_1.l.length : Int) ∧ (n_1.l.length : Int) ≤ (n_1.l.length : Int) then (if capOk 104 (n_1.l.take r_7.toNat ++ ((n_1.l.take (n_1.l.length : Int).toNat).drop (wi64 (r_7 + 1)).toNat)).length then (some ((rdL n_1.l r_7), true, (⟨n_1.l.take r_7.toNat ++ ((n_1.l.take (n_1.l.length : Int).toNat).drop (wi64 (r_7 + 1)).toNat), n_1.lost⟩ : T_net_Net))) else none) else none) else none) else none)))

def net_Net_Count.f (n : Nat) (n_1 : T_net_Net) : Option (Int × Int) :=
  (some ((n_1.l.length : Int), n_1.lost))

def tontinelaw10_begun.f (n : Nat) : Option Bool :=
  ((net_New.f n).bind fun r_1 => ((net_Net_Send.f n r_1 (⟨1, 0, 0, 0, 0, 0, 0, false, [], []⟩ : T_api_Letter)).bind fun r_5 => ((net_Net_Send.f n r_5.2 (⟨2, 0, 0, 0, 0, 0, 0, false, [], []⟩ : T_api_Letter)).bind fun r_8 => ((net_Net_Take.f n r_8.2 3).bind fun r_11 => ((net_Net_Count.f n r_11.2.2).bind fun r_17 => (if r_5.1 then (if r_8.1 then (if r_11.2.1 then (if (r_11.1.Kind == 2) then (if (r_17.1 == 1) then (some (r_17.2 == 0)) else (some false)) else (some false)) else (some false)) else (some false)) else (some false)))))))

def tontinelaw10_NetOrder.l1 (n : Nat) (n_1 : Int) (at_2 : Int) : Nat → (List T_api_Letter) → Int → Int → Option Bool
  | 0, _, _, _ => none
  | k + 1, f_29, f_32, x_33 => (if decide (x_33 < (wi64 (((wi64 ((n_1.tmod 256) + 256)).tmod 256) + 1))) then (if (x_33 == ((wi64 ((at_2.tmod (wi64 (((wi64 ((n_1.tmod 256) + 256)).tmod 256) + 1))) + (wi64 (((wi64 ((n_1.tmod 256) + 256)).tmod 256) + 1)))).tmod (wi64 (((wi64 ((n_1.tmod 256) + 256)).tmod 256) + 1)))) then ((tontinelaw10_NetOrder.l1 n n_1 at_2 k) f_29 f_32 (wi64 (x_33 + 1))) else ((net_Net_Take.f n (⟨f_29, f_32⟩ : T_net_Net) 0).bind fun r_36 => (if (!r_36.2.1) then (some false) else (if (r_36.1.Index != (wu64 x_33)) then (some false) else ((tontinelaw10_NetOrder.l1 n n_1 at_2 k) r_36.2.2.l r_36.2.2.lost (wi64 (x_33 + 1))))))) else ((net_Net_Take.f n (⟨f_29, f_32⟩ : T_net_Net) 0).bind fun r_45 => (some (!r_45.2.1))))
def tontinelaw10_NetOrder.j0 (n : Nat) (n_1 : Int) (at_2 : Int) (r_20 : T_api_Letter × Bool × T_net_Net) (b_27 : Bool) : Option Bool :=
  (if b_27 then (some false) else (tontinelaw10_NetOrder.l1 n n_1 at_2 n r_20.2.2.l r_20.2.2.lost 0))
def tontinelaw10_NetOrder.l0 (n : Nat) (n_1 : Int) (at_2 : Int) : Nat → (List T_api_Letter) → Int → Int → Option Bool
  | 0, _, _, _ => none
  | k + 1, f_9, f_12, x_13 => (if decide (x_13 < (wi64 (((wi64 ((n_1.tmod 256) + 256)).tmod 256) + 1))) then ((net_Net_Send.f n (⟨f_9, f_12⟩ : T_net_Net) (⟨1, 0, 0, 0, wu64 x_13, 0, 0, false, [], []⟩ : T_api_Letter)).bind fun r_15 => ((tontinelaw10_NetOrder.l0 n n_1 at_2 k) r_15.2.l r_15.2.lost (wi64 (x_13 + 1)))) else (if (wi64 (((wi64 ((n_1.tmod 256) + 256)).tmod 256) + 1)) ≠ 0 then ((net_Net_Take.f n (⟨f_9, f_12⟩ : T_net_Net) (wi64 (((wi64 ((at_2.tmod (wi64 (((wi64 ((n_1.tmod 256) + 256)).tmod 256) + 1))) + (wi64 (((wi64 ((n_1.tmod 256) + 256)).tmod 256) + 1)))).tmod (wi64 (((wi64 ((n_1.tmod 256) + 256)).tmod 256) + 1))) - (wi64 (((wi64 ((n_1.tmod 256) + 256)).tmod 256) + 1))))).bind fun r_20 => (if (!r_20.2.1) then (tontinelaw10_NetOrder.j0 n n_1 at_2 r_20 true) else (tontinelaw10_NetOrder.j0 n n_1 at_2 r_20 (r_20.1.Index != (wu64 ((wi64 ((at_2.tmod (wi64 (((wi64 ((n_1.tmod 256) + 256)).tmod 256) + 1))) + (wi64 (((wi64 ((n_1.tmod 256) + 256)).tmod 256) + 1)))).tmod (wi64 (((wi64 ((n_1.tmod 256) + 256)).tmod 256) + 1)))))))) else none))
def tontinelaw10_NetOrder.f (n : Nat) (n_1 : Int) (at_2 : Int) : Option Bool :=
  ((tontinelaw10_begun.f n).bind fun r_3 => (if (!r_3) then (some false) else ((net_New.f n).bind fun r_5 => (tontinelaw10_NetOrder.l0 n n_1 at_2 n r_5.l r_5.lost 0))))

def net_Net_Double.f (n : Nat) (n_1 : T_net_Net) (i_5 : Int) : Option (Bool × T_net_Net) :=
  ((net_Net_place.f n n_1 i_5).bind fun r_6 => (if decide (r_6 < 0) then (some (false, n_1)) else (if (0 : Int) ≤ r_6 ∧ r_6 < (n_1.l.length : Int) then ((net_Net_Send.f n n_1 (rdL n_1.l r_6)).bind fun r_11 => (some (r_11.1, r_11.2))) else none)))

def tontineref07_Same.l0 (n : Nat) (a_1 : (List T_api_Entry)) (b_4 : (List T_api_Entry)) : Nat → Int → Option Bool
  | 0, _ => none
  | k + 1, i_8 => (if decide (i_8 < (a_1.length : Int)) then (if (0 : Int) ≤ i_8 ∧ i_8 < (a_1.length : Int) then (if (0 : Int) ≤ i_8 ∧ i_8 < (b_4.length : Int) then (if (!((((rdL a_1 i_8).Term) == ((rdL b_4 i_8).Term)) && ((((rdL a_1 i_8).Index) == ((rdL b_4 i_8).Index)) && ((((rdL a_1 i_8).Kind) == ((rdL b_4 i_8).Kind)) && ((((rdL a_1 i_8).Data) == ((rdL b_4 i_8).Data)) && true))))) then (some false) else ((tontineref07_Same.l0 n a_1 b_4 k) (wi64 (i_8 + 1)))) else none) else none) else (some true))
def tontineref07_Same.f (n : Nat) (a_1 : (List T_api_Entry)) (b_4 : (List T_api_Entry)) : Option Bool :=
  (if ((a_1.length : Int) != (b_4.length : Int)) then (some false) else (tontineref07_Same.l0 n a_1 b_4 n 0))

def tontineref10_Same.f (n : Nat) (a_1 : T_api_Letter) (b_4 : T_api_Letter) : Option Bool :=
  (if (a_1.Kind == b_4.Kind) then (if (a_1.From == b_4.From) then (if (a_1.To == b_4.To) then (if (a_1.Term == b_4.Term) then (if (a_1.Index == b_4.Index) then (if (a_1.Prev == b_4.Prev) then (if (a_1.Commit == b_4.Commit) then (if (a_1.Ok == b_4.Ok) then (if (a_1.Data == b_4.Data) then ((tontineref07_Same.f n a_1.Entries b_4.Entries).bind fun r_18 => (some r_18)) else (some false)) else (some false)) else (some false)) else (some false)) else (some false)) else (some false)) else (some false)) else (some false)) else (some false))

def tontinelaw10_NetDoubles.l1 (n : Nat) (x_1 : T_api_Letter) (n_4 : Int) (r_27 : Int × Int) : Nat → (List T_api_Letter) → Int → Int → Option Bool
  | 0, _, _, _ => none
  | k + 1, f_31, f_34, x_35 => (if decide (x_35 < r_27.1) then ((net_Net_Take.f n (⟨f_31, f_34⟩ : T_net_Net) ((wi64 ((n_4.tmod 300) + 300)).tmod 300)).bind fun r_37 => (if (!r_37.2.1) then (some false) else ((tontineref10_Same.f n x_1 r_37.1).bind fun r_44 => (if (!r_44) then (some false) else ((tontinelaw10_NetDoubles.l1 n x_1 n_4 r_27 k) r_37.2.2.l r_37.2.2.lost (wi64 (x_35 + 1))))))) else (some true))
def tontinelaw10_NetDoubles.j0 (n : Nat) (x_1 : T_api_Letter) (n_4 : Int) (f_16 : (List T_api_Letter)) (f_19 : Int) (r_27 : Int × Int) (b_29 : Bool) : Option Bool :=
  (if b_29 then (some false) else (tontinelaw10_NetDoubles.l1 n x_1 n_4 r_27 n f_16 f_19 0))
def tontinelaw10_NetDoubles.l0 (n : Nat) (x_1 : T_api_Letter) (n_4 : Int) : Nat → (List T_api_Letter) → Int → Int → Option Bool
  | 0, _, _, _ => none
  | k + 1, f_16, f_19, x_20 => (if decide (x_20 < ((wi64 ((n_4.tmod 300) + 300)).tmod 300)) then ((net_Net_Double.f n (⟨f_16, f_19⟩ : T_net_Net) x_20).bind fun r_22 => (if (!(r_22.1 == (decide ((wi64 (x_20 + 1)) < 256)))) then (some false) else ((tontinelaw10_NetDoubles.l0 n x_1 n_4 k) r_22.2.l r_22.2.lost (wi64 (x_20 + 1))))) else ((net_Net_Count.f n (⟨f_16, f_19⟩ : T_net_Net)).bind fun r_27 => (if (r_27.1 != (if 256 < (wi64 (((wi64 ((n_4.tmod 300) + 300)).tmod 300) + 1)) then 256 else (wi64 (((wi64 ((n_4.tmod 300) + 300)).tmod 300) + 1)))) then (tontinelaw10_NetDoubles.j0 n x_1 n_4 f_16 f_19 r_27 true) else (tontinelaw10_NetDoubles.j0 n x_1 n_4 f_16 f_19 r_27 ((wi64 (r_27.1 + r_27.2)) != (wi64 (((wi64 ((n_4.tmod 300) + 300)).tmod 300) + 1)))))))
def tontinelaw10_NetDoubles.f (n : Nat) (x_1 : T_api_Letter) (n_4 : Int) : Option Bool :=
  ((tontinelaw10_begun.f n).bind fun r_6 => (if (!r_6) then (some false) else (if decide ((x_1.Entries.length : Int) > 50) then (some true) else ((net_New.f n).bind fun r_9 => ((net_Net_Send.f n r_9 x_1).bind fun r_13 => (tontinelaw10_NetDoubles.l0 n x_1 n_4 n r_13.2.l r_13.2.lost 0))))))

def net_Net_Lose.f (n : Nat) (n_1 : T_net_Net) (i_5 : Int) : Option (Bool × T_net_Net) :=
  ((net_Net_Take.f n n_1 i_5).bind fun r_6 => (if r_6.2.1 then (some (r_6.2.1, (⟨r_6.2.2.l, wi64 (r_6.2.2.lost + 1)⟩ : T_net_Net))) else (some (r_6.2.1, r_6.2.2))))

def net_Net_All.l0 (n : Nat) (n_1 : T_net_Net) : Nat → (List T_api_Letter) → Int → Option (List T_api_Letter)
  | 0, _, _ => none
  | k + 1, l_5, x_8 => (if decide (x_8 < (n_1.l.length : Int)) then (if (0 : Int) ≤ x_8 ∧ x_8 < (n_1.l.length : Int) then ((net_copied.f n (rdL n_1.l x_8)).bind fun r_14 => (if capOk 104 (l_5 ++ [r_14]).length then ((net_Net_All.l0 n n_1 k) (l_5 ++ [r_14]) (wi64 (x_8 + 1))) else none)) else none) else (some l_5))
def net_Net_All.f (n : Nat) (n_1 : T_net_Net) : Option (List T_api_Letter) :=
  (net_Net_All.l0 n n_1 n ([] : List T_api_Letter) 0)

def tontinelaw10_NetCounts.j0 (n : Nat) (f_11 : (List T_api_Letter)) (f_14 : Int) (sent_15 : Int) (taken_16 : Int) : Option Bool :=
  ((net_Net_Count.f n (⟨f_11, f_14⟩ : T_net_Net)).bind fun r_49 => (if (sent_15 == (wi64 ((wi64 (r_49.1 + taken_16)) + r_49.2))) then ((net_Net_All.f n (⟨f_11, f_14⟩ : T_net_Net)).bind fun r_51 => (if ((r_51.length : Int) == r_49.1) then (some (decide (r_49.1 ≤ 256))) else (some false))) else (some false)))
def tontinelaw10_NetCounts.j1 (n : Nat) (L0 : (List T_api_Letter) → Int → Int → Int → Int → Option Bool) (x_17 : Int) (f_43 : (List T_api_Letter)) (f_46 : Int) (sent_47 : Int) (taken_48 : Int) : Option Bool :=
  (L0 f_43 f_46 sent_47 taken_48 (wi64 (x_17 + 1)))
def tontinelaw10_NetCounts.l0 (n : Nat) (kinds_1 : (List Int)) (i_4 : Int) : Nat → (List T_api_Letter) → Int → Int → Int → Int → Option Bool
  | 0, _, _, _, _, _ => none
  | k + 1, f_11, f_14, sent_15, taken_16, x_17 => (if decide (x_17 < (kinds_1.length : Int)) then (if (0 : Int) ≤ x_17 ∧ x_17 < (kinds_1.length : Int) then (if (x_17 == 900) then (tontinelaw10_NetCounts.j0 n f_11 f_14 sent_15 taken_16) else ((net_Net_Count.f n (⟨f_11, f_14⟩ : T_net_Net)).bind fun r_21 => (if (((wi64 (((rdL kinds_1 x_17).tmod 4) + 4)).tmod 4) == 0) then ((net_Net_Send.f n (⟨f_11, f_14⟩ : T_net_Net) (⟨wi64 (1 + (x_17.tmod 9)), 0, 0, 0, wu64 x_17, 0, 0, false, [], []⟩ : T_api_Letter)).bind fun r_23 => (tontinelaw10_NetCounts.j1 n (tontinelaw10_NetCounts.l0 n kinds_1 i_4 k) x_17 r_23.2.l r_23.2.lost (wi64 (sent_15 + 1)) taken_16)) else (if (((wi64 (((rdL kinds_1 x_17).tmod 4) + 4)).tmod 4) == 1) then ((net_Net_Take.f n (⟨f_11, f_14⟩ : T_net_Net) (wi64 (i_4 + x_17))).bind fun r_28 => (if r_28.2.1 then (tontinelaw10_NetCounts.j1 n (tontinelaw10_NetCounts.l0 n kinds_1 i_4 k) x_17 r_28.2.2.l r_28.2.2.lost sent_15 (wi64 (taken_16 + 1))) else (tontinelaw10_NetCounts.j1 n (tontinelaw10_NetCounts.l0 n kinds_1 i_4 k) x_17 r_28.2.2.l r_28.2.2.lost sent_15 taken_16))) else (if (((wi64 (((rdL kinds_1 x_17).tmod 4) + 4)).tmod 4) == 2) then ((net_Net_Lose.f n (⟨f_11, f_14⟩ : T_net_Net) (wi64 (i_4 - x_17))).bind fun r_37 => (tontinelaw10_NetCounts.j1 n (tontinelaw10_NetCounts.l0 n kinds_1 i_4 k) x_17 r_37.2.l r_37.2.lost sent_15 taken_16)) else (if decide (r_21.1 > 0) then ((net_Net_Double.f n (⟨f_11, f_14⟩ : T_net_Net) x_17).bind fun r_42 => (tontinelaw10_NetCounts.j1 n (tontinelaw10_NetCounts.l0 n kinds_1 i_4 k) x_17 r_42.2.l r_42.2.lost (wi64 (sent_15 + 1)) taken_16)) else ((net_Net_Double.f n (⟨f_11, f_14⟩ : T_net_Net) x_17).bind fun r_46 => (tontinelaw10_NetCounts.j1 n (tontinelaw10_NetCounts.l0 n kinds_1 i_4 k) x_17 r_46.2.l r_46.2.lost sent_15 taken_16)))))))) else none) else (tontinelaw10_NetCounts.j0 n f_11 f_14 sent_15 taken_16))
def tontinelaw10_NetCounts.f (n : Nat) (kinds_1 : (List Int)) (i_4 : Int) : Option Bool :=
  ((tontinelaw10_begun.f n).bind fun r_5 => (if (!r_5) then (some false) else ((net_New.f n).bind fun r_7 => (tontinelaw10_NetCounts.l0 n kinds_1 i_4 n r_7.l r_7.lost 0 0 0))))

def tontinelaw10_light.l0 (n : Nat) (calls_1 : (List T_tontinelaw10_Call)) : Nat → Int → Int → Option Bool
  | 0, _, _ => none
  | k + 1, n_4, x_5 => (if decide (x_5 < (calls_1.length : Int)) then (if (0 : Int) ≤ x_5 ∧ x_5 < (calls_1.length : Int) then ((tontinelaw10_light.l0 n calls_1 k) (wi64 (n_4 + (wi64 ((((rdL calls_1 x_5).Letter.Entries).length : Int) + (wi64 ((((rdL calls_1 x_5).Letter.Data).length : Int).tdiv 100)))))) (wi64 (x_5 + 1))) else none) else (some (decide (n_4 < 3000))))
def tontinelaw10_light.f (n : Nat) (calls_1 : (List T_tontinelaw10_Call)) : Option Bool :=
  (tontinelaw10_light.l0 n calls_1 n 0 0)

def tontineref10_Net_Send.f (n : Nat) (n_1 : T_tontineref10_Net) (x_5 : T_api_Letter) : Option (Bool × T_tontineref10_Net) :=
  (if decide ((n_1.L.length : Int) ≥ 256) then (some (false, (⟨n_1.L, wi64 (n_1.Lost + 1)⟩ : T_tontineref10_Net))) else (if capOk 104 (n_1.L ++ [x_5]).length then (some (true, (⟨n_1.L ++ [x_5], n_1.Lost⟩ : T_tontineref10_Net))) else none))

def tontineref10_Net_Place.f (n : Nat) (n_1 : T_tontineref10_Net) (i_5 : Int) : Option Int :=
  (if ((n_1.L.length : Int) == 0) then (some (-1)) else (if (n_1.L.length : Int) ≠ 0 then (some ((wi64 ((i_5.tmod (n_1.L.length : Int)) + (n_1.L.length : Int))).tmod (n_1.L.length : Int))) else none))

def tontineref10_Net_Take.l0 (n : Nat) (n_1 : T_tontineref10_Net) (r_7 : Int) : Nat → (List T_api_Letter) → Int → Option (T_api_Letter × Bool × T_tontineref10_Net)
  | 0, _, _ => none
  | k + 1, l_13, j_16 => (if decide (j_16 < (n_1.L.length : Int)) then (if (j_16 != r_7) then (if (0 : Int) ≤ j_16 ∧ j_16 < (n_1.L.length : Int) then (if capOk 104 (l_13 ++ [(rdL n_1.L j_16)]).length then ((tontineref10_Net_Take.l0 n n_1 r_7 k) (l_13 ++ [(rdL n_1.L j_16)]) (wi64 (j_16 + 1))) else none) else none) else ((tontineref10_Net_Take.l0 n n_1 r_7 k) l_13 (wi64 (j_16 + 1)))) else (some ((rdL n_1.L r_7), true, (⟨l_13, n_1.Lost⟩ : T_tontineref10_Net))))
def tontineref10_Net_Take.f (n : Nat) (n_1 : T_tontineref10_Net) (i_5 : Int) : Option (T_api_Letter × Bool × T_tontineref10_Net) :=
  ((tontineref10_Net_Place.f n n_1 i_5).bind fun r_7 => (if decide (r_7 < 0) then (some ((⟨0, 0, 0, 0, 0, 0, 0, false, [], []⟩ : T_api_Letter), false, n_1)) else (if (0 : Int) ≤ r_7 ∧ r_7 < (n_1.L.length : Int) then (tontineref10_Net_Take.l0 n n_1 r_7 n ([] : List T_api_Letter) 0) else none)))

def tontineref10_All.l0 (n : Nat) (a_1 : (List T_api_Letter)) (b_4 : (List T_api_Letter)) : Nat → Int → Option Bool
  | 0, _ => none
  | k + 1, i_8 => (if decide (i_8 < (a_1.length : Int)) then (if (0 : Int) ≤ i_8 ∧ i_8 < (a_1.length : Int) then (if (0 : Int) ≤ i_8 ∧ i_8 < (b_4.length : Int) then ((tontineref10_Same.f n (rdL a_1 i_8) (rdL b_4 i_8)).bind fun r_16 => (if (!r_16) then (some false) else ((tontineref10_All.l0 n a_1 b_4 k) (wi64 (i_8 + 1))))) else none) else none) else (some true))
def tontineref10_All.f (n : Nat) (a_1 : (List T_api_Letter)) (b_4 : (List T_api_Letter)) : Option Bool :=
  (if ((a_1.length : Int) != (b_4.length : Int)) then (some false) else (tontineref10_All.l0 n a_1 b_4 n 0))

def tontinelaw10_NetRuns.j0 (n : Nat) (f_13 : (List T_api_Letter)) (f_16 : Int) (f_17 : (List T_api_Letter)) : Option Bool :=
  ((net_Net_All.f n (⟨f_13, f_16⟩ : T_net_Net)).bind fun r_101 => ((tontineref10_All.f n r_101 f_17).bind fun r_104 => (some r_104)))
def tontinelaw10_NetRuns.j2 (n : Nat) (L0 : (List T_api_Letter) → Int → (List T_api_Letter) → Int → Int → Option Bool) (x_21 : Int) (f_83 : (List T_api_Letter)) (f_86 : Int) (f_87 : (List T_api_Letter)) (f_90 : Int) (b_99 : Bool) : Option Bool :=
  (if b_99 then (some false) else (L0 f_83 f_86 f_87 f_90 (wi64 (x_21 + 1))))
def tontinelaw10_NetRuns.j1 (n : Nat) (L0 : (List T_api_Letter) → Int → (List T_api_Letter) → Int → Int → Option Bool) (x_21 : Int) (f_83 : (List T_api_Letter)) (f_86 : Int) (f_87 : (List T_api_Letter)) (f_90 : Int) : Option Bool :=
  ((net_Net_Count.f n (⟨f_83, f_86⟩ : T_net_Net)).bind fun r_91 => (if (r_91.1 != (f_87.length : Int)) then (tontinelaw10_NetRuns.j2 n L0 x_21 f_83 f_86 f_87 f_90 true) else (if (r_91.2 != f_90) then (tontinelaw10_NetRuns.j2 n L0 x_21 f_83 f_86 f_87 f_90 true) else (if ((x_21.tmod 8) == 0) then ((net_Net_All.f n (⟨f_83, f_86⟩ : T_net_Net)).bind fun r_95 => ((tontineref10_All.f n r_95 f_87).bind fun r_98 => (tontinelaw10_NetRuns.j2 n L0 x_21 f_83 f_86 f_87 f_90 (!r_98)))) else (tontinelaw10_NetRuns.j2 n L0 x_21 f_83 f_86 f_87 f_90 false)))))
def tontinelaw10_NetRuns.j3 (n : Nat) (L0 : (List T_api_Letter) → Int → (List T_api_Letter) → Int → Int → Option Bool) (x_21 : Int) (r_39 : T_api_Letter × Bool × T_net_Net) (r_45 : T_api_Letter × Bool × T_tontineref10_Net) (b_53 : Bool) : Option Bool :=
  (if b_53 then (some false) else (tontinelaw10_NetRuns.j1 n L0 x_21 r_39.2.2.l r_39.2.2.lost r_45.2.2.L r_45.2.2.Lost))
def tontinelaw10_NetRuns.j4 (n : Nat) (L0 : (List T_api_Letter) → Int → (List T_api_Letter) → Int → Int → Option Bool) (calls_1 : (List T_tontinelaw10_Call)) (f_13 : (List T_api_Letter)) (f_16 : Int) (x_21 : Int) (r_58 : T_api_Letter × Bool × T_tontineref10_Net) (f_65 : Int) : Option Bool :=
  ((net_Net_Lose.f n (⟨f_13, f_16⟩ : T_net_Net) ((rdL calls_1 x_21).I)).bind fun r_66 => (if (!(r_66.1 == r_58.2.1)) then (some false) else (tontinelaw10_NetRuns.j1 n L0 x_21 r_66.2.l r_66.2.lost r_58.2.2.L f_65)))
def tontinelaw10_NetRuns.j5 (n : Nat) (L0 : (List T_api_Letter) → Int → (List T_api_Letter) → Int → Int → Option Bool) (x_21 : Int) (r_73 : Bool × T_net_Net) (f_83 : (List T_api_Letter)) (f_86 : Int) (b_87 : Bool) : Option Bool :=
  (if b_87 then (some false) else (tontinelaw10_NetRuns.j1 n L0 x_21 r_73.2.l r_73.2.lost f_83 f_86))
def tontinelaw10_NetRuns.l0 (n : Nat) (calls_1 : (List T_tontinelaw10_Call)) : Nat → (List T_api_Letter) → Int → (List T_api_Letter) → Int → Int → Option Bool
  | 0, _, _, _, _, _ => none
  | k + 1, f_13, f_16, f_17, f_20, x_21 => (if decide (x_21 < (calls_1.length : Int)) then (if (0 : Int) ≤ x_21 ∧ x_21 < (calls_1.length : Int) then (if (x_21 == 400) then (tontinelaw10_NetRuns.j0 n f_13 f_16 f_17) else (if (((rdL calls_1 x_21).Kind) == 0) then ((net_Net_Send.f n (⟨f_13, f_16⟩ : T_net_Net) (⟨(rdL calls_1 x_21).Letter.Kind, (rdL calls_1 x_21).Letter.From, (rdL calls_1 x_21).Letter.To, (rdL calls_1 x_21).Letter.Term, (rdL calls_1 x_21).Letter.Index, (rdL calls_1 x_21).Letter.Prev, (rdL calls_1 x_21).Letter.Commit, (rdL calls_1 x_21).Letter.Ok, (rdL calls_1 x_21).Letter.Entries, (rdL calls_1 x_21).Letter.Data⟩ : T_api_Letter)).bind fun r_29 => ((tontineref10_Net_Send.f n (⟨f_17, f_20⟩ : T_tontineref10_Net) (⟨(rdL calls_1 x_21).Letter.Kind, (rdL calls_1 x_21).Letter.From, (rdL calls_1 x_21).Letter.To, (rdL calls_1 x_21).Letter.Term, (rdL calls_1 x_21).Letter.Index, (rdL calls_1 x_21).Letter.Prev, (rdL calls_1 x_21).Letter.Commit, (rdL calls_1 x_21).Letter.Ok, (rdL calls_1 x_21).Letter.Entries, (rdL calls_1 x_21).Letter.Data⟩ : T_api_Letter)).bind fun r_32 => (if (!(r_29.1 == r_32.1)) then (some false) else (tontinelaw10_NetRuns.j1 n (tontinelaw10_NetRuns.l0 n calls_1 k) x_21 r_29.2.l r_29.2.lost r_32.2.L r_32.2.Lost)))) else (if (((rdL calls_1 x_21).Kind) == 1) then ((net_Net_Take.f n (⟨f_13, f_16⟩ : T_net_Net) ((rdL calls_1 x_21).I)).bind fun r_39 => ((tontineref10_Net_Take.f n (⟨f_17, f_20⟩ : T_tontineref10_Net) ((rdL calls_1 x_21).I)).bind fun r_45 => (if (!(r_39.2.1 == r_45.2.1)) then (tontinelaw10_NetRuns.j3 n (tontinelaw10_NetRuns.l0 n calls_1 k) x_21 r_39 r_45 true) else ((tontineref10_Same.f n r_39.1 r_45.1).bind fun r_52 => (tontinelaw10_NetRuns.j3 n (tontinelaw10_NetRuns.l0 n calls_1 k) x_21 r_39 r_45 (!r_52)))))) else (if (((rdL calls_1 x_21).Kind) == 2) then ((tontineref10_Net_Take.f n (⟨f_17, f_20⟩ : T_tontineref10_Net) ((rdL calls_1 x_21).I)).bind fun r_58 => (if r_58.2.1 then (tontinelaw10_NetRuns.j4 n (tontinelaw10_NetRuns.l0 n calls_1 k) calls_1 f_13 f_16 x_21 r_58 (wi64 (r_58.2.2.Lost + 1))) else (tontinelaw10_NetRuns.j4 n (tontinelaw10_NetRuns.l0 n calls_1 k) calls_1 f_13 f_16 x_21 r_58 r_58.2.2.Lost))) else ((tontineref10_Net_Place.f n (⟨f_17, f_20⟩ : T_tontineref10_Net) ((rdL calls_1 x_21).I)).bind fun r_72 => ((net_Net_Double.f n (⟨f_13, f_16⟩ : T_net_Net) ((rdL calls_1 x_21).I)).bind fun r_73 => (if decide (r_72 ≥ 0) then (if (0 : Int) ≤ (if 0 > r_72 then 0 else r_72) ∧ (if 0 > r_72 then 0 else r_72) < (f_17.length : Int) then ((tontineref10_Net_Send.f n (⟨f_17, f_20⟩ : T_tontineref10_Net) (rdL f_17 (if 0 > r_72 then 0 else r_72))).bind fun r_80 => (tontinelaw10_NetRuns.j5 n (tontinelaw10_NetRuns.l0 n calls_1 k) x_21 r_73 r_80.2.L r_80.2.Lost (!(r_73.1 == r_80.1)))) else none) else (tontinelaw10_NetRuns.j5 n (tontinelaw10_NetRuns.l0 n calls_1 k) x_21 r_73 f_17 f_20 (!(r_73.1 == false)))))))))) else none) else (tontinelaw10_NetRuns.j0 n f_13 f_16 f_17))
def tontinelaw10_NetRuns.f (n : Nat) (calls_1 : (List T_tontinelaw10_Call)) : Option Bool :=
  ((tontinelaw10_begun.f n).bind fun r_4 => (if (!r_4) then (some false) else ((tontinelaw10_light.f n calls_1).bind fun r_6 => (if (!r_6) then (some true) else ((net_New.f n).bind fun r_8 => (tontinelaw10_NetRuns.l0 n calls_1 n r_8.l r_8.lost ([] : List T_api_Letter) 0 0))))))

def net_Net_place_n0.f (n : Nat) (i_1 : Int) : Option Int :=
  (some (-1))

def net_Net_Take_n0.f (n : Nat) (i_1 : Int) : Option (T_api_Letter × Bool) :=
  ((net_Net_place_n0.f n i_1).bind fun r_3 => (if decide (r_3 < 0) then (some ((⟨0, 0, 0, 0, 0, 0, 0, false, [], []⟩ : T_api_Letter), false)) else none))

def net_Net_Count_n0.f (n : Nat) : Option (Int × Int) :=
  (some (0, 0))

def net_Net_Send_n0.f (n : Nat) (x_1 : T_api_Letter) : Option Bool :=
  (some false)

def net_Net_Lose_n0.f (n : Nat) (i_1 : Int) : Option Bool :=
  ((net_Net_Take_n0.f n i_1).bind fun r_2 => (if r_2.2 then none else (some r_2.2)))

def net_Net_Double_n0.f (n : Nat) (i_1 : Int) : Option Bool :=
  ((net_Net_place_n0.f n i_1).bind fun r_2 => (if decide (r_2 < 0) then (some false) else none))

def net_Net_All_n0.f (n : Nat) : Option (List T_api_Letter) :=
  (some ([] : List T_api_Letter))

def net_copied_vp.f (n : Nat) (x_1 : T_api_Letter) : Option T_api_Letter :=
  (if capOk 40 (([] : List T_api_Entry) ++ x_1.Entries).length then (some (⟨x_1.Kind, x_1.From, x_1.To, x_1.Term, x_1.Index, x_1.Prev, x_1.Commit, x_1.Ok, ([] : List T_api_Entry) ++ x_1.Entries, x_1.Data⟩ : T_api_Letter)) else none)

def net_Net_Send_vp.f (n : Nat) (n_1 : T_net_Net) (x_5 : T_api_Letter) : Option (Bool × T_net_Net) :=
  (if ((n_1.l.length : Int) == 256) then (some (false, (⟨n_1.l, wi64 (n_1.lost + 1)⟩ : T_net_Net))) else ((net_copied_vp.f n x_5).bind fun r_10 => (if capOk 104 (n_1.l ++ [r_10]).length then (some (true, (⟨n_1.l ++ [r_10], n_1.lost⟩ : T_net_Net))) else none)))

def net_copied_vo.f (n : Nat) (x_1 : T_api_Letter) : Option T_api_Letter :=
  (if capOk 40 (([] : List T_api_Entry) ++ x_1.Entries).length then (some (⟨x_1.Kind, x_1.From, x_1.To, x_1.Term, x_1.Index, x_1.Prev, x_1.Commit, x_1.Ok, ([] : List T_api_Entry) ++ x_1.Entries, x_1.Data⟩ : T_api_Letter)) else none)

def net_Net_All_vo.l0 (n : Nat) (n_1 : T_net_Net) : Nat → (List T_api_Letter) → Int → Option (List T_api_Letter)
  | 0, _, _ => none
  | k + 1, l_5, x_8 => (if decide (x_8 < (n_1.l.length : Int)) then (if (0 : Int) ≤ x_8 ∧ x_8 < (n_1.l.length : Int) then ((net_copied_vo.f n (rdL n_1.l x_8)).bind fun r_14 => (if capOk 104 (l_5 ++ [r_14]).length then ((net_Net_All_vo.l0 n n_1 k) (l_5 ++ [r_14]) (wi64 (x_8 + 1))) else none)) else none) else (some l_5))
def net_Net_All_vo.f (n : Nat) (n_1 : T_net_Net) : Option (List T_api_Letter) :=
  (net_Net_All_vo.l0 n n_1 n ([] : List T_api_Letter) 0)

def tontinelaw10_NetApart.l2 (n : Nat) (L1 : Int → Option Bool) (r_54 : (List T_api_Letter)) (x_57 : Int) : Nat → (List T_api_Entry) → Int → Option Bool
  | 0, _, _ => none
  | k + 1, f_63, x_66 => (if decide (x_66 < (((rdL r_54 x_57).Entries).length : Int)) then (if (0 : Int) ≤ x_66 ∧ x_66 < (f_63.length : Int) then (if (0 : Int) ≤ x_66 ∧ x_66 < (f_63.length : Int) then ((tontinelaw10_NetApart.l2 n L1 r_54 x_57 k) (f_63.set x_66.toNat (⟨wu64 (((rdL f_63 x_66).Term) + 1), (rdL f_63 x_66).Index, (rdL f_63 x_66).Kind, (rdL f_63 x_66).Data⟩ : T_api_Entry)) (wi64 (x_66 + 1))) else none) else none) else (if x_57.toNat + 1 ≤ (wi64 (x_57 + 1)).toNat then (L1 (wi64 (x_57 + 1))) else none))
def tontinelaw10_NetApart.l1 (n : Nat) (x_1 : T_api_Letter) (more_4 : T_api_Letter) (r_45 : Bool × T_net_Net) (r_54 : (List T_api_Letter)) : Nat → Int → Option Bool
  | 0, _ => none
  | k + 1, x_57 => (if decide (x_57 < (r_54.length : Int)) then (if (0 : Int) ≤ x_57 ∧ x_57 < (r_54.length : Int) then (tontinelaw10_NetApart.l2 n (tontinelaw10_NetApart.l1 n x_1 more_4 r_45 r_54 k) r_54 x_57 n ((rdL r_54 x_57).Entries) 0) else none) else ((net_Net_Send.f n r_45.2 more_4).bind fun r_71 => ((net_Net_Take.f n r_71.2 0).bind fun r_74 => ((net_Net_Take.f n r_74.2.2 0).bind fun r_80 => ((tontineref10_Same.f n r_74.1 (⟨x_1.Kind, x_1.From, x_1.To, x_1.Term, x_1.Index, x_1.Prev, x_1.Commit, x_1.Ok, ([] : List T_api_Entry) ++ x_1.Entries, x_1.Data⟩ : T_api_Letter)).bind fun r_86 => (if r_86 then ((tontineref10_Same.f n r_80.1 (⟨x_1.Kind, x_1.From, x_1.To, x_1.Term, x_1.Index, x_1.Prev, x_1.Commit, x_1.Ok, ([] : List T_api_Entry) ++ x_1.Entries, x_1.Data⟩ : T_api_Letter)).bind fun r_88 => (some r_88)) else (some false)))))))
def tontinelaw10_NetApart.l0 (n : Nat) (x_1 : T_api_Letter) (more_4 : T_api_Letter) (r_45 : Bool × T_net_Net) : Nat → (List T_api_Entry) → Int → Option Bool
  | 0, _, _ => none
  | k + 1, f_48, x_51 => (if decide (x_51 < ((([] : List T_api_Entry) ++ x_1.Entries).length : Int)) then (if (0 : Int) ≤ x_51 ∧ x_51 < (f_48.length : Int) then ((tontinelaw10_NetApart.l0 n x_1 more_4 r_45 k) (f_48.set x_51.toNat (⟨(rdL f_48 x_51).Term, (rdL f_48 x_51).Index, (rdL f_48 x_51).Kind, [98, 101, 110, 116]⟩ : T_api_Entry)) (wi64 (x_51 + 1))) else none) else ((net_Net_All_vo.f n r_45.2).bind fun r_54 => (tontinelaw10_NetApart.l1 n x_1 more_4 r_45 r_54 n 0)))
def tontinelaw10_NetApart.j0 (n : Nat) (x_1 : T_api_Letter) (more_4 : T_api_Letter) (b_29 : Bool) : Option Bool :=
  (if b_29 then (some false) else ((net_New.f n).bind fun r_31 => (if capOk 40 (([] : List T_api_Entry) ++ x_1.Entries).length then (if capOk 40 (([] : List T_api_Entry) ++ x_1.Entries).length then ((net_Net_Send_vp.f n r_31 (⟨x_1.Kind, x_1.From, x_1.To, x_1.Term, x_1.Index, x_1.Prev, x_1.Commit, x_1.Ok, ([] : List T_api_Entry) ++ x_1.Entries, x_1.Data⟩ : T_api_Letter)).bind fun r_42 => ((net_Net_Double.f n r_42.2 0).bind fun r_45 => (tontinelaw10_NetApart.l0 n x_1 more_4 r_45 n (([] : List T_api_Entry) ++ x_1.Entries) 0))) else none) else none)))
def tontinelaw10_NetApart.f (n : Nat) (x_1 : T_api_Letter) (more_4 : T_api_Letter) : Option Bool :=
  ((tontinelaw10_begun.f n).bind fun r_9 => (if (!r_9) then (some false) else (if decide ((x_1.Entries.length : Int) > 100) then (some true) else ((net_Net_Take_n0.f n 0).bind fun r_12 => ((net_Net_Count_n0.f n).bind fun r_16 => (if r_12.2 then (tontinelaw10_NetApart.j0 n x_1 more_4 true) else ((net_Net_Send_n0.f n x_1).bind fun r_18 => (if r_18 then (tontinelaw10_NetApart.j0 n x_1 more_4 true) else ((net_Net_Lose_n0.f n 0).bind fun r_20 => (if r_20 then (tontinelaw10_NetApart.j0 n x_1 more_4 true) else ((net_Net_Double_n0.f n 0).bind fun r_22 => (if r_22 then (tontinelaw10_NetApart.j0 n x_1 more_4 true) else (if decide ((wi64 (r_16.1 + r_16.2)) > 0) then (tontinelaw10_NetApart.j0 n x_1 more_4 true) else ((net_Net_All_n0.f n).bind fun r_25 => (if decide ((r_25.length : Int) > 0) then (tontinelaw10_NetApart.j0 n x_1 more_4 true) else (tontinelaw10_NetApart.j0 n x_1 more_4 (r_12.1.Kind != 0)))))))))))))))))
end Go.GL
