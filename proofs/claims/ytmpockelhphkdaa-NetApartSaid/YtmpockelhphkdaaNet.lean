/- Nets: what the plain functions compute. No condition but the bounds named. -/
import Derived.Test.YtmpockelhphkdaaKindsT1
import Derived.Test.YtmpockelhphkdaaG13
set_option linter.unusedVariables false
set_option linter.unusedSimpArgs false
set_option maxRecDepth 10000
namespace Go.GL
open Go
theorem wi64_id {x : Int} (h1 : -9223372036854775808 ≤ x) (h2 : x ≤ 9223372036854775807) : wi64 x = x := by
  simp only [wi64, IntKind.wrap, IntKind.bits, IntKind.signed]
  simp
  omega
theorem wu64_id {x : Int} (h1 : 0 ≤ x) (h2 : x ≤ 18446744073709551615) : wu64 x = x := by
  simp only [wu64, IntKind.wrap, IntKind.bits, IntKind.signed]
  simp
  omega
theorem getD_drop {α : Type} [Inhabited α] {l : List α} {i : Nat} (h : i < l.length) : l.drop i = rdL l (i : Int) :: l.drop (i + 1) := by
  rw [List.drop_eq_getElem_cons h]
  congr 1
  simp [rdL, h]
theorem rdL_mem {α : Type} [Inhabited α] {l : List α} {i : Nat} (h : i < l.length) : rdL l (i : Int) ∈ l := by
  simp [rdL, h]
theorem modN (x : Int) (p : Nat) (hp : 0 < p) (hp2 : p ≤ 1000000) : ∃ y : Nat, (wi64 ((x.tmod (p : Int)) + (p : Int))).tmod (p : Int) = (y : Int) ∧ y < p := by
  have h1 : x.tmod (p : Int) < (p : Int) := Int.tmod_lt_of_pos x (by omega)
  have h2 : (-x).tmod (p : Int) < (p : Int) := Int.tmod_lt_of_pos (-x) (by omega)
  rw [Int.neg_tmod] at h2
  rw [wi64_id (by omega) (by omega)]
  have h3 : 0 ≤ (x.tmod (p : Int) + (p : Int)).tmod (p : Int) := Int.tmod_nonneg _ (by omega)
  have h4 : (x.tmod (p : Int) + (p : Int)).tmod (p : Int) < (p : Int) := Int.tmod_lt_of_pos _ (by omega)
  exact ⟨((x.tmod (p : Int) + (p : Int)).tmod (p : Int)).toNat, by omega, by omega⟩

theorem begun10 : ∀ n, 40 ≤ n → tontinelaw10_begun.f n = some true := by
  intro n hn
  obtain ⟨m, rfl⟩ : ∃ m, n = m + 40 := ⟨n - 40, by omega⟩
  rfl
theorem f_copied (n : Nat) (x : T_api_Letter) (h : x.Entries.length ≤ 1000000000) : net_copied.f n x = some x := by
  unfold net_copied.f
  have c : capOk 40 (([] : List T_api_Entry) ++ x.Entries).length := by rw [List.nil_append]; unfold capOk; omega
  rw [if_pos c]
  rfl
/-- A letter is sent. -/
def sendM (m : T_net_Net) (x : T_api_Letter) : Bool × T_net_Net := if m.l.length = 256 then (false, ⟨m.l, wi64 (m.lost + 1)⟩) else (true, ⟨m.l ++ [x], m.lost⟩)
theorem f_Send (n : Nat) (m : T_net_Net) (x : T_api_Letter) (h : x.Entries.length ≤ 1000000000) (hm : m.l.length ≤ 256) : net_Net_Send.f n m x = some (sendM m x) := by
  unfold net_Net_Send.f sendM
  by_cases h1 : m.l.length = 256
  · rw [if_pos (by simp; omega), if_pos h1]
  · have c : capOk 104 (m.l ++ [x]).length := by simp only [List.length_append, List.length_cons, List.length_nil]; unfold capOk; omega
    rw [if_neg (by simp; omega), if_neg h1, f_copied n x h, Option.bind_some, if_pos c]
theorem place0 (n : Nat) (i lost : Int) : net_Net_place.f n ⟨[], lost⟩ i = some (-1) := rfl
theorem f_place (n : Nat) (m : T_net_Net) (i : Int) (h : 0 < m.l.length) (hm : m.l.length ≤ 256) : ∃ k : Nat, net_Net_place.f n m i = some (k : Int) ∧ k < m.l.length ∧
    (0 ≤ i → i < (m.l.length : Int) → (k : Int) = i) ∧ (i < 0 → -(m.l.length : Int) ≤ i → (k : Int) = if i = -(m.l.length : Int) then 0 else i + (m.l.length : Int)) := by
  unfold net_Net_place.f
  have h1 : i.tmod (m.l.length : Int) < (m.l.length : Int) := Int.tmod_lt_of_pos i (by omega)
  have h2 : (-i).tmod (m.l.length : Int) < (m.l.length : Int) := Int.tmod_lt_of_pos (-i) (by omega)
  rw [Int.neg_tmod] at h2
  have hpos : 0 ≤ i → i < (m.l.length : Int) → i.tmod (m.l.length : Int) = i := fun h0 h1 => Int.tmod_eq_of_lt h0 h1
  have hneg : i < 0 → -(m.l.length : Int) ≤ i → i.tmod (m.l.length : Int) = if i = -(m.l.length : Int) then 0 else i := by
    intro h0 h1
    by_cases he : i = -(m.l.length : Int)
    · rw [if_pos he, he, Int.neg_tmod, Int.tmod_self]; rfl
    · rw [if_neg he]
      have : (-i).tmod (m.l.length : Int) = -i := Int.tmod_eq_of_lt (by omega) (by omega)
      rw [Int.neg_tmod] at this
      omega
  rw [if_neg (by rw [beq_iff_eq]; omega), if_pos (by omega)]
  by_cases hn : i.tmod (m.l.length : Int) < 0
  · rw [if_pos (by simpa using hn), wi64_id (by omega) (by omega)]
    refine ⟨(i.tmod (m.l.length : Int) + (m.l.length : Int)).toNat, by congr 1; omega, by omega, fun h0 h1 => ?_, fun h0 h1 => ?_⟩
    · have := hpos h0 h1; omega
    · have := hneg h0 h1
      split at this
      · omega
      · rename_i he; rw [if_neg he]; omega
  · rw [if_neg (by simpa using hn)]
    refine ⟨(i.tmod (m.l.length : Int)).toNat, by congr 1; omega, by omega, fun h0 h1 => ?_, fun h0 h1 => ?_⟩
    · have := hpos h0 h1; omega
    · have := hneg h0 h1
      split at this
      · rename_i he; rw [if_pos he]; omega
      · omega
theorem take0 (n : Nat) (i lost : Int) : net_Net_Take.f n ⟨[], lost⟩ i = some (⟨0, 0, 0, 0, 0, 0, 0, false, [], []⟩, false, ⟨[], lost⟩) := rfl
theorem take_of (n : Nat) (m : T_net_Net) (i : Int) (k : Nat) (hp : net_Net_place.f n m i = some (k : Int)) (hk : k < m.l.length) (hm : m.l.length ≤ 256) :
    net_Net_Take.f n m i = some (rdL m.l (k : Int), true, ⟨m.l.take k ++ m.l.drop (k + 1), m.lost⟩) := by
  unfold net_Net_Take.f
  have w : wi64 ((k : Int) + 1) = ((k + 1 : Nat) : Int) := by rw [wi64_id (by omega) (by omega)]; omega
  have c : capOk 104 (m.l.take k ++ m.l.drop (k + 1)).length := by simp only [List.length_append, List.length_take, List.length_drop]; unfold capOk; omega
  rw [hp, Option.bind_some, if_neg (by simp), if_pos ⟨by omega, by omega⟩, if_pos ⟨by omega, by omega⟩, w, if_pos ⟨by omega, by omega, by omega⟩, Int.toNat_natCast, Int.toNat_natCast, Int.toNat_natCast, List.take_length, if_pos c]

theorem same_e (n : Nat) (a : List T_api_Entry) (ha : a.length ≤ 1000000000000000) : ∀ (k i : Nat), i ≤ a.length → a.length - i < k → tontineref07_Same.l0 n a a k (i : Int) = some true
  | 0, i, _, h => by omega
  | k + 1, i, hi, hk => by
    unfold tontineref07_Same.l0
    by_cases h : i < a.length
    · rw [if_pos (by simp; omega), if_pos ⟨by omega, by omega⟩, if_pos ⟨by omega, by omega⟩, if_neg (by simp), wi64_id (by omega) (by omega), show ((i : Int) + 1) = ((i + 1 : Nat) : Int) by omega]
      exact same_e n a ha k (i + 1) (by omega) (by omega)
    · rw [if_neg (by simp; omega)]
theorem same_x (n : Nat) (x : T_api_Letter) (hx : x.Entries.length ≤ 1000000000000000) (hn : x.Entries.length < n) : tontineref10_Same.f n x x = some true := by
  have := same_e n x.Entries hx n 0 (by omega) (by omega)
  rw [show ((0 : Nat) : Int) = 0 by rfl] at this
  unfold tontineref10_Same.f tontineref07_Same.f
  simp [this]
end Go.GL
