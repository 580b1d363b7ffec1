/- Logs: the weight of a call. -/
import Derived.Test.YtolipnnfdclkoaaXLogE
set_option linter.unusedVariables false
set_option linter.unusedSimpArgs false
set_option maxRecDepth 10000
namespace Go.GL
open Go
theorem light_l1 (n : Nat) (L0 : Int → Int → Option Bool) (cs : List T_tontinelaw07_Call) (x : Nat) (c : T_tontinelaw07_Call) (hcx : rdL cs (x : Int) = c) (hl : c.L.length ≤ 4000000000000) (hd : ∀ e ∈ c.L, e.Data.length ≤ 2000000) : ∀ (j k i : Nat) (a : Nat), i + j = c.L.length → j < k → a + 20001 * j ≤ 9000000000000000000 → ∃ N : Nat, a ≤ N ∧ N ≤ a + 20001 * j ∧ tontinelaw07_light.l1 n L0 cs (x : Int) k (a : Int) (i : Int) = L0 (N : Int) (wi64 ((x : Int) + 1))
  | j, 0, i, _, _, h, _ => by omega
  | 0, k + 1, i, a, hi, _, _ => by
    unfold tontinelaw07_light.l1
    rw [hcx, if_neg (by rw [decide_eq_true_eq]; omega)]
    exact ⟨a, Nat.le_refl _, by omega, rfl⟩
  | j + 1, k + 1, i, a, hi, hk, hb => by
    have hx := hd _ (rdL_mem (l := c.L) (i := i) (by omega))
    have et : ((rdL c.L (i : Int)).Data.length : Int).tdiv 100 = (((rdL c.L (i : Int)).Data.length / 100 : Nat) : Int) := by
      rw [Int.tdiv_eq_ediv_of_nonneg (by omega)]; omega
    unfold tontinelaw07_light.l1
    rw [hcx, if_pos (by rw [decide_eq_true_eq]; omega), if_pos ⟨by omega, by omega⟩, et, wi64_id (x := (((rdL c.L (i : Int)).Data.length / 100 : Nat) : Int)) (by omega) (by omega), wi64_id (x := (i : Int) + 1) (by omega) (by omega), wi64_id (x := (a : Int) + (((rdL c.L (i : Int)).Data.length / 100 : Nat) : Int)) (by omega) (by omega), show ((i : Int) + 1) = ((i + 1 : Nat) : Int) by omega, show ((a : Int) + (((rdL c.L (i : Int)).Data.length / 100 : Nat) : Int)) = ((a + (rdL c.L (i : Int)).Data.length / 100 : Nat) : Int) by omega]
    obtain ⟨N, h1, h2, h3⟩ := light_l1 n L0 cs x c hcx hl hd j k (i + 1) (a + (rdL c.L (i : Int)).Data.length / 100) (by omega) (by omega) (by omega)
    exact ⟨N, by omega, by omega, h3⟩
theorem light1_some (n : Nat) (L0 : Int → Int → Option Bool) (cs : List T_tontinelaw07_Call) (x : Nat) (c : T_tontinelaw07_Call) (hcx : rdL cs (x : Int) = c) (hl : c.L.length ≤ 4000000000000) : ∀ (j k i : Nat) (a : Int), i + j = c.L.length → j < k → ∃ v, tontinelaw07_light.l1 n L0 cs (x : Int) k a (i : Int) = L0 v (wi64 ((x : Int) + 1))
  | j, 0, i, _, _, h => by omega
  | 0, k + 1, i, a, hi, _ => by
    unfold tontinelaw07_light.l1
    rw [hcx, if_neg (by rw [decide_eq_true_eq]; omega)]
    exact ⟨a, rfl⟩
  | j + 1, k + 1, i, a, hi, hk => by
    unfold tontinelaw07_light.l1
    rw [hcx, if_pos (by rw [decide_eq_true_eq]; omega), if_pos ⟨by omega, by omega⟩, wi64_id (x := (i : Int) + 1) (by omega) (by omega), show ((i : Int) + 1) = ((i + 1 : Nat) : Int) by omega]
    exact light1_some n L0 cs x c hcx hl j k (i + 1) _ (by omega) (by omega)
end Go.GL
