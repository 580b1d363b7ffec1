/- The law NetOrder, over the plain functions. -/
import Derived.Test.YtmpockelhphkdaaNet
set_option linter.unusedVariables false
set_option linter.unusedSimpArgs false
set_option maxRecDepth 10000
namespace Go.GL
open Go
def mkL (j : Nat) : T_api_Letter := ⟨1, 0, 0, 0, (j : Int), 0, 0, false, [], []⟩
/-- The letters from i on, j of them. -/
def lets (i j : Nat) : List T_api_Letter := (List.range' i j).map mkL
theorem lets_len (i j : Nat) : (lets i j).length = j := by simp [lets]
theorem lets_snoc (j : Nat) : lets 0 j ++ [mkL j] = lets 0 (j + 1) := by
  simp [lets, List.range'_concat]
theorem lets_cons (i j : Nat) : lets i (j + 1) = mkL i :: lets (i + 1) j := by simp [lets, List.range'_succ]
theorem lets_take : ∀ (i j k : Nat) (h : k ≤ j), (lets i j).take k = lets i k
  | i, j, 0, h => by simp [lets]
  | i, 0, k + 1, h => by omega
  | i, j + 1, k + 1, h => by rw [lets_cons, lets_cons, List.take_succ_cons, lets_take (i + 1) j k (by omega)]
theorem lets_drop (i j k : Nat) : (lets i j).drop k = lets (i + k) (j - k) := by
  simp [lets, ← List.map_drop, List.drop_range']
theorem lets_rd (j k : Nat) (h : k < j) : rdL (lets 0 j) (k : Int) = mkL k := by
  have e : (lets 0 j).drop k = lets k (j - k) := by rw [lets_drop, Nat.zero_add]
  have h2 := getD_drop (l := lets 0 j) (i := k) (by rw [lets_len]; exact h)
  rw [e, show j - k = (j - k - 1) + 1 by omega, lets_cons] at h2
  exact ((List.cons.inj h2).1).symm
theorem take_first (n : Nat) (x : T_api_Letter) (r : List T_api_Letter) (lost : Int) (h : (x :: r).length ≤ 256) : net_Net_Take.f n ⟨x :: r, lost⟩ 0 = some (x, true, ⟨r, lost⟩) := by
  obtain ⟨k, hp, hk, h0, _⟩ := f_place n ⟨x :: r, lost⟩ 0 (by simp) h
  have : k = 0 := by have := h0 (by omega) (by simp); omega
  subst this
  rw [take_of n ⟨x :: r, lost⟩ 0 0 hp (by simp) h]
  rfl
theorem order_l1 (n : Nat) (n1 at' : Int) (N A : Nat) (hN : wi64 (((wi64 ((n1.tmod 256) + 256)).tmod 256) + 1) = (N : Int)) (hN2 : N ≤ 256) (hA : (wi64 ((at'.tmod (N : Int)) + (N : Int))).tmod (N : Int) = (A : Int)) (hA2 : A < N) :
    ∀ (j k i : Nat), i + j = N → j < k → tontinelaw10_NetOrder.l1 n n1 at' k (lets i (A - i) ++ lets (max i (A + 1)) (N - max i (A + 1))) 0 (i : Int) = some true
  | j, 0, i, _, h => by omega
  | 0, k + 1, i, hi, _ => by
    unfold tontinelaw10_NetOrder.l1
    simp only [hN, hA]
    rw [if_neg (by simp; omega), show A - i = 0 by omega, show N - max i (A + 1) = 0 by omega]
    rfl
  | j + 1, k + 1, i, hi, hk => by
    unfold tontinelaw10_NetOrder.l1
    simp only [hN, hA]
    have hi1 : wi64 ((i : Int) + 1) = ((i + 1 : Nat) : Int) := by rw [wi64_id (by omega) (by omega)]; omega
    have ih := order_l1 n n1 at' N A hN hN2 hA hA2 j k (i + 1) (by omega) (by omega)
    rw [if_pos (by simp; omega), hi1]
    have hlen : ∀ p q r s, p + q ≤ 256 → (lets r p ++ lets s q).length ≤ 256 := by
      intro p q r s h
      rw [List.length_append, lets_len, lets_len]; exact h
    rcases Nat.lt_trichotomy i A with h | h | h
    · rw [if_neg (by simp; omega), show A - i = (A - (i + 1)) + 1 by omega, lets_cons, List.cons_append, take_first n _ _ _ (by rw [List.length_cons]; have := hlen (A - (i + 1)) (N - max i (A + 1)) (i + 1) (max i (A + 1)) (by omega); rw [List.length_append, lets_len, lets_len] at *; omega), Option.bind_some, if_neg (by simp)]
      have e : ((mkL i).Index != wu64 (i : Int)) = false := by
        rw [wu64_id (by omega) (by omega)]
        simp [mkL]
      rw [e, if_neg (by simp)]
      rw [show max (i + 1) (A + 1) = max i (A + 1) by omega] at ih
      exact ih
    · subst h
      rw [if_pos (by simp), show i - i = 0 by omega]
      rw [show i - (i + 1) = 0 by omega, show max (i + 1) (i + 1) = i + 1 by omega] at ih
      rw [show max i (i + 1) = i + 1 by omega]
      exact ih
    · rw [if_neg (by simp; omega), show A - i = 0 by omega, show max i (A + 1) = i by omega, show N - i = (N - (i + 1)) + 1 by omega, lets_cons]
      have e0 : lets i 0 = [] := rfl
      rw [e0, List.nil_append, take_first n _ _ _ (by rw [List.length_cons, lets_len]; omega), Option.bind_some, if_neg (by simp)]
      have e : ((mkL i).Index != wu64 (i : Int)) = false := by
        rw [wu64_id (by omega) (by omega)]
        simp [mkL]
      rw [e, if_neg (by simp)]
      rw [show A - (i + 1) = 0 by omega, show max (i + 1) (A + 1) = i + 1 by omega] at ih
      exact ih
theorem order_l0 (n : Nat) (hn : 1000 ≤ n) (n1 at' : Int) (N A : Nat) (hN : wi64 (((wi64 ((n1.tmod 256) + 256)).tmod 256) + 1) = (N : Int)) (hN2 : N ≤ 256) (hA : (wi64 ((at'.tmod (N : Int)) + (N : Int))).tmod (N : Int) = (A : Int)) (hA2 : A < N) :
    ∀ (j k i : Nat), i + j = N → j < k → tontinelaw10_NetOrder.l0 n n1 at' k (lets 0 i) 0 (i : Int) = some true
  | j, 0, i, _, h => by omega
  | 0, k + 1, i, hi, _ => by
    unfold tontinelaw10_NetOrder.l0
    simp only [hN, hA]
    have hi : i = N := by omega
    subst hi
    have w : wi64 ((A : Int) - (i : Int)) = (A : Int) - (i : Int) := wi64_id (by omega) (by omega)
    obtain ⟨q, hp, hq, _, h1⟩ := f_place n ⟨lets 0 i, 0⟩ ((A : Int) - (i : Int)) (by show 0 < (lets 0 i).length; rw [lets_len]; omega) (by show (lets 0 i).length ≤ 256; rw [lets_len]; omega)
    have hq2 : (lets 0 i).length = i := lets_len 0 i
    have hqA : q = A := by
      have := h1 (by omega) (by show -((lets 0 i).length : Int) ≤ _; rw [hq2]; omega)
      simp only [hq2] at this
      split at this <;> omega
    subst hqA
    rw [if_neg (by simp), if_pos (by omega), w, take_of n ⟨lets 0 i, 0⟩ _ q hp hq (by show (lets 0 i).length ≤ 256; omega), Option.bind_some, if_neg (by simp)]
    simp only
    rw [lets_rd i q hA2]
    have e : ((mkL q).Index != wu64 (q : Int)) = false := by
      rw [wu64_id (by omega) (by omega)]
      simp [mkL]
    rw [e]
    unfold tontinelaw10_NetOrder.j0
    rw [if_neg (by simp)]
    have := order_l1 n n1 at' i q hN hN2 hA hA2 i n 0 (by omega) (by omega)
    rw [show q - 0 = q by omega, show max 0 (q + 1) = q + 1 by omega] at this
    simp only
    rw [lets_take 0 i q (by omega), lets_drop, Nat.zero_add]
    exact this
  | j + 1, k + 1, i, hi, hk => by
    unfold tontinelaw10_NetOrder.l0
    simp only [hN, hA]
    have hi1 : wi64 ((i : Int) + 1) = ((i + 1 : Nat) : Int) := by rw [wi64_id (by omega) (by omega)]; omega
    have hq2 : (lets 0 i).length = i := lets_len 0 i
    have hs : sendM ⟨lets 0 i, 0⟩ (mkL i) = (true, ⟨lets 0 (i + 1), 0⟩) := by
      unfold sendM
      rw [if_neg (by show ¬ (lets 0 i).length = 256; omega)]
      show (true, (⟨lets 0 i ++ [mkL i], 0⟩ : T_net_Net)) = _
      rw [lets_snoc]
    have hw : wu64 (i : Int) = (i : Int) := wu64_id (by omega) (by omega)
    have := f_Send n ⟨lets 0 i, 0⟩ (mkL i) (by simp [mkL]) (by show (lets 0 i).length ≤ 256; omega)
    rw [hs] at this
    rw [if_pos (by simp; omega), hw]
    show (Option.bind (net_Net_Send.f n ⟨lets 0 i, 0⟩ (mkL i)) _) = _
    rw [this, Option.bind_some, hi1]
    exact order_l0 n hn n1 at' N A hN hN2 hA hA2 j k (i + 1) (by omega) (by omega)
theorem tontinelaw10_NetOrder_law (n1 at' : Int) (h1 : (Lit.int .i64 n1).wf = true) (h2 : (Lit.int .i64 at').wf = true) : Ev (fun n => tontinelaw10_NetOrder.f n n1 at') true := by
  refine Ev.ge 2000 fun n hn => ?_
  unfold tontinelaw10_NetOrder.f
  rw [begun10 n (by omega), Option.bind_some, if_neg (by simp)]
  obtain ⟨M, hM, hM2⟩ := modN n1 256 (by omega) (by omega)
  have hN : wi64 (((wi64 ((n1.tmod 256) + 256)).tmod 256) + 1) = ((M + 1 : Nat) : Int) := by
    have hM' : (wi64 ((n1.tmod 256) + 256)).tmod 256 = (M : Int) := hM
    rw [hM', wi64_id (by omega) (by omega)]; omega
  obtain ⟨A, hA, hA2⟩ := modN at' (M + 1) (by omega) (by omega)
  exact order_l0 n (by omega) n1 at' (M + 1) A hN (by omega) hA hA2 (M + 1) n 0 (by omega) (by omega)
end Go.GL
