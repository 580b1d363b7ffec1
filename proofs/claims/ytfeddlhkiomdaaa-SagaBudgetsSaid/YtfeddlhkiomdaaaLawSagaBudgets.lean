/- The law SagaBudgets, over the plain functions. -/
import Derived.Test.YtfeddlhkiomdaaaLawSagaOrder
set_option linter.unusedVariables false
set_option linter.unusedSimpArgs false
set_option maxRecDepth 10000
namespace Go.GL
open Go
theorem sound1 {l : List T_api_Step} (hk : okL l) {i : Nat} (h : i < l.length) : soundP ⟨l, 1, (i : Int), 0⟩ :=
  ⟨hk, Int.le_refl _, .inl ⟨rfl, ⟨by show (0 : Int) ≤ (i : Int); omega, by show (i : Int) < (l.length : Int); omega⟩, rfl⟩⟩
theorem sound2 {l : List T_api_Step} (hk : okL l) {i : Nat} (h : i < l.length) {f : Int} (h0 : 0 ≤ f) (hf : f < (rdL l (i : Int)).Budget) : soundP ⟨l, 2, (i : Int), f⟩ :=
  ⟨hk, h0, .inr (.inl ⟨rfl, ⟨by show (0 : Int) ≤ (i : Int); omega, by show (i : Int) < (l.length : Int); omega⟩, hf⟩)⟩
theorem budget_pos {l : List T_api_Step} (hk : okL l) {i : Nat} (h : i < l.length) : 1 ≤ (rdL l (i : Int)).Budget ∧ (rdL l (i : Int)).Budget ≤ 9 :=
  bud_pos (s := ⟨l, 1, (i : Int), 0⟩) hk ⟨by show (0 : Int) ≤ (i : Int); omega, by show (i : Int) < (l.length : Int); omega⟩

theorem budgets_l2 (n : Nat) (l : List T_api_Step) (hk : okL l) (hn : l.length + 100 < n) (r : T_api_Saga) : ∀ (j k : Nat) (f : Int), j < l.length → j + 1 < k → 0 ≤ f → f < (rdL l (j : Int)).Budget →
    tontinelaw14_SagaBudgets.l2 n (r, true) k l 2 (j : Int) f (j : Int) = some true
  | j, 0, f, _, h, _, _ => by omega
  | j, 1, f, _, h, _, _ => by omega
  | 0, k + 2, f, hj, _, h0, hf => by
    have hL := hk.2.1
    unfold tontinelaw14_SagaBudgets.l2
    have hs := sound2 hk hj h0 hf
    rw [if_pos (by simp), f_Outcome n ⟨l, 2, ((0 : Nat) : Int), f⟩ _ _ _ _ (by show l.length < n; omega), Option.bind_some]
    have eo : outS ⟨l, 2, ((0 : Nat) : Int), f⟩ ((0 : Nat) : Int) true 7 true = (⟨l, 4, 0, 0⟩, true) := by
      unfold outS
      rw [if_pos ⟨hs, by show (2 : Int) ≤ 2; omega, rfl, rfl, .inl rfl⟩, nextS_tt]
      rfl
    rw [eo]
    unfold tontinelaw14_SagaBudgets.l2
    rw [if_neg (by decide)]
    rfl
  | j + 1, k + 2, f, hj, hk2, h0, hf => by
    have hL := hk.2.1
    unfold tontinelaw14_SagaBudgets.l2
    have hs := sound2 hk hj h0 hf
    rw [if_pos (by simp; omega), f_Outcome n ⟨l, 2, ((j + 1 : Nat) : Int), f⟩ _ _ _ _ (by show l.length < n; omega), Option.bind_some]
    have eo : outS ⟨l, 2, ((j + 1 : Nat) : Int), f⟩ ((j + 1 : Nat) : Int) true 7 true = (⟨l, 2, (j : Int), 0⟩, true) := by
      unfold outS
      rw [if_pos ⟨hs, by show (2 : Int) ≤ 2; omega, rfl, rfl, .inl rfl⟩, nextS_tt]
      unfold backS
      have e : ((j + 1 : Nat) : Int) - 1 = (j : Int) := by omega
      show ((if ((j + 1 : Nat) : Int) - 1 < 0 then _ else _), true) = _
      rw [if_neg (by omega), e]
    have w : wi64 (((j + 1 : Nat) : Int) - 1) = (j : Int) := by rw [wi64_id (by omega) (by omega)]; omega
    rw [eo, w]
    have hb := budget_pos hk (show j < l.length by omega)
    exact budgets_l2 n l hk hn r j (k + 1) 0 (by omega) (by omega) (Int.le_refl _) (by omega)

theorem budgets_l1 (n : Nat) (l : List T_api_Step) (hk : okL l) (hn : l.length + 100 < n) (a f : Int) (A F : Nat) (hA : (wi64 ((a.tmod (l.length : Int)) + (l.length : Int))).tmod (l.length : Int) = (A : Int)) (hA2 : A < l.length)
    (hF : (wi64 ((f.tmod 12) + 12)).tmod 12 = (F : Int)) (hF2 : F < 12) (r : T_api_Saga) :
    ∀ (j k i : Nat), i + j = F → j < k →
    tontinelaw14_SagaBudgets.l1 n l a f (r, true) k l (if (i : Int) < (rdL l (A : Int)).Budget then 2 else 5) (A : Int) (if (i : Int) < (rdL l (A : Int)).Budget then (i : Int) else (rdL l (A : Int)).Budget) (i : Int) = some true
  | j, 0, i, _, h => by omega
  | 0, k + 1, i, hi, _ => by
    have hi : i = F := by omega
    subst hi
    have hL := hk.2.1
    unfold tontinelaw14_SagaBudgets.l1
    simp only [hA, hF]
    rw [if_neg (by simp)]
    by_cases hb : (i : Int) < (rdL l (A : Int)).Budget
    · rw [if_neg (by simpa using hb), if_pos hb, if_pos hb]
      exact budgets_l2 n l hk hn r A n (i : Int) hA2 (by omega) (by omega) hb
    · rw [if_pos (by simp; omega), if_neg hb]
      simp [tontinelaw14_SagaBudgets.j0]
  | j + 1, k + 1, i, hi, hk2 => by
    have hL := hk.2.1
    have hbp := budget_pos hk hA2
    have hbud : ∀ st fl, bud ⟨l, st, (A : Int), fl⟩ = (rdL l (A : Int)).Budget := fun _ _ => rfl
    unfold tontinelaw14_SagaBudgets.l1
    simp only [hA, hF]
    have hi1 : wi64 ((i : Int) + 1) = ((i + 1 : Nat) : Int) := by rw [wi64_id (by omega) (by omega)]; omega
    rw [if_pos (by simp; omega)]
    have ih := budgets_l1 n l hk hn a f A F hA hA2 hF hF2 r j k (i + 1) (by omega) (by omega)
    by_cases hb : (i : Int) < (rdL l (A : Int)).Budget
    · rw [if_pos hb, if_pos hb, f_Outcome n ⟨l, 2, (A : Int), (i : Int)⟩ _ _ _ _ (by show l.length < n; omega), Option.bind_some]
      have hs := sound2 hk hA2 (f := (i : Int)) (by omega) hb
      have eo : outS ⟨l, 2, (A : Int), (i : Int)⟩ (A : Int) true (i : Int) false = (⟨l, (if ((i + 1 : Nat) : Int) < (rdL l (A : Int)).Budget then 2 else 5), (A : Int), (if ((i + 1 : Nat) : Int) < (rdL l (A : Int)).Budget then ((i + 1 : Nat) : Int) else (rdL l (A : Int)).Budget)⟩, true) := by
        unfold outS
        rw [if_pos ⟨hs, by show (2 : Int) ≤ 2; omega, rfl, rfl, .inr rfl⟩, nextS_tf, hbud]
        show ((if (i : Int) + 1 = _ then _ else _), true) = _
        by_cases he : (i : Int) + 1 = (rdL l (A : Int)).Budget
        · rw [if_pos he, if_neg (by omega), if_neg (by omega), he]
        · rw [if_neg he, if_pos (by omega), if_pos (by omega), show ((i : Int) + 1) = ((i + 1 : Nat) : Int) by omega]
      rw [eo, if_neg (by simpa using hb), hi1]
      exact ih
    · rw [if_neg hb, if_neg hb, f_Outcome n ⟨l, 5, (A : Int), (rdL l (A : Int)).Budget⟩ _ _ _ _ (by show l.length < n; omega), Option.bind_some]
      have eo : outS ⟨l, 5, (A : Int), (rdL l (A : Int)).Budget⟩ (A : Int) true (i : Int) false = (⟨l, 5, (A : Int), (rdL l (A : Int)).Budget⟩, false) := by
        unfold outS
        rw [if_neg (fun h => by have h : (5 : Int) ≤ 2 := h.2.1; omega)]
      have hb1 : ¬ ((i + 1 : Nat) : Int) < (rdL l (A : Int)).Budget := by omega
      rw [if_neg hb1, if_neg hb1] at ih
      rw [eo, if_neg (by simp; omega), hi1]
      exact ih

theorem budgets_l0 (n : Nat) (l : List T_api_Step) (hk : okL l) (hn : l.length + 100 < n) (a f : Int) (A F : Nat) (hA : (wi64 ((a.tmod (l.length : Int)) + (l.length : Int))).tmod (l.length : Int) = (A : Int)) (hA2 : A < l.length)
    (hF : (wi64 ((f.tmod 12) + 12)).tmod 12 = (F : Int)) (hF2 : F < 12) :
    ∀ (j k i : Nat), i + j = A → j < k → tontinelaw14_SagaBudgets.l0 n l a f k l 1 (i : Int) 0 (i : Int) = some true
  | j, 0, i, _, h => by omega
  | 0, k + 1, i, hi, _ => by
    have hi : i = A := by omega
    subst hi
    have hL := hk.2.1
    unfold tontinelaw14_SagaBudgets.l0
    simp only [hA]
    have hs := sound1 hk hA2
    have ea : abS ⟨l, 1, (i : Int), 0⟩ = (⟨l, 2, (i : Int), 0⟩, true) := by
      unfold abS backS
      rw [if_pos ⟨hs, rfl⟩]
      show ((if (i : Int) < 0 then _ else _), true) = _
      rw [if_neg (by omega)]
    rw [if_neg (by simp), f_Abort n ⟨l, 1, (i : Int), 0⟩ (by show l.length < n; omega), Option.bind_some, ea, if_pos ⟨by omega, by omega⟩]
    have hb := budget_pos hk hA2
    have := budgets_l1 n l hk hn a f i F hA hA2 hF hF2 ⟨l, 2, (i : Int), 0⟩ F n 0 (by omega) (by omega)
    rw [if_pos (by omega), if_pos (by omega)] at this
    exact this
  | j + 1, k + 1, i, hi, hk2 => by
    have hL := hk.2.1
    unfold tontinelaw14_SagaBudgets.l0
    simp only [hA]
    have hs := sound1 hk (show i < l.length by omega)
    have hi1 : wi64 ((i : Int) + 1) = ((i + 1 : Nat) : Int) := by rw [wi64_id (by omega) (by omega)]; omega
    have eo : outS ⟨l, 1, (i : Int), 0⟩ (i : Int) false 0 true = (⟨l, 1, ((i + 1 : Nat) : Int), 0⟩, true) := by
      unfold outS
      rw [if_pos ⟨hs, by show (1 : Int) ≤ 2; omega, rfl, rfl, .inl rfl⟩, nextS_ft]
      show ((if (i : Int) + 1 = (l.length : Int) then _ else _), true) = _
      rw [if_neg (by omega), show ((i : Int) + 1) = ((i + 1 : Nat) : Int) by omega]
    rw [if_pos (by simp; omega), f_Outcome n ⟨l, 1, (i : Int), 0⟩ _ _ _ _ (by show l.length < n; omega), Option.bind_some, eo, hi1]
    exact budgets_l0 n l hk hn a f A F hA hA2 hF hF2 j k (i + 1) (by omega) (by omega)
theorem modN (x : Int) (p : Nat) (hp : 0 < p) (hp2 : p ≤ 1000000) : ∃ y : Nat, (wi64 ((x.tmod (p : Int)) + (p : Int))).tmod (p : Int) = (y : Int) ∧ y < p := by
  have h1 : x.tmod (p : Int) < (p : Int) := Int.tmod_lt_of_pos x (by omega)
  have h2 : (-x).tmod (p : Int) < (p : Int) := Int.tmod_lt_of_pos (-x) (by omega)
  rw [Int.neg_tmod] at h2
  rw [wi64_id (by omega) (by omega)]
  have h3 : 0 ≤ (x.tmod (p : Int) + (p : Int)).tmod (p : Int) := Int.tmod_nonneg _ (by omega)
  have h4 : (x.tmod (p : Int) + (p : Int)).tmod (p : Int) < (p : Int) := Int.tmod_lt_of_pos _ (by omega)
  exact ⟨((x.tmod (p : Int) + (p : Int)).tmod (p : Int)).toNat, by omega, by omega⟩
theorem tontinelaw14_SagaBudgets_law (l : List T_api_Step) (a f : Int) (hl : l.length * 32 ≤ reachBytes ∧ ∀ x ∈ l, wf_T_api_Step x) (ha : (Lit.int .i64 a).wf = true) (hf : (Lit.int .i64 f).wf = true) : Ev (fun n => tontinelaw14_SagaBudgets.f n l a f) true := by
  refine Ev.ge (l.length + 2000) fun n hn => ?_
  unfold tontinelaw14_SagaBudgets.f
  rw [begun14 n (by omega), Option.bind_some, if_neg (by simp), f_New n l (by omega), Option.bind_some]
  by_cases hk : okL l
  · have h1 := hk.1
    have h2 := hk.2.1
    rw [if_pos hk, if_neg (by simp), if_pos (by omega)]
    obtain ⟨A, hA, hA2⟩ := modN a l.length (by omega) (by omega)
    obtain ⟨F, hF, hF2⟩ := modN f 12 (by omega) (by omega)
    exact budgets_l0 n l hk (by omega) a f A F hA hA2 hF hF2 A n 0 (by omega) (by omega)
  · rw [if_neg hk, if_pos (by decide)]
end Go.GL
