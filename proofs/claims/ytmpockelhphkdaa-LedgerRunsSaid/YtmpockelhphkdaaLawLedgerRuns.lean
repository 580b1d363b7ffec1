/- The law LedgerRuns, over the plain functions. -/
import Derived.Test.YtmpockelhphkdaaLedg
set_option linter.unusedVariables false
set_option linter.unusedSimpArgs false
set_option maxRecDepth 10000
namespace Go.GL
open Go
theorem key_eq (a b : T_api_Key) : ((a.Saga == b.Saga) && ((a.Step == b.Step) && ((a.Back == b.Back) && true))) = decide (a = b) := by
  cases a; cases b
  simp only [T_api_Key.mk.injEq]
  rw [Bool.eq_iff_iff]; simp
def pairs (g : List T_tontineref18_Said) : List (T_api_Key × Bool) := g.map fun s => (s.Key, s.Ok)
/-- The reference's ledger says the same. -/
structure RG (l : T_ledger_Ledger) (m : T_tontineref18_Ledger) (i : Nat) : Prop where
  fence : m.Fence = l.fence
  keys : m.Keys = l.effects.map (·.Key)
  names : m.Names = l.effects.map (·.Name)
  good : pairs m.Good = l.said
  dead : ∀ k, decide (k ∈ m.Dead) = (getA k l.tombs).getD false
  n1 : l.effects.length ≤ i
  n2 : m.Good.length ≤ i
  n3 : m.Dead.length ≤ i
theorem r_said_l0 (n : Nat) (m : T_tontineref18_Ledger) (key : T_api_Key) (hm : m.Good.length ≤ 100000) : ∀ (j k i : Nat), i + j = m.Good.length → j < k →
    tontineref18_Ledger_said.l0 n m key k (i : Int) = some ((getA key (pairs (m.Good.drop i))).getD false, (getA key (pairs (m.Good.drop i))).isSome)
  | j, 0, i, _, h => by omega
  | 0, k + 1, i, hi, _ => by
    unfold tontineref18_Ledger_said.l0
    rw [if_neg (by rw [decide_eq_true_eq]; omega), List.drop_of_length_le (by omega)]
    rfl
  | j + 1, k + 1, i, hi, hk => by
    have hlt : i < m.Good.length := by omega
    have ih := r_said_l0 n m key hm j k (i + 1) (by omega) (by omega)
    unfold tontineref18_Ledger_said.l0
    rw [if_pos (by rw [decide_eq_true_eq]; omega), if_pos ⟨by omega, by omega⟩, key_eq, wi64_id (by omega) (by omega), show ((i : Int) + 1) = ((i + 1 : Nat) : Int) by omega, getD_drop hlt]
    have e : pairs (rdL m.Good (i : Int) :: m.Good.drop (i + 1)) = ((rdL m.Good (i : Int)).Key, (rdL m.Good (i : Int)).Ok) :: pairs (m.Good.drop (i + 1)) := rfl
    rw [e]
    unfold getA
    by_cases h : (rdL m.Good (i : Int)).Key = key
    · rw [decide_eq_true h, if_pos rfl, if_pos ⟨by omega, by omega⟩, if_pos h.symm]
      rfl
    · rw [decide_eq_false h, if_neg (by simp), if_neg (fun hh => h hh.symm)]
      exact ih
theorem r_said (n : Nat) (m : T_tontineref18_Ledger) (key : T_api_Key) (hm : m.Good.length ≤ 100000) (hn : m.Good.length < n) : tontineref18_Ledger_said.f n m key = some ((getA key (pairs m.Good)).getD false, (getA key (pairs m.Good)).isSome) :=
  r_said_l0 n m key hm m.Good.length n 0 (by omega) (by omega)
theorem r_dead_l0 (n : Nat) (m : T_tontineref18_Ledger) (key : T_api_Key) (hm : m.Dead.length ≤ 100000) : ∀ (j k i : Nat), i + j = m.Dead.length → j < k →
    tontineref18_Ledger_IsDead.l0 n m key k (i : Int) = some (decide (key ∈ m.Dead.drop i))
  | j, 0, i, _, h => by omega
  | 0, k + 1, i, hi, _ => by
    unfold tontineref18_Ledger_IsDead.l0
    rw [if_neg (by rw [decide_eq_true_eq]; omega), List.drop_of_length_le (by omega)]
    rfl
  | j + 1, k + 1, i, hi, hk => by
    have hlt : i < m.Dead.length := by omega
    have ih := r_dead_l0 n m key hm j k (i + 1) (by omega) (by omega)
    unfold tontineref18_Ledger_IsDead.l0
    rw [if_pos (by rw [decide_eq_true_eq]; omega), if_pos ⟨by omega, by omega⟩, key_eq, wi64_id (by omega) (by omega), show ((i : Int) + 1) = ((i + 1 : Nat) : Int) by omega, getD_drop hlt]
    by_cases h : rdL m.Dead (i : Int) = key
    · rw [decide_eq_true h, if_pos rfl, decide_eq_true (by rw [h]; simp)]
    · rw [decide_eq_false h, if_neg (by simp), ih]
      congr 1
      rw [Bool.eq_iff_iff, decide_eq_true_eq, decide_eq_true_eq, List.mem_cons]
      exact ⟨fun hh => .inr hh, fun hh => hh.resolve_left fun e => h e.symm⟩
theorem r_isdead (n : Nat) (m : T_tontineref18_Ledger) (key : T_api_Key) (hm : m.Dead.length ≤ 100000) (hn : m.Dead.length < n) : tontineref18_Ledger_IsDead.f n m key = some (decide (key ∈ m.Dead)) := by
  have := r_dead_l0 n m key hm m.Dead.length n 0 (by omega) (by omega)
  rw [List.drop_zero] at this
  exact this
theorem r_Ask (n : Nat) (hn : 2000 ≤ n) (l : T_ledger_Ledger) (m : T_tontineref18_Ledger) (i : Nat) (hi : i ≤ 1000) (h : RG l m i) (t : T_api_Token) (k : T_api_Key) (name : List UInt8) (fail : Bool) :
    ∃ m', tontineref18_Ledger_Ask.f n m t k name fail = some ((askM l t k name fail).1, (askM l t k name fail).2.1, m') ∧ RG (askM l t k name fail).2.2 m' (i + 1) := by
  obtain ⟨hf, hk, hna, hg, hd, n1, n2, n3⟩ := h
  have cap1 : ∀ v, capOk 32 (m.Good ++ [(⟨k, v⟩ : T_tontineref18_Said)]).length := fun v => by simp only [List.length_append, List.length_cons, List.length_nil]; unfold capOk; omega
  have cap2 : capOk 24 (m.Dead ++ [(⟨k.Saga, k.Step, false⟩ : T_api_Key)]).length := by simp only [List.length_append, List.length_cons, List.length_nil]; unfold capOk; omega
  have cap3 : capOk 24 (m.Keys ++ [k]).length := by rw [hk]; simp only [List.length_append, List.length_map, List.length_cons, List.length_nil]; unfold capOk; omega
  have cap4 : capOk 16 (m.Names ++ [name]).length := by rw [hna]; simp only [List.length_append, List.length_map, List.length_cons, List.length_nil]; unfold capOk; omega
  have same : RG l m (i + 1) := ⟨hf, hk, hna, hg, hd, by omega, by omega, by omega⟩
  have moved : RG ⟨t, l.effects, l.said, l.tombs⟩ ⟨t, m.Keys, m.Names, m.Good, m.Dead⟩ (i + 1) := ⟨rfl, hk, hna, hg, hd, by simp only; omega, by simp only; omega, by simp only; omega⟩
  have eL : tontineref18_Less.f n t ⟨m.Fence.Term, m.Fence.Index⟩ = some (lessM t l.fence) := by rw [← hf]; exact r_Less n t m.Fence
  have eS : ∀ key, tontineref18_Ledger_said.f n ⟨t, m.Keys, m.Names, m.Good, m.Dead⟩ key = some ((getA key l.said).getD false, (getA key l.said).isSome) := fun key => by
    rw [r_said n ⟨t, m.Keys, m.Names, m.Good, m.Dead⟩ key (by simp only; omega) (by simp only; omega)]
    simp only [hg]
  have eD : ∀ key, tontineref18_Ledger_IsDead.f n ⟨t, m.Keys, m.Names, m.Good, m.Dead⟩ key = some ((getA key l.tombs).getD false) := fun key => by
    rw [r_isdead n ⟨t, m.Keys, m.Names, m.Good, m.Dead⟩ key (by simp only; omega) (by simp only; omega)]
    simp only [hd]
  have eE : tontineref18_Ledger_effect.f n ⟨t, m.Keys, m.Names, m.Good, m.Dead⟩ k name = some ⟨t, m.Keys ++ [k], m.Names ++ [name], m.Good, m.Dead⟩ := by
    unfold tontineref18_Ledger_effect.f
    rw [if_pos cap3, if_pos cap4]
  have eJ2 : ∀ (K : List T_api_Key) (N : List (List UInt8)) (D : List T_api_Key), tontineref18_Ledger_Ask.j2 n k t.Term t.Index K N m.Good D = some (true, 0, ⟨t, K, N, m.Good ++ [⟨k, true⟩], D⟩) := fun K N D => by
    unfold tontineref18_Ledger_Ask.j2
    rw [if_pos (cap1 true)]
  have gnew : ∀ v, getA k l.said = none → pairs (m.Good ++ [(⟨k, v⟩ : T_tontineref18_Said)]) = putA k v l.said := fun v hnn => by
    rw [putA_new k v l.said hnn, ← hg]
    simp [pairs]
  have eff : RG ⟨t, l.effects ++ [⟨k, name⟩], putA k true l.said, l.tombs⟩ ⟨t, m.Keys ++ [k], m.Names ++ [name], m.Good ++ [⟨k, true⟩], m.Dead⟩ (i + 1) ∨ getA k l.said ≠ none := by
    by_cases hnn : getA k l.said = none
    · left
      exact ⟨rfl, by simp [hk], by simp [hna], gnew true hnn, hd, by simp; omega, by simp; omega, by simp only; omega⟩
    · exact .inr hnn
  have bad : badK k name = true → ∃ m', tontineref18_Ledger_Ask.j0 n m t k name fail true = some ((askM l t k name fail).1, (askM l t k name fail).2.1, m') ∧ RG (askM l t k name fail).2.2 m' (i + 1) := fun hb => by
    unfold askM
    rw [if_pos hb]
    exact ⟨m, rfl, same⟩
  have ok : badK k name = false → ∃ m', tontineref18_Ledger_Ask.j0 n m t k name fail false = some ((askM l t k name fail).1, (askM l t k name fail).2.1, m') ∧ RG (askM l t k name fail).2.2 m' (i + 1) := by
    intro hb
    unfold tontineref18_Ledger_Ask.j0 askM
    rw [if_neg (show ¬ (false = true) by simp), eL, Option.bind_some, hb, if_neg (show ¬ (false = true) by simp)]
    cases h1 : lessM t l.fence
    rotate_left
    · rw [if_pos rfl, if_pos rfl]
      exact ⟨m, rfl, same⟩
    rw [if_neg (show ¬ (false = true) by simp), if_neg (show ¬ (false = true) by simp), eS, Option.bind_some]
    cases h2 : getA k l.said with
    | some v =>
      dsimp only
      rw [if_pos (show (some v).isSome = true by rfl)]
      exact ⟨_, rfl, moved⟩
    | none =>
      have eff := eff.resolve_right (fun hh => hh h2)
      dsimp only
      rw [if_neg (show ¬ ((none : Option Bool).isSome = true) by simp)]
      cases h3 : k.Back
      · rw [if_pos (show (!false) = true by rfl), eD, Option.bind_some, if_neg (show ¬ (false = true) by simp)]
        unfold tontineref18_Ledger_Ask.j1
        cases h4 : (getA k l.tombs).getD false
        · rw [if_neg (show ¬ (false = true) by simp), if_neg (show ¬ (false = true) by simp), h3, if_neg (show ¬ (false = true) by simp)]
          unfold tontineref18_Ledger_Ask.j3
          rw [if_neg (show ¬ (false = true) by simp), h3, if_pos (show (!false) = true by rfl)]
          unfold tontineref18_Ledger_Ask.j4
          cases fail
          · rw [if_neg (show ¬ (false = true) by simp), if_neg (show ¬ (false = true) by simp), h3, if_neg (show ¬ (false = true) by simp), eE, Option.bind_some]
            simp only [eJ2]
            exact ⟨_, rfl, eff⟩
          · rw [if_pos rfl, if_pos rfl, if_pos (cap1 false)]
            exact ⟨_, rfl, ⟨rfl, hk, hna, gnew false h2, hd, by simp only; omega, by simp; omega, by simp only; omega⟩⟩
        · rw [if_pos rfl, if_pos rfl]
          exact ⟨_, rfl, moved⟩
      · rw [if_neg (show ¬ ((!true) = true) by simp), if_pos rfl]
        unfold tontineref18_Ledger_Ask.j1
        rw [if_neg (show ¬ (false = true) by simp), h3, if_pos rfl]
        unfold tontineref18_Ledger_Ask.j3
        cases fail
        · rw [if_neg (show ¬ (false = true) by simp), if_neg (show ¬ (false = true) by simp), h3, if_neg (show ¬ ((!true) = true) by simp)]
          unfold tontineref18_Ledger_Ask.j4
          rw [if_neg (show ¬ (false = true) by simp), h3, if_pos rfl, eS, Option.bind_some]
          have ef : getA (⟨k.Saga, k.Step, false⟩ : T_api_Key) l.said = getA (forthK k) l.said := rfl
          rw [ef]
          cases h5 : (getA (forthK k) l.said).getD false
          · rw [if_neg (show ¬ (false = true) by simp), if_neg (show ¬ (false = true) by simp), if_pos cap2, eJ2]
            refine ⟨_, rfl, ⟨rfl, hk, hna, gnew true h2, fun key => ?_, by simp only; omega, by simp; omega, by simp; omega⟩⟩
            simp only
            rw [getA_put]
            by_cases hkf : key = forthK k
            · rw [if_pos hkf, decide_eq_true (by rw [hkf]; simp [forthK])]
              rfl
            · rw [if_neg hkf, ← hd key]
              rw [Bool.eq_iff_iff, decide_eq_true_eq, decide_eq_true_eq, List.mem_append, List.mem_singleton]
              exact ⟨fun hh => hh.resolve_right hkf, fun hh => .inl hh⟩
          · rw [if_pos (show true = true by rfl), if_pos (show true = true by rfl), eE, Option.bind_some]
            simp only [eJ2]
            exact ⟨_, rfl, eff⟩
        · rw [if_pos rfl, if_pos rfl]
          exact ⟨_, rfl, moved⟩
  unfold tontineref18_Ledger_Ask.f
  by_cases q1 : k.Step < 0
  · rw [if_pos (by simpa using q1)]
    exact bad (by unfold badK; rw [decide_eq_true_eq]; exact .inl q1)
  · rw [if_neg (by simpa using q1)]
    by_cases q2 : k.Step > 63
    · rw [if_pos (by simpa using q2)]
      exact bad (by unfold badK; rw [decide_eq_true_eq]; exact .inr (.inl (by omega)))
    · rw [if_neg (by simpa using q2)]
      by_cases q3 : 16 < name.length
      · rw [decide_eq_true (by omega : ((name.length : Int) > 16))]
        exact bad (by unfold badK; rw [decide_eq_true_eq]; exact .inr (.inr q3))
      · rw [decide_eq_false (by omega : ¬ ((name.length : Int) > 16))]
        exact ok (by unfold badK; rw [decide_eq_false_iff_not]; omega)
theorem p_Eff (n : Nat) (l : T_ledger_Ledger) (h : l.effects.length ≤ 100000) : ledger_Ledger_Effects.f n l = some l.effects := by
  have c : capOk 40 l.effects.length := by unfold capOk; omega
  unfold ledger_Ledger_Effects.f
  rw [List.nil_append, if_pos c]
theorem runs_end (n : Nat) (es : List T_ledger_Effect) (he : es.length ≤ 100000) : ∀ (j k i : Nat), i + j = es.length → j < k → tontinelaw18_LedgerRuns.l0 n (es.map (·.Key)) (es.map (·.Name)) es k (i : Int) = some true
  | j, 0, i, _, h => by omega
  | 0, k + 1, i, hi, _ => by
    unfold tontinelaw18_LedgerRuns.l0
    rw [if_neg (by rw [decide_eq_true_eq]; omega)]
  | j + 1, k + 1, i, hi, hk => by
    have hlt : i < es.length := by omega
    have e1 : rdL (es.map (·.Key)) (i : Int) = (rdL es (i : Int)).Key := by simp [rdL, hlt]
    have e2 : rdL (es.map (·.Name)) (i : Int) = (rdL es (i : Int)).Name := by simp [rdL, hlt]
    unfold tontinelaw18_LedgerRuns.l0
    rw [if_pos (by rw [decide_eq_true_eq]; omega), if_pos ⟨by omega, by omega⟩, if_pos ⟨by omega, by rw [List.length_map]; omega⟩, e1, if_neg (by simp), if_pos ⟨by omega, by rw [List.length_map]; omega⟩, e2, if_neg (by simp), wi64_id (by omega) (by omega), show ((i : Int) + 1) = ((i + 1 : Nat) : Int) by omega]
    exact runs_end n es he j k (i + 1) (by omega) (by omega)
theorem runs_j0 (n : Nat) (hn : 2000 ≤ n) (l : T_ledger_Ledger) (m : T_tontineref18_Ledger) (i : Nat) (hi : i ≤ 1000) (h : RG l m i) : tontinelaw18_LedgerRuns.j0 n l.fence.Term l.fence.Index l.effects l.said l.tombs m.Keys m.Names = some true := by
  have n1 := h.n1
  unfold tontinelaw18_LedgerRuns.j0
  have e : ledger_Ledger_Effects.f n ⟨⟨l.fence.Term, l.fence.Index⟩, l.effects, l.said, l.tombs⟩ = some l.effects := p_Eff n l (by omega)
  rw [e, Option.bind_some, h.keys, h.names]
  exact runs_end n l.effects (by omega) l.effects.length n 0 (by omega) (by omega)
theorem runs_l1 (n : Nat) (hn : 2000 ≤ n) (cs : List T_tontinelaw18_Call) : ∀ (j k i : Nat) (l : T_ledger_Ledger) (m : T_tontineref18_Ledger), i + j = 300 → j < k → RG l m i →
    tontinelaw18_LedgerRuns.l1 n cs k l.fence.Term l.fence.Index l.effects l.said l.tombs m.Fence.Term m.Fence.Index m.Keys m.Names m.Good m.Dead (i : Int) = some true
  | j, 0, i, _, _, _, h, _ => by omega
  | 0, k + 1, i, l, m, hi, _, h => by
    have : i = 300 := by omega
    subst this
    unfold tontinelaw18_LedgerRuns.l1
    split
    · rename_i hl
      have hl : (300 : Int) < (cs.length : Int) := of_decide_eq_true hl
      rw [if_pos ⟨by omega, by omega⟩, if_pos (by rfl)]
      exact runs_j0 n hn l m 300 (by omega) h
    · exact runs_j0 n hn l m 300 (by omega) h
  | j + 1, k + 1, i, l, m, hi, hk, h => by
    unfold tontinelaw18_LedgerRuns.l1
    split
    rotate_left
    · exact runs_j0 n hn l m i (by omega) h
    rename_i hl
    have hl : (i : Int) < (cs.length : Int) := of_decide_eq_true hl
    have n1 := h.n1
    have w : wi64 ((i : Int) + 1) = ((i + 1 : Nat) : Int) := by rw [wi64_id (by omega) (by omega)]; omega
    have ea : ledger_Ledger_Ask.f n ⟨⟨l.fence.Term, l.fence.Index⟩, l.effects, l.said, l.tombs⟩ ⟨(rdL cs (i : Int)).Token.Term, (rdL cs (i : Int)).Token.Index⟩ ⟨(rdL cs (i : Int)).Key.Saga, (rdL cs (i : Int)).Key.Step, (rdL cs (i : Int)).Key.Back⟩ (rdL cs (i : Int)).Name (rdL cs (i : Int)).Fail = some (askM l (rdL cs (i : Int)).Token (rdL cs (i : Int)).Key (rdL cs (i : Int)).Name (rdL cs (i : Int)).Fail) := p_Ask n l _ _ _ _ (by omega)
    obtain ⟨m', er, h'⟩ := r_Ask n hn l m i (by omega) h (rdL cs (i : Int)).Token (rdL cs (i : Int)).Key (rdL cs (i : Int)).Name (rdL cs (i : Int)).Fail
    have er : tontineref18_Ledger_Ask.f n ⟨⟨m.Fence.Term, m.Fence.Index⟩, m.Keys, m.Names, m.Good, m.Dead⟩ ⟨(rdL cs (i : Int)).Token.Term, (rdL cs (i : Int)).Token.Index⟩ ⟨(rdL cs (i : Int)).Key.Saga, (rdL cs (i : Int)).Key.Step, (rdL cs (i : Int)).Key.Back⟩ (rdL cs (i : Int)).Name (rdL cs (i : Int)).Fail = _ := er
    rw [if_pos ⟨by omega, by omega⟩, if_neg (by rw [beq_iff_eq]; omega), ea, Option.bind_some, er, Option.bind_some]
    generalize askM l (rdL cs (i : Int)).Token (rdL cs (i : Int)).Key (rdL cs (i : Int)).Name (rdL cs (i : Int)).Fail = r at *
    obtain ⟨ok, e, l'⟩ := r
    have n1' := h'.n1
    simp only at h' n1' ⊢
    have eF : ledger_Ledger_Fence.f n ⟨⟨l'.fence.Term, l'.fence.Index⟩, l'.effects, l'.said, l'.tombs⟩ = some l'.fence := rfl
    have eX : ledger_Ledger_Effects.f n ⟨⟨l'.fence.Term, l'.fence.Index⟩, l'.effects, l'.said, l'.tombs⟩ = some l'.effects := p_Eff n l' (by omega)
    have eD : ledger_Ledger_Dead.f n ⟨⟨l'.fence.Term, l'.fence.Index⟩, l'.effects, l'.said, l'.tombs⟩ (rdL cs (i : Int)).Key.Saga (rdL cs (i : Int)).Key.Step = some ((getA (⟨(rdL cs (i : Int)).Key.Saga, (rdL cs (i : Int)).Key.Step, false⟩ : T_api_Key) l'.tombs).getD false) := rfl
    have eI : tontineref18_Ledger_IsDead.f n ⟨⟨m'.Fence.Term, m'.Fence.Index⟩, m'.Keys, m'.Names, m'.Good, m'.Dead⟩ ⟨(rdL cs (i : Int)).Key.Saga, (rdL cs (i : Int)).Key.Step, false⟩ = some ((getA (⟨(rdL cs (i : Int)).Key.Saga, (rdL cs (i : Int)).Key.Step, false⟩ : T_api_Key) l'.tombs).getD false) := by
      have n3 := h'.n3
      rw [← h'.dead]
      exact r_isdead n m' _ (by omega) (by omega)
    have ih := runs_l1 n hn cs j k (i + 1) l' m' (by omega) (by omega) h'
    rw [if_neg (by simp), if_neg (by simp), eF, Option.bind_some, h'.fence, if_neg (by simp)]
    rw [h'.fence] at eI
    rw [eD, Option.bind_some, eI, Option.bind_some, if_neg (by simp), eX, Option.bind_some]
    unfold tontinelaw18_LedgerRuns.j1
    have hb : ((l'.effects.length : Int) != (m'.Keys.length : Int)) = false := by rw [h'.keys]; simp
    simp only [hb, w]
    rw [if_neg (by simp)]
    exact ih
theorem tontinelaw18_LedgerRuns_law (cs : List T_tontinelaw18_Call) (h : cs.length * 64 ≤ reachBytes ∧ ∀ x ∈ cs, wf_T_tontinelaw18_Call x) : Ev (fun n => tontinelaw18_LedgerRuns.f n cs) true := by
  refine Ev.ge 3000 fun n hn => ?_
  unfold tontinelaw18_LedgerRuns.f ledger_New.f
  rw [begun18 n (by omega), Option.bind_some, if_neg (by simp), Option.bind_some]
  exact runs_l1 n (by omega) cs 300 n 0 ⟨⟨0, 0⟩, [], [], []⟩ ⟨⟨0, 0⟩, [], [], [], []⟩ (by omega) (by omega) ⟨rfl, rfl, rfl, rfl, fun k => by simp [getA], by simp, by simp, by simp⟩
end Go.GL
