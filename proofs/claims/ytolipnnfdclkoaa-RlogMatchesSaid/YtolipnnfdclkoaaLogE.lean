/- Logs: what merging comes to. -/
import Derived.Test.YtolipnnfdclkoaaLogD
set_option linter.unusedVariables false
set_option linter.unusedSimpArgs false
set_option maxRecDepth 10000
namespace Go.GL
open Go
theorem mrg_all (s : T_api_Snapshot) (l : List T_api_Entry) : ∀ c : List T_api_Entry, (∀ e ∈ c, hasE s l e) → mrg s l c = ([], l)
  | [], _ => rfl
  | e :: c, h => by
    unfold mrg
    rw [if_pos (h e (by simp))]
    exact mrg_all s l c fun x hx => h x (by simp [hx])
theorem atM_at (si : Int) (len : Nat) (i : Int) (k : Nat) (hi : i = si + 1 + k) (hk : k < len) : atM si len i = (k : Int) := by
  unfold atM; rw [if_pos ⟨by omega, by omega⟩]; omega
theorem rd_of_take {l l' : List T_api_Entry} {P k : Nat} (h : l'.take P = l.take P) (hk : k < P) : rdL l' (k : Int) = rdL l (k : Int) := by
  rw [← rdL_take l' P k hk, h, rdL_take l P k hk]
theorem term_at (s : T_api_Snapshot) (l : List T_api_Entry) (i : Int) (k : Nat) (hi : i = s.Index + 1 + k) (hk : k < l.length) : termM s l i = ((rdL l (k : Int)).Term, 0) := by
  unfold termM
  rw [atM_at s.Index l.length i k hi hk, if_pos (by omega)]
theorem term_snap (s : T_api_Snapshot) (l : List T_api_Entry) : termM s l s.Index = (s.Term, 0) := by
  unfold termM
  have : atM s.Index l.length s.Index = -1 := by unfold atM; rw [if_neg (by omega)]
  rw [this, if_neg (by omega), if_pos rfl]
theorem lastP_take (s : T_api_Snapshot) (l : List T_api_Entry) (hs : 0 ≤ s.Index ∧ s.Index ≤ 18446744073709551615) (hcl : chain s.Index s.Term l = true) (P : Nat) (hP : P ≤ l.length) (t : Int) (ht : termM s l (s.Index + P) = (t, 0)) :
    chain s.Index s.Term (l.take P) = true ∧ lastP s.Index s.Term (l.take P) = (s.Index + P, t) := by
  have hsplit : chain s.Index s.Term (l.take P ++ l.drop P) = true := by rw [List.take_append_drop]; exact hcl
  rw [chain_app, Bool.and_eq_true] at hsplit
  have hlen : (l.take P).length = P := by rw [List.length_take]; omega
  have h1 := (chain_last (l.take P) s.Index s.Term hs.1 hs.2 hsplit.1).1
  rw [hlen] at h1
  refine ⟨hsplit.1, ?_⟩
  by_cases h0 : P = 0
  · subst h0
    rw [show s.Index + ((0 : Nat) : Int) = s.Index by omega, term_snap] at ht
    have : s.Term = t := (Prod.mk.inj ht).1
    show (s.Index, s.Term) = _
    rw [this]; simp
  · have h2 : (lastP s.Index s.Term (l.take P)).2 = t := by
      rw [lastP_rd _ _ _ (by omega)]
      simp only [hlen]
      rw [rdL_take l P (P - 1) (by omega)]
      rw [term_at s l (s.Index + P) (P - 1) (by omega) (by omega)] at ht
      exact (Prod.mk.inj ht).1
    rw [← h1, ← h2]
theorem mrg_spec (s : T_api_Snapshot) (l : List T_api_Entry) (hs : 0 ≤ s.Index ∧ s.Index ≤ 18446744073709551615) (hcl : chain s.Index s.Term l = true) : ∀ (c : List T_api_Entry) (t : Int) (P : Nat), chain (s.Index + P) t c = true → P ≤ l.length → termM s l (s.Index + P) = (t, 0) →
    (∀ e ∈ c, hasE s (mrg s l c).2 e) ∧ (mrg s l c).2.take P = l.take P ∧ P ≤ (mrg s l c).2.length ∧ chain s.Index s.Term (mrg s l c).2 = true ∧ (mrg s l c).2.length ≤ l.length + c.length
  | [], t, P, _, hP, _ => ⟨by simp, rfl, hP, hcl, by simp [mrg]⟩
  | e :: c, t, P, hc, hP, ht => by
    rw [chain_cons, Bool.and_eq_true] at hc
    have q := okE_iff hc.1
    have hei : e.Index = s.Index + 1 + P := by omega
    unfold mrg
    by_cases hh : hasE s l e
    · rw [if_pos hh]
      have hlt : P < l.length := by
        have := hh.1
        unfold atM at this
        split at this
        · omega
        · omega
      have hat := atM_at s.Index l.length e.Index P hei hlt
      have htr : (rdL l (P : Int)).Term = e.Term := by have := hh.2; rw [hat] at this; exact this
      have hc2 : chain (s.Index + ((P + 1 : Nat) : Int)) e.Term c = true := by rw [show s.Index + ((P + 1 : Nat) : Int) = e.Index by omega]; exact hc.2
      have ht2 : termM s l (s.Index + ((P + 1 : Nat) : Int)) = (e.Term, 0) := by rw [term_at s l _ P (by omega) hlt, htr]
      obtain ⟨i1, i2, i3, i4, i5⟩ := mrg_spec s l hs hcl c e.Term (P + 1) hc2 (by omega) ht2
      refine ⟨fun x hx => ?_, ?_, by omega, i4, by simp only [List.length_cons]; omega⟩
      · rcases List.mem_cons.1 hx with hx | hx
        · subst hx
          have ha := atM_at s.Index (mrg s l c).2.length x.Index P hei (by omega)
          refine ⟨by rw [ha]; omega, ?_⟩
          rw [ha, rd_of_take i2 (by omega)]
          exact htr
        · exact i1 x hx
      · have := congrArg (List.take P) i2
        rw [List.take_take, List.take_take, Nat.min_eq_left (by omega)] at this
        exact this
    · rw [if_neg hh]
      have hkept : (if 0 ≤ atM s.Index l.length e.Index then l.take (atM s.Index l.length e.Index).toNat else l) = l.take P := by
        by_cases hlt : P < l.length
        · rw [atM_at s.Index l.length e.Index P hei hlt, if_pos (by omega), Int.toNat_natCast]
        · have : atM s.Index l.length e.Index = -1 := by unfold atM; rw [if_neg (by omega)]
          rw [this, if_neg (by omega), List.take_of_length_le (by omega)]
      simp only [hkept]
      have hlen : (l.take P).length = P := by rw [List.length_take]; omega
      obtain ⟨k1, k2⟩ := lastP_take s l hs hcl P hP t ht
      refine ⟨fun x hx => ?_, ?_, by rw [List.length_append, hlen]; omega, ?_, by rw [List.length_append, hlen]; simp only [List.length_cons]; omega⟩
      · obtain ⟨k, hk, rfl⟩ := mem_rd hx
        have hci : chain (s.Index + P) t (e :: c) = true := by rw [chain_cons, hc.1, hc.2]; rfl
        have hxi := chain_idx (e :: c) _ _ hci k hk
        have ha := atM_at s.Index (l.take P ++ e :: c).length (rdL (e :: c) (k : Int)).Index (P + k) (by rw [hxi]; omega) (by rw [List.length_append, hlen]; omega)
        refine ⟨by rw [ha]; omega, ?_⟩
        rw [ha]
        have := rdL_app2 (l.take P) (e :: c) k
        rw [hlen] at this
        rw [this]
      · rw [List.take_append_of_le_length (by omega), List.take_take, Nat.min_self]
      · rw [chain_app, k1, k2, chain_cons, hc.1, hc.2]
        rfl
theorem skip_ge (si : Int) (c : List T_api_Entry) (i t : Int) (h : chain i t c = true) (hi : si ≤ i) : skipM si i t c = (i, t, c) := by
  cases c with
  | nil => rfl
  | cons e c =>
    rw [chain_cons, Bool.and_eq_true] at h
    have q := okE_iff h.1
    unfold skipM
    rw [if_neg (by omega)]
theorem skip_spec (si : Int) : ∀ (c : List T_api_Entry) (i t : Int), 0 ≤ i → i ≤ 18446744073709551615 → chain i t c = true → ∃ pre, c = pre ++ (skipM si i t c).2.2 ∧ (∀ e ∈ pre, e.Index ≤ si) ∧ chain (skipM si i t c).1 (skipM si i t c).2.1 (skipM si i t c).2.2 = true ∧ ((skipM si i t c).2.2 = [] ∨ si ≤ (skipM si i t c).1) ∧ 0 ≤ (skipM si i t c).1 ∧ (skipM si i t c).1 ≤ 18446744073709551615 ∧ (skipM si i t c).2.2.length ≤ c.length
  | [], i, t, h0, h1, h => ⟨[], rfl, by simp, h, .inl rfl, h0, h1, by simp [skipM]⟩
  | e :: c, i, t, h0, h1, h => by
    have h' := h
    rw [chain_cons, Bool.and_eq_true] at h
    have q := okE_iff h.1
    unfold skipM
    by_cases hh : e.Index ≤ si
    · rw [if_pos hh]
      obtain ⟨pre, e1, e2, e3, e4, e5, e6, e7⟩ := skip_spec si c e.Index e.Term (by omega) (by omega) h.2
      refine ⟨e :: pre, by rw [List.cons_append, ← e1], fun x hx => ?_, e3, e4, e5, e6, by simp only [List.length_cons]; omega⟩
      rcases List.mem_cons.1 hx with hx | hx
      · rw [hx]; exact hh
      · exact e2 x hx
    · rw [if_neg hh]
      exact ⟨[], rfl, by simp, h', .inr (by simp only; omega), h0, h1, Nat.le_refl _⟩
theorem merge_spec (s : T_api_Snapshot) (l : List T_api_Entry) (hs : 0 ≤ s.Index ∧ s.Index ≤ 18446744073709551615) (hcl : chain s.Index s.Term l = true) (c : List T_api_Entry) (i t : Int) (hi : 0 ≤ i ∧ i ≤ 18446744073709551615) :
    mergeM s l i t c = ([], false, l) ∨ ((mergeM s l i t c).2.1 = true ∧ chain i t c = true ∧ chain s.Index s.Term (mergeM s l i t c).2.2 = true ∧ (mergeM s l i t c).2.2.length ≤ l.length + c.length ∧ (∀ e ∈ c, s.Index < e.Index → hasE s (mergeM s l i t c).2.2 e) ∧
      mergeM s (mergeM s l i t c).2.2 i t c = ([], true, (mergeM s l i t c).2.2) ∧ (∀ k : Nat, k < l.length → s.Index + 1 + k ≤ i → k < (mergeM s l i t c).2.2.length ∧ rdL (mergeM s l i t c).2.2 (k : Int) = rdL l (k : Int))) := by
  by_cases hc : chain i t c = true
  rotate_left
  · left; unfold mergeM; rw [if_neg hc]
  obtain ⟨pre, e1, e2, e3, e4, e5, e6, e7⟩ := skip_spec s.Index c i t hi.1 hi.2 hc
  have hm : ∀ l1, mergeM s l1 i t c = tailM s l1 (skipM s.Index i t c).1 (skipM s.Index i t c).2.1 (skipM s.Index i t c).2.2 := fun l1 => by unfold mergeM; rw [if_pos hc]
  have hge : s.Index ≤ i → (skipM s.Index i t c).1 = i := fun h => by rw [skip_ge s.Index c i t hc h]
  rw [hm]
  generalize hq1 : (skipM s.Index i t c).1 = qi at *
  generalize hq2 : (skipM s.Index i t c).2.1 = qt at *
  generalize hq3 : (skipM s.Index i t c).2.2 = qc at *
  by_cases h1 : qi < s.Index
  · have et : ∀ l1, tailM s l1 qi qt qc = ([], true, l1) := fun l1 => by unfold tailM; rw [if_pos h1]
    right
    rw [et]
    have hqc : qc = [] := by rcases e4 with h | h; exact h; omega
    refine ⟨rfl, hc, hcl, by simp only; omega, fun x hx hxi => ?_, ?_, fun k hk hki => ?_⟩
    · rw [hqc, List.append_nil] at e1
      rw [e1] at hx
      have := e2 x hx
      omega
    · show mergeM s l i t c = _
      rw [hm, et]
    · have := hge (by omega); omega
  by_cases h2 : (termM s l qi).2 = 0 ∧ (termM s l qi).1 = qt
  rotate_left
  · left; unfold tailM; rw [if_neg h1, if_neg h2]
  right
  have ht : termM s l qi = (qt, 0) := by rw [← h2.1, ← h2.2]
  have hP : ∃ P : Nat, qi = s.Index + P ∧ P ≤ l.length := by
    refine ⟨(qi - s.Index).toNat, by omega, ?_⟩
    by_cases h3 : qi = s.Index
    · omega
    · have := h2.1
      unfold termM at this
      rcases atM_cases s.Index l.length qi with ⟨ha, _⟩ | ⟨k, ha, hk, hki⟩
      · rw [ha, if_neg (by omega), if_neg h3] at this
        simp at this
      · omega
  obtain ⟨P, rfl, hPl⟩ := hP
  obtain ⟨m1, m2, m3, m4, m5⟩ := mrg_spec s l hs hcl qc qt P e3 hPl ht
  have et : tailM s l (s.Index + P) qt qc = ((mrg s l qc).1, true, (mrg s l qc).2) := by unfold tailM; rw [if_neg h1, if_pos h2]
  rw [et]
  refine ⟨rfl, hc, m4, by simp only; omega, fun x hx hxi => ?_, ?_, fun k hk hki => ?_⟩
  · rw [e1] at hx
    rcases List.mem_append.1 hx with hx | hx
    · have := e2 x hx; omega
    · exact m1 x hx
  · show mergeM s (mrg s l qc).2 i t c = _
    rw [hm]
    have ht' : termM s (mrg s l qc).2 (s.Index + P) = (qt, 0) := by
      by_cases h0 : P = 0
      · subst h0
        rw [show s.Index + ((0 : Nat) : Int) = s.Index by omega, term_snap] at ht ⊢
        exact ht
      · rw [term_at s _ (s.Index + P) (P - 1) (by omega) (by omega)] at ht ⊢
        rw [rd_of_take m2 (by omega)]
        exact ht
    unfold tailM
    rw [if_neg h1, ht', if_pos ⟨rfl, rfl⟩, mrg_all s _ qc m1]
  · have hqi := hge (by omega)
    exact ⟨by show k < (mrg s l qc).2.length; omega, rd_of_take m2 (by omega)⟩
end Go.GL
