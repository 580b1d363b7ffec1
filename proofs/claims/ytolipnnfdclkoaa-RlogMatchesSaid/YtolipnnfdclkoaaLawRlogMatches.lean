/- The law RlogMatches, over the plain functions. -/
import Derived.Test.YtolipnnfdclkoaaLogM
set_option linter.unusedVariables false
set_option linter.unusedSimpArgs false
set_option maxRecDepth 10000
namespace Go.GL
open Go
abbrev L3 := Int → Int → Int → List UInt8 → List T_api_Entry → Int → Int → Int → List UInt8 → List T_api_Entry → Int → Int → Int → List UInt8 → List T_api_Entry → Int → Int → Int → Option Bool
def stt (L : L3) (g : E3) (term lead x : Int) : Option Bool := L 0 0 7 [] (g 0) 0 0 7 [] (g 1) 0 0 7 [] (g 2) term lead x
theorem get3 (l : List T_api_Entry) (P : Nat) (hP : P ≤ l.length) (hl : l.length ≤ 1000) : getM s7 l (wu64 ((P : Int) + 1)) 3 = (l.drop P).take 3 := by
  have w : wu64 ((P : Int) + 1) = (P : Int) + 1 := wu64_id (by omega) (by omega)
  unfold getM
  rw [w]
  rcases atM_cases s7.Index l.length ((P : Int) + 1) with ⟨z, hz⟩ | ⟨k, z, hk, hkk⟩
  · have hPl : P = l.length := by
      have hz : ¬ ((0 : Int) < (P : Int) + 1 ∧ (P : Int) + 1 ≤ 0 + (l.length : Int)) := hz
      omega
    rw [z, if_pos (.inl (by omega)), List.drop_of_length_le (by omega)]
    rfl
  · have hkk : (P : Int) + 1 = 0 + 1 + k := hkk
    have : k = P := by omega
    subst this
    rw [z, if_neg (by omega), Int.toNat_natCast]
    rfl
theorem get_whole7 (l : List T_api_Entry) (hl : l.length ≤ 1000) : getM s7 l 1 1000 = l := by
  unfold getM
  rcases atM_cases s7.Index l.length 1 with ⟨z, hz⟩ | ⟨k, z, hk, hkk⟩
  · have hPl : l.length = 0 := by
      have hz : ¬ ((0 : Int) < 1 ∧ (1 : Int) ≤ 0 + (l.length : Int)) := hz
      omega
    rw [z, if_pos (.inl (by omega)), List.length_eq_zero_iff.1 hPl]
  · have hkk : (1 : Int) = 0 + 1 + k := hkk
    have : k = 0 := by omega
    subst this
    rw [z, if_neg (by omega)]
    show (l.drop 0).take 1000 = l
    rw [List.drop_zero, List.take_of_length_le hl]
theorem get1 (n : Nat) (l : List T_api_Entry) (h : LI ⟨s7, l⟩) (hl : l.length ≤ 1000) : rlog_Log_Get.f n (⟨(⟨0, 0, 7, []⟩ : T_api_Snapshot), l⟩ : T_rlog_Log) 1 1000 = some l := by
  have e := p_Get n ⟨s7, l⟩ 1 1000 h.ix (by omega) (by show l.length ≤ _; omega)
  have e2 := get_whole7 l hl
  exact e.trans (congrArg some e2)
theorem scan (n : Nat) (F : Nat → Int → Option Bool) (x y : List T_api_Entry) (hlm : LM x y) (hx : x.length ≤ 1000) (hn : 2000 ≤ n) (C1 C2 : Option Bool) (h1 : C1 = some true) (h2 : C2 = some true)
    (hF : ∀ (k : Nat) (i : Int), F (k + 1) i = (if decide (i ≥ 0) then (if (0 : Int) ≤ i ∧ i < (x.length : Int) then (if (0 : Int) ≤ i ∧ i < (y.length : Int) then (if (((rdL x i).Term) == ((rdL y i).Term)) then (if (0 : Int) ≤ (0 : Int) ∧ (0 : Int) ≤ (wi64 (i + 1)) ∧ (wi64 (i + 1)) ≤ (x.length : Int) then (if (0 : Int) ≤ (0 : Int) ∧ (0 : Int) ≤ (wi64 (i + 1)) ∧ (wi64 (i + 1)) ≤ (y.length : Int) then ((tontineref07_Same.f n ((x.take (wi64 (i + 1)).toNat).drop (0 : Int).toNat) ((y.take (wi64 (i + 1)).toNat).drop (0 : Int).toNat)).bind fun r => (if (!r) then (some false) else C1)) else none) else none) else (F k (wi64 (i - 1)))) else none) else none) else C2)) :
    ∀ (k : Nat) (i : Int), -1 ≤ i → i < (x.length : Int) → i < (y.length : Int) → i + 1 < (k : Int) → F k i = some true
  | 0, i, h, _, _, hk => by omega
  | k + 1, i, h, hix, hiy, hk => by
    rw [hF]
    by_cases h0 : i ≥ 0
    rotate_left
    · rw [if_neg (by rw [decide_eq_true_eq]; exact h0)]
      exact h2
    obtain ⟨p, rfl⟩ : ∃ p : Nat, i = (p : Int) := ⟨i.toNat, by omega⟩
    rw [if_pos (by rw [decide_eq_true_eq]; exact h0), if_pos ⟨h0, hix⟩, if_pos ⟨h0, hiy⟩]
    have w1 : wi64 ((p : Int) + 1) = ((p + 1 : Nat) : Int) := by rw [wi64_id (by omega) (by omega)]; omega
    have w2 : wi64 ((p : Int) - 1) = (p : Int) - 1 := wi64_id (by omega) (by omega)
    by_cases ht : (rdL x (p : Int)).Term = (rdL y (p : Int)).Term
    · have hs := hlm p (by omega) (by omega) ht
      rw [if_pos (by rw [beq_iff_eq]; exact ht), w1, if_pos ⟨by omega, by omega, by omega⟩, if_pos ⟨by omega, by omega, by omega⟩, Int.toNat_natCast, hs]
      have hl : ((y.take (p + 1)).drop (0 : Int).toNat).length ≤ 1001 := by
        show ((y.take (p + 1)).drop 0).length ≤ 1001
        rw [List.drop_zero, List.length_take]; omega
      rw [same07 n _ (by omega) (by omega), Option.bind_some, if_neg (by simp)]
      exact h1
    · rw [if_neg (by rw [beq_iff_eq]; exact ht), w2]
      exact scan n F x y hlm hx hn C1 C2 h1 h2 hF k ((p : Int) - 1) (by omega) (by omega) (by omega) (by omega)
theorem least (a b : Nat) (h : a ≤ 1000) (h' : b ≤ 1000) : -1 ≤ wi64 ((if (b : Int) < (a : Int) then (b : Int) else (a : Int)) - 1) ∧ wi64 ((if (b : Int) < (a : Int) then (b : Int) else (a : Int)) - 1) < (a : Int) ∧ wi64 ((if (b : Int) < (a : Int) then (b : Int) else (a : Int)) - 1) < (b : Int) ∧ wi64 ((if (b : Int) < (a : Int) then (b : Int) else (a : Int)) - 1) + 1 < 1002 := by
  have e : wi64 ((if (b : Int) < (a : Int) then (b : Int) else (a : Int)) - 1) = (if (b : Int) < (a : Int) then (b : Int) else (a : Int)) - 1 := by
    rw [wi64_id] <;> split <;> omega
  rw [e]
  split <;> omega
theorem add_c (n : Nat) (hn : 20 ≤ n) (l : List T_api_Entry) (h : LI ⟨s7, l⟩) (t : Int) (d : List UInt8) (hd : d.length ≤ 100) : rlog_Log_Add.f n (⟨(⟨0, 0, 7, []⟩ : T_api_Snapshot), l⟩ : T_rlog_Log) t 1 d = some (addM ⟨s7, l⟩ t 1 d) := p_Add n hn ⟨s7, l⟩ h t 1 d (by omega)
theorem j4_ok (n : Nat) (hn : 2000 ≤ n) (L : L3) (steps : List (List Int)) (g : E3) (term lead last : Int) (i a b P : Nat) (h : RM g term lead i) (hi : i ≤ 1000) (ha : a < 3) (hb : b < 3) (hA : (wi64 (((rdL [rdL (rdL steps (i : Int)) 0, rdL (rdL steps (i : Int)) 1, rdL (rdL steps (i : Int)) 2] (1 : Int)).tmod 3) + 3)).tmod 3 = (a : Int)) (hP : P ≤ (g b).length)
    (hF : (wu64 ((wi64 (((rdL [rdL (rdL steps (i : Int)) 0, rdL (rdL steps (i : Int)) 1, rdL (rdL steps (i : Int)) 2] (0 : Int)).tmod 7) + 7)).tmod 7)).tmod (wu64 (last + 1)) = (P : Int)) :
    ∃ l, (l = g a ∨ ∃ m, l = (g b).take m) ∧ tontinelaw07_RlogMatches.j4 n L steps 0 0 7 [] (g 0) 0 0 7 [] (g 1) 0 0 7 [] (g 2) term lead (i : Int) last (b : Int) (termM s7 (g b) (P : Int)).1 = stt L (up g a l) term lead (wi64 ((i : Int) + 1)) := by
  have hlb := h.len b hb
  have hla := h.len a ha
  have hlib := h.li hi b hb
  have hlia := h.li hi a ha
  have eg : rlog_Log_Get.f n (⟨(⟨0, 0, 7, []⟩ : T_api_Snapshot), g b⟩ : T_rlog_Log) (wu64 ((P : Int) + 1)) 3 = some (((g b).drop P).take 3) := by
    have e := p_Get n ⟨s7, g b⟩ (wu64 ((P : Int) + 1)) 3 hlib.ix (by rw [wu64_id (by omega) (by omega)]; omega) (by show (g b).length ≤ _; omega)
    rw [show getM (⟨s7, g b⟩ : T_rlog_Log).snap (⟨s7, g b⟩ : T_rlog_Log).entries (wu64 ((P : Int) + 1)) 3 = ((g b).drop P).take 3 from get3 (g b) P hP (by omega)] at e
    exact e
  have hmem : ∀ e ∈ ((g b).drop P).take 3, e ∈ g b := fun e he => List.mem_of_mem_drop (List.mem_of_mem_take he)
  have hc3 : (((g b).drop P).take 3).length ≤ 3 := by rw [List.length_take]; omega
  have em : rlog_Log_Merge.f n (⟨(⟨0, 0, 7, []⟩ : T_api_Snapshot), g a⟩ : T_rlog_Log) (P : Int) (termM s7 (g b) (P : Int)).1 (((g b).drop P).take 3) = some (outM s7 (mergeM s7 (g a) (P : Int) (termM s7 (g b) (P : Int)).1 (((g b).drop P).take 3))) := by
    refine p_Merge n ⟨s7, g a⟩ (P : Int) _ _ (by omega) hlia.ix (by omega) (by omega) (fun e he => ?_) (fun e he => ?_) (fun _ => by show (g a).length + _ ≤ _; omega)
    · have := (chain_mem (g b) 0 0 (h.ch b hb) e (hmem e he)).1; omega
    · obtain ⟨k, hk, hke⟩ := mem_rd (hmem e he)
      have := chain_idx (g b) 0 0 (h.ch b hb) k hk
      rw [hke] at this
      omega
  have hm := merge_head (g a) (g b) (h.ch b hb) (h.lm a ha b hb) P 3 hP
  unfold tontinelaw07_RlogMatches.j4
  rw [hA, hF]
  have ca : a = 0 ∨ a = 1 ∨ a = 2 := by omega
  have cb : b = 0 ∨ b = 1 ∨ b = 2 := by omega
  rcases ca with rfl | rfl | rfl <;> rcases cb with rfl | rfl | rfl
  · rw [if_pos (by decide), if_pos (by decide), eg, Option.bind_some, em, Option.bind_some]
    exact ⟨_, hm, rfl⟩
  · rw [if_pos (by decide), if_neg (by decide), if_pos (by decide), eg, Option.bind_some, em, Option.bind_some]
    exact ⟨_, hm, rfl⟩
  · rw [if_pos (by decide), if_neg (by decide), if_neg (by decide), if_pos (by decide), eg, Option.bind_some, em, Option.bind_some]
    exact ⟨_, hm, rfl⟩
  · rw [if_neg (by decide), if_pos (by decide), if_pos (by decide), eg, Option.bind_some, em, Option.bind_some]
    exact ⟨_, hm, rfl⟩
  · rw [if_neg (by decide), if_pos (by decide), if_neg (by decide), if_pos (by decide), eg, Option.bind_some, em, Option.bind_some]
    exact ⟨_, hm, rfl⟩
  · rw [if_neg (by decide), if_pos (by decide), if_neg (by decide), if_neg (by decide), if_pos (by decide), eg, Option.bind_some, em, Option.bind_some]
    exact ⟨_, hm, rfl⟩
  · rw [if_neg (by decide), if_neg (by decide), if_pos (by decide), if_pos (by decide), eg, Option.bind_some, em, Option.bind_some]
    exact ⟨_, hm, rfl⟩
  · rw [if_neg (by decide), if_neg (by decide), if_pos (by decide), if_neg (by decide), if_pos (by decide), eg, Option.bind_some, em, Option.bind_some]
    exact ⟨_, hm, rfl⟩
  · rw [if_neg (by decide), if_neg (by decide), if_pos (by decide), if_neg (by decide), if_neg (by decide), if_pos (by decide), eg, Option.bind_some, em, Option.bind_some]
    exact ⟨_, hm, rfl⟩
theorem j3_ok (n : Nat) (hn : 2000 ≤ n) (L : L3) (steps : List (List Int)) (g : E3) (term lead last : Int) (i a b : Nat) (h : RM g term lead i) (hi : i ≤ 1000) (ha : a < 3) (hb : b < 3) (hA : (wi64 (((rdL [rdL (rdL steps (i : Int)) 0, rdL (rdL steps (i : Int)) 1, rdL (rdL steps (i : Int)) 2] (1 : Int)).tmod 3) + 3)).tmod 3 = (a : Int)) (hl : last = ((g b).length : Int)) :
    ∃ l, (l = g a ∨ ∃ m, l = (g b).take m) ∧ tontinelaw07_RlogMatches.j3 n L steps 0 0 7 [] (g 0) 0 0 7 [] (g 1) 0 0 7 [] (g 2) term lead (i : Int) (b : Int) last = stt L (up g a l) term lead (wi64 ((i : Int) + 1)) := by
  have hlb := h.len b hb
  have hlib := h.li hi b hb
  have w : wu64 (last + 1) = last + 1 := wu64_id (by omega) (by omega)
  obtain ⟨f, hf, hf7⟩ := modN (rdL [rdL (rdL steps (i : Int)) 0, rdL (rdL steps (i : Int)) 1, rdL (rdL steps (i : Int)) 2] (0 : Int)) 7 (by omega) (by omega)
  have hf : (wi64 (((rdL [rdL (rdL steps (i : Int)) 0, rdL (rdL steps (i : Int)) 1, rdL (rdL steps (i : Int)) 2] (0 : Int)).tmod 7) + 7)).tmod 7 = (f : Int) := hf
  have wf : wu64 (f : Int) = (f : Int) := wu64_id (by omega) (by omega)
  have hF0 : ∃ P : Nat, (f : Int).tmod (last + 1) = (P : Int) ∧ P ≤ (g b).length := by
    have q1 : 0 ≤ (f : Int).tmod (last + 1) := Int.tmod_nonneg _ (by omega)
    have q2 : (f : Int).tmod (last + 1) < last + 1 := Int.tmod_lt_of_pos _ (by omega)
    exact ⟨((f : Int).tmod (last + 1)).toNat, by omega, by omega⟩
  obtain ⟨P, hP0, hP⟩ := hF0
  have hF : (wu64 ((wi64 (((rdL [rdL (rdL steps (i : Int)) 0, rdL (rdL steps (i : Int)) 1, rdL (rdL steps (i : Int)) 2] (0 : Int)).tmod 7) + 7)).tmod 7)).tmod (wu64 (last + 1)) = (P : Int) := by rw [hf, wf, w]; exact hP0
  have et : rlog_Log_Term.f n (⟨(⟨0, 0, 7, []⟩ : T_api_Snapshot), g b⟩ : T_rlog_Log) (P : Int) = some (termM s7 (g b) (P : Int)) := p_Term n ⟨s7, g b⟩ (P : Int) hlib.ix (by omega) (by show (g b).length ≤ _; omega)
  unfold tontinelaw07_RlogMatches.j3
  rw [if_pos ⟨by omega, by omega⟩, if_pos ⟨rfl, by omega, by simp⟩, if_pos (by rw [w]; omega), hF]
  have cb : b = 0 ∨ b = 1 ∨ b = 2 := by omega
  rcases cb with rfl | rfl | rfl
  · rw [if_pos (by decide), et, Option.bind_some]
    exact j4_ok n hn L steps g term lead last i a 0 P h hi ha hb hA hP hF
  · rw [if_neg (by decide), if_pos (by decide), et, Option.bind_some]
    exact j4_ok n hn L steps g term lead last i a 1 P h hi ha hb hA hP hF
  · rw [if_neg (by decide), if_neg (by decide), if_pos (by decide), et, Option.bind_some]
    exact j4_ok n hn L steps g term lead last i a 2 P h hi ha hb hA hP hF
theorem last_c (n : Nat) (l : List T_api_Entry) (h : LI ⟨s7, l⟩) : ∃ t, rlog_Log_Last.f n (⟨(⟨0, 0, 7, []⟩ : T_api_Snapshot), l⟩ : T_rlog_Log) = some ((l.length : Int), t) := by
  have e := p_Last n ⟨s7, l⟩ (by have := h.len; omega)
  have h1 := h.last.1
  have h1 : (lastP s7.Index s7.Term l).1 = s7.Index + (l.length : Int) := h1
  have h2 : s7.Index = 0 := rfl
  rw [h2] at h1
  refine ⟨(lastP s7.Index s7.Term l).2, e.trans ?_⟩
  show some (lastP s7.Index s7.Term l) = _
  congr 1
  apply Prod.ext
  · show (lastP s7.Index s7.Term l).1 = _
    rw [h2]; omega
  · rfl
theorem j2_ok (n : Nat) (hn : 2000 ≤ n) (L : L3) (steps : List (List Int)) (g : E3) (term lead : Int) (i a b : Nat) (h : RM g term lead i) (hi : i ≤ 1000) (ha : a < 3) (hb : b < 3) (hA : (wi64 (((rdL [rdL (rdL steps (i : Int)) 0, rdL (rdL steps (i : Int)) 1, rdL (rdL steps (i : Int)) 2] (1 : Int)).tmod 3) + 3)).tmod 3 = (a : Int)) (hB : (wi64 (((rdL [rdL (rdL steps (i : Int)) 0, rdL (rdL steps (i : Int)) 1, rdL (rdL steps (i : Int)) 2] (2 : Int)).tmod 3) + 3)).tmod 3 = (b : Int)) :
    ∃ l, (l = g a ∨ ∃ m, l = (g b).take m) ∧ tontinelaw07_RlogMatches.j2 n L steps 0 0 7 [] (g 0) 0 0 7 [] (g 1) 0 0 7 [] (g 2) term lead (i : Int) true = stt L (up g a l) term lead (wi64 ((i : Int) + 1)) := by
  obtain ⟨t, el⟩ := last_c n (g b) (h.li hi b hb)
  unfold tontinelaw07_RlogMatches.j2
  rw [if_pos rfl, hB]
  have cb : b = 0 ∨ b = 1 ∨ b = 2 := by omega
  rcases cb with rfl | rfl | rfl
  · rw [if_pos (by decide), el, Option.bind_some]
    exact j3_ok n hn L steps g term lead _ i a 0 h hi ha hb hA rfl
  · rw [if_neg (by decide), if_pos (by decide), el, Option.bind_some]
    exact j3_ok n hn L steps g term lead _ i a 1 h hi ha hb hA rfl
  · rw [if_neg (by decide), if_neg (by decide), if_pos (by decide), el, Option.bind_some]
    exact j3_ok n hn L steps g term lead _ i a 2 h hi ha hb hA rfl
theorem j1_ok (n : Nat) (hn : 2000 ≤ n) (L : L3) (steps : List (List Int)) (g : E3) (term lead : Int) (i a b : Nat) (h : RM g term lead i) (hi : i ≤ 1000) (ha : a < 3) (hb : b < 3) (hA : (wi64 (((rdL [rdL (rdL steps (i : Int)) 0, rdL (rdL steps (i : Int)) 1, rdL (rdL steps (i : Int)) 2] (1 : Int)).tmod 3) + 3)).tmod 3 = (a : Int)) (hB : (wi64 (((rdL [rdL (rdL steps (i : Int)) 0, rdL (rdL steps (i : Int)) 1, rdL (rdL steps (i : Int)) 2] (2 : Int)).tmod 3) + 3)).tmod 3 = (b : Int))
    (ih : ∀ g' term' lead', RM g' term' lead' (i + 1) → stt L g' term' lead' (wi64 ((i : Int) + 1)) = some true) (bb : Bool) (hbb : bb = true → 0 ≤ lead) :
    tontinelaw07_RlogMatches.j1 n L steps 0 0 7 [] (g 0) 0 0 7 [] (g 1) 0 0 7 [] (g 2) term lead (i : Int) bb = some true := by
  have skip : tontinelaw07_RlogMatches.j2 n L steps 0 0 7 [] (g 0) 0 0 7 [] (g 1) 0 0 7 [] (g 2) term lead (i : Int) false = some true := ih g term lead h.more
  unfold tontinelaw07_RlogMatches.j1
  cases bb
  · rw [if_neg (by simp)]
    split
    · rw [hA]
      by_cases hne : (a : Int) = lead
      · have : ((a : Int) != lead) = false := by rw [bne_eq_false_iff_eq]; exact hne
        rw [this]; exact skip
      · have : ((a : Int) != lead) = true := by rw [bne_iff_ne]; exact hne
        rw [this]
        obtain ⟨l, hl, e⟩ := j2_ok n hn L steps g term lead i a b h hi ha hb hA hB
        rw [e]
        exact ih _ _ _ (h.copy a b ha hb hne l hl)
    · exact skip
  · rw [if_pos rfl]
    obtain ⟨d, hd, hld⟩ : ∃ d : Nat, d < 3 ∧ lead = d := h.ld.resolve_left (fun q => by have := hbb rfl; omega)
    have cd : d = 0 ∨ d = 1 ∨ d = 2 := by omega
    subst hld
    rcases cd with rfl | rfl | rfl
    · obtain ⟨e, e1, e2⟩ := h.add hi 0 (by omega) term [u8of (i : Int)] (by simp) (.inr ⟨rfl, rfl⟩)
      rw [if_pos (by decide), add_c n (by omega) _ (h.li hi 0 (by omega)) _ _ (by simp), Option.bind_some, e1]
      exact ih _ _ _ e2
    · obtain ⟨e, e1, e2⟩ := h.add hi 1 (by omega) term [u8of (i : Int)] (by simp) (.inr ⟨rfl, rfl⟩)
      rw [if_neg (by decide), if_pos (by decide), add_c n (by omega) _ (h.li hi 1 (by omega)) _ _ (by simp), Option.bind_some, e1]
      exact ih _ _ _ e2
    · obtain ⟨e, e1, e2⟩ := h.add hi 2 (by omega) term [u8of (i : Int)] (by simp) (.inr ⟨rfl, rfl⟩)
      rw [if_neg (by decide), if_neg (by decide), if_pos (by decide), add_c n (by omega) _ (h.li hi 2 (by omega)) _ _ (by simp), Option.bind_some, e1]
      exact ih _ _ _ e2
theorem matches_l0 (n : Nat) (hn : 3000 ≤ n) (steps : List (List Int)) (hs : steps.length ≤ 150) : ∀ (j k i : Nat) (g : E3) (term lead : Int), RM g term lead i → i + j = steps.length → j < k → stt (tontinelaw07_RlogMatches.l0 n steps k) g term lead (i : Int) = some true
  | j, 0, i, _, _, _, _, _, h => by omega
  | 0, k + 1, i, g, term, lead, h, hi, _ => by
    have l0 := h.len 0 (by omega)
    have l1 := h.len 1 (by omega)
    have l2 := h.len 2 (by omega)
    have g0 := get1 n (g 0) (h.li (by omega) 0 (by omega)) (by omega)
    have g1 := get1 n (g 1) (h.li (by omega) 1 (by omega)) (by omega)
    have g2 := get1 n (g 2) (h.li (by omega) 2 (by omega)) (by omega)
    have b10 := least (g 1).length (g 0).length (by omega) (by omega)
    have b20 := least (g 2).length (g 0).length (by omega) (by omega)
    have b21 := least (g 2).length (g 1).length (by omega) (by omega)
    have m10 := h.lm 1 (by omega) 0 (by omega)
    have m20 := h.lm 2 (by omega) 0 (by omega)
    have m21 := h.lm 2 (by omega) 1 (by omega)
    have s3 := scan n (tontinelaw07_RlogMatches.l3 n (g 2) (g 1)) (g 2) (g 1) m21 (by omega) (by omega) (some true) (some true) rfl rfl (fun k i => by rw [tontinelaw07_RlogMatches.l3.eq_2]) n _ b21.1 b21.2.1 b21.2.2.1 (by omega)
    have s4 := scan n (tontinelaw07_RlogMatches.l4 n (g 2) (g 1)) (g 2) (g 1) m21 (by omega) (by omega) (some true) (some true) rfl rfl (fun k i => by rw [tontinelaw07_RlogMatches.l4.eq_2]) n _ b21.1 b21.2.1 b21.2.2.1 (by omega)
    have s6 := scan n (tontinelaw07_RlogMatches.l6 n (g 2) (g 1)) (g 2) (g 1) m21 (by omega) (by omega) (some true) (some true) rfl rfl (fun k i => by rw [tontinelaw07_RlogMatches.l6.eq_2]) n _ b21.1 b21.2.1 b21.2.2.1 (by omega)
    have s7' := scan n (tontinelaw07_RlogMatches.l7 n (g 2) (g 1)) (g 2) (g 1) m21 (by omega) (by omega) (some true) (some true) rfl rfl (fun k i => by rw [tontinelaw07_RlogMatches.l7.eq_2]) n _ b21.1 b21.2.1 b21.2.2.1 (by omega)
    have s2 := scan n (tontinelaw07_RlogMatches.l2 n 0 0 7 [] (g 1) 0 0 7 [] (g 2) (g 2) (g 0)) (g 2) (g 0) m20 (by omega) (by omega) _ _ s3 s4 (fun k i => by rw [tontinelaw07_RlogMatches.l2.eq_2, g2, g1]; rfl) n _ b20.1 b20.2.1 b20.2.2.1 (by omega)
    have s5 := scan n (tontinelaw07_RlogMatches.l5 n 0 0 7 [] (g 1) 0 0 7 [] (g 2) (g 2) (g 0)) (g 2) (g 0) m20 (by omega) (by omega) _ _ s6 s7' (fun k i => by rw [tontinelaw07_RlogMatches.l5.eq_2, g2, g1]; rfl) n _ b20.1 b20.2.1 b20.2.2.1 (by omega)
    have s1 := scan n (tontinelaw07_RlogMatches.l1 n 0 0 7 [] (g 0) 0 0 7 [] (g 1) 0 0 7 [] (g 2) (g 1) (g 0)) (g 1) (g 0) m10 (by omega) (by omega) _ _ s2 s5 (fun k i => by rw [tontinelaw07_RlogMatches.l1.eq_2, g2, g0]; rfl) n _ b10.1 b10.2.1 b10.2.2.1 (by omega)
    unfold stt
    rw [tontinelaw07_RlogMatches.l0.eq_2, if_neg (by rw [decide_eq_true_eq]; omega), g1, Option.bind_some, g0, Option.bind_some]
    exact s1
  | j + 1, k + 1, i, g, term, lead, h, hi, hk => by
    have hi1 : i ≤ 1000 := by omega
    have w : wi64 ((i : Int) + 1) = ((i + 1 : Nat) : Int) := by rw [wi64_id (by omega) (by omega)]; omega
    have ih : ∀ g' term' lead', RM g' term' lead' (i + 1) → stt (tontinelaw07_RlogMatches.l0 n steps k) g' term' lead' (wi64 ((i : Int) + 1)) = some true := fun g' t' l' h' => by
      rw [w]; exact matches_l0 n hn steps hs j k (i + 1) g' t' l' h' (by omega) (by omega)
    have ht0 := h.t0
    have ht1 := h.t1
    have wt : wu64 (term + 1) = term + 1 := wu64_id (by omega) (by omega)
    obtain ⟨a, hA, ha⟩ := modN (rdL [rdL (rdL steps (i : Int)) 0, rdL (rdL steps (i : Int)) 1, rdL (rdL steps (i : Int)) 2] (1 : Int)) 3 (by omega) (by omega)
    have hA : (wi64 (((rdL [rdL (rdL steps (i : Int)) 0, rdL (rdL steps (i : Int)) 1, rdL (rdL steps (i : Int)) 2] (1 : Int)).tmod 3) + 3)).tmod 3 = (a : Int) := hA
    obtain ⟨b, hB, hb⟩ := modN (rdL [rdL (rdL steps (i : Int)) 0, rdL (rdL steps (i : Int)) 1, rdL (rdL steps (i : Int)) 2] (2 : Int)) 3 (by omega) (by omega)
    have hB : (wi64 (((rdL [rdL (rdL steps (i : Int)) 0, rdL (rdL steps (i : Int)) 1, rdL (rdL steps (i : Int)) 2] (2 : Int)).tmod 3) + 3)).tmod 3 = (b : Int) := hB
    unfold stt
    rw [tontinelaw07_RlogMatches.l0.eq_2, if_pos (by rw [decide_eq_true_eq]; omega), if_pos ⟨by omega, by omega⟩, if_pos ⟨rfl, rfl⟩, if_pos ⟨by omega, by omega⟩, if_pos ⟨rfl, by omega, by simp⟩, if_pos ⟨by omega, by omega⟩, if_pos ⟨rfl, by omega, by simp⟩, if_pos ⟨by omega, by omega⟩, if_pos ⟨rfl, by omega, by simp⟩]
    split
    · rw [hA, wt]
      have hi := hi1
      have ca : a = 0 ∨ a = 1 ∨ a = 2 := by omega
      rcases ca with rfl | rfl | rfl
      · obtain ⟨e, e1, e2⟩ := h.add hi 0 (by omega) (term + 1) [u8of (i : Int)] (by simp) (.inl rfl)
        rw [if_pos (by decide), add_c n (by omega) _ (h.li hi 0 (by omega)) _ _ (by simp), Option.bind_some, e1]
        exact ih _ _ _ e2
      · obtain ⟨e, e1, e2⟩ := h.add hi 1 (by omega) (term + 1) [u8of (i : Int)] (by simp) (.inl rfl)
        rw [if_neg (by decide), if_pos (by decide), add_c n (by omega) _ (h.li hi 1 (by omega)) _ _ (by simp), Option.bind_some, e1]
        exact ih _ _ _ e2
      · obtain ⟨e, e1, e2⟩ := h.add hi 2 (by omega) (term + 1) [u8of (i : Int)] (by simp) (.inl rfl)
        rw [if_neg (by decide), if_neg (by decide), if_pos (by decide), add_c n (by omega) _ (h.li hi 2 (by omega)) _ _ (by simp), Option.bind_some, e1]
        exact ih _ _ _ e2
    · split
      · exact j1_ok n (by omega) _ steps g term lead i a b h hi1 ha hb hA hB ih _ (fun q => of_decide_eq_true q)
      · exact j1_ok n (by omega) _ steps g term lead i a b h hi1 ha hb hA hB ih _ (fun q => by cases q)
theorem tontinelaw07_RlogMatches_law (steps : List (List Int)) (h : steps.length * 24 ≤ reachBytes ∧ ∀ x ∈ steps, x.length = 3 ∧ ∀ z ∈ x, (Lit.int .i64 z).wf = true) : Ev (fun n => tontinelaw07_RlogMatches.f n steps) true := by
  unfold tontinelaw07_RlogMatches.f
  refine Ev.bind (Ev.ge 40 begun07) (Ev.ge 5000 fun n hn => ?_)
  rw [if_neg (by simp)]
  split
  · rfl
  · rename_i hl
    have hl : steps.length ≤ 150 := by
      have : ¬ ((steps.length : Int) > 150) := fun q => hl (decide_eq_true q)
      omega
    have en : rlog_New.f n (⟨0, 0, 7, []⟩ : T_api_Snapshot) ([] : List T_api_Entry) = some (some ⟨s7, []⟩, 0) := by
      rw [p_New n ⟨0, 0, 7, []⟩ [] (by simp; omega) (by simp) (by simp) (by simp) (by simp)]
      rfl
    simp only [en, Option.bind_some]
    have h0 : RM (fun _ => []) 0 (-1) 0 := ⟨fun _ _ => rfl, fun _ _ => Nat.le_refl _, (fun _ _ e he => by cases he), by omega, by omega, .inl rfl, fun _ _ _ _ => LM.refl _, fun d hd => by omega⟩
    exact matches_l0 n (by omega) steps hl steps.length n 0 (fun _ => []) 0 (-1) h0 (by omega) (by omega)
end Go.GL
