/- Logs that match: three logs that grow by leaders of their own terms, and by merging from one another. -/
import Derived.Test.YtolipnnfdclkoaaLogG
set_option linter.unusedVariables false
set_option linter.unusedSimpArgs false
set_option maxRecDepth 10000
namespace Go.GL
open Go
def s7 : T_api_Snapshot := ⟨0, 0, 7, []⟩
abbrev E3 := Nat → List T_api_Entry
def up (g : E3) (a : Nat) (l : List T_api_Entry) : E3 := fun i => if i = a then l else g i
theorem up_same (g : E3) (a : Nat) (l : List T_api_Entry) : up g a l a = l := if_pos rfl
theorem up_other (g : E3) {a i : Nat} (l : List T_api_Entry) (h : i ≠ a) : up g a l i = g i := if_neg h
/-- Where two logs have one term at one index they have the same entries up to there. -/
def LM (x y : List T_api_Entry) : Prop := ∀ p : Nat, p < x.length → p < y.length → (rdL x (p : Int)).Term = (rdL y (p : Int)).Term → x.take (p + 1) = y.take (p + 1)
theorem LM.symm {x y : List T_api_Entry} (h : LM x y) : LM y x := fun p h1 h2 e => (h p h2 h1 e.symm).symm
theorem LM.refl (x : List T_api_Entry) : LM x x := fun _ _ _ _ => rfl
theorem LM.take {x y : List T_api_Entry} (h : LM x y) (m : Nat) : LM x (y.take m) := fun p h1 h2 e => by
  rw [List.length_take] at h2
  rw [rdL_take y m p (by omega)] at e
  rw [List.take_take, show min (p + 1) m = p + 1 by omega]
  exact h p h1 (by omega) e
theorem LM.snoc {x y : List T_api_Entry} (h : LM x y) (e : T_api_Entry) (hn : x.length < y.length → (rdL y (x.length : Int)).Term ≠ e.Term) : LM (x ++ [e]) y := fun p h1 h2 he => by
  simp only [List.length_append, List.length_cons, List.length_nil] at h1
  by_cases hp : p < x.length
  · rw [rdL_app1 x [e] p hp] at he
    rw [List.take_append_of_le_length (by omega)]
    exact h p hp h2 he
  · have hpe : p = x.length := by omega
    subst hpe
    have := rdL_app2 x [e] 0
    rw [Nat.add_zero] at this
    rw [this] at he
    exact absurd he.symm (hn h2)
structure RM (g : E3) (term lead : Int) (x : Nat) : Prop where
  ch : ∀ i, i < 3 → chain 0 0 (g i) = true
  len : ∀ i, i < 3 → (g i).length ≤ x
  tm : ∀ i, i < 3 → ∀ e ∈ g i, e.Term ≤ term
  t0 : 0 ≤ term
  t1 : term ≤ x
  ld : lead = -1 ∨ ∃ d : Nat, d < 3 ∧ lead = d
  lm : ∀ i, i < 3 → ∀ j, j < 3 → LM (g i) (g j)
  ll : ∀ d : Nat, lead = d → ∀ i, i < 3 → ∀ p : Nat, p < (g i).length → (rdL (g i) (p : Int)).Term = term → p < (g d).length ∧ (rdL (g d) (p : Int)).Term = term
theorem RM.li {g : E3} {term lead : Int} {x : Nat} (h : RM g term lead x) (hx : x ≤ 1000) (i : Nat) (hi : i < 3) : LI ⟨s7, g i⟩ :=
  ⟨⟨by show (0 : Int) ≤ 0; omega, by show (0 : Int) ≤ _; omega⟩, rfl, h.ch i hi, by have := h.len i hi; show (g i).length ≤ 4000; omega⟩
theorem RM.more {g : E3} {term lead : Int} {x : Nat} (h : RM g term lead x) : RM g term lead (x + 1) :=
  ⟨h.ch, fun i hi => Nat.le_succ_of_le (h.len i hi), h.tm, h.t0, by have := h.t1; omega, h.ld, h.lm, h.ll⟩
/-- A leader adds: of a new term, or once more. -/
theorem RM.add {g : E3} {term lead : Int} {x : Nat} (h : RM g term lead x) (hx : x ≤ 1000) (a : Nat) (ha : a < 3) (t : Int) (d : List UInt8) (hd : d.length ≤ 100) (ht : t = term + 1 ∨ (t = term ∧ lead = a)) :
    ∃ e, addM ⟨s7, g a⟩ t 1 d = (e, 0, ⟨s7, g a ++ [e]⟩) ∧ RM (up g a (g a ++ [e])) t (a : Int) (x + 1) := by
  have hli := h.li hx a ha
  have hlen := h.len a ha
  have hlast := hli.last
  have h0 := h.t0
  have h1 := h.t1
  have hl1 : (lastP 0 0 (g a)).1 = ((g a).length : Int) := by
    have := hlast.1
    have e : lastP s7.Index s7.Term (g a) = lastP 0 0 (g a) := rfl
    have this : (lastP s7.Index s7.Term (g a)).1 = s7.Index + ((g a).length : Int) := this
    rw [e] at this
    rw [this]
    show (0 : Int) + _ = _
    omega
  have hl2 : (lastP 0 0 (g a)).2 ≤ term := by
    by_cases hz : 0 < (g a).length
    · rw [lastP_rd 0 0 (g a) hz]
      exact h.tm a ha _ (rdL_mem (by omega))
    · rw [List.length_eq_zero_iff.1 (by omega : (g a).length = 0)]
      exact h0
  have w : wu64 ((lastP 0 0 (g a)).1 + 1) = ((g a).length : Int) + 1 := by rw [hl1, wu64_id (by omega) (by omega)]
  let e : T_api_Entry := ⟨t, ((g a).length : Int) + 1, 1, d⟩
  have hok : okE e (lastP 0 0 (g a)).1 (lastP 0 0 (g a)).2 = true := by
    unfold okE
    rw [decide_eq_true_eq]
    refine ⟨by omega, by show ((g a).length : Int) + 1 = _; omega, by show _ ≤ t; omega, by show (0 : Int) ≤ 1; omega, by show (1 : Int) ≤ 2; omega, by show d.length ≤ _; omega, fun q => by cases q⟩
  refine ⟨e, ?_, ?_⟩
  · unfold addM
    dsimp only
    rw [show lastP s7.Index s7.Term (g a) = lastP 0 0 (g a) from rfl, w]
    exact if_pos hok
  · have htt : term ≤ t := by omega
    have hnew : ∀ j, j < 3 → (g a).length < (g j).length → (rdL (g j) ((g a).length : Int)).Term ≠ t := fun j hj hlt he => by
      rcases ht with ht | ⟨ht, hle⟩
      · have := h.tm j hj _ (rdL_mem hlt); omega
      · have := (h.ll a hle j hj (g a).length hlt (by rw [he, ht])).1; omega
    have hlm : ∀ j, j < 3 → LM (g a ++ [e]) (g j) := fun j hj => (h.lm a ha j hj).snoc e (hnew j hj)
    refine ⟨fun i hi => ?_, fun i hi => ?_, fun i hi z hz => ?_, by omega, by omega, .inr ⟨a, ha, rfl⟩, fun i hi j hj => ?_, fun dd hdd i hi p hp hpt => ?_⟩
    · by_cases hia : i = a
      · subst hia
        rw [up_same, chain_app, h.ch i hi, Bool.true_and]
        show (okE e _ _ && chain _ _ []) = true
        rw [hok]; rfl
      · rw [up_other g _ hia]; exact h.ch i hi
    · by_cases hia : i = a
      · subst hia; rw [up_same]; simp; exact hlen
      · rw [up_other g _ hia]; exact Nat.le_succ_of_le (h.len i hi)
    · by_cases hia : i = a
      · subst hia
        rw [up_same] at hz
        rcases List.mem_append.1 hz with hz | hz
        · have := h.tm i hi z hz; omega
        · rw [List.mem_singleton] at hz; subst hz; exact Int.le_refl _
      · rw [up_other g _ hia] at hz
        have := h.tm i hi z hz; omega
    · by_cases hia : i = a
      · subst hia
        by_cases hja : j = i
        · subst hja; exact LM.refl _
        · rw [up_same, up_other g _ hja]; exact hlm j hj
      · by_cases hja : j = a
        · subst hja
          rw [up_same, up_other g _ hia]; exact (hlm i hi).symm
        · rw [up_other g _ hia, up_other g _ hja]; exact h.lm i hi j hj
    · have hdd : dd = a := by omega
      subst hdd
      rw [up_same]
      by_cases hia : i = dd
      · subst hia
        rw [up_same] at hp hpt
        exact ⟨hp, hpt⟩
      · rw [up_other g _ hia] at hp hpt
        rcases ht with ht | ⟨ht, hle⟩
        · have := h.tm i hi _ (rdL_mem hp); omega
        · obtain ⟨q1, q2⟩ := h.ll dd hle i hi p hp (by rw [hpt, ht])
          rw [rdL_app1 _ _ p q1]
          exact ⟨by simp; omega, by rw [q2, ht]⟩
/-- A log takes over the head of another one. -/
theorem RM.copy {g : E3} {term lead : Int} {x : Nat} (h : RM g term lead x) (a b : Nat) (ha : a < 3) (hb : b < 3) (hne : (a : Int) ≠ lead) (l : List T_api_Entry) (hl : l = g a ∨ ∃ m, l = (g b).take m) : RM (up g a l) term lead (x + 1) := by
  rcases hl with rfl | ⟨m, rfl⟩
  · have e : up g a (g a) = g := by funext i; unfold up; split <;> simp_all
    rw [e]; exact h.more
  · have hup : ∀ i, i < 3 → ∃ j k, j < 3 ∧ up g a ((g b).take m) i = (g j).take k ∧ (i ≠ a → j = i ∧ k = (g i).length) := fun i hi => by
      by_cases hia : i = a
      · subst hia; exact ⟨b, m, hb, up_same .., fun q => absurd rfl q⟩
      · exact ⟨i, (g i).length, hi, by rw [up_other g _ hia, List.take_length], fun _ => ⟨rfl, rfl⟩⟩
    have hlm : ∀ i, i < 3 → ∀ j, j < 3 → ∀ k k', LM ((g i).take k) ((g j).take k') := fun i hi j hj k k' => ((((h.lm i hi j hj).symm.take k).symm).take k')
    refine ⟨fun i hi => ?_, fun i hi => ?_, fun i hi z hz => ?_, h.t0, by have := h.t1; omega, h.ld, fun i hi j hj => ?_, fun dd hdd i hi p hp hpt => ?_⟩
    · obtain ⟨j, k, hj, e, _⟩ := hup i hi
      rw [e]; exact chain_take (h.ch j hj) k
    · obtain ⟨j, k, hj, e, _⟩ := hup i hi
      rw [e, List.length_take]
      have := h.len j hj; omega
    · obtain ⟨j, k, hj, e, _⟩ := hup i hi
      rw [e] at hz
      exact h.tm j hj z (List.mem_of_mem_take hz)
    · obtain ⟨i', k, hi', e, _⟩ := hup i hi
      obtain ⟨j', k', hj', e', _⟩ := hup j hj
      rw [e, e']
      exact hlm i' hi' j' hj' k k'
    · obtain ⟨j, k, hj, e, _⟩ := hup i hi
      have hda : dd ≠ a := fun q => hne (by rw [hdd, q])
      rw [e, List.length_take] at hp
      rw [e, rdL_take _ _ _ (by omega)] at hpt
      rw [up_other g _ hda]
      exact h.ll dd hdd j hj p (by omega) hpt
theorem mrg_head (A B : List T_api_Entry) (hB : chain 0 0 B = true) (hlm : LM A B) : ∀ (r P : Nat), P ≤ A.length → A.take P = B.take P → (mrg s7 A ((B.drop P).take r)).2 = A ∨ ∃ m, (mrg s7 A ((B.drop P).take r)).2 = B.take m
  | 0, P, _, _ => .inl (by rw [List.take_zero]; rfl)
  | r + 1, P, hPA, hP => by
    by_cases hPB : P < B.length
    rotate_left
    · left
      rw [List.drop_of_length_le (by omega), List.take_nil]; rfl
    have ei : (rdL B (P : Int)).Index = (P : Int) + 1 := by have := chain_idx B 0 0 hB P hPB; omega
    rw [drop_cons2 hPB, List.take_succ_cons]
    unfold mrg
    split
    · rename_i hh
      have hPA2 : P < A.length ∧ (rdL A (P : Int)).Term = (rdL B (P : Int)).Term := by
        obtain ⟨q1, q2⟩ := hh
        rw [ei] at q1 q2
        have q1 : 0 ≤ atM 0 A.length ((P : Int) + 1) := q1
        have q2 : (rdL A (atM 0 A.length ((P : Int) + 1))).Term = _ := q2
        rcases atM_cases 0 A.length ((P : Int) + 1) with ⟨z, _⟩ | ⟨k, z, hk, hkk⟩
        · omega
        · have : k = P := by omega
          subst this
          rw [z] at q2
          exact ⟨hk, q2⟩
      exact mrg_head A B hB hlm r (P + 1) (by omega) (hlm P hPA2.1 hPB hPA2.2)
    · right
      have hA : (if 0 ≤ atM s7.Index A.length (rdL B (P : Int)).Index then A.take (atM s7.Index A.length (rdL B (P : Int)).Index).toNat else A) = B.take P := by
        rw [ei]
        rcases atM_cases 0 A.length ((P : Int) + 1) with ⟨z, hz⟩ | ⟨k, z, hk, hkk⟩
        · have z : atM s7.Index A.length ((P : Int) + 1) = -1 := z
          rw [z, if_neg (by omega), ← hP, List.take_of_length_le (by omega)]
        · have : k = P := by omega
          subst this
          have z : atM s7.Index A.length ((k : Int) + 1) = (k : Int) := z
          rw [z, if_pos (by omega), Int.toNat_natCast, hP]
      refine ⟨P + (r + 1), ?_⟩
      show (if 0 ≤ atM s7.Index A.length (rdL B (P : Int)).Index then A.take (atM s7.Index A.length (rdL B (P : Int)).Index).toNat else A) ++ (rdL B (P : Int) :: (B.drop (P + 1)).take r) = _
      rw [hA, ← List.take_succ_cons, ← drop_cons2 hPB, ← List.take_add]
theorem merge_head (A B : List T_api_Entry) (hB : chain 0 0 B = true) (hlm : LM A B) (P r : Nat) (hPB : P ≤ B.length) :
    (mergeM s7 A (P : Int) (termM s7 B (P : Int)).1 ((B.drop P).take r)).2.2 = A ∨ ∃ m, (mergeM s7 A (P : Int) (termM s7 B (P : Int)).1 ((B.drop P).take r)).2.2 = B.take m := by
  unfold mergeM
  split
  rotate_left
  · exact .inl rfl
  · rename_i hc
    rw [skip_ge s7.Index _ _ _ hc (by show (0 : Int) ≤ _; omega)]
    unfold tailM
    split
    · exact .inl rfl
    · split
      rotate_left
      · exact .inl rfl
      · rename_i h2
        obtain ⟨q1, q2⟩ := h2
        have hPA : P ≤ A.length := by
          by_cases hz : P = 0
          · omega
          · unfold termM at q1
            rcases atM_cases s7.Index A.length (P : Int) with ⟨z, hz2⟩ | ⟨k, z, hk, hkk⟩
            · rw [z, if_neg (by omega)] at q1
              have : ¬ ((P : Int) = s7.Index) := fun q => by have q : (P : Int) = 0 := q; omega
              rw [if_neg this] at q1
              simp at q1
            · have hkk : (P : Int) = 0 + 1 + k := hkk
              omega
        have htk : A.take P = B.take P := by
          by_cases hz : P = 0
          · subst hz; simp
          · obtain ⟨k, rfl⟩ : ∃ k, P = k + 1 := ⟨P - 1, by omega⟩
            have e1 := term_at s7 A ((k + 1 : Nat) : Int) k (by show ((k + 1 : Nat) : Int) = 0 + 1 + k; omega) (by omega)
            have e2 := term_at s7 B ((k + 1 : Nat) : Int) k (by show ((k + 1 : Nat) : Int) = 0 + 1 + k; omega) (by omega)
            rw [e1, e2] at q2
            exact hlm k (by omega) (by omega) q2
        exact mrg_head A B hB hlm r P hPA htk
end Go.GL
