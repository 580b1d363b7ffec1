/- The law LedgerDead, over the plain functions. -/
import Derived.Test.YtmpockelhphkdaaLedg
set_option linter.unusedVariables false
set_option linter.unusedSimpArgs false
set_option maxRecDepth 10000
namespace Go.GL
open Go
theorem modN (x : Int) (p : Nat) (hp : 0 < p) (hp2 : p ≤ 1000000) : ∃ y : Nat, (wi64 ((x.tmod (p : Int)) + (p : Int))).tmod (p : Int) = (y : Int) ∧ y < p := by
  have h1 : x.tmod (p : Int) < (p : Int) := Int.tmod_lt_of_pos x (by omega)
  have h2 : (-x).tmod (p : Int) < (p : Int) := Int.tmod_lt_of_pos (-x) (by omega)
  rw [Int.neg_tmod] at h2
  rw [wi64_id (by omega) (by omega)]
  have h3 : 0 ≤ (x.tmod (p : Int) + (p : Int)).tmod (p : Int) := Int.tmod_nonneg _ (by omega)
  have h4 : (x.tmod (p : Int) + (p : Int)).tmod (p : Int) < (p : Int) := Int.tmod_lt_of_pos _ (by omega)
  exact ⟨((x.tmod (p : Int) + (p : Int)).tmod (p : Int)).toNat, by omega, by omega⟩
/-- What holds all along: the taking back was answered; the doing was, or is dead. -/
structure LD (done : Bool) (f b : T_api_Key) (l : T_ledger_Ledger) : Prop where
  sb : getA b l.said = some true
  sf : getA f l.said = if done = true then some true else none
  tb : (getA f l.tombs).getD false = !done
  len : l.effects.length = if done = true then 2 else 0
theorem ld_fence {done : Bool} {f b : T_api_Key} {l : T_ledger_Ledger} (h : LD done f b l) (t : T_api_Token) : LD done f b ⟨t, l.effects, l.said, l.tombs⟩ := ⟨h.sb, h.sf, h.tb, h.len⟩
theorem less_irr (t : T_api_Token) : lessM t t = false := by unfold lessM; rw [decide_eq_false_iff_not]; omega
theorem good_key (s : Int) (S : Nat) (hS : S < 64) (b : Bool) : badK ⟨s, (S : Int), b⟩ [110] = false := by
  unfold badK; rw [decide_eq_false_iff_not]
  simp only [List.length_cons, List.length_nil]
  omega
theorem ask_less {l : T_ledger_Ledger} {t : T_api_Token} {k : T_api_Key} {name : List UInt8} {fail : Bool} (hb : badK k name = false) (h : lessM t l.fence = true) : askM l t k name fail = (false, 50, l) := by
  unfold askM; rw [hb, if_neg (by simp), if_pos h]
theorem ask_said {l : T_ledger_Ledger} {t : T_api_Token} {k : T_api_Key} {name : List UInt8} {fail v : Bool} (hb : badK k name = false) (h : lessM t l.fence = false) (hs : getA k l.said = some v) : askM l t k name fail = (v, 0, ⟨t, l.effects, l.said, l.tombs⟩) := by
  unfold askM; rw [hb, if_neg (by simp), h, if_neg (by simp), hs]
theorem ask_dead {l : T_ledger_Ledger} {t : T_api_Token} {k : T_api_Key} {name : List UInt8} {fail : Bool} (hb : badK k name = false) (h : lessM t l.fence = false) (hs : getA k l.said = none) (hk : k.Back = false) (hd : (getA k l.tombs).getD false = true) : askM l t k name fail = (false, 51, ⟨t, l.effects, l.said, l.tombs⟩) := by
  unfold askM; rw [hb, if_neg (by simp), h, if_neg (by simp), hs]
  dsimp only
  rw [hk, if_neg (by simp), if_pos hd]
theorem dead_end (n : Nat) (s : Int) (S : Nat) (k1 : T_api_Key) (hk : k1.Saga = s) (hS : (wi64 ((k1.Step.tmod 64) + 64)).tmod 64 = (S : Int)) (done : Bool) (l : T_ledger_Ledger) (h : LD done ⟨s, (S : Int), false⟩ ⟨s, (S : Int), true⟩ l) :
    tontinelaw18_LedgerDead.j1 n k1 done l.fence.Term l.fence.Index l.effects l.said l.tombs = some true := by
  have h0 := h.len
  have c : capOk 40 l.effects.length := by unfold capOk; split at h0 <;> omega
  have ee : ledger_Ledger_Effects.f n ⟨⟨l.fence.Term, l.fence.Index⟩, l.effects, l.said, l.tombs⟩ = some l.effects := by
    unfold ledger_Ledger_Effects.f
    rw [List.nil_append, if_pos c]
  have ed : ledger_Ledger_Dead.f n ⟨⟨l.fence.Term, l.fence.Index⟩, l.effects, l.said, l.tombs⟩ k1.Saga (S : Int) = some (!done) := by
    unfold ledger_Ledger_Dead.f
    rw [hk, h.tb]
  have j2 : ∀ m : Nat, l.effects.length = m → tontinelaw18_LedgerDead.j2 n k1 done l.fence.Term l.fence.Index l.effects l.said l.tombs (m : Int) = some true := by
    intro m hm
    unfold tontinelaw18_LedgerDead.j2
    rw [ee, Option.bind_some, if_pos (by rw [beq_iff_eq, hm]), hS, ed, Option.bind_some]
    simp
  unfold tontinelaw18_LedgerDead.j1
  cases done
  · exact j2 0 (by simpa using h0)
  · exact j2 2 (by simpa using h0)
theorem dead_l0 (n : Nat) (s : Int) (S : Nat) (k1 : T_api_Key) (hk1 : k1.Saga = s) (hS : (wi64 ((k1.Step.tmod 64) + 64)).tmod 64 = (S : Int)) (hS2 : S < 64) (done : Bool) (ts : List T_api_Token) : ∀ (j k i : Nat) (l : T_ledger_Ledger), i + j = 200 → j < k → LD done ⟨s, (S : Int), false⟩ ⟨s, (S : Int), true⟩ l →
    tontinelaw18_LedgerDead.l0 n k1 ts done k l.fence.Term l.fence.Index l.effects l.said l.tombs (i : Int) = some true
  | j, 0, i, _, _, h, _ => by omega
  | 0, k + 1, i, l, hi, _, h => by
    have : i = 200 := by omega
    subst this
    unfold tontinelaw18_LedgerDead.l0
    split
    · rename_i hl
      have hl : (200 : Int) < (ts.length : Int) := of_decide_eq_true hl
      rw [if_pos ⟨by omega, by omega⟩, if_pos (by rfl)]
      exact dead_end n s S k1 hk1 hS done l h
    · exact dead_end n s S k1 hk1 hS done l h
  | j + 1, k + 1, i, l, hi, hk, h => by
    unfold tontinelaw18_LedgerDead.l0
    split
    rotate_left
    · exact dead_end n s S k1 hk1 hS done l h
    rename_i hl
    have hl : (i : Int) < (ts.length : Int) := of_decide_eq_true hl
    have w : wi64 ((i : Int) + 1) = ((i + 1 : Nat) : Int) := by rw [wi64_id (by omega) (by omega)]; omega
    have h0 := h.len
    have hlen : l.effects.length ≤ 100000 := by split at h0 <;> omega
    have bf := good_key s S hS2 false
    have bb := good_key s S hS2 true
    have ih := fun l' h' => dead_l0 n s S k1 hk1 hS hS2 done ts j k (i + 1) l' (by omega) (by omega) h'
    have ef : ledger_Ledger_Fence.f n ⟨⟨l.fence.Term, l.fence.Index⟩, l.effects, l.said, l.tombs⟩ = some l.fence := rfl
    have e1 : ledger_Ledger_Ask.f n ⟨⟨l.fence.Term, l.fence.Index⟩, l.effects, l.said, l.tombs⟩ (rdL ts (i : Int)) ⟨s, (S : Int), false⟩ [110] false = some (askM l (rdL ts (i : Int)) ⟨s, (S : Int), false⟩ [110] false) := p_Ask n l _ _ _ _ hlen
    have e2 : ∀ (l' : T_ledger_Ledger) (fl : Bool), l'.effects.length ≤ 100000 → ledger_Ledger_Ask.f n ⟨⟨l'.fence.Term, l'.fence.Index⟩, l'.effects, l'.said, l'.tombs⟩ (rdL ts (i : Int)) ⟨s, (S : Int), true⟩ [110] fl = some (askM l' (rdL ts (i : Int)) ⟨s, (S : Int), true⟩ [110] fl) := fun l' fl hl' => p_Ask n l' _ _ _ _ hl'
    rw [if_pos ⟨by omega, by omega⟩, if_neg (by rw [beq_iff_eq]; omega), ef, Option.bind_some, hk1, hS, e1, Option.bind_some]
    have es : ∀ fl, askM ⟨rdL ts (i : Int), l.effects, l.said, l.tombs⟩ (rdL ts (i : Int)) ⟨s, (S : Int), true⟩ [110] fl = (true, 0, ⟨rdL ts (i : Int), l.effects, l.said, l.tombs⟩) := fun fl => ask_said (l := ⟨rdL ts (i : Int), l.effects, l.said, l.tombs⟩) bb (less_irr _) h.sb
    cases hless : lessM (rdL ts (i : Int)) l.fence
    · -- the token is let through
      cases done
      · rw [ask_dead bf hless (by simpa using h.sf) rfl (by simpa using h.tb)]
        rw [e2 ⟨rdL ts (i : Int), l.effects, l.said, l.tombs⟩ _ hlen, es, Option.bind_some, p_Less, Option.bind_some, hless]
        unfold tontinelaw18_LedgerDead.j4
        simp only [w]
        have := ih _ (ld_fence h (rdL ts (i : Int)))
        simpa using this
      · rw [ask_said bf hless (by simpa using h.sf)]
        rw [e2 ⟨rdL ts (i : Int), l.effects, l.said, l.tombs⟩ _ hlen, es, Option.bind_some, p_Less, Option.bind_some, hless]
        unfold tontinelaw18_LedgerDead.j3
        simp only [w]
        have := ih _ (ld_fence h (rdL ts (i : Int)))
        simpa using this
    · rw [ask_less bf hless]
      rw [e2 l _ hlen, ask_less bb hless, Option.bind_some, p_Less, Option.bind_some, hless]
      simp only [w]
      have := ih l h
      simpa using this
theorem tontinelaw18_LedgerDead_law (k1 : T_api_Key) (ts : List T_api_Token) (done : Bool) (h1 : wf_T_api_Key k1) (h2 : ts.length * 16 ≤ reachBytes ∧ ∀ x ∈ ts, wf_T_api_Token x) (h3 : True) : Ev (fun n => tontinelaw18_LedgerDead.f n k1 ts done) true := by
  refine Ev.ge 2000 fun n hn => ?_
  obtain ⟨S, hS, hS2⟩ := modN k1.Step 64 (by omega) (by omega)
  have hS : (wi64 ((k1.Step.tmod 64) + 64)).tmod 64 = (S : Int) := hS
  have bf := good_key k1.Saga S hS2 false
  have bb := good_key k1.Saga S hS2 true
  have fne : (⟨k1.Saga, (S : Int), true⟩ : T_api_Key) ≠ ⟨k1.Saga, (S : Int), false⟩ := by simp
  have z : lessM ⟨0, 0⟩ ⟨0, 0⟩ = false := rfl
  unfold tontinelaw18_LedgerDead.f ledger_New.f
  rw [begun18 n (by omega), Option.bind_some, if_neg (by simp), Option.bind_some, hS]
  cases done
  · rw [if_neg (by simp)]
    unfold tontinelaw18_LedgerDead.j0
    rw [hS]
    have e : ledger_Ledger_Ask.f n ⟨⟨0, 0⟩, [], [], []⟩ ⟨0, 0⟩ ⟨k1.Saga, (S : Int), true⟩ [110] false = some (true, 0, ⟨⟨0, 0⟩, [], [(⟨k1.Saga, (S : Int), true⟩, true)], [(⟨k1.Saga, (S : Int), false⟩, true)]⟩) := by
      rw [p_Ask n ⟨⟨0, 0⟩, [], [], []⟩ _ _ _ _ (by simp)]
      unfold askM
      rw [bb, if_neg (by simp), z, if_neg (by simp)]
      simp [getA, putA, forthK]
    refine (congrArg (fun o => Option.bind o _) e).trans ?_
    rw [Option.bind_some]
    exact dead_l0 n k1.Saga S k1 rfl hS hS2 false ts 200 n 0 _ (by omega) (by omega) ⟨by simp [getA], by simp [getA], by simp [getA], by simp⟩
  · rw [if_pos rfl]
    have e : ledger_Ledger_Ask.f n ⟨⟨0, 0⟩, [], [], []⟩ ⟨0, 0⟩ ⟨k1.Saga, (S : Int), false⟩ [110] false = some (true, 0, ⟨⟨0, 0⟩, [⟨⟨k1.Saga, (S : Int), false⟩, [110]⟩], [(⟨k1.Saga, (S : Int), false⟩, true)], []⟩) := by
      rw [p_Ask n ⟨⟨0, 0⟩, [], [], []⟩ _ _ _ _ (by simp)]
      unfold askM
      rw [bf, if_neg (by simp), z, if_neg (by simp)]
      simp [getA, putA]
    refine (congrArg (fun o => Option.bind o _) e).trans ?_
    rw [Option.bind_some]
    unfold tontinelaw18_LedgerDead.j0
    rw [hS]
    have e : ledger_Ledger_Ask.f n ⟨⟨0, 0⟩, [⟨⟨k1.Saga, (S : Int), false⟩, [110]⟩], [(⟨k1.Saga, (S : Int), false⟩, true)], []⟩ ⟨0, 0⟩ ⟨k1.Saga, (S : Int), true⟩ [110] false = some (true, 0, ⟨⟨0, 0⟩, [⟨⟨k1.Saga, (S : Int), false⟩, [110]⟩, ⟨⟨k1.Saga, (S : Int), true⟩, [110]⟩], [(⟨k1.Saga, (S : Int), false⟩, true), (⟨k1.Saga, (S : Int), true⟩, true)], []⟩) := by
      rw [p_Ask n _ _ _ _ _ (by simp)]
      unfold askM
      rw [bb, if_neg (by simp), z, if_neg (by simp)]
      simp [getA, putA, forthK]
    refine (congrArg (fun o => Option.bind o _) e).trans ?_
    rw [Option.bind_some]
    exact dead_l0 n k1.Saga S k1 rfl hS hS2 true ts 200 n 0 _ (by omega) (by omega) ⟨by simp [getA], by simp [getA], by simp [getA], by simp⟩
end Go.GL
