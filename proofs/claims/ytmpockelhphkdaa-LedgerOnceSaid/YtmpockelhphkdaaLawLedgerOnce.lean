/- The law LedgerOnce, over the plain functions. -/
import Derived.Test.YtmpockelhphkdaaLedg
import Derived.Test.YtmpockelhphkdaaG17
set_option linter.unusedVariables false
set_option linter.unusedSimpArgs false
set_option maxRecDepth 10000
namespace Go.GL
open Go
abbrev KB := List (T_api_Key × Bool)
def keysE (l : T_ledger_Ledger) : List T_api_Key := l.effects.map (·.Key)
/-- What holds of a ledger, and of what it answered for good, whatever it was asked. -/
structure LG (l : T_ledger_Ledger) (good : KB) : Prop where
  nd : (keysE l).Nodup
  eff : ∀ k, k ∈ keysE l → getA k l.said = some true
  frt : ∀ k, k.Back = false → getA k l.said = some true → k ∈ keysE l
  bk : ∀ k v, k.Back = true → getA k l.said = some v → v = true ∧ ((k ∈ keysE l ∧ forthK k ∈ keysE l ∧ (keysE l).idxOf (forthK k) < (keysE l).idxOf k) ∨ (k ∉ keysE l ∧ (getA (forthK k) l.tombs).getD false = true))
  tmb : ∀ k, (getA k l.tombs).getD false = true → k.Back = false ∧ k ∉ keysE l
  gd : ∀ p, p ∈ good → getA p.1 l.said = some p.2
theorem mem_putA {κ ν : Type} [DecidableEq κ] (k : κ) (v : ν) : ∀ (l : List (κ × ν)) (p : κ × ν), p ∈ putA k v l → p = (k, v) ∨ p ∈ l
  | [], p, h => by simp [putA] at h; exact .inl h
  | (a, b) :: l, p, h => by
    unfold putA at h
    split at h
    · cases h with
      | head => exact .inl rfl
      | tail _ h => exact .inr (List.mem_cons_of_mem _ h)
    · cases h with
      | head => exact .inr (List.mem_cons_self ..)
      | tail _ h => exact (mem_putA k v l p h).imp id (List.mem_cons_of_mem _)
theorem getA_mem {κ ν : Type} [DecidableEq κ] (k : κ) (v : ν) : ∀ (l : List (κ × ν)), getA k l = some v → (k, v) ∈ l
  | [], h => by cases h
  | (a, b) :: l, h => by
    unfold getA at h
    split at h
    · rename_i e; cases h; rw [e]; exact List.mem_cons_self ..
    · exact List.mem_cons_of_mem _ (getA_mem k v l h)
theorem forth_back (k : T_api_Key) : (forthK k).Back = false := rfl
/-- The fence alone. -/
theorem LG.fence {l : T_ledger_Ledger} {good : KB} (h : LG l good) (t : T_api_Token) : LG ⟨t, l.effects, l.said, l.tombs⟩ good := ⟨h.nd, h.eff, h.frt, h.bk, h.tmb, h.gd⟩
/-- An effect more. -/
theorem LG.effect {l : T_ledger_Ledger} {good : KB} (h : LG l good) (t : T_api_Token) (k : T_api_Key) (name : List UInt8) (hn : getA k l.said = none) (hf : k.Back = false → (getA k l.tombs).getD false ≠ true) (hb : k.Back = true → forthK k ∈ keysE l) :
    LG ⟨t, l.effects ++ [⟨k, name⟩], putA k true l.said, l.tombs⟩ good := by
  have hke : keysE ⟨t, l.effects ++ [(⟨k, name⟩ : T_ledger_Effect)], putA k true l.said, l.tombs⟩ = keysE l ++ [k] := by simp [keysE]
  have hnot : k ∉ keysE l := fun hm => by have := h.eff k hm; rw [hn] at this; cases this
  constructor
  · rw [hke, List.nodup_append]
    exact ⟨h.nd, by simp, fun a ha b hb e => by simp at hb; subst hb; exact hnot (e ▸ ha)⟩
  · intro k' hk'
    rw [hke] at hk'
    show getA k' (putA k true l.said) = _
    rw [getA_put]
    split
    · rfl
    · rename_i hne
      rcases List.mem_append.1 hk' with hm | hm
      · exact h.eff k' hm
      · simp at hm; exact absurd hm hne
  · intro k' hb' hs
    rw [hke]
    have hs : getA k' (putA k true l.said) = some true := hs
    rw [getA_put] at hs
    split at hs
    · rename_i e; exact List.mem_append_right _ (by simp [e])
    · exact List.mem_append_left _ (h.frt k' hb' hs)
  · intro k' v hb' hs
    rw [hke]
    have hs : getA k' (putA k true l.said) = some v := hs
    rw [getA_put] at hs
    split at hs
    · rename_i e
      cases hs
      subst e
      have hfm := hb hb'
      refine ⟨rfl, .inl ⟨List.mem_append_right _ (by simp), List.mem_append_left _ hfm, ?_⟩⟩
      rw [List.idxOf_append, List.idxOf_append, if_pos hfm, if_neg hnot]
      have := List.idxOf_lt_length_of_mem hfm
      omega
    · rename_i hne
      obtain ⟨hv, hh⟩ := h.bk k' v hb' hs
      refine ⟨hv, hh.imp (fun ⟨q1, q2, q3⟩ => ⟨List.mem_append_left _ q1, List.mem_append_left _ q2, ?_⟩) (fun ⟨q1, q2⟩ => ⟨fun hm => ?_, q2⟩)⟩
      · rw [List.idxOf_append, List.idxOf_append, if_pos q1, if_pos q2]; exact q3
      · rcases List.mem_append.1 hm with hm | hm
        · exact q1 hm
        · simp at hm; exact hne hm
  · intro k' hk'
    rw [hke]
    have hk' : (getA k' l.tombs).getD false = true := hk'
    obtain ⟨q1, q2⟩ := h.tmb k' hk'
    refine ⟨q1, fun hm => ?_⟩
    rcases List.mem_append.1 hm with hm | hm
    · exact q2 hm
    · simp at hm
      subst hm
      exact hf q1 hk'
  · intro p hp
    show getA p.1 (putA k true l.said) = _
    rw [getA_put]
    have := h.gd p hp
    split
    · rename_i e; rw [e, hn] at this; cases this
    · exact this
/-- A doing that failed. -/
theorem LG.fail {l : T_ledger_Ledger} {good : KB} (h : LG l good) (t : T_api_Token) (k : T_api_Key) (hn : getA k l.said = none) (hb : k.Back = false) : LG ⟨t, l.effects, putA k false l.said, l.tombs⟩ good := by
  have hnot : k ∉ keysE l := fun hm => by have := h.eff k hm; rw [hn] at this; cases this
  have put : ∀ k', getA k' (putA k false l.said) = if k' = k then some false else getA k' l.said := fun k' => getA_put k' k false l.said
  constructor
  · exact h.nd
  · intro k' hk'
    show getA k' (putA k false l.said) = _
    rw [put, if_neg (fun e : k' = k => hnot (e ▸ hk'))]
    exact h.eff k' hk'
  · intro k' hb' hs
    have hs : getA k' (putA k false l.said) = some true := hs
    rw [put] at hs
    split at hs
    · cases hs
    · exact h.frt k' hb' hs
  · intro k' v hb' hs
    have hs : getA k' (putA k false l.said) = some v := hs
    rw [put] at hs
    split at hs
    · rename_i e; rw [e, hb] at hb'; cases hb'
    · exact h.bk k' v hb' hs
  · exact h.tmb
  · intro p hp
    show getA p.1 (putA k false l.said) = _
    have := h.gd p hp
    rw [put]
    split
    · rename_i e; rw [e, hn] at this; cases this
    · exact this
/-- A taking back ahead of its doing. -/
theorem LG.dead {l : T_ledger_Ledger} {good : KB} (h : LG l good) (t : T_api_Token) (k : T_api_Key) (hn : getA k l.said = none) (hb : k.Back = true) (hf : (getA (forthK k) l.said).getD false ≠ true) : LG ⟨t, l.effects, putA k true l.said, putA (forthK k) true l.tombs⟩ good := by
  have hnot : k ∉ keysE l := fun hm => by have := h.eff k hm; rw [hn] at this; cases this
  have hnf : forthK k ∉ keysE l := fun hm => by have := h.eff _ hm; rw [this] at hf; exact hf rfl
  have put : ∀ k', getA k' (putA k true l.said) = if k' = k then some true else getA k' l.said := fun k' => getA_put k' k true l.said
  have putT : ∀ k', getA k' (putA (forthK k) true l.tombs) = if k' = forthK k then some true else getA k' l.tombs := fun k' => getA_put k' (forthK k) true l.tombs
  constructor
  · exact h.nd
  · intro k' hk'
    show getA k' (putA k true l.said) = _
    rw [put, if_neg (fun e : k' = k => hnot (e ▸ hk'))]
    exact h.eff k' hk'
  · intro k' hb' hs
    have hs : getA k' (putA k true l.said) = some true := hs
    rw [put] at hs
    split at hs
    · rename_i e; rw [e, hb] at hb'; cases hb'
    · exact h.frt k' hb' hs
  · intro k' v hb' hs
    have hs : getA k' (putA k true l.said) = some v := hs
    show v = true ∧ (_ ∨ (k' ∉ keysE l ∧ (getA (forthK k') (putA (forthK k) true l.tombs)).getD false = true))
    rw [put] at hs
    split at hs
    · rename_i e
      cases hs
      subst e
      exact ⟨rfl, .inr ⟨hnot, by rw [putT, if_pos rfl]; rfl⟩⟩
    · obtain ⟨hv, hh⟩ := h.bk k' v hb' hs
      refine ⟨hv, hh.imp id (fun ⟨q1, q2⟩ => ⟨q1, ?_⟩)⟩
      rw [putT]
      split
      · rfl
      · exact q2
  · intro k' hk'
    have hk' : (getA k' (putA (forthK k) true l.tombs)).getD false = true := hk'
    rw [putT] at hk'
    split at hk'
    · rename_i e; rw [e]; exact ⟨rfl, hnf⟩
    · exact h.tmb k' hk'
  · intro p hp
    show getA p.1 (putA k true l.said) = _
    have := h.gd p hp
    rw [put]
    split
    · rename_i e; rw [e, hn] at this; cases this
    · exact this
/-- A request: what holds goes on to hold; what was answered for good is what is said. -/
theorem LG.ask {l : T_ledger_Ledger} {good : KB} (h : LG l good) (t : T_api_Token) (k : T_api_Key) (name : List UInt8) (fail : Bool) :
    LG (askM l t k name fail).2.2 good ∧ ((askM l t k name fail).2.1 = 0 → (∀ was, getA k good = some was → was = (askM l t k name fail).1) ∧ ((askM l t k name fail).1 = true ∨ k.Back = false → getA k (askM l t k name fail).2.2.said = some (askM l t k name fail).1)) := by
  have was0 : getA k l.said = none → ∀ was, getA k good ≠ some was := fun hn was hw => by
    have := h.gd (k, was) (getA_mem k was good hw)
    rw [hn] at this; cases this
  unfold askM
  split
  · exact ⟨h, fun e => by simp at e⟩
  · split
    · exact ⟨h, fun e => by simp at e⟩
    · split
      · rename_i v hv
        refine ⟨h.fence t, fun _ => ⟨fun was hw => ?_, fun _ => hv⟩⟩
        have := h.gd (k, was) (getA_mem k was good hw)
        rw [hv] at this
        exact (Option.some.inj this).symm
      · rename_i hn
        have w0 : ∀ (b : Bool) was, getA k good = some was → was = b := fun b was hw => absurd hw (was0 hn was)
        split
        · rename_i hb
          split
          · exact ⟨h.fence t, fun _ => ⟨w0 _, fun q => q.elim (fun q => by cases q) (fun q => by rw [hb] at q; cases q)⟩⟩
          · split
            · rename_i hf
              refine ⟨h.effect t k name hn (fun q => by rw [hb] at q; cases q) (fun _ => ?_), fun _ => ⟨w0 _, fun _ => ?_⟩⟩
              · cases hg : getA (forthK k) l.said with
                | none => rw [hg] at hf; cases hf
                | some v => rw [hg] at hf; simp at hf; subst hf; exact h.frt _ rfl hg
              · rw [getA_put, if_pos rfl]
            · rename_i hf
              exact ⟨h.dead t k hn hb hf, fun _ => ⟨w0 _, fun _ => by rw [getA_put, if_pos rfl]⟩⟩
        · rename_i hb
          have hb : k.Back = false := by simpa using hb
          split
          · exact ⟨h.fence t, fun e => by simp at e⟩
          · rename_i ht
            split
            · exact ⟨h.fail t k hn hb, fun _ => ⟨w0 _, fun _ => by rw [getA_put, if_pos rfl]⟩⟩
            · exact ⟨h.effect t k name hn (fun _ => ht) (fun q => by rw [hb] at q; cases q), fun _ => ⟨w0 _, fun _ => by rw [getA_put, if_pos rfl]⟩⟩
/-- Where a key is among the effects, from 1 on; 0: nowhere. -/
def posK (E : List T_api_Key) (k : T_api_Key) : Int := if k ∈ E then ((E.idxOf k + 1 : Nat) : Int) else 0
theorem once_body (n : Nat) (L1 : KB → Option Bool) (at_ : List (T_api_Key × Int)) (kv : T_api_Key × Bool) (rem : KB) (dead : Bool) (a f : Int) (ha : (getA kv.1 at_).getD 0 = a) (hf : (getA (⟨kv.1.Saga, kv.1.Step, false⟩ : T_api_Key) at_).getD 0 = f)
    (H1 : ¬ (f > 0 ∧ dead = true)) (H2 : a > 0 → kv.2 = true) (H3 : kv.1.Back = false → kv.2 = decide (f > 0)) (H4 : kv.1.Back = true → kv.2 = true → (a > 0 ↔ f > 0)) (H5 : kv.1.Back = true → kv.2 = true → ¬ f > 0 → dead = true) (H6 : kv.1.Back = true → a > 0 → f < a) :
    (if decide (f > 0) = true then tontinelaw18_LedgerOnce.j9 n L1 at_ kv rem dead dead else tontinelaw18_LedgerOnce.j9 n L1 at_ kv rem dead false) = L1 rem := by
  unfold tontinelaw18_LedgerOnce.j9 tontinelaw18_LedgerOnce.j11 tontinelaw18_LedgerOnce.j10 tontinelaw18_LedgerOnce.j1 tontinelaw18_LedgerOnce.j2 tontinelaw18_LedgerOnce.j3 tontinelaw18_LedgerOnce.j6 tontinelaw18_LedgerOnce.j7 tontinelaw18_LedgerOnce.j8 tontinelaw18_LedgerOnce.j4 tontinelaw18_LedgerOnce.j5
  rw [ha, hf]
  have H6' : kv.1.Back = true → a > 0 → decide (a ≤ f) = false := fun q1 q2 => decide_eq_false (by have := H6 q1 q2; omega)
  generalize kv.2 = v at *
  generalize kv.1.Back = B at *
  generalize hE : decide (a ≤ f) = E at *
  have hA : ∀ x : Bool, decide (a > 0) = x → (a > 0 ↔ x = true) := fun x hx => by rw [← hx, decide_eq_true_eq]
  have hD : ∀ x : Bool, decide (f > 0) = x → (f > 0 ↔ x = true) := fun x hx => by rw [← hx, decide_eq_true_eq]
  generalize qA : decide (a > 0) = A at *
  generalize qD : decide (f > 0) = D at *
  have hA := hA A rfl
  have hD := hD D rfl
  rw [hA] at H2 H4 H6'
  rw [hD] at H1 H4 H5
  clear hA hD qA qD hE H6
  cases v <;> cases B <;> cases A <;> cases D <;> cases dead <;> cases E <;> first | rfl | (exfalso; simp at H1 H2 H3 H4 H5 H6')
theorem once_l1 (n : Nat) (l : T_ledger_Ledger) (good : KB) (h : LG l good) (at_ : List (T_api_Key × Int)) (hat : ∀ k, (getA k at_).getD 0 = posK (keysE l) k) : ∀ (k : Nat) (rem : KB), rem.length < k → (∀ p ∈ rem, p ∈ good) →
    tontinelaw18_LedgerOnce.l1 n l.fence.Term l.fence.Index l.effects l.said l.tombs at_ k rem = some true
  | 0, rem, hk, _ => by omega
  | k + 1, rem, hk, hr => by
    unfold tontinelaw18_LedgerOnce.l1
    refine nextO_of (fun _ => rfl) fun i hi => ?_
    have hp : rem[i] ∈ good := hr _ (List.getElem_mem hi)
    have ih := once_l1 n l good h at_ hat k (rem.eraseIdx i) (by rw [List.length_eraseIdx]; split <;> omega) (fun p hp => hr p (List.mem_of_mem_eraseIdx hp))
    generalize rem[i] = kv at hp
    have hs := h.gd kv hp
    have ed : ledger_Ledger_Dead.f n (⟨(⟨l.fence.Term, l.fence.Index⟩ : T_api_Token), l.effects, l.said, l.tombs⟩ : T_ledger_Ledger) kv.1.Saga kv.1.Step = some ((getA (forthK kv.1) l.tombs).getD false) := rfl
    rw [ed, Option.bind_some]
    have pos : ∀ k, posK (keysE l) k > 0 ↔ k ∈ keysE l := fun k => by
      unfold posK
      split
      · rename_i q; exact ⟨fun _ => q, fun _ => by omega⟩
      · rename_i q; exact ⟨fun z => by omega, fun z => absurd z q⟩
    have hf := hat (forthK kv.1)
    have hf' : (getA (⟨kv.1.Saga, kv.1.Step, false⟩ : T_api_Key) at_).getD 0 = posK (keysE l) (forthK kv.1) := hf
    rw [hf']
    refine (once_body n _ at_ kv (rem.eraseIdx i) _ _ _ (hat kv.1) hf' ?_ ?_ ?_ ?_ ?_ ?_).trans ih
    · rw [pos]; intro ⟨q1, q2⟩; exact (h.tmb _ q2).2 q1
    · rw [pos]; intro q; have := h.eff _ q; rw [hs] at this; exact Option.some.inj this
    · intro q
      have e : forthK kv.1 = kv.1 := by
        obtain ⟨⟨a, b, c⟩, v⟩ := kv
        simp only at q
        subst q; rfl
      rw [e]
      cases hv : kv.2
      · symm
        rw [decide_eq_false_iff_not, pos]
        intro q2
        have := h.eff _ q2
        rw [hs, hv] at this; cases this
      · symm
        rw [decide_eq_true_eq, pos]
        exact h.frt _ q (by rw [hs, hv])
    · intro q1 q2
      rw [pos, pos]
      rcases (h.bk kv.1 kv.2 q1 hs).2 with ⟨z1, z2, _⟩ | ⟨z1, z2⟩
      · exact ⟨fun _ => z2, fun _ => z1⟩
      · exact ⟨fun z => absurd z z1, fun z => absurd z (h.tmb _ z2).2⟩
    · intro q1 q2 q3
      rw [pos] at q3
      rcases (h.bk kv.1 kv.2 q1 hs).2 with ⟨_, z2, _⟩ | ⟨_, z2⟩
      · exact absurd z2 q3
      · exact z2
    · intro q1 q2
      rw [pos] at q2
      rcases (h.bk kv.1 kv.2 q1 hs).2 with ⟨z1, z2, z3⟩ | ⟨z1, _⟩
      · unfold posK; rw [if_pos z1, if_pos z2]; omega
      · exact absurd q2 z1
theorem posK_take (E : List T_api_Key) (hE : E.Nodup) (i : Nat) (hi : i < E.length) (k : T_api_Key) : posK (E.take (i + 1)) k = if k = E[i] then ((i + 1 : Nat) : Int) else posK (E.take i) k := by
  have e : E.take (i + 1) = E.take i ++ [E[i]] := by rw [List.take_add_one, List.getElem?_eq_getElem hi]; rfl
  have hnot : E[i] ∉ E.take i := fun hm => by
    have h2 : (E.take i ++ E.drop i).Nodup := by rw [List.take_append_drop]; exact hE
    rw [List.drop_eq_getElem_cons hi] at h2
    have := (List.nodup_append.1 h2).2.2 _ hm E[i] (List.mem_cons_self ..)
    exact this rfl
  have hl : (E.take i).length = i := by rw [List.length_take]; omega
  rw [e]
  unfold posK
  by_cases hk : k = E[i]
  · have hm : k ∈ E.take i ++ [E[i]] := by rw [hk]; exact List.mem_append_right _ (List.mem_singleton.2 rfl)
    have hnk : k ∉ E.take i := by rw [hk]; exact hnot
    rw [if_pos hk, if_pos hm, List.idxOf_append, if_neg hnk, hl, hk]
    simp
  · rw [if_neg hk]
    by_cases hm : k ∈ E.take i
    · rw [if_pos hm, if_pos (List.mem_append_left _ hm), List.idxOf_append, if_pos hm]
    · have hm2 : k ∉ E.take i ++ [E[i]] := fun q => (List.mem_append.1 q).elim hm (fun q => hk (List.mem_singleton.1 q))
      rw [if_neg hm, if_neg hm2]
theorem once_l0 (n : Nat) (l : T_ledger_Ledger) (good : KB) (h : LG l good) (hg : good.length < n) (hl : l.effects.length ≤ 100000) : ∀ (j k i : Nat) (at_ : List (T_api_Key × Int)), i + j = l.effects.length → j < k → (∀ q, (getA q at_).getD 0 = posK ((keysE l).take i) q) →
    tontinelaw18_LedgerOnce.l0 n l.fence.Term l.fence.Index l.effects l.said l.tombs good l.effects k at_ (i : Int) = some true
  | j, 0, i, at_, _, hk, _ => by omega
  | 0, k + 1, i, at_, hi, _, hat => by
    unfold tontinelaw18_LedgerOnce.l0
    rw [if_neg (by rw [decide_eq_true_eq]; omega)]
    refine once_l1 n l good h at_ (fun q => ?_) n good hg (fun p hp => hp)
    rw [hat, List.take_of_length_le (by simp [keysE]; omega)]
  | j + 1, k + 1, i, at_, hi, hk, hat => by
    have hlt : i < l.effects.length := by omega
    have hlk : i < (keysE l).length := by simpa [keysE] using hlt
    have er : rdL l.effects (i : Int) = l.effects[i] := by simp [rdL, hlt]
    have ek : (keysE l)[i] = l.effects[i].Key := by simp [keysE]
    unfold tontinelaw18_LedgerOnce.l0
    rw [if_pos (by rw [decide_eq_true_eq]; omega), if_pos ⟨by omega, by omega⟩, er]
    have e1 : (⟨l.effects[i].Key.Saga, l.effects[i].Key.Step, l.effects[i].Key.Back⟩ : T_api_Key) = (keysE l)[i] := by rw [ek]
    have w : wi64 ((i : Int) + 1) = ((i + 1 : Nat) : Int) := by rw [wi64_id (by omega) (by omega)]; omega
    have hnot : (keysE l)[i] ∉ (keysE l).take i := fun hm => by
      have h2 : ((keysE l).take i ++ (keysE l).drop i).Nodup := by rw [List.take_append_drop]; exact h.nd
      rw [List.drop_eq_getElem_cons hlk] at h2
      exact (List.nodup_append.1 h2).2.2 _ hm _ (List.mem_cons_self ..) rfl
    have h0 : (getA (keysE l)[i] at_).getD 0 = 0 := by rw [hat]; unfold posK; rw [if_neg hnot]
    rw [e1, h0, if_neg (by simp), w]
    refine once_l0 n l good h hg hl j k (i + 1) _ (by omega) (by omega) (fun q => ?_)
    rw [getA_put, posK_take (keysE l) h.nd i hlk q]
    split
    · rfl
    · exact hat q
theorem once_j0 (n : Nat) (l : T_ledger_Ledger) (good : KB) (h : LG l good) (hg : good.length < n) (hl : l.effects.length ≤ 100000) (hn : l.effects.length < n) : tontinelaw18_LedgerOnce.j0 n l.fence.Term l.fence.Index l.effects l.said l.tombs good = some true := by
  unfold tontinelaw18_LedgerOnce.j0 ledger_Ledger_Effects.f
  have c : capOk 40 (([] : List T_ledger_Effect) ++ l.effects).length := by rw [List.nil_append]; unfold capOk; omega
  rw [if_pos c, Option.bind_some, List.nil_append]
  refine once_l0 n l good h hg hl l.effects.length n 0 [] (by omega) hn (fun q => ?_)
  rfl
theorem putA_len {κ ν : Type} [DecidableEq κ] (k : κ) (v : ν) : ∀ (l : List (κ × ν)), (putA k v l).length ≤ l.length + 1
  | [] => by simp [putA]
  | (a, b) :: l => by
    unfold putA
    split
    · simp
    · have := putA_len k v l; simp; omega
theorem once_l2 (n : Nat) (cs : List T_tontinelaw18_Call) (hc : cs.length ≤ 1000000000000000) (hn : 2000 ≤ n) : ∀ (j k i : Nat) (l : T_ledger_Ledger) (good : KB), LG l good → l.effects.length ≤ i → good.length ≤ i → i ≤ 500 → i + j = 501 → j < k →
    tontinelaw18_LedgerOnce.l2 n cs k l.fence.Term l.fence.Index l.effects l.said l.tombs good (i : Int) = some true
  | j, 0, i, l, good, _, _, _, _, _, hk => by omega
  | j, k + 1, i, l, good, h, h1, h2, h5, hi, hk => by
    have fin : tontinelaw18_LedgerOnce.j0 n l.fence.Term l.fence.Index l.effects l.said l.tombs good = some true := once_j0 n l good h (by omega) (by omega) (by omega)
    unfold tontinelaw18_LedgerOnce.l2
    by_cases hlt : i < cs.length
    · rw [if_pos (by rw [decide_eq_true_eq]; omega), if_pos ⟨by omega, by omega⟩]
      by_cases h500 : i = 500
      · rw [if_pos (by rw [beq_iff_eq]; omega)]
        exact fin
      · rw [if_neg (by rw [beq_iff_eq]; omega)]
        obtain ⟨c, hcc⟩ : ∃ c, rdL cs (i : Int) = c := ⟨_, rfl⟩
        have w : wi64 ((i : Int) + 1) = ((i + 1 : Nat) : Int) := by rw [wi64_id (by omega) (by omega)]; omega
        have ea : ledger_Ledger_Ask.f n (⟨(⟨l.fence.Term, l.fence.Index⟩ : T_api_Token), l.effects, l.said, l.tombs⟩ : T_ledger_Ledger) (⟨c.Token.Term, c.Token.Index⟩ : T_api_Token) (⟨c.Key.Saga, c.Key.Step, c.Key.Back⟩ : T_api_Key) c.Name c.Fail = some (askM l c.Token c.Key c.Name c.Fail) := p_Ask n l c.Token c.Key c.Name c.Fail (by omega)
        rw [hcc, ea, Option.bind_some, w]
        have hask := h.ask c.Token c.Key c.Name c.Fail
        have hfe := (ask_fence l c.Token c.Key c.Name c.Fail).1
        generalize askM l c.Token c.Key c.Name c.Fail = r at hask hfe
        have ek : (⟨c.Key.Saga, c.Key.Step, c.Key.Back⟩ : T_api_Key) = c.Key := rfl
        have go : ∀ g', LG r.2.2 g' → g'.length ≤ i + 1 → tontinelaw18_LedgerOnce.l2 n cs k r.2.2.fence.Term r.2.2.fence.Index r.2.2.effects r.2.2.said r.2.2.tombs g' ((i + 1 : Nat) : Int) = some true := fun g' hg' hl' =>
          once_l2 n cs hc hn (j - 1) k (i + 1) r.2.2 g' hg' (by omega) hl' (by omega) (by omega) (by omega)
        by_cases he : r.2.1 = 0
        · obtain ⟨q1, q2⟩ := hask.2 he
          rw [if_neg (by simp [he]), ek]
          have hput : r.1 = true ∨ c.Key.Back = false → tontinelaw18_LedgerOnce.l2 n cs k r.2.2.fence.Term r.2.2.fence.Index r.2.2.effects r.2.2.said r.2.2.tombs (putA c.Key r.1 good) ((i + 1 : Nat) : Int) = some true := fun hq =>
            go _ ⟨hask.1.nd, hask.1.eff, hask.1.frt, hask.1.bk, hask.1.tmb, fun p hp => (mem_putA _ _ _ p hp).elim (fun e => by rw [e]; exact q2 hq) (fun hp => hask.1.gd p hp)⟩ (by have := putA_len c.Key r.1 good; omega)
          have hj12 : tontinelaw18_LedgerOnce.j12 n (tontinelaw18_LedgerOnce.l2 n cs k) cs good (i : Int) r false = some true := by
            unfold tontinelaw18_LedgerOnce.j12 tontinelaw18_LedgerOnce.j13
            rw [hcc, ek, w, if_neg (by simp)]
            cases hr1 : r.1
            · rw [if_neg (by simp)]
              cases hbk : c.Key.Back
              · rw [if_pos (by simp)]
                have := hput (.inr hbk)
                rw [hr1] at this
                exact this
              · rw [if_neg (by simp)]
                exact go good hask.1 (by omega)
            · rw [if_pos rfl, if_pos rfl]
              have := hput (.inl hr1)
              rw [hr1] at this
              exact this
          cases hg : getA c.Key good with
          | none => rw [if_neg (by simp)]; exact hj12
          | some was =>
            rw [if_pos (by rfl)]
            have := q1 was hg
            subst this
            have e : (!((some r.1).getD false == r.1)) = false := by simp
            rw [e]
            exact hj12
        · rw [if_pos (by simp [he])]
          exact go good hask.1 (by omega)
    · rw [if_neg (by rw [decide_eq_true_eq]; omega)]
      exact fin
theorem tontinelaw18_LedgerOnce_law (cs : List T_tontinelaw18_Call) (h : cs.length * 64 ≤ reachBytes ∧ ∀ x ∈ cs, wf_T_tontinelaw18_Call x) : Ev (fun n => tontinelaw18_LedgerOnce.f n cs) true := by
  have hr : reachBytes < 1000000000000000 := by decide
  unfold tontinelaw18_LedgerOnce.f
  refine Ev.bind (Ev.ge 40 begun18) (Ev.ge 3000 fun n hn => ?_)
  rw [if_neg (by simp)]
  have e : ledger_New.f n = some (⟨(⟨0, 0⟩ : T_api_Token), [], [], []⟩ : T_ledger_Ledger) := rfl
  rw [e, Option.bind_some]
  have h0 : LG (⟨(⟨0, 0⟩ : T_api_Token), [], [], []⟩ : T_ledger_Ledger) [] := ⟨List.nodup_nil, (fun k hk => by cases hk), (fun k _ hk => by cases hk), (fun k v _ hk => by cases hk), (fun k hk => by cases hk), (fun p hp => by cases hp)⟩
  exact once_l2 n cs (by omega) (by omega) 501 n 0 (⟨(⟨0, 0⟩ : T_api_Token), [], [], []⟩ : T_ledger_Ledger) [] h0 (by simp) (by simp) (by omega) (by omega) (by omega)
end Go.GL
