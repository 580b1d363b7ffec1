/- Ledgers: what the plain functions compute. No condition but the bounds named. -/
import Derived.Test.YtmpockelhphkdaaKindsT2
import Derived.Test.YtmpockelhphkdaaG14
set_option linter.unusedVariables false
set_option linter.unusedSimpArgs false
set_option maxRecDepth 10000
namespace Go.GL
open Go
def wf_T_api_Token (x : T_api_Token) : Prop := (fun n => (Lit.int .u64 n).wf = true) x.Term ∧ (fun n => (Lit.int .u64 n).wf = true) x.Index
def ms_T_api_Token (x : T_api_Token) : Nat := (fun _ => 1) x.Term + (fun _ => 1) x.Index
def wf_T_api_Key (x : T_api_Key) : Prop := (fun n => (Lit.int .u64 n).wf = true) x.Saga ∧ (fun n => (Lit.int .i64 n).wf = true) x.Step ∧ (fun _ => True) x.Back
def ms_T_api_Key (x : T_api_Key) : Nat := (fun _ => 1) x.Saga + (fun _ => 1) x.Step + (fun _ => 1) x.Back
def wf_T_tontinelaw18_Call (x : T_tontinelaw18_Call) : Prop := wf_T_api_Token x.Token ∧ wf_T_api_Key x.Key ∧ (fun l => l.length ≤ reachBytes) x.Name ∧ (fun _ => True) x.Fail
def ms_T_tontinelaw18_Call (x : T_tontinelaw18_Call) : Nat := ms_T_api_Token x.Token + ms_T_api_Key x.Key + (fun l => l.length + 1) x.Name + (fun _ => 1) x.Fail
theorem wi64_id {x : Int} (h1 : -9223372036854775808 ≤ x) (h2 : x ≤ 9223372036854775807) : wi64 x = x := by
  simp only [wi64, IntKind.wrap, IntKind.bits, IntKind.signed]
  simp
  omega
theorem rdL_mem {α : Type} [Inhabited α] {l : List α} {i : Nat} (h : i < l.length) : rdL l (i : Int) ∈ l := by
  simp [rdL, h]
theorem getD_drop {α : Type} [Inhabited α] {l : List α} {i : Nat} (h : i < l.length) : l.drop i = rdL l (i : Int) :: l.drop (i + 1) := by
  rw [List.drop_eq_getElem_cons h]
  congr 1
  simp [rdL, h]
theorem begun18 : ∀ n, 40 ≤ n → tontinelaw18_begun.f n = some true := by
  intro n hn
  obtain ⟨m, rfl⟩ : ∃ m, n = m + 40 := ⟨n - 40, by omega⟩
  rfl
theorem getA_put {κ ν : Type} [DecidableEq κ] (k k' : κ) (v : ν) : ∀ l : List (κ × ν), getA k (putA k' v l) = if k = k' then some v else getA k l
  | [] => by simp [putA, getA]
  | (a, b) :: l => by
    have ih := getA_put k k' v l
    unfold putA
    by_cases h : k' = a
    · rw [if_pos h]
      subst h
      unfold getA
      split <;> rfl
    · rw [if_neg h]
      unfold getA
      by_cases h2 : k = a
      · rw [if_pos h2, if_pos h2, if_neg (fun e : k = k' => h (e.symm.trans h2))]
      · rw [if_neg h2, if_neg h2]
        exact ih
theorem putA_new {κ ν : Type} [DecidableEq κ] (k : κ) (v : ν) : ∀ l : List (κ × ν), getA k l = none → putA k v l = l ++ [(k, v)]
  | [], _ => rfl
  | (a, b) :: l, h => by
    unfold getA at h
    split at h
    · cases h
    · rename_i hne
      unfold putA
      rw [if_neg hne, putA_new k v l h]
      rfl
def lessM (a b : T_api_Token) : Bool := decide (a.Term < b.Term ∨ (a.Term = b.Term ∧ a.Index < b.Index))
theorem p_Less (n : Nat) (a b : T_api_Token) : ledger_Less.f n a b = some (lessM a b) := by
  unfold ledger_Less.f lessM
  by_cases h1 : a.Term < b.Term
  · rw [if_pos (by simpa using h1), decide_eq_true (.inl h1)]
  · rw [if_neg (by simpa using h1)]
    by_cases h2 : a.Term = b.Term
    · rw [if_pos (by simpa using h2)]
      congr 1
      rw [Bool.eq_iff_iff, decide_eq_true_eq, decide_eq_true_eq]
      omega
    · rw [if_neg (by simpa using h2), decide_eq_false (by omega)]
theorem r_Less (n : Nat) (a b : T_api_Token) : tontineref18_Less.f n a b = some (lessM a b) := by
  unfold tontineref18_Less.f lessM
  by_cases h2 : a.Term = b.Term
  · rw [if_neg (by simpa using h2)]
    congr 1
    rw [Bool.eq_iff_iff, decide_eq_true_eq, decide_eq_true_eq]
    omega
  · rw [if_pos (by simpa using h2)]
    congr 1
    rw [Bool.eq_iff_iff, decide_eq_true_eq, decide_eq_true_eq]
    omega
def forthK (k : T_api_Key) : T_api_Key := ⟨k.Saga, k.Step, false⟩
def badK (k : T_api_Key) (name : List UInt8) : Bool := decide (k.Step < 0 ∨ k.Step ≥ 64 ∨ 16 < name.length)
/-- A request. -/
def askM (l : T_ledger_Ledger) (t : T_api_Token) (k : T_api_Key) (name : List UInt8) (fail : Bool) : Bool × Int × T_ledger_Ledger :=
  if badK k name = true then (false, 1, l) else if lessM t l.fence = true then (false, 50, l) else
    match getA k l.said with
    | some v => (v, 0, ⟨t, l.effects, l.said, l.tombs⟩)
    | none =>
      if k.Back = true then
        (if fail = true then (false, 0, ⟨t, l.effects, l.said, l.tombs⟩) else
          if (getA (forthK k) l.said).getD false = true then (true, 0, ⟨t, l.effects ++ [⟨k, name⟩], putA k true l.said, l.tombs⟩) else (true, 0, ⟨t, l.effects, putA k true l.said, putA (forthK k) true l.tombs⟩))
      else if (getA k l.tombs).getD false = true then (false, 51, ⟨t, l.effects, l.said, l.tombs⟩) else
        if fail = true then (false, 0, ⟨t, l.effects, putA k false l.said, l.tombs⟩) else (true, 0, ⟨t, l.effects ++ [⟨k, name⟩], putA k true l.said, l.tombs⟩)
theorem p_Ask (n : Nat) (l : T_ledger_Ledger) (t : T_api_Token) (k : T_api_Key) (name : List UInt8) (fail : Bool) (hl : l.effects.length ≤ 100000) : ledger_Ledger_Ask.f n l t k name fail = some (askM l t k name fail) := by
  have c : capOk 40 (l.effects ++ [(⟨k, name⟩ : T_ledger_Effect)]).length := by simp only [List.length_append, List.length_cons, List.length_nil]; unfold capOk; omega
  have bad : badK k name = true → ledger_Ledger_Ask.j0 n l t k name fail true = some (askM l t k name fail) := fun h => by
    unfold askM; rw [if_pos h]; rfl
  have ok : badK k name = false → ledger_Ledger_Ask.j0 n l t k name fail false = some (askM l t k name fail) := by
    intro h
    have el : ledger_Less.f n t ⟨l.fence.Term, l.fence.Index⟩ = some (lessM t l.fence) := p_Less n t l.fence
    unfold ledger_Ledger_Ask.j0 askM
    rw [if_neg (show ¬ (false = true) by simp), el, Option.bind_some, h, if_neg (show ¬ (false = true) by simp)]
    cases h1 : lessM t l.fence
    · rw [if_neg (show ¬ (false = true) by simp), if_neg (show ¬ (false = true) by simp)]
      cases h2 : getA k l.said with
      | some v => simp
      | none =>
        rw [if_neg (show ¬ ((none : Option Bool).isSome = true) by simp)]
        dsimp only
        cases h3 : k.Back
        · rw [if_neg (show ¬ (false = true) by simp), if_neg (show ¬ (false = true) by simp)]
          cases h4 : (getA k l.tombs).getD false
          · rw [if_neg (show ¬ (false = true) by simp), if_neg (show ¬ (false = true) by simp)]
            cases fail
            · rw [if_pos (show (!false) = true by rfl), if_pos c, if_neg (show ¬ (false = true) by simp)]
              rfl
            · rw [if_neg (show ¬ ((!true) = true) by simp), if_pos (show true = true by rfl)]
              rfl
          · rw [if_pos (show true = true by rfl), if_pos (show true = true by rfl)]
        · rw [if_pos (show true = true by rfl), if_pos (show true = true by rfl)]
          unfold ledger_Ledger_undo.f ledger_Ledger_undo.j0
          cases fail
          · rw [if_neg (show ¬ (false = true) by simp), if_neg (show ¬ (false = true) by simp)]
            have e : getA (⟨k.Saga, k.Step, false⟩ : T_api_Key) l.said = getA (forthK k) l.said := rfl
            simp only [e]
            cases h5 : (getA (forthK k) l.said).getD false
            · rw [if_neg (show ¬ (false = true) by simp), if_neg (show ¬ (false = true) by simp)]
              rfl
            · rw [if_pos (show true = true by rfl), if_pos c, if_pos (show true = true by rfl)]
              rfl
          · rw [if_pos (show true = true by rfl), if_pos (show true = true by rfl)]
            rfl
    · rw [if_pos (show true = true by rfl), if_pos (show true = true by rfl)]
  unfold ledger_Ledger_Ask.f
  by_cases h1 : k.Step < 0
  · rw [if_pos (by simpa using h1)]
    exact bad (by unfold badK; rw [decide_eq_true_eq]; exact .inl h1)
  · rw [if_neg (by simpa using h1)]
    by_cases h2 : k.Step ≥ 64
    · rw [if_pos (by simpa using h2)]
      exact bad (by unfold badK; rw [decide_eq_true_eq]; exact .inr (.inl h2))
    · rw [if_neg (by simpa using h2)]
      by_cases h3 : 16 < name.length
      · rw [decide_eq_true (by omega : ((name.length : Int) > 16))]
        exact bad (by unfold badK; rw [decide_eq_true_eq]; exact .inr (.inr h3))
      · rw [decide_eq_false (by omega : ¬ ((name.length : Int) > 16))]
        exact ok (by unfold badK; rw [decide_eq_false_iff_not]; omega)
/-- What a request says of the fence. -/
theorem ask_fence (l : T_ledger_Ledger) (t : T_api_Token) (k : T_api_Key) (name : List UInt8) (fail : Bool) :
    (askM l t k name fail).2.2.effects.length ≤ l.effects.length + 1 ∧ (((askM l t k name fail).2.1 = 1 ∧ (askM l t k name fail).2.2 = l) ∨ ((askM l t k name fail).2.1 = 50 ∧ (askM l t k name fail).2.2 = l ∧ lessM t l.fence = true) ∨
      ((askM l t k name fail).2.1 ≠ 1 ∧ (askM l t k name fail).2.1 ≠ 50 ∧ lessM t l.fence = false ∧ (askM l t k name fail).2.2.fence = t)) := by
  unfold askM
  split
  · exact ⟨by simp, .inl ⟨rfl, rfl⟩⟩
  · split
    · rename_i h; exact ⟨by simp, .inr (.inl ⟨rfl, rfl, h⟩)⟩
    · rename_i h
      have h : lessM t l.fence = false := by simpa using h
      split
      · exact ⟨by simp, .inr (.inr ⟨by simp, by simp, h, rfl⟩)⟩
      · split
        · split
          · exact ⟨by simp, .inr (.inr ⟨by simp, by simp, h, rfl⟩)⟩
          · split
            · exact ⟨by simp, .inr (.inr ⟨by simp, by simp, h, rfl⟩)⟩
            · exact ⟨by simp, .inr (.inr ⟨by simp, by simp, h, rfl⟩)⟩
        · split
          · exact ⟨by simp, .inr (.inr ⟨by simp, by simp, h, rfl⟩)⟩
          · split
            · exact ⟨by simp, .inr (.inr ⟨by simp, by simp, h, rfl⟩)⟩
            · exact ⟨by simp, .inr (.inr ⟨by simp, by simp, h, rfl⟩)⟩
end Go.GL
