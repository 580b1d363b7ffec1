/- Logs: what the laws share. No condition but the bounds named. -/
import Derived.Test.YtolipnnfdclkoaaLogB
set_option linter.unusedVariables false
set_option linter.unusedSimpArgs false
set_option maxRecDepth 10000
namespace Go.GL
open Go
def wf_T_api_Snapshot (x : T_api_Snapshot) : Prop := (fun n => (Lit.int .u64 n).wf = true) x.Index ∧ (fun n => (Lit.int .u64 n).wf = true) x.Term ∧ (fun n => (Lit.int .u64 n).wf = true) x.Config ∧ (fun l => l.length ≤ reachBytes) x.Data
def ms_T_api_Snapshot (x : T_api_Snapshot) : Nat := (fun _ => 1) x.Index + (fun _ => 1) x.Term + (fun _ => 1) x.Config + (fun l => l.length + 1) x.Data
def wf_T_api_Entry (x : T_api_Entry) : Prop := (fun n => (Lit.int .u64 n).wf = true) x.Term ∧ (fun n => (Lit.int .u64 n).wf = true) x.Index ∧ (fun n => (Lit.int .i64 n).wf = true) x.Kind ∧ (fun l => l.length ≤ reachBytes) x.Data
def ms_T_api_Entry (x : T_api_Entry) : Nat := (fun _ => 1) x.Term + (fun _ => 1) x.Index + (fun _ => 1) x.Kind + (fun l => l.length + 1) x.Data
def wf_T_tontinelaw07_Call (x : T_tontinelaw07_Call) : Prop := (fun n => (Lit.int .i64 n).wf = true) x.Kind ∧ (fun n => (Lit.int .u64 n).wf = true) x.Index ∧ (fun n => (Lit.int .u64 n).wf = true) x.Term ∧ (fun n => (Lit.int .i64 n).wf = true) x.What ∧ (fun l => l.length ≤ reachBytes) x.Data ∧ (fun xs => xs.length * 40 ≤ reachBytes ∧ ∀ x ∈ xs, wf_T_api_Entry x) x.L ∧ wf_T_api_Snapshot x.Snap
def ms_T_tontinelaw07_Call (x : T_tontinelaw07_Call) : Nat := (fun _ => 1) x.Kind + (fun _ => 1) x.Index + (fun _ => 1) x.Term + (fun _ => 1) x.What + (fun l => l.length + 1) x.Data + (fun xs => (xs.map ms_T_api_Entry).sum + 1) x.L + ms_T_api_Snapshot x.Snap
theorem modN (x : Int) (p : Nat) (hp : 0 < p) (hp2 : p ≤ 1000000) : ∃ y : Nat, (wi64 ((x.tmod (p : Int)) + (p : Int))).tmod (p : Int) = (y : Int) ∧ y < p := by
  have h1 : x.tmod (p : Int) < (p : Int) := Int.tmod_lt_of_pos x (by omega)
  have h2 : (-x).tmod (p : Int) < (p : Int) := Int.tmod_lt_of_pos (-x) (by omega)
  rw [Int.neg_tmod] at h2
  rw [wi64_id (by omega) (by omega)]
  have h3 : 0 ≤ (x.tmod (p : Int) + (p : Int)).tmod (p : Int) := Int.tmod_nonneg _ (by omega)
  have h4 : (x.tmod (p : Int) + (p : Int)).tmod (p : Int) < (p : Int) := Int.tmod_lt_of_pos _ (by omega)
  exact ⟨((x.tmod (p : Int) + (p : Int)).tmod (p : Int)).toNat, by omega, by omega⟩
theorem same_l0 (n : Nat) (l : List T_api_Entry) (hl : l.length ≤ 1000000000000000) : ∀ (j k i : Nat), i + j = l.length → j < k → tontineref07_Same.l0 n l l k (i : Int) = some true
  | j, 0, i, _, h => by omega
  | 0, k + 1, i, hi, _ => by
    unfold tontineref07_Same.l0
    rw [if_neg (by rw [decide_eq_true_eq]; omega)]
  | j + 1, k + 1, i, hi, hk => by
    unfold tontineref07_Same.l0
    rw [if_pos (by rw [decide_eq_true_eq]; omega), if_pos ⟨by omega, by omega⟩, if_pos ⟨by omega, by omega⟩, if_neg (by simp), wi64_id (by omega) (by omega), show ((i : Int) + 1) = ((i + 1 : Nat) : Int) by omega]
    exact same_l0 n l hl j k (i + 1) (by omega) (by omega)
theorem same07 (n : Nat) (l : List T_api_Entry) (hl : l.length ≤ 1000000000000000) (hn : l.length < n) : tontineref07_Same.f n l l = some true := by
  unfold tontineref07_Same.f
  rw [if_neg (by simp)]
  exact same_l0 n l hl l.length n 0 (by omega) (by omega)
/-- The weight's loop over a list: no less than what it began with, when nothing is too great. -/
theorem light_l2 (n : Nat) (l : List T_api_Entry) (hl : l.length ≤ 4000000000000) (hd : ∀ e ∈ l, e.Data.length ≤ 2000000) : ∀ (j k i : Nat) (a : Nat), i + j = l.length → j < k → a + 20001 * j ≤ 9000000000000000000 → ∃ N : Nat, a ≤ N ∧ N ≤ a + 20001 * j ∧ tontinelaw07_light.l2 n l k (a : Int) (i : Int) = some (decide ((N : Int) ≤ 800))
  | j, 0, i, _, _, h, _ => by omega
  | 0, k + 1, i, a, hi, _, _ => by
    unfold tontinelaw07_light.l2
    rw [if_neg (by rw [decide_eq_true_eq]; omega)]
    exact ⟨a, Nat.le_refl _, by omega, rfl⟩
  | j + 1, k + 1, i, a, hi, hk, hb => by
    have hx := hd _ (rdL_mem (l := l) (i := i) (by omega))
    have et : ((rdL l (i : Int)).Data.length : Int).tdiv 100 = (((rdL l (i : Int)).Data.length / 100 : Nat) : Int) := by
      rw [Int.tdiv_eq_ediv_of_nonneg (by omega)]; omega
    unfold tontinelaw07_light.l2
    rw [if_pos (by rw [decide_eq_true_eq]; omega), if_pos ⟨by omega, by omega⟩, et, wi64_id (x := (((rdL l (i : Int)).Data.length / 100 : Nat) : Int)) (by omega) (by omega), wi64_id (x := (i : Int) + 1) (by omega) (by omega), wi64_id (by omega) (by omega), show ((i : Int) + 1) = ((i + 1 : Nat) : Int) by omega, show ((a : Int) + (((rdL l (i : Int)).Data.length / 100 : Nat) : Int)) = ((a + (rdL l (i : Int)).Data.length / 100 : Nat) : Int) by omega]
    obtain ⟨N, h1, h2, h3⟩ := light_l2 n l hl hd j k (i + 1) (a + (rdL l (i : Int)).Data.length / 100) (by omega) (by omega) (by omega)
    exact ⟨N, by omega, by omega, h3⟩
/-- It always comes to something. -/
theorem light2_some (n : Nat) (l : List T_api_Entry) (hl : l.length ≤ 4000000000000) : ∀ (j k i : Nat) (a : Int), i + j = l.length → j < k → ∃ b, tontinelaw07_light.l2 n l k a (i : Int) = some b
  | j, 0, i, _, _, h => by omega
  | 0, k + 1, i, a, hi, _ => by
    unfold tontinelaw07_light.l2
    rw [if_neg (by rw [decide_eq_true_eq]; omega)]
    exact ⟨_, rfl⟩
  | j + 1, k + 1, i, a, hi, hk => by
    unfold tontinelaw07_light.l2
    rw [if_pos (by rw [decide_eq_true_eq]; omega), if_pos ⟨by omega, by omega⟩, wi64_id (x := (i : Int) + 1) (by omega) (by omega), show ((i : Int) + 1) = ((i + 1 : Nat) : Int) by omega]
    exact light2_some n l hl j k (i + 1) _ (by omega) (by omega)
theorem memF_le (U : Int) : ∀ (l : List T_api_Entry) (q : Int × Int) (B : Int), q.2 ≤ B → (∀ e ∈ l, e.Index ≤ B) → (memF U q l).2 ≤ B
  | [], q, B, h, _ => h
  | e :: l, q, B, h, hl => by
    refine memF_le U l _ B ?_ fun x hx => hl x (by simp [hx])
    split
    · exact hl e (by simp)
    · exact h
theorem memF_none (i : Int) : ∀ (l : List T_api_Entry) (q : Int × Int), (∀ e ∈ l, i < e.Index) → memF i q l = q
  | [], q, _ => rfl
  | e :: l, q, h => by
    unfold memF
    rw [if_neg (fun hh => by have := h e (by simp); omega)]
    exact memF_none i l q fun x hx => h x (by simp [hx])
theorem memF_all (i j : Int) : ∀ (l : List T_api_Entry) (q : Int × Int), (∀ e ∈ l, e.Index ≤ i ∧ e.Index ≤ j) → memF i q l = memF j q l
  | [], q, _ => rfl
  | e :: l, q, h => by
    unfold memF
    have := h e (by simp)
    by_cases hk : e.Kind = 2
    · rw [if_pos ⟨hk, this.1⟩, if_pos ⟨hk, this.2⟩]
      exact memF_all i j l _ fun x hx => h x (by simp [hx])
    · rw [if_neg (fun hh => hk hh.1), if_neg (fun hh => hk hh.1)]
      exact memF_all i j l _ fun x hx => h x (by simp [hx])
theorem memF_two (i : Int) : ∀ (l : List T_api_Entry), (∀ q, memF i q l = q) ∨ (∃ v, ∀ q, memF i q l = v)
  | [] => .inl fun _ => rfl
  | e :: l => by
    rcases memF_two i l with h | ⟨v, h⟩
    · by_cases hc : e.Kind = 2 ∧ e.Index ≤ i
      · refine .inr ⟨((cfgM e.Data).1, e.Index), fun q => ?_⟩
        unfold memF; rw [if_pos hc, h]
      · refine .inl fun q => ?_
        unfold memF; rw [if_neg hc, h]
    · exact .inr ⟨v, fun q => by unfold memF; rw [h]⟩
theorem mem_rd {α : Type} [Inhabited α] {l : List α} {x : α} (h : x ∈ l) : ∃ k : Nat, k < l.length ∧ rdL l (k : Int) = x := by
  obtain ⟨k, hk, rfl⟩ := List.getElem_of_mem h
  exact ⟨k, hk, by simp [rdL, hk]⟩
theorem rdL_drop {α : Type} [Inhabited α] (l : List α) (a k : Nat) : rdL (l.drop a) (k : Int) = rdL l ((a + k : Nat) : Int) := by
  unfold rdL
  rw [Int.toNat_natCast, Int.toNat_natCast, List.getD_eq_getElem?_getD, List.getD_eq_getElem?_getD, List.getElem?_drop]
theorem rdL_take {α : Type} [Inhabited α] (l : List α) (a k : Nat) (h : k < a) : rdL (l.take a) (k : Int) = rdL l (k : Int) := by
  unfold rdL
  rw [Int.toNat_natCast, List.getD_eq_getElem?_getD, List.getD_eq_getElem?_getD, List.getElem?_take_of_lt h]
/-- All from an index on. -/
theorem get_all (s : T_api_Snapshot) (l : List T_api_Entry) (hs : 0 ≤ s.Index ∧ s.Index ≤ 18446744073709551615) (hc : s.Index + l.length ≤ 18446744073709551615) (k : Nat) (hk : k ≤ l.length) (hl : l.length ≤ 2000) : getM s l (wu64 (s.Index + k + 1)) 2000 = l.drop k := by
  unfold getM
  by_cases h : k < l.length
  · rw [wu64_id (by omega) (by omega)]
    have e : atM s.Index l.length (s.Index + k + 1) = (k : Int) := by unfold atM; rw [if_pos ⟨by omega, by omega⟩]; omega
    rw [e, if_neg (by omega), Int.toNat_natCast, List.take_of_length_le (by rw [List.length_drop]; omega)]
  · have e : atM s.Index l.length (wu64 (s.Index + k + 1)) = -1 := by
      unfold atM
      rw [if_neg]
      rw [next_u64 ⟨by omega, by omega⟩]
      split <;> omega
    rw [e, if_pos (.inl (by omega)), List.drop_of_length_le (by omega)]
end Go.GL
