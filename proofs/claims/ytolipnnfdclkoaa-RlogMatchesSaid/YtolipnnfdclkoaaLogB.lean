/- Logs: what the program's functions compute. No condition but the bounds named. -/
import Derived.Test.YtolipnnfdclkoaaLogA
set_option linter.unusedVariables false
set_option linter.unusedSimpArgs false
set_option maxRecDepth 10000
namespace Go.GL
open Go
/-- Entries that stand one behind the other, behind index i and term t. -/
def chain : Int → Int → List T_api_Entry → Bool
  | _, _, [] => true
  | i, t, e :: l => okE e i t && chain e.Index e.Term l
/-- The last index and term. -/
def lastP : Int → Int → List T_api_Entry → Int × Int
  | i, t, [] => (i, t)
  | _, _, e :: l => lastP e.Index e.Term l
theorem okE_iff {e : T_api_Entry} {i t : Int} (h : okE e i t = true) : i < 18446744073709551615 ∧ e.Index = i + 1 ∧ t ≤ e.Term ∧ 0 ≤ e.Kind ∧ e.Kind ≤ 2 ∧ e.Data.length ≤ 32768 ∧ (e.Kind = 2 → (cfgM e.Data).2 = true) := by
  unfold okE at h; exact of_decide_eq_true h
theorem chain_cons {i t : Int} {e : T_api_Entry} {l : List T_api_Entry} : chain i t (e :: l) = (okE e i t && chain e.Index e.Term l) := rfl
theorem chain_app : ∀ (a b : List T_api_Entry) (i t : Int), chain i t (a ++ b) = (chain i t a && chain (lastP i t a).1 (lastP i t a).2 b)
  | [], b, i, t => by simp [chain, lastP]
  | e :: a, b, i, t => by
    rw [List.cons_append, chain_cons, chain_cons, chain_app a b]
    simp [lastP, Bool.and_assoc]
theorem lastP_app : ∀ (a b : List T_api_Entry) (i t : Int), lastP i t (a ++ b) = lastP (lastP i t a).1 (lastP i t a).2 b
  | [], b, i, t => rfl
  | e :: a, b, i, t => by rw [List.cons_append]; exact lastP_app a b _ _
theorem chain_last : ∀ (l : List T_api_Entry) (i t : Int), 0 ≤ i → i ≤ 18446744073709551615 → chain i t l = true → (lastP i t l).1 = i + l.length ∧ i + l.length ≤ 18446744073709551615
  | [], i, t, h0, h1, _ => by simp [lastP]; exact h1
  | e :: l, i, t, h0, h1, h => by
    rw [chain_cons, Bool.and_eq_true] at h
    have q := okE_iff h.1
    have := chain_last l e.Index e.Term (by omega) (by omega) h.2
    refine ⟨by show (lastP e.Index e.Term l).1 = _; rw [this.1, List.length_cons]; omega, by rw [List.length_cons]; omega⟩
theorem rdL_app2 {α : Type} [Inhabited α] (a b : List α) (k : Nat) : rdL (a ++ b) ((a.length + k : Nat) : Int) = rdL b (k : Int) := by
  unfold rdL
  rw [Int.toNat_natCast, Int.toNat_natCast, List.getD_eq_getElem?_getD, List.getD_eq_getElem?_getD, List.getElem?_append_right (by omega)]
  congr 2
  omega
theorem rdL_app1 {α : Type} [Inhabited α] (a b : List α) (k : Nat) (h : k < a.length) : rdL (a ++ b) (k : Int) = rdL a (k : Int) := by
  simp [rdL, h, List.getElem?_append_left]
theorem lastP_rd (i t : Int) (l : List T_api_Entry) (h : 0 < l.length) : lastP i t l = ((rdL l ((l.length - 1 : Nat) : Int)).Index, (rdL l ((l.length - 1 : Nat) : Int)).Term) := by
  obtain ⟨a, e, rfl⟩ : ∃ a e, l = a ++ [e] := ⟨l.dropLast, l.getLast (by intro hh; rw [hh] at h; simp at h), (List.dropLast_concat_getLast _).symm⟩
  rw [lastP_app]
  have : (a ++ [e]).length - 1 = a.length + 0 := by simp
  rw [this, rdL_app2]
  rfl
/-- The entries' indexes run on. -/
theorem chain_idx (l : List T_api_Entry) (i t : Int) (h : chain i t l = true) (k : Nat) (hk : k < l.length) : (rdL l (k : Int)).Index = i + 1 + k := by
  induction l generalizing i t k with
  | nil => simp at hk
  | cons e l ih =>
    rw [chain_cons, Bool.and_eq_true] at h
    have q := okE_iff h.1
    cases k with
    | zero => rw [show rdL (e :: l) ((0 : Nat) : Int) = e from rfl, q.2.1]; simp
    | succ k =>
      have := ih e.Index e.Term h.2 k (by simpa using hk)
      rw [show rdL (e :: l) ((k + 1 : Nat) : Int) = rdL l (k : Int) by simp [rdL], this, q.2.1]
      omega
theorem chain_mem (l : List T_api_Entry) (i t : Int) (h : chain i t l = true) : ∀ e ∈ l, e.Data.length ≤ 32768 ∧ (e.Kind = 2 → (cfgM e.Data).2 = true) := by
  induction l generalizing i t with
  | nil => simp
  | cons e l ih =>
    rw [chain_cons, Bool.and_eq_true] at h
    have q := okE_iff h.1
    intro x hx
    rcases List.mem_cons.1 hx with hx | hx
    · rw [hx]; exact ⟨q.2.2.2.2.2.1, q.2.2.2.2.2.2⟩
    · exact ih _ _ h.2 x hx
theorem p_Last (n : Nat) (g : T_rlog_Log) (h : g.entries.length ≤ 4000000000000) : rlog_Log_Last.f n g = some (lastP g.snap.Index g.snap.Term g.entries) := by
  unfold rlog_Log_Last.f
  by_cases h0 : 0 < g.entries.length
  · have w : wi64 ((g.entries.length : Int) - 1) = ((g.entries.length - 1 : Nat) : Int) := by rw [wi64_id (by omega) (by omega)]; omega
    rw [if_pos (show decide ((g.entries.length : Int) > 0) = true by rw [decide_eq_true_eq]; omega), w, if_pos ⟨by omega, by omega⟩, if_pos ⟨by omega, by omega⟩, lastP_rd _ _ _ h0]
  · rw [if_neg (show ¬ (decide ((g.entries.length : Int) > 0) = true) by rw [decide_eq_true_eq]; omega), List.length_eq_zero_iff.1 (by omega : g.entries.length = 0)]
    rfl
theorem drop_cons2 {α : Type} [Inhabited α] {l : List α} {i : Nat} (h : i < l.length) : l.drop i = rdL l (i : Int) :: l.drop (i + 1) := getD_drop h
theorem take_snoc {α : Type} [Inhabited α] {l : List α} {i : Nat} (h : i < l.length) : l.take (i + 1) = l.take i ++ [rdL l (i : Int)] := by
  rw [List.take_add_one]
  congr 1
  simp [rdL, h]
def newM (s : T_api_Snapshot) (l : List T_api_Entry) : Option T_rlog_Log × Int := if (soundC s.Config && chain s.Index s.Term l) = true then (some ⟨s, l⟩, 0) else (none, 1)
theorem new_l0 (n : Nat) (hn : 20 ≤ n) (s : T_api_Snapshot) (l : List T_api_Entry) (hs : 0 ≤ s.Index ∧ s.Index ≤ 18446744073709551615) (hl : l.length ≤ 4000000000000) (hd : ∀ e ∈ l, e.Data.length < 9000000000000000000) :
    ∀ (j k i : Nat), i + j = l.length → j < k → chain s.Index s.Term (l.take i) = true → rlog_New.l0 n s l k (l.take i) (i : Int) = some (if chain (lastP s.Index s.Term (l.take i)).1 (lastP s.Index s.Term (l.take i)).2 (l.drop i) = true then (some ⟨s, l⟩, 0) else (none, 1))
  | j, 0, i, _, h, _ => by omega
  | 0, k + 1, i, hi, _, hc => by
    unfold rlog_New.l0
    rw [if_neg (show ¬ (decide ((i : Int) < (l.length : Int)) = true) by rw [decide_eq_true_eq]; omega), List.drop_of_length_le (by omega), List.take_of_length_le (by omega)]
    rfl
  | j + 1, k + 1, i, hi, hk, hc => by
    have hlt : i < l.length := by omega
    have hq := chain_last (l.take i) s.Index s.Term hs.1 hs.2 hc
    rw [List.length_take, Nat.min_eq_left (by omega)] at hq
    unfold rlog_New.l0
    rw [if_pos (show decide ((i : Int) < (l.length : Int)) = true by rw [decide_eq_true_eq]; omega), if_pos ⟨by omega, by omega⟩, p_Last n ⟨s, l.take i⟩ (by simp only [List.length_take]; omega), Option.bind_some]
    have hsd := p_sound n hn (rdL l (i : Int)) (lastP s.Index s.Term (l.take i)).1 (lastP s.Index s.Term (l.take i)).2 (by omega) (hd _ (rdL_mem hlt))
    rw [hsd, Option.bind_some, drop_cons2 hlt, chain_cons]
    by_cases ho : okE (rdL l (i : Int)) (lastP s.Index s.Term (l.take i)).1 (lastP s.Index s.Term (l.take i)).2 = true
    · have c : capOk 40 (l.take i ++ [rdL l (i : Int)]).length := by simp only [List.length_append, List.length_take, List.length_cons, List.length_nil]; unfold capOk; omega
      have w : wi64 ((i : Int) + 1) = ((i + 1 : Nat) : Int) := by rw [wi64_id (by omega) (by omega)]; omega
      rw [ho, if_neg (by simp), if_pos c, w, Bool.true_and, ← take_snoc hlt]
      have hc' : chain s.Index s.Term (l.take (i + 1)) = true := by rw [take_snoc hlt, chain_app, hc, chain_cons, ho]; rfl
      have el : lastP s.Index s.Term (l.take (i + 1)) = ((rdL l (i : Int)).Index, (rdL l (i : Int)).Term) := by rw [take_snoc hlt, lastP_app]; rfl
      have ih := new_l0 n hn s l hs hl hd j k (i + 1) (by omega) (by omega) hc'
      rw [el] at ih
      exact ih
    · have ho' : okE (rdL l (i : Int)) (lastP s.Index s.Term (l.take i)).1 (lastP s.Index s.Term (l.take i)).2 = false := by simpa using ho
      rw [ho', if_pos (by rfl), Bool.false_and, if_neg (by simp)]
theorem p_New (n : Nat) (s : T_api_Snapshot) (l : List T_api_Entry) (hn : 20 + l.length ≤ n) (hs : 0 ≤ s.Index ∧ s.Index ≤ 18446744073709551615) (hc : 0 ≤ s.Config ∧ s.Config ≤ 18446744073709551615) (hl : l.length ≤ 4000000000000) (hd : ∀ e ∈ l, e.Data.length < 9000000000000000000) : rlog_New.f n s l = some (newM s l) := by
  unfold rlog_New.f newM
  rw [p_Sound n s.Config hc, Option.bind_some]
  cases soundC s.Config
  · rfl
  · rw [if_neg (by simp), Bool.true_and]
    exact new_l0 n (by omega) s l hs hl hd l.length n 0 (by omega) (by omega) rfl
/-- Where an index stands; -1: nowhere. -/
def atM (si : Int) (len : Nat) (i : Int) : Int := if si < i ∧ i ≤ si + len then i - si - 1 else -1
theorem atM_cases (si : Int) (len : Nat) (i : Int) : (atM si len i = -1 ∧ ¬ (si < i ∧ i ≤ si + len)) ∨ (∃ k : Nat, atM si len i = (k : Int) ∧ k < len ∧ i = si + 1 + k) := by
  unfold atM
  split
  · exact .inr ⟨(i - si - 1).toNat, by omega, by omega, by omega⟩
  · rename_i h; exact .inl ⟨rfl, h⟩
theorem p_at (n : Nat) (g : T_rlog_Log) (i : Int) (hs : 0 ≤ g.snap.Index ∧ g.snap.Index ≤ 18446744073709551615) (hi : 0 ≤ i ∧ i ≤ 18446744073709551615) (hl : g.entries.length ≤ 4000000000000) : rlog_Log_at.f n g i = some (atM g.snap.Index g.entries.length i) := by
  unfold rlog_Log_at.f rlog_Log_at.j0 atM
  by_cases h : i ≤ g.snap.Index
  · rw [if_pos (show decide (i ≤ g.snap.Index) = true from decide_eq_true h), if_pos rfl, if_neg (by omega)]
  · rw [if_neg (show ¬ (decide (i ≤ g.snap.Index) = true) by rw [decide_eq_true_eq]; exact h), wu64_id (x := i - g.snap.Index) (by omega) (by omega), wu64_id (x := (g.entries.length : Int)) (by omega) (by omega)]
    by_cases h2 : i - g.snap.Index > (g.entries.length : Int)
    · rw [decide_eq_true h2, if_pos rfl, if_neg (by omega)]
    · rw [decide_eq_false h2, if_neg (by simp), if_pos ⟨by omega, by omega⟩, wu64_id (by omega) (by omega), wi64_id (by omega) (by omega)]
def termM (s : T_api_Snapshot) (l : List T_api_Entry) (i : Int) : Int × Int := if atM s.Index l.length i ≥ 0 then ((rdL l (atM s.Index l.length i)).Term, 0) else if i = s.Index then (s.Term, 0) else (0, 20)
theorem p_Term (n : Nat) (g : T_rlog_Log) (i : Int) (hs : 0 ≤ g.snap.Index ∧ g.snap.Index ≤ 18446744073709551615) (hi : 0 ≤ i ∧ i ≤ 18446744073709551615) (hl : g.entries.length ≤ 4000000000000) : rlog_Log_Term.f n g i = some (termM g.snap g.entries i) := by
  unfold rlog_Log_Term.f termM
  have e : rlog_Log_at.f n ⟨⟨g.snap.Index, g.snap.Term, g.snap.Config, g.snap.Data⟩, g.entries⟩ i = some (atM g.snap.Index g.entries.length i) := p_at n g i hs hi hl
  rw [e, Option.bind_some]
  rcases atM_cases g.snap.Index g.entries.length i with ⟨h, _⟩ | ⟨k, h, hk, _⟩
  · rw [h, if_neg (by decide), if_neg (show ¬ ((-1 : Int) ≥ 0) by omega)]
    by_cases h2 : i = g.snap.Index
    · rw [if_pos (show (i == g.snap.Index) = true by rw [beq_iff_eq]; exact h2), if_pos h2]
    · rw [if_neg (show ¬ ((i == g.snap.Index) = true) by rw [beq_iff_eq]; exact h2), if_neg h2]
  · rw [h, if_pos (show decide ((k : Int) ≥ 0) = true by rw [decide_eq_true_eq]; omega), if_pos ⟨by omega, by omega⟩, if_pos (show (k : Int) ≥ 0 by omega)]
/-- The entries from an index on. -/
def getM (s : T_api_Snapshot) (l : List T_api_Entry) (i : Int) (m : Int) : List T_api_Entry := if atM s.Index l.length i < 0 ∨ m ≤ 0 then [] else (l.drop (atM s.Index l.length i).toNat).take m.toNat
theorem p_Get (n : Nat) (g : T_rlog_Log) (i m : Int) (hs : 0 ≤ g.snap.Index ∧ g.snap.Index ≤ 18446744073709551615) (hi : 0 ≤ i ∧ i ≤ 18446744073709551615) (hl : g.entries.length ≤ 4000000000000) : rlog_Log_Get.f n g i m = some (getM g.snap g.entries i m) := by
  unfold rlog_Log_Get.f getM
  have e : rlog_Log_at.f n ⟨⟨g.snap.Index, g.snap.Term, g.snap.Config, g.snap.Data⟩, g.entries⟩ i = some (atM g.snap.Index g.entries.length i) := p_at n g i hs hi hl
  rw [e, Option.bind_some]
  rcases atM_cases g.snap.Index g.entries.length i with ⟨h, _⟩ | ⟨k, h, hk, _⟩
  · rw [h, if_pos (by decide), if_pos (.inl (by omega))]
    rfl
  · rw [h, if_neg (show ¬ (decide ((k : Int) < 0) = true) by rw [decide_eq_true_eq]; omega)]
    unfold rlog_Log_Get.j0
    by_cases hm : m ≤ 0
    · rw [decide_eq_true hm, if_pos rfl, if_pos (.inr hm)]
    · rw [decide_eq_false hm, if_neg (by simp), if_neg (show ¬ ((k : Int) < 0 ∨ m ≤ 0) by omega)]
      have w : ∃ H : Nat, (if (wi64 ((k : Int) + (if (g.entries.length : Int) < m then (g.entries.length : Int) else m))) < (g.entries.length : Int) then (wi64 ((k : Int) + (if (g.entries.length : Int) < m then (g.entries.length : Int) else m))) else (g.entries.length : Int)) = (H : Int) ∧ k ≤ H ∧ H ≤ g.entries.length ∧ (H = g.entries.length ∧ g.entries.length - k ≤ m.toNat ∨ H - k = m.toNat) := by
        by_cases hml : (g.entries.length : Int) < m
        · rw [if_pos hml, wi64_id (by omega) (by omega), if_neg (by omega)]
          exact ⟨g.entries.length, rfl, by omega, by omega, .inl ⟨rfl, by omega⟩⟩
        · rw [if_neg hml, wi64_id (by omega) (by omega)]
          by_cases h3 : (k : Int) + m < (g.entries.length : Int)
          · rw [if_pos h3]
            exact ⟨k + m.toNat, by omega, by omega, by omega, .inr (by omega)⟩
          · rw [if_neg h3]
            exact ⟨g.entries.length, rfl, by omega, by omega, .inl ⟨rfl, by omega⟩⟩
      obtain ⟨H, hH, h1, h2, h3⟩ := w
      rw [hH, if_pos ⟨by omega, by omega, by omega⟩, Int.toNat_natCast, Int.toNat_natCast, List.nil_append]
      have e : (g.entries.take H).drop k = (g.entries.drop k).take m.toNat := by
        rw [List.drop_take]
        rcases h3 with ⟨a, b⟩ | a
        · rw [a, List.take_of_length_le (by rw [List.length_drop]; omega), List.take_of_length_le (by rw [List.length_drop]; exact b)]
        · rw [a]
      have c : capOk 40 ((g.entries.take H).drop k).length := by simp only [List.length_drop, List.length_take]; unfold capOk; omega
      rw [if_pos c, e]
/-- The configuration of force, front to back. -/
def memF (i : Int) : Int × Int → List T_api_Entry → Int × Int
  | q, [] => q
  | q, e :: l => memF i (if e.Kind = 2 ∧ e.Index ≤ i then ((cfgM e.Data).1, e.Index) else q) l
theorem memF_app (i : Int) : ∀ (a b : List T_api_Entry) (q : Int × Int), memF i q (a ++ b) = memF i (memF i q a) b
  | [], b, q => rfl
  | e :: a, b, q => memF_app i a b _
theorem mem_l0 (n : Nat) (hn : 20 ≤ n) (g : T_rlog_Log) (i : Int) (hl : g.entries.length ≤ 4000000000000) (hd : ∀ e ∈ g.entries, e.Data.length < 9000000000000000000) : ∀ (j k : Nat), j ≤ g.entries.length → j < k →
    rlog_Log_MembersAt.l0 n g i k ((j : Int) - 1) = some (memF i (g.snap.Config, g.snap.Index) (g.entries.take j))
  | j, 0, _, h => by omega
  | 0, k + 1, hj, _ => by
    unfold rlog_Log_MembersAt.l0
    rw [if_neg (by decide)]
    rfl
  | j + 1, k + 1, hj, hk => by
    have hlt : j < g.entries.length := by omega
    have ih := mem_l0 n hn g i hl hd j k (by omega) (by omega)
    unfold rlog_Log_MembersAt.l0 rlog_Log_MembersAt.j0
    rw [show (((j + 1 : Nat) : Int) - 1) = (j : Int) by omega, if_pos (show decide ((j : Int) ≥ 0) = true by rw [decide_eq_true_eq]; omega), if_pos ⟨by omega, by omega⟩, wi64_id (x := (j : Int) - 1) (by omega) (by omega), take_snoc hlt, memF_app]
    by_cases h2 : (rdL g.entries (j : Int)).Kind = 2
    · rw [if_pos (show ((rdL g.entries (j : Int)).Kind == 2) = true by rw [beq_iff_eq]; exact h2)]
      by_cases h3 : (rdL g.entries (j : Int)).Index ≤ i
      · rw [decide_eq_true h3, if_pos rfl, p_cfg n hn _ (hd _ (rdL_mem hlt)), Option.bind_some]
        simp [memF, h2, h3]
      · rw [decide_eq_false h3, if_neg (by simp), ih]
        simp [memF, h3]
    · rw [if_neg (show ¬ (((rdL g.entries (j : Int)).Kind == 2) = true) by rw [beq_iff_eq]; exact h2), if_neg (by simp), ih]
      simp [memF, h2]
theorem p_Mem (n : Nat) (g : T_rlog_Log) (i : Int) (hn : 20 + g.entries.length ≤ n) (hl : g.entries.length ≤ 4000000000000) (hd : ∀ e ∈ g.entries, e.Data.length < 9000000000000000000) : rlog_Log_MembersAt.f n g i = some (memF i (g.snap.Config, g.snap.Index) g.entries) := by
  unfold rlog_Log_MembersAt.f
  rw [wi64_id (by omega) (by omega), mem_l0 n (by omega) g i hl hd g.entries.length n (by omega) (by omega), List.take_length]
theorem p_Members (n : Nat) (g : T_rlog_Log) (hn : 20 + g.entries.length ≤ n) (hl : g.entries.length ≤ 4000000000000) (hd : ∀ e ∈ g.entries, e.Data.length < 9000000000000000000) : rlog_Log_Members.f n g = some (memF 18446744073709551615 (g.snap.Config, g.snap.Index) g.entries) := by
  unfold rlog_Log_Members.f
  have e : rlog_Log_MembersAt.f n ⟨⟨g.snap.Index, g.snap.Term, g.snap.Config, g.snap.Data⟩, g.entries⟩ 18446744073709551615 = _ := p_Mem n g 18446744073709551615 hn hl hd
  rw [e, Option.bind_some]
/-- Compacting. -/
def compM (g : T_rlog_Log) (i : Int) (data : List UInt8) : Int × T_rlog_Log :=
  if atM g.snap.Index g.entries.length i < 0 then (20, g) else (0, ⟨⟨i, (rdL g.entries (atM g.snap.Index g.entries.length i)).Term, (memF i (g.snap.Config, g.snap.Index) g.entries).1, data⟩, g.entries.drop ((atM g.snap.Index g.entries.length i).toNat + 1)⟩)
theorem p_Compact (n : Nat) (g : T_rlog_Log) (i : Int) (data : List UInt8) (hn : 20 + g.entries.length ≤ n) (hs : 0 ≤ g.snap.Index ∧ g.snap.Index ≤ 18446744073709551615) (hi : 0 ≤ i ∧ i ≤ 18446744073709551615) (hl : g.entries.length ≤ 4000000000000) (hd : ∀ e ∈ g.entries, e.Data.length < 9000000000000000000) :
    rlog_Log_Compact.f n g i data = some (compM g i data) := by
  unfold rlog_Log_Compact.f compM
  have e : rlog_Log_at.f n ⟨⟨g.snap.Index, g.snap.Term, g.snap.Config, g.snap.Data⟩, g.entries⟩ i = some (atM g.snap.Index g.entries.length i) := p_at n g i hs hi hl
  have e2 : rlog_Log_MembersAt.f n ⟨⟨g.snap.Index, g.snap.Term, g.snap.Config, g.snap.Data⟩, g.entries⟩ i = _ := p_Mem n g i hn hl hd
  rw [e, Option.bind_some]
  rcases atM_cases g.snap.Index g.entries.length i with ⟨h, _⟩ | ⟨k, h, hk, _⟩
  · rw [h, if_pos (by decide), if_pos (by omega)]
  · have w : wi64 ((k : Int) + 1) = ((k + 1 : Nat) : Int) := by rw [wi64_id (by omega) (by omega)]; omega
    have c : capOk 40 (g.entries.drop (k + 1)).length := by simp only [List.length_drop]; unfold capOk; omega
    rw [h, if_neg (show ¬ (decide ((k : Int) < 0) = true) by rw [decide_eq_true_eq]; omega), if_neg (show ¬ ((k : Int) < 0) by omega), e2, Option.bind_some, if_pos ⟨by omega, by omega⟩, w, if_pos ⟨by omega, by omega, by omega⟩, Int.toNat_natCast, Int.toNat_natCast, List.take_length, List.nil_append, if_pos c, Int.toNat_natCast]
end Go.GL
