/- Logs: merging. No condition but the bounds named. -/
import Derived.Test.YtolipnnfdclkoaaLogC
set_option linter.unusedVariables false
set_option linter.unusedSimpArgs false
set_option maxRecDepth 10000
namespace Go.GL
open Go
/-- An entry that is there already. -/
def hasE (s : T_api_Snapshot) (l : List T_api_Entry) (e : T_api_Entry) : Prop := 0 ≤ atM s.Index l.length e.Index ∧ (rdL l (atM s.Index l.length e.Index)).Term = e.Term
instance (s : T_api_Snapshot) (l : List T_api_Entry) (e : T_api_Entry) : Decidable (hasE s l e) := inferInstanceAs (Decidable (_ ∧ _))
/-- What is new of c, and the list with it. -/
def mrg (s : T_api_Snapshot) (l : List T_api_Entry) : List T_api_Entry → List T_api_Entry × List T_api_Entry
  | [] => ([], l)
  | e :: c => if hasE s l e then mrg s l c else (e :: c, (if 0 ≤ atM s.Index l.length e.Index then l.take (atM s.Index l.length e.Index).toNat else l) ++ e :: c)
def tailM (s : T_api_Snapshot) (l : List T_api_Entry) (i t : Int) (c : List T_api_Entry) : List T_api_Entry × Bool × List T_api_Entry :=
  if i < s.Index then ([], true, l) else if (termM s l i).2 = 0 ∧ (termM s l i).1 = t then ((mrg s l c).1, true, (mrg s l c).2) else ([], false, l)
/-- Without those that are in the snapshot. -/
def skipM (si : Int) : Int → Int → List T_api_Entry → Int × Int × List T_api_Entry
  | i, t, [] => (i, t, [])
  | i, t, e :: c => if e.Index ≤ si then skipM si e.Index e.Term c else (i, t, e :: c)
def mergeM (s : T_api_Snapshot) (l : List T_api_Entry) (i t : Int) (c : List T_api_Entry) : List T_api_Entry × Bool × List T_api_Entry :=
  if chain i t c = true then tailM s l (skipM s.Index i t c).1 (skipM s.Index i t c).2.1 (skipM s.Index i t c).2.2 else ([], false, l)
/-- A result of merging, over the log. -/
def outM (s : T_api_Snapshot) (r : List T_api_Entry × Bool × List T_api_Entry) : List T_api_Entry × Bool × T_rlog_Log := (r.1, r.2.1, ⟨s, r.2.2⟩)
theorem p_mrg (n : Nat) (g : T_rlog_Log) (c : List T_api_Entry) (hs : 0 ≤ g.snap.Index ∧ g.snap.Index ≤ 18446744073709551615) (hl : g.entries.length + c.length ≤ 4000000) (hu : ∀ e ∈ c, 0 ≤ e.Index ∧ e.Index ≤ 18446744073709551615) : ∀ (j k x : Nat), x + j = c.length → j < k →
    rlog_Log_Merge.l2 n g c k (x : Int) = some (outM g.snap ((mrg g.snap g.entries (c.drop x)).1, true, (mrg g.snap g.entries (c.drop x)).2))
  | j, 0, x, _, h => by omega
  | 0, k + 1, x, hx, _ => by
    unfold rlog_Log_Merge.l2
    rw [if_neg (by rw [decide_eq_true_eq]; omega), List.drop_of_length_le (by omega)]
    rfl
  | j + 1, k + 1, x, hx, hk => by
    have hlt : x < c.length := by omega
    have w : wi64 ((x : Int) + 1) = ((x + 1 : Nat) : Int) := by rw [wi64_id (by omega) (by omega)]; omega
    have ih := p_mrg n g c hs hl hu j k (x + 1) (by omega) (by omega)
    have ea : rlog_Log_at.f n ⟨⟨g.snap.Index, g.snap.Term, g.snap.Config, g.snap.Data⟩, g.entries⟩ (rdL c (x : Int)).Index = some (atM g.snap.Index g.entries.length (rdL c (x : Int)).Index) := p_at n g _ hs (hu _ (rdL_mem hlt)) (by omega)
    have c2 : capOk 40 (c.drop x).length := by rw [List.length_drop]; unfold capOk; omega
    have j4 : ∀ kept : List T_api_Entry, kept.length ≤ g.entries.length → rlog_Log_Merge.j4 n g c (x : Int) kept = some (c.drop x, true, ⟨g.snap, kept ++ c.drop x⟩) := by
      intro kept hkept
      have c1 : capOk 40 (kept ++ c.drop x).length := by rw [List.length_append, List.length_drop]; unfold capOk; omega
      unfold rlog_Log_Merge.j4
      rw [if_pos ⟨by omega, by omega, by omega⟩, Int.toNat_natCast, Int.toNat_natCast, List.take_length, if_pos c1, if_pos ⟨by omega, by omega, by omega⟩, List.nil_append, if_pos c2]
    unfold rlog_Log_Merge.l2 rlog_Log_Merge.j3
    rw [if_pos (by rw [decide_eq_true_eq]; omega), if_pos ⟨by omega, by omega⟩, ea, Option.bind_some, w, getD_drop hlt]
    unfold mrg
    rcases atM_cases g.snap.Index g.entries.length (rdL c (x : Int)).Index with ⟨h, _⟩ | ⟨r, h, hr, _⟩
    · have hne : ¬ hasE g.snap g.entries (rdL c (x : Int)) := fun hh => by have := hh.1; omega
      rw [if_neg hne, h, if_neg (by decide), if_neg (by simp), if_neg (by decide), if_neg (by decide), j4 _ (Nat.le_refl _), ← getD_drop hlt]
      rfl
    · rw [h, if_pos (show decide ((r : Int) ≥ 0) = true by rw [decide_eq_true_eq]; omega), if_pos ⟨by omega, by omega⟩]
      by_cases ht : (rdL g.entries (r : Int)).Term = (rdL c (x : Int)).Term
      · have he : hasE g.snap g.entries (rdL c (x : Int)) := ⟨by rw [h]; omega, by rw [h]; exact ht⟩
        rw [if_pos he, if_pos (show (((rdL g.entries (r : Int)).Term) == ((rdL c (x : Int)).Term)) = true by rw [beq_iff_eq]; exact ht), ih]
      · have hne : ¬ hasE g.snap g.entries (rdL c (x : Int)) := fun hh => ht (by have := hh.2; rw [h] at this; exact this)
        have c3 : capOk 40 (g.entries.take r).length := by rw [List.length_take]; unfold capOk; omega
        rw [if_neg hne, if_neg (show ¬ ((((rdL g.entries (r : Int)).Term) == ((rdL c (x : Int)).Term)) = true) by rw [beq_iff_eq]; exact ht), if_pos (show decide ((r : Int) ≥ 0) = true by rw [decide_eq_true_eq]; omega), if_pos ⟨by omega, by omega, by omega⟩, if_pos (show (0 : Int) ≤ (r : Int) by omega), Int.toNat_natCast]
        rw [show ([] : List T_api_Entry) ++ (g.entries.take r).drop (0 : Int).toNat = g.entries.take r from rfl, if_pos c3, j4 _ (by rw [List.length_take]; omega), ← getD_drop hlt]
        rfl
theorem p_tail (n : Nat) (L : Int → Int → List T_api_Entry → Option (List T_api_Entry × Bool × T_rlog_Log)) (g : T_rlog_Log) (i t : Int) (c : List T_api_Entry) (hn : c.length < n) (hs : 0 ≤ g.snap.Index ∧ g.snap.Index ≤ 18446744073709551615) (hi : 0 ≤ i ∧ i ≤ 18446744073709551615) (hl : g.entries.length + c.length ≤ 4000000) (hu : ∀ e ∈ c, 0 ≤ e.Index ∧ e.Index ≤ 18446744073709551615) :
    rlog_Log_Merge.j1 n L g i t c false = some (outM g.snap (tailM g.snap g.entries i t c)) := by
  have bad : rlog_Log_Merge.j2 n g c true = some (outM g.snap ([], false, g.entries)) := rfl
  have good : rlog_Log_Merge.j2 n g c false = some (outM g.snap ((mrg g.snap g.entries c).1, true, (mrg g.snap g.entries c).2)) := p_mrg n g c hs hl hu c.length n 0 (by omega) (by omega)
  have et : rlog_Log_Term.f n ⟨⟨g.snap.Index, g.snap.Term, g.snap.Config, g.snap.Data⟩, g.entries⟩ i = some (termM g.snap g.entries i) := p_Term n g i hs hi (by omega)
  unfold rlog_Log_Merge.j1 tailM
  rw [if_neg (by simp)]
  by_cases h1 : i < g.snap.Index
  · rw [if_pos (show decide (i < g.snap.Index) = true from decide_eq_true h1), if_pos h1]
    rfl
  rw [if_neg (show ¬ (decide (i < g.snap.Index) = true) by rw [decide_eq_true_eq]; exact h1), if_neg h1, et, Option.bind_some]
  by_cases h2 : i > g.snap.Index
  · rw [if_pos (show decide (i > g.snap.Index) = true from decide_eq_true h2)]
    by_cases h3 : (termM g.snap g.entries i).2 = 0
    · rw [if_neg (show ¬ (((termM g.snap g.entries i).2 != 0) = true) by rw [bne_iff_ne]; exact fun hh => hh h3)]
      by_cases h4 : (termM g.snap g.entries i).1 = t
      · rw [if_neg (show ¬ (((termM g.snap g.entries i).1 != t) = true) by rw [bne_iff_ne]; exact fun hh => hh h4), if_neg (show ¬ ((i == g.snap.Index) = true) by rw [beq_iff_eq]; omega), if_pos ⟨h3, h4⟩]
        exact good
      · rw [if_pos (show ((termM g.snap g.entries i).1 != t) = true by rw [bne_iff_ne]; exact h4), if_neg (fun hh => h4 hh.2)]
        exact bad
    · rw [if_pos (show ((termM g.snap g.entries i).2 != 0) = true by rw [bne_iff_ne]; exact h3), if_neg (fun hh => h3 hh.1)]
      exact bad
  · have he : i = g.snap.Index := by omega
    have em : termM g.snap g.entries i = (g.snap.Term, 0) := by
      unfold termM
      have : atM g.snap.Index g.entries.length i = -1 := by unfold atM; rw [if_neg (by omega)]
      rw [this, if_neg (by omega), if_pos he]
    rw [if_neg (show ¬ (decide (i > g.snap.Index) = true) by rw [decide_eq_true_eq]; exact h2), if_pos (show (i == g.snap.Index) = true by rw [beq_iff_eq]; exact he), em]
    simp only
    by_cases h4 : g.snap.Term = t
    · rw [show (t != g.snap.Term) = false by rw [bne_eq_false_iff_eq]; exact h4.symm, if_pos ⟨trivial, h4⟩]
      exact good
    · rw [show (t != g.snap.Term) = true by rw [bne_iff_ne]; exact fun hh => h4 hh.symm, if_neg (fun hh => h4 hh.2)]
      exact bad
theorem p_skip (n : Nat) (g : T_rlog_Log) (hs : 0 ≤ g.snap.Index ∧ g.snap.Index ≤ 18446744073709551615) : ∀ (c : List T_api_Entry) (k : Nat) (i t : Int), c.length < k → c.length < n → g.entries.length + c.length ≤ 4000000 → (0 ≤ i ∧ i ≤ 18446744073709551615) → (∀ e ∈ c, 0 ≤ e.Index ∧ e.Index ≤ 18446744073709551615) →
    rlog_Log_Merge.l1 n g k i t c = some (outM g.snap (tailM g.snap g.entries (skipM g.snap.Index i t c).1 (skipM g.snap.Index i t c).2.1 (skipM g.snap.Index i t c).2.2))
  | _, 0, _, _, h, _, _, _, _ => by omega
  | [], k + 1, i, t, hk, hn, hl, hi, hu => by
    unfold rlog_Log_Merge.l1
    rw [if_neg (by simp)]
    exact p_tail n _ g i t [] hn hs hi hl hu
  | e :: c, k + 1, i, t, hk, hn, hl, hi, hu => by
    simp only [List.length_cons] at hk hn hl
    have e0 : rdL (e :: c) (0 : Int) = e := rfl
    unfold rlog_Log_Merge.l1 skipM
    rw [if_pos (show decide (((e :: c).length : Int) > 0) = true by rw [decide_eq_true_eq, List.length_cons]; omega), if_pos ⟨by omega, by rw [List.length_cons]; omega⟩, e0]
    by_cases h : e.Index ≤ g.snap.Index
    · rw [decide_eq_true h, if_pos h]
      unfold rlog_Log_Merge.j1
      rw [if_pos rfl, if_pos ⟨by omega, by rw [List.length_cons]; omega⟩, if_pos ⟨by omega, by rw [List.length_cons]; omega⟩, if_pos ⟨by omega, by rw [List.length_cons]; omega, by omega⟩, e0]
      have ed : ((e :: c).take ((e :: c).length : Int).toNat).drop (1 : Int).toNat = c := by rw [Int.toNat_natCast, List.take_length]; rfl
      rw [ed]
      exact p_skip n g hs c k e.Index e.Term (by omega) (by omega) (by omega) (hu e (by simp)) (fun x hx => hu x (by simp [hx]))
    · rw [decide_eq_false h, if_neg h]
      exact p_tail n _ g i t (e :: c) (by simp only [List.length_cons]; omega) hs hi (by simp only [List.length_cons]; omega) hu
theorem p_chk (n : Nat) (hn : 20 ≤ n) (g : T_rlog_Log) (index term : Int) (c : List T_api_Entry) (hi : 0 ≤ index ∧ index ≤ 18446744073709551615) (hc : c.length ≤ 4000000000000) (hd : ∀ e ∈ c, e.Data.length < 9000000000000000000) : ∀ (j k x : Nat), x + j = c.length → j < k → chain index term (c.take x) = true →
    rlog_Log_Merge.l0 n g index term c k (x : Int) = if chain (lastP index term (c.take x)).1 (lastP index term (c.take x)).2 (c.drop x) = true then rlog_Log_Merge.l1 n g n index term c else some ([], false, g)
  | j, 0, x, _, h, _ => by omega
  | 0, k + 1, x, hx, _, _ => by
    unfold rlog_Log_Merge.l0
    rw [if_neg (show ¬ (decide ((x : Int) < (c.length : Int)) = true) by rw [decide_eq_true_eq]; omega), List.drop_of_length_le (by omega)]
    rfl
  | j + 1, k + 1, x, hx, hk, hch => by
    have hlt : x < c.length := by omega
    have hq := chain_last (c.take x) index term hi.1 hi.2 hch
    rw [List.length_take, Nat.min_eq_left (by omega)] at hq
    have w : wi64 ((x : Int) + 1) = ((x + 1 : Nat) : Int) := by rw [wi64_id (by omega) (by omega)]; omega
    have hw : wu64 ((wu64 (index + 1)) + (wu64 (x : Int))) = wu64 ((lastP index term (c.take x)).1 + 1) := by
      rw [hq.1, next_u64 hi, wu64_id (x := (x : Int)) (by omega) (by omega)]
      split
      · have : x = 0 := by omega
        subst this
        rename_i h; rw [h]; rfl
      · congr 1; omega
    have h0 : rlog_Log_Merge.j0 n (rlog_Log_Merge.l0 n g index term c k) g index c (x : Int) (lastP index term (c.take x)).2 = if chain (lastP index term (c.take x)).1 (lastP index term (c.take x)).2 (c.drop x) = true then rlog_Log_Merge.l1 n g n index term c else some ([], false, g) := by
      unfold rlog_Log_Merge.j0
      rw [hw, p_sound n hn (rdL c (x : Int)) _ _ (by omega) (hd _ (rdL_mem hlt)), Option.bind_some, w, getD_drop hlt, chain_cons]
      by_cases ho : okE (rdL c (x : Int)) (lastP index term (c.take x)).1 (lastP index term (c.take x)).2 = true
      · have hch' : chain index term (c.take (x + 1)) = true := by rw [take_snoc hlt, chain_app, hch, chain_cons, ho]; rfl
        have el : lastP index term (c.take (x + 1)) = ((rdL c (x : Int)).Index, (rdL c (x : Int)).Term) := by rw [take_snoc hlt, lastP_app]; rfl
        have ih := p_chk n hn g index term c hi hc hd j k (x + 1) (by omega) (by omega) hch'
        rw [el] at ih
        rw [ho, if_neg (by simp), Bool.true_and]
        exact ih
      · have ho' : okE (rdL c (x : Int)) (lastP index term (c.take x)).1 (lastP index term (c.take x)).2 = false := by simpa using ho
        rw [ho', if_pos (by rfl), Bool.false_and, if_neg (by simp)]
    unfold rlog_Log_Merge.l0
    rw [if_pos (by rw [decide_eq_true_eq]; omega), if_pos ⟨by omega, by omega⟩]
    by_cases hx0 : x = 0
    · subst hx0
      rw [if_neg (by simp)]
      exact h0
    · have w2 : wi64 ((x : Int) - 1) = ((x - 1 : Nat) : Int) := by rw [wi64_id (by omega) (by omega)]; omega
      rw [if_pos (by rw [decide_eq_true_eq]; omega), w2, if_pos ⟨by omega, by omega⟩]
      have e2 : (lastP index term (c.take x)).2 = (rdL c ((x - 1 : Nat) : Int)).Term := by
        rw [lastP_rd _ _ _ (by rw [List.length_take]; omega)]
        simp only [List.length_take, Nat.min_eq_left (Nat.le_of_lt hlt)]
        rw [rdL_take c x (x - 1) (by omega)]
      rw [← e2]
      exact h0
theorem p_Merge (n : Nat) (g : T_rlog_Log) (i t : Int) (c : List T_api_Entry) (hn : 20 + c.length ≤ n) (hs : 0 ≤ g.snap.Index ∧ g.snap.Index ≤ 18446744073709551615) (hi : 0 ≤ i ∧ i ≤ 18446744073709551615) (hc : c.length ≤ 4000000000000) (hd : ∀ e ∈ c, e.Data.length < 9000000000000000000)
    (hu : ∀ e ∈ c, 0 ≤ e.Index ∧ e.Index ≤ 18446744073709551615) (hl : chain i t c = true → g.entries.length + c.length ≤ 4000000) : rlog_Log_Merge.f n g i t c = some (outM g.snap (mergeM g.snap g.entries i t c)) := by
  unfold rlog_Log_Merge.f mergeM
  have := p_chk n (by omega) g i t c hi hc hd c.length n 0 (by omega) (by omega) rfl
  refine this.trans ?_
  show (if chain i t c = true then _ else _) = _
  by_cases h : chain i t c = true
  · rw [if_pos h, if_pos h]
    exact p_skip n g hs c n i t (by omega) (by omega) (hl h) hi hu
  · rw [if_neg h, if_neg h]
    rfl
end Go.GL
