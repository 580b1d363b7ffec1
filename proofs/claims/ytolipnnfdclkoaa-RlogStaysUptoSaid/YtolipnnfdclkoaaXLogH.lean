/- Logs: what the reference computes, further. No condition but the bounds named. -/
import Derived.Test.YtolipnnfdclkoaaXLogG
set_option linter.unusedVariables false
set_option linter.unusedSimpArgs false
set_option maxRecDepth 10000
namespace Go.GL
open Go
theorem rnew_l0 (n : Nat) (hn : 20 ≤ n) (s : T_api_Snapshot) (l : List T_api_Entry) (hl : l.length ≤ 1000000) (hd : ∀ e ∈ l, e.Data.length < 9000000000000000000) (hu : ∀ e ∈ l, 0 ≤ e.Index ∧ e.Index ≤ 18446744073709551615) :
    ∀ (j k x : Nat) (i t : Int), x + j = l.length → j < k → (0 ≤ i ∧ i ≤ 18446744073709551615) → tontineref07_New.l0 n s l k i t (x : Int) = some (if chain i t (l.drop x) = true then (some (refL ⟨s, l⟩), 0) else (none, 1))
  | j, 0, x, _, _, _, h, _ => by omega
  | 0, k + 1, x, i, t, hx, _, hi => by
    have c : capOk 40 l.length := by unfold capOk; omega
    unfold tontineref07_New.l0
    rw [if_neg (by rw [decide_eq_true_eq]; omega), List.drop_of_length_le (by omega), List.nil_append, if_pos c]
    rfl
  | j + 1, k + 1, x, i, t, hx, hk, hi => by
    have hlt : x < l.length := by omega
    unfold tontineref07_New.l0
    rw [if_pos (by rw [decide_eq_true_eq]; omega), if_pos ⟨by omega, by omega⟩, r_may n hn _ _ _ hi (hd _ (rdL_mem hlt)), Option.bind_some, getD_drop hlt, chain_cons]
    by_cases ho : okE (rdL l (x : Int)) i t = true
    · rw [ho, if_neg (by simp), if_pos ⟨by omega, by omega⟩, if_pos ⟨by omega, by omega⟩, Bool.true_and, wi64_id (by omega) (by omega), show ((x : Int) + 1) = ((x + 1 : Nat) : Int) by omega]
      exact rnew_l0 n hn s l hl hd hu j k (x + 1) _ _ (by omega) (by omega) (hu _ (rdL_mem hlt))
    · have ho' : okE (rdL l (x : Int)) i t = false := by simpa using ho
      rw [ho', if_pos (by rfl), Bool.false_and, if_neg (by simp)]
theorem r_New (n : Nat) (s : T_api_Snapshot) (l : List T_api_Entry) (hn : 20 + l.length ≤ n) (hs : 0 ≤ s.Index ∧ s.Index ≤ 18446744073709551615) (hl : l.length ≤ 1000000) (hd : ∀ e ∈ l, e.Data.length < 9000000000000000000) (hu : ∀ e ∈ l, 0 ≤ e.Index ∧ e.Index ≤ 18446744073709551615) : tontineref07_New.f n s l = some ((newM s l).1.map refL, (newM s l).2) := by
  unfold tontineref07_New.f newM
  rw [r_Sound, Option.bind_some]
  cases soundC s.Config
  · rfl
  · rw [if_neg (by simp), Bool.true_and]
    have := rnew_l0 n (by omega) s l hl hd hu l.length n 0 s.Index s.Term (by omega) (by omega) hs
    refine this.trans ?_
    rw [List.drop_zero]
    split <;> rfl
theorem rget_copy (n : Nat) (g : T_rlog_Log) (h : LI g) (i m : Int) (hm : 0 < m) (r : Nat) (hr : i = g.snap.Index + 1 + r) (hrl : r < g.entries.length) : ∀ (j k x : Nat), x + j = g.entries.length → j < k → r ≤ x → x - r ≤ m.toNat →
    tontineref07_Log_Get.l0 n (refL g) i m k ((g.entries.drop r).take (x - r)) (x : Int) = some ((g.entries.drop r).take m.toNat)
  | j, 0, x, _, hk, _, _ => by omega
  | 0, k + 1, x, hx, _, hrx, hxm => by
    have e1 : (refL g).L = g.entries := rfl
    unfold tontineref07_Log_Get.l0 tontineref07_Log_Get.j0
    rw [e1, if_neg (by rw [decide_eq_true_eq]; omega), if_neg (by simp), List.take_of_length_le (by rw [List.length_drop]; omega), List.take_of_length_le (by rw [List.length_drop]; omega)]
  | j + 1, k + 1, x, hx, hk, hrx, hxm => by
    have h0 := h.len
    have e1 : (refL g).L = g.entries := rfl
    have hlt : x < g.entries.length := by omega
    have hix := h.at_ x hlt
    have hlen : ((g.entries.drop r).take (x - r)).length = x - r := by rw [List.length_take, List.length_drop]; omega
    have w : wi64 ((x : Int) + 1) = ((x + 1 : Nat) : Int) := by rw [wi64_id (by omega) (by omega)]; omega
    unfold tontineref07_Log_Get.l0 tontineref07_Log_Get.j0
    rw [e1, if_pos (by rw [decide_eq_true_eq]; omega)]
    by_cases hb : x - r < m.toNat
    · have hb2 : decide ((((g.entries.drop r).take (x - r)).length : Int) < m) = true := by rw [decide_eq_true_eq, hlen]; omega
      have c : capOk 40 ((g.entries.drop r).take (x - r) ++ [rdL g.entries (x : Int)]).length := by rw [List.length_append, hlen]; simp only [List.length_cons, List.length_nil]; unfold capOk; omega
      have es : (g.entries.drop r).take (x - r) ++ [rdL g.entries (x : Int)] = (g.entries.drop r).take (x + 1 - r) := by
        have : (g.entries.drop r).take (x - r + 1) = (g.entries.drop r).take (x - r) ++ [rdL (g.entries.drop r) ((x - r : Nat) : Int)] := take_snoc (by rw [List.length_drop]; omega)
        rw [rdL_drop, show r + (x - r) = x by omega] at this
        rw [show x + 1 - r = x - r + 1 by omega, this]
      have ih := rget_copy n g h i m hm r hr hrl j k (x + 1) (by omega) (by omega) (by omega) (by omega)
      have jt : tontineref07_Log_Get.j1 n (tontineref07_Log_Get.l0 n (refL g) i m k) (refL g) ((g.entries.drop r).take (x - r)) (x : Int) true = some ((g.entries.drop r).take m.toNat) := by
        unfold tontineref07_Log_Get.j1
        rw [if_pos rfl, e1, if_pos ⟨by omega, by omega⟩, if_pos c, w, es]
        exact ih
      rw [hb2, if_pos rfl, if_pos ⟨by omega, by omega⟩, if_pos (show decide ((rdL g.entries (x : Int)).Index ≥ i) = true by rw [decide_eq_true_eq]; omega)]
      by_cases hz : x - r = 0
      · rw [if_neg (show ¬ (decide ((((g.entries.drop r).take (x - r)).length : Int) > 0) = true) by rw [decide_eq_true_eq, hlen]; omega), if_pos ⟨by omega, by omega⟩, show ((rdL g.entries (x : Int)).Index == i) = true by rw [beq_iff_eq]; omega]
        exact jt
      · rw [if_pos (show decide ((((g.entries.drop r).take (x - r)).length : Int) > 0) = true by rw [decide_eq_true_eq, hlen]; omega)]
        exact jt
    · have hb2 : decide ((((g.entries.drop r).take (x - r)).length : Int) < m) = false := by rw [decide_eq_false_iff_not, hlen]; omega
      rw [hb2, if_neg (by simp), show x - r = m.toNat by omega]
theorem rget_none (n : Nat) (g : T_rlog_Log) (h : LI g) (i m : Int) : ∀ (j k x : Nat), x + j = g.entries.length → j < k → (m ≤ 0 ∨ atM g.snap.Index g.entries.length i = -1) →
    tontineref07_Log_Get.l0 n (refL g) i m k [] (x : Int) = some []
  | j, 0, x, _, hk, _ => by omega
  | 0, k + 1, x, hx, _, _ => by
    have e1 : (refL g).L = g.entries := rfl
    unfold tontineref07_Log_Get.l0 tontineref07_Log_Get.j0
    rw [e1, if_neg (by rw [decide_eq_true_eq]; omega), if_neg (by simp)]
  | j + 1, k + 1, x, hx, hk, hc => by
    have h0 := h.len
    have e1 : (refL g).L = g.entries := rfl
    have hlt : x < g.entries.length := by omega
    have hix := h.at_ x hlt
    have w : wi64 ((x : Int) + 1) = ((x + 1 : Nat) : Int) := by rw [wi64_id (by omega) (by omega)]; omega
    unfold tontineref07_Log_Get.l0 tontineref07_Log_Get.j0
    rw [e1, if_pos (by rw [decide_eq_true_eq]; omega)]
    by_cases hm : m ≤ 0
    · rw [show decide ((([] : List T_api_Entry).length : Int) < m) = false by rw [decide_eq_false_iff_not, List.length_nil]; omega, if_neg (by simp)]
    · have ha := hc.resolve_left hm
      have hne : ¬ (rdL g.entries (x : Int)).Index = i := by
        intro hh
        have := atM_at g.snap.Index g.entries.length i x (by omega) hlt
        omega
      have ih := rget_none n g h i m j k (x + 1) (by omega) (by omega) hc
      have jf : tontineref07_Log_Get.j1 n (tontineref07_Log_Get.l0 n (refL g) i m k) (refL g) [] (x : Int) false = some [] := by
        unfold tontineref07_Log_Get.j1
        rw [if_neg (by simp), w]
        exact ih
      rw [show decide ((([] : List T_api_Entry).length : Int) < m) = true by rw [decide_eq_true_eq, List.length_nil]; omega, if_pos rfl, if_pos ⟨by omega, by omega⟩]
      by_cases hge : (rdL g.entries (x : Int)).Index ≥ i
      · rw [if_pos (show decide ((rdL g.entries (x : Int)).Index ≥ i) = true from decide_eq_true hge), if_neg (by simp), if_pos ⟨by omega, by omega⟩, show ((rdL g.entries (x : Int)).Index == i) = false by rw [beq_eq_false_iff_ne]; exact hne]
        exact jf
      · rw [if_neg (show ¬ (decide ((rdL g.entries (x : Int)).Index ≥ i) = true) by rw [decide_eq_true_eq]; exact hge)]
        exact jf
theorem rget_seek (n : Nat) (g : T_rlog_Log) (h : LI g) (i m : Int) (hm : 0 < m) (r : Nat) (hr : i = g.snap.Index + 1 + r) (hrl : r < g.entries.length) : ∀ (j k x : Nat), x + j = r → g.entries.length - x < k →
    tontineref07_Log_Get.l0 n (refL g) i m k [] (x : Int) = some ((g.entries.drop r).take m.toNat)
  | j, 0, x, _, hk => by omega
  | 0, k + 1, x, hx, hk => by
    have : x = r := by omega
    subst this
    have := rget_copy n g h i m hm x hr hrl (g.entries.length - x) (k + 1) x (by omega) (by omega) (Nat.le_refl _) (by omega)
    rw [Nat.sub_self, List.take_zero] at this
    exact this
  | j + 1, k + 1, x, hx, hk => by
    have h0 := h.len
    have e1 : (refL g).L = g.entries := rfl
    have hlt : x < g.entries.length := by omega
    have hix := h.at_ x hlt
    have w : wi64 ((x : Int) + 1) = ((x + 1 : Nat) : Int) := by rw [wi64_id (by omega) (by omega)]; omega
    have ih := rget_seek n g h i m hm r hr hrl j k (x + 1) (by omega) (by omega)
    unfold tontineref07_Log_Get.l0 tontineref07_Log_Get.j0
    rw [e1, if_pos (by rw [decide_eq_true_eq]; omega), show decide ((([] : List T_api_Entry).length : Int) < m) = true by rw [decide_eq_true_eq, List.length_nil]; omega, if_pos rfl, if_pos ⟨by omega, by omega⟩, if_neg (show ¬ (decide ((rdL g.entries (x : Int)).Index ≥ i) = true) by rw [decide_eq_true_eq]; omega)]
    unfold tontineref07_Log_Get.j1
    rw [if_neg (by simp), w]
    exact ih
theorem r_Get (n : Nat) (g : T_rlog_Log) (h : LI g) (i m : Int) (hn : 5000 ≤ n) : tontineref07_Log_Get.f n (refL g) i m = some (getM g.snap g.entries i m) := by
  have h0 := h.len
  unfold tontineref07_Log_Get.f getM
  by_cases hm : m ≤ 0
  · rw [if_pos (.inr hm)]
    exact rget_none n g h i m g.entries.length n 0 (by omega) (by omega) (.inl hm)
  rcases atM_cases g.snap.Index g.entries.length i with ⟨q, _⟩ | ⟨k, q, hk, hki⟩
  · rw [q, if_pos (.inl (by omega))]
    exact rget_none n g h i m g.entries.length n 0 (by omega) (by omega) (.inr q)
  · rw [q, if_neg (by omega), Int.toNat_natCast]
    exact rget_seek n g h i m (by omega) k hki hk k n 0 (by omega) (by omega)
theorem rinst_none (n : Nat) (g : T_rlog_Log) (h : LI g) (s : T_api_Snapshot) (q : Int × Int) (hq : ¬ (q.2 = 0 ∧ q.1 = s.Term)) : ∀ (j k x : Nat), x + j = g.entries.length → j < k →
    tontineref07_Log_Install.l0 n (refL g) s q k [] (x : Int) = some (0, refL ⟨s, []⟩)
  | j, 0, x, _, hk => by omega
  | 0, k + 1, x, hx, _ => by
    have e1 : (refL g).L = g.entries := rfl
    unfold tontineref07_Log_Install.l0
    rw [e1, if_neg (by rw [decide_eq_true_eq]; omega)]
    rfl
  | j + 1, k + 1, x, hx, hk => by
    have h0 := h.len
    have e1 : (refL g).L = g.entries := rfl
    have w : wi64 ((x : Int) + 1) = ((x + 1 : Nat) : Int) := by rw [wi64_id (by omega) (by omega)]; omega
    have ih := rinst_none n g h s q hq j k (x + 1) (by omega) (by omega)
    have jf : tontineref07_Log_Install.j0 n (tontineref07_Log_Install.l0 n (refL g) s q k) (refL g) [] (x : Int) false = some (0, refL ⟨s, []⟩) := by
      unfold tontineref07_Log_Install.j0
      rw [if_neg (by simp), w]
      exact ih
    unfold tontineref07_Log_Install.l0
    rw [e1, if_pos (by rw [decide_eq_true_eq]; omega), if_pos ⟨by omega, by omega⟩]
    split
    · by_cases h2 : q.2 = 0
      · rw [if_pos (show (q.2 == 0) = true by rw [beq_iff_eq]; exact h2), show (q.1 == s.Term) = false by rw [beq_eq_false_iff_ne]; exact fun hh => hq ⟨h2, hh⟩]
        exact jf
      · rw [if_neg (show ¬ ((q.2 == 0) = true) by rw [beq_iff_eq]; exact h2)]
        exact jf
    · exact jf
theorem rinst_some (n : Nat) (g : T_rlog_Log) (h : LI g) (s : T_api_Snapshot) (q : Int × Int) (hq : q.2 = 0 ∧ q.1 = s.Term) (r : Nat) (hr : s.Index = g.snap.Index + 1 + r) (hrl : r < g.entries.length) : ∀ (j k x : Nat), x + j = g.entries.length → j < k →
    tontineref07_Log_Install.l0 n (refL g) s q k ((g.entries.drop (r + 1)).take (x - (r + 1))) (x : Int) = some (0, refL ⟨s, g.entries.drop (r + 1)⟩)
  | j, 0, x, _, hk => by omega
  | 0, k + 1, x, hx, _ => by
    have e1 : (refL g).L = g.entries := rfl
    unfold tontineref07_Log_Install.l0
    rw [e1, if_neg (by rw [decide_eq_true_eq]; omega), List.take_of_length_le (by rw [List.length_drop]; omega)]
    rfl
  | j + 1, k + 1, x, hx, hk => by
    have h0 := h.len
    have e1 : (refL g).L = g.entries := rfl
    have hlt : x < g.entries.length := by omega
    have hix := h.at_ x hlt
    have w : wi64 ((x : Int) + 1) = ((x + 1 : Nat) : Int) := by rw [wi64_id (by omega) (by omega)]; omega
    have ih := rinst_some n g h s q hq r hr hrl j k (x + 1) (by omega) (by omega)
    unfold tontineref07_Log_Install.l0 tontineref07_Log_Install.j0
    rw [e1, if_pos (by rw [decide_eq_true_eq]; omega), if_pos ⟨by omega, by omega⟩, w]
    by_cases hgt : (rdL g.entries (x : Int)).Index > s.Index
    · have c : capOk 40 ((g.entries.drop (r + 1)).take (x - (r + 1)) ++ [rdL g.entries (x : Int)]).length := by simp only [List.length_append, List.length_take, List.length_drop, List.length_cons, List.length_nil]; unfold capOk; omega
      have es : (g.entries.drop (r + 1)).take (x - (r + 1)) ++ [rdL g.entries (x : Int)] = (g.entries.drop (r + 1)).take (x + 1 - (r + 1)) := by
        have : (g.entries.drop (r + 1)).take (x - (r + 1) + 1) = (g.entries.drop (r + 1)).take (x - (r + 1)) ++ [rdL (g.entries.drop (r + 1)) ((x - (r + 1) : Nat) : Int)] := take_snoc (by rw [List.length_drop]; omega)
        rw [rdL_drop, show r + 1 + (x - (r + 1)) = x by omega] at this
        rw [show x + 1 - (r + 1) = x - (r + 1) + 1 by omega, this]
      rw [if_pos (show decide ((rdL g.entries (x : Int)).Index > s.Index) = true from decide_eq_true hgt), if_pos (show (q.2 == 0) = true by rw [beq_iff_eq]; exact hq.1), show (q.1 == s.Term) = true by rw [beq_iff_eq]; exact hq.2, if_pos rfl, if_pos ⟨by omega, by omega⟩, if_pos c, es]
      exact ih
    · rw [if_neg (show ¬ (decide ((rdL g.entries (x : Int)).Index > s.Index) = true) by rw [decide_eq_true_eq]; exact hgt), if_neg (by simp), show x - (r + 1) = x + 1 - (r + 1) by omega]
      exact ih
theorem r_Inst (n : Nat) (g : T_rlog_Log) (h : LI g) (s : T_api_Snapshot) (hn : 5000 ≤ n) : tontineref07_Log_Install.f n (refL g) s = some ((instM g s).1, refL (instM g s).2) := by
  have h0 := h.len
  unfold tontineref07_Log_Install.f instM
  have et : tontineref07_Log_Term.f n ⟨⟨(refL g).Snap.Index, (refL g).Snap.Term, (refL g).Snap.Config, (refL g).Snap.Data⟩, (refL g).L⟩ s.Index = some (termM g.snap g.entries s.Index) := r_Term n g h s.Index hn
  have e2 : (refL g).Snap.Index = g.snap.Index := rfl
  rw [r_Sound, Option.bind_some]
  by_cases hs : soundC s.Config = true
  rotate_left
  · have hs' : soundC s.Config = false := by simpa using hs
    rw [hs', if_pos (by rfl), if_neg (by simp)]
  rw [hs, if_neg (by simp), if_pos rfl]
  by_cases h1 : s.Index ≤ g.snap.Index
  · rw [e2, if_pos (show decide (s.Index ≤ g.snap.Index) = true from decide_eq_true h1), if_pos h1]
    rfl
  rw [et]
  rw [e2, if_neg (show ¬ (decide (s.Index ≤ g.snap.Index) = true) by rw [decide_eq_true_eq]; exact h1), if_neg h1, Option.bind_some]
  by_cases h2 : (termM g.snap g.entries s.Index).2 = 0 ∧ (termM g.snap g.entries s.Index).1 = s.Term
  · rw [if_pos h2]
    rcases atM_cases g.snap.Index g.entries.length s.Index with ⟨ha, _⟩ | ⟨k, ha, hk, hki⟩
    · exfalso
      have := h2.1
      unfold termM at this
      rw [ha, if_neg (by omega), if_neg (by omega)] at this
      simp at this
    · rw [ha, Int.toNat_natCast]
      have := rinst_some n g h s _ h2 k hki hk g.entries.length n 0 (by omega) (by omega)
      rw [show 0 - (k + 1) = 0 by omega, List.take_zero] at this
      exact this
  · rw [if_neg h2]
    exact rinst_none n g h s _ h2 g.entries.length n 0 (by omega) (by omega)
def outR (s : T_api_Snapshot) (r : List T_api_Entry × Bool × List T_api_Entry) : List T_api_Entry × Bool × T_tontineref07_Log := (r.1, r.2.1, refL ⟨s, r.2.2⟩)
theorem r_mrg (n : Nat) (hn : 5000 ≤ n) (g : T_rlog_Log) (h : LI g) (c : List T_api_Entry) (hl : c.length ≤ 100000) (hgt : ∀ e ∈ c, g.snap.Index < e.Index) : ∀ (j k x : Nat), x + j = c.length → j < k →
    tontineref07_Log_Merge.l2 n (refL g) c k (x : Int) = some (outR g.snap ((mrg g.snap g.entries (c.drop x)).1, true, (mrg g.snap g.entries (c.drop x)).2))
  | j, 0, x, _, h => by omega
  | 0, k + 1, x, hx, _ => by
    unfold tontineref07_Log_Merge.l2
    rw [if_neg (by rw [decide_eq_true_eq]; omega), List.drop_of_length_le (by omega)]
    rfl
  | j + 1, k + 1, x, hx, hk => by
    have h0 := h.len
    have hlt : x < c.length := by omega
    have hg := hgt _ (rdL_mem hlt)
    have w : wi64 ((x : Int) + 1) = ((x + 1 : Nat) : Int) := by rw [wi64_id (by omega) (by omega)]; omega
    have ih := r_mrg n hn g h c hl hgt j k (x + 1) (by omega) (by omega)
    have et : tontineref07_Log_Term.f n ⟨⟨(refL g).Snap.Index, (refL g).Snap.Term, (refL g).Snap.Config, (refL g).Snap.Data⟩, (refL g).L⟩ (rdL c (x : Int)).Index = some (termM g.snap g.entries (rdL c (x : Int)).Index) := r_Term n g h _ hn
    have ec : tontineref07_Log_Cut.f n ⟨⟨(refL g).Snap.Index, (refL g).Snap.Term, (refL g).Snap.Config, (refL g).Snap.Data⟩, (refL g).L⟩ (rdL c (x : Int)).Index = some (refL (cutM g (rdL c (x : Int)).Index)) := r_Cut n g h _ hn
    have hcl : (cutM g (rdL c (x : Int)).Index).entries.length ≤ g.entries.length := (li_cut h _).2
    have c1 : capOk 40 ((refL (cutM g (rdL c (x : Int)).Index)).L ++ c.drop x).length := by
      show capOk 40 ((cutM g (rdL c (x : Int)).Index).entries ++ c.drop x).length
      rw [List.length_append, List.length_drop]; unfold capOk; omega
    have c2 : capOk 40 (c.drop x).length := by rw [List.length_drop]; unfold capOk; omega
    have jf : ¬ hasE g.snap g.entries (rdL c (x : Int)) → tontineref07_Log_Merge.j2 n (tontineref07_Log_Merge.l2 n (refL g) c k) (refL g) c (x : Int) false = some (outR g.snap ((mrg g.snap g.entries (c.drop x)).1, true, (mrg g.snap g.entries (c.drop x)).2)) := by
      intro hne
      unfold tontineref07_Log_Merge.j2
      rw [if_neg (by simp), if_pos ⟨by omega, by omega⟩, ec, Option.bind_some, if_pos ⟨by omega, by omega, by omega⟩, Int.toNat_natCast, Int.toNat_natCast, List.take_length, if_pos c1, if_pos ⟨by omega, by omega, by omega⟩, List.nil_append, if_pos c2, getD_drop hlt]
      unfold mrg
      rw [if_neg hne]
      unfold cutM
      split <;> rfl
    unfold tontineref07_Log_Merge.l2
    rw [if_pos (by rw [decide_eq_true_eq]; omega), if_pos ⟨by omega, by omega⟩, et, Option.bind_some]
    rcases atM_cases g.snap.Index g.entries.length (rdL c (x : Int)).Index with ⟨ha, _⟩ | ⟨r, ha, hr, hri⟩
    · have hne : ¬ hasE g.snap g.entries (rdL c (x : Int)) := fun hh => by have := hh.1; omega
      have e20 : termM g.snap g.entries (rdL c (x : Int)).Index = (0, 20) := by unfold termM; rw [ha, if_neg (by omega), if_neg (by omega)]
      rw [e20, if_neg (by decide)]
      exact jf hne
    · rw [term_at g.snap g.entries _ r hri hr, if_pos (by rfl), if_pos ⟨by omega, by omega⟩]
      simp only
      by_cases htm : (rdL g.entries (r : Int)).Term = (rdL c (x : Int)).Term
      · have he : hasE g.snap g.entries (rdL c (x : Int)) := ⟨by rw [ha]; omega, by rw [ha]; exact htm⟩
        rw [show ((rdL g.entries (r : Int)).Term == (rdL c (x : Int)).Term) = true by rw [beq_iff_eq]; exact htm]
        unfold tontineref07_Log_Merge.j2
        rw [if_pos rfl, w, ih, getD_drop hlt]
        conv => rhs; unfold mrg
        rw [if_pos he]
      · have hne : ¬ hasE g.snap g.entries (rdL c (x : Int)) := fun hh => htm (by have := hh.2; rw [ha] at this; exact this)
        rw [show ((rdL g.entries (r : Int)).Term == (rdL c (x : Int)).Term) = false by rw [beq_eq_false_iff_ne]; exact htm]
        exact jf hne
theorem r_tail (n : Nat) (hn : 5000 ≤ n) (L : Int → Int → List T_api_Entry → Option (List T_api_Entry × Bool × T_tontineref07_Log)) (g : T_rlog_Log) (h : LI g) (i t : Int) (c : List T_api_Entry) (hcn : c.length < n) (hl : c.length ≤ 100000) (hgt : g.snap.Index ≤ i → ∀ e ∈ c, g.snap.Index < e.Index) :
    tontineref07_Log_Merge.j0 n L (refL g) i t c false = some (outR g.snap (tailM g.snap g.entries i t c)) := by
  have bad : tontineref07_Log_Merge.j1 n (refL g) c true = some (outR g.snap ([], false, g.entries)) := rfl
  have et : tontineref07_Log_Term.f n ⟨⟨(refL g).Snap.Index, (refL g).Snap.Term, (refL g).Snap.Config, (refL g).Snap.Data⟩, (refL g).L⟩ i = some (termM g.snap g.entries i) := r_Term n g h i hn
  have e2 : (refL g).Snap.Index = g.snap.Index := rfl
  unfold tontineref07_Log_Merge.j0 tailM
  rw [if_neg (by simp), et, e2]
  by_cases h1 : i < g.snap.Index
  · rw [if_pos (show decide (i < g.snap.Index) = true from decide_eq_true h1), if_pos h1]
    rfl
  have good : tontineref07_Log_Merge.j1 n (refL g) c false = some (outR g.snap ((mrg g.snap g.entries c).1, true, (mrg g.snap g.entries c).2)) := r_mrg n hn g h c hl (hgt (by omega)) c.length n 0 (by omega) (by omega)
  rw [if_neg (show ¬ (decide (i < g.snap.Index) = true) by rw [decide_eq_true_eq]; exact h1), if_neg h1, Option.bind_some]
  by_cases h3 : (termM g.snap g.entries i).2 = 0
  · rw [if_neg (show ¬ (((termM g.snap g.entries i).2 != 0) = true) by rw [bne_iff_ne]; exact fun hh => hh h3)]
    by_cases h4 : (termM g.snap g.entries i).1 = t
    · rw [show ((termM g.snap g.entries i).1 != t) = false by rw [bne_eq_false_iff_eq]; exact h4, if_pos ⟨h3, h4⟩]
      exact good
    · rw [show ((termM g.snap g.entries i).1 != t) = true by rw [bne_iff_ne]; exact h4, if_neg (fun hh => h4 hh.2)]
      exact bad
  · rw [if_pos (show ((termM g.snap g.entries i).2 != 0) = true by rw [bne_iff_ne]; exact h3), if_neg (fun hh => h3 hh.1)]
    exact bad
theorem r_skip (n : Nat) (hn : 5000 ≤ n) (g : T_rlog_Log) (h : LI g) : ∀ (c : List T_api_Entry) (k : Nat) (i t : Int), c.length < k → c.length < n → c.length ≤ 100000 → chain i t c = true →
    tontineref07_Log_Merge.l1 n (refL g) k i t c = some (outR g.snap (tailM g.snap g.entries (skipM g.snap.Index i t c).1 (skipM g.snap.Index i t c).2.1 (skipM g.snap.Index i t c).2.2))
  | _, 0, _, _, h, _, _, _ => by omega
  | [], k + 1, i, t, hk, hcn, hl, hch => by
    unfold tontineref07_Log_Merge.l1
    rw [if_neg (by simp)]
    exact r_tail n hn _ g h i t [] hcn hl (fun _ => by simp)
  | e :: c, k + 1, i, t, hk, hcn, hl, hch => by
    have hch' := hch
    rw [chain_cons, Bool.and_eq_true] at hch
    have q := okE_iff hch.1
    simp only [List.length_cons] at hk hcn hl
    have e0 : rdL (e :: c) (0 : Int) = e := rfl
    have e2 : (refL g).Snap.Index = g.snap.Index := rfl
    unfold tontineref07_Log_Merge.l1 skipM
    rw [if_pos (show decide (((e :: c).length : Int) > 0) = true by rw [decide_eq_true_eq, List.length_cons]; omega), if_pos ⟨by omega, by rw [List.length_cons]; omega⟩, e0, e2]
    by_cases hh : e.Index ≤ g.snap.Index
    · rw [decide_eq_true hh, if_pos hh]
      unfold tontineref07_Log_Merge.j0
      rw [if_pos rfl, if_pos ⟨by omega, by rw [List.length_cons]; omega⟩, if_pos ⟨by omega, by rw [List.length_cons]; omega⟩, if_pos ⟨by omega, by rw [List.length_cons]; omega, by omega⟩, e0]
      have ed : ((e :: c).take ((e :: c).length : Int).toNat).drop (1 : Int).toNat = c := by rw [Int.toNat_natCast, List.take_length]; rfl
      rw [ed]
      exact r_skip n hn g h c k e.Index e.Term (by omega) (by omega) (by omega) hch.2
    · rw [decide_eq_false hh, if_neg hh]
      refine r_tail n hn _ g h i t (e :: c) (by simp only [List.length_cons]; omega) (by simp only [List.length_cons]; omega) (fun hi x hx => ?_)
      obtain ⟨k2, hk2, rfl⟩ := mem_rd hx
      rw [chain_idx _ _ _ hch' k2 hk2]
      omega
theorem r_chk (n : Nat) (hn : 20 ≤ n) (g : T_rlog_Log) (index term : Int) (c : List T_api_Entry) (hc : c.length ≤ 100000) (hd : ∀ e ∈ c, e.Data.length < 9000000000000000000) (hu : ∀ e ∈ c, 0 ≤ e.Index ∧ e.Index ≤ 18446744073709551615) : ∀ (j k x : Nat) (i t : Int), x + j = c.length → j < k → (0 ≤ i ∧ i ≤ 18446744073709551615) →
    tontineref07_Log_Merge.l0 n (refL g) index term c k i t (x : Int) = if chain i t (c.drop x) = true then tontineref07_Log_Merge.l1 n (refL g) n index term c else some ([], false, refL g)
  | j, 0, x, _, _, _, h, _ => by omega
  | 0, k + 1, x, i, t, hx, _, _ => by
    unfold tontineref07_Log_Merge.l0
    rw [if_neg (show ¬ (decide ((x : Int) < (c.length : Int)) = true) by rw [decide_eq_true_eq]; omega), List.drop_of_length_le (by omega)]
    rfl
  | j + 1, k + 1, x, i, t, hx, hk, hi => by
    have hlt : x < c.length := by omega
    have w : wi64 ((x : Int) + 1) = ((x + 1 : Nat) : Int) := by rw [wi64_id (by omega) (by omega)]; omega
    unfold tontineref07_Log_Merge.l0
    rw [if_pos (by rw [decide_eq_true_eq]; omega), if_pos ⟨by omega, by omega⟩, r_may n hn _ _ _ hi (hd _ (rdL_mem hlt)), Option.bind_some, getD_drop hlt, chain_cons]
    by_cases ho : okE (rdL c (x : Int)) i t = true
    · rw [ho, if_neg (by simp), if_pos ⟨by omega, by omega⟩, if_pos ⟨by omega, by omega⟩, w, Bool.true_and]
      exact r_chk n hn g index term c hc hd hu j k (x + 1) _ _ (by omega) (by omega) (hu _ (rdL_mem hlt))
    · have ho' : okE (rdL c (x : Int)) i t = false := by simpa using ho
      rw [ho', if_pos (by rfl), Bool.false_and, if_neg (by simp)]
theorem r_Merge (n : Nat) (g : T_rlog_Log) (h : LI g) (i t : Int) (c : List T_api_Entry) (hn : 5000 + c.length ≤ n) (hi : 0 ≤ i ∧ i ≤ 18446744073709551615) (hc : c.length ≤ 100000) (hd : ∀ e ∈ c, e.Data.length < 9000000000000000000) (hu : ∀ e ∈ c, 0 ≤ e.Index ∧ e.Index ≤ 18446744073709551615) :
    tontineref07_Log_Merge.f n (refL g) i t c = some (outR g.snap (mergeM g.snap g.entries i t c)) := by
  unfold tontineref07_Log_Merge.f mergeM
  have := r_chk n (by omega) g i t c hc hd hu c.length n 0 i t (by omega) (by omega) hi
  refine this.trans ?_
  rw [List.drop_zero]
  by_cases hch : chain i t c = true
  · rw [if_pos hch, if_pos hch]
    exact r_skip n (by omega) g h c n i t (by omega) (by omega) hc hch
  · rw [if_neg hch, if_neg hch]
    rfl
theorem li_merge {g : T_rlog_Log} (h : LI g) (c : List T_api_Entry) (i t : Int) (hi : 0 ≤ i ∧ i ≤ 18446744073709551615) (hl : g.entries.length + c.length ≤ 4000) : LI ⟨g.snap, (mergeM g.snap g.entries i t c).2.2⟩ ∧ (mergeM g.snap g.entries i t c).2.2.length ≤ g.entries.length + c.length := by
  rcases merge_spec g.snap g.entries h.ix h.ch c i t hi with hm | ⟨_, _, t3, t4, _⟩
  · rw [hm]
    exact ⟨h, by simp⟩
  · exact ⟨⟨h.ix, h.cf, t3, by show (mergeM g.snap g.entries i t c).2.2.length ≤ 4000; omega⟩, t4⟩
end Go.GL
