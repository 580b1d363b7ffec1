/- Logs: adding, cutting, installing; and what the reference computes. No condition but the bounds named. -/
import Derived.Test.YtolipnnfdclkoaaLogE
set_option linter.unusedVariables false
set_option linter.unusedSimpArgs false
set_option maxRecDepth 10000
namespace Go.GL
open Go
/-- What holds of every log. -/
structure LI (g : T_rlog_Log) : Prop where
  ix : 0 ≤ g.snap.Index ∧ g.snap.Index ≤ 18446744073709551615
  cf : soundC g.snap.Config = true
  ch : chain g.snap.Index g.snap.Term g.entries = true
  len : g.entries.length ≤ 4000
theorem LI.last {g : T_rlog_Log} (h : LI g) : (lastP g.snap.Index g.snap.Term g.entries).1 = g.snap.Index + g.entries.length ∧ g.snap.Index + g.entries.length ≤ 18446744073709551615 := chain_last _ _ _ h.ix.1 h.ix.2 h.ch
theorem LI.at_ {g : T_rlog_Log} (h : LI g) (k : Nat) (hk : k < g.entries.length) : (rdL g.entries (k : Int)).Index = g.snap.Index + 1 + k := chain_idx _ _ _ h.ch k hk
theorem LI.dat {g : T_rlog_Log} (h : LI g) : ∀ e ∈ g.entries, e.Data.length < 9000000000000000000 := fun e he => by have := (chain_mem _ _ _ h.ch e he).1; omega
def refL (g : T_rlog_Log) : T_tontineref07_Log := ⟨g.snap, g.entries⟩
def addM (g : T_rlog_Log) (t k : Int) (d : List UInt8) : T_api_Entry × Int × T_rlog_Log :=
  let p := lastP g.snap.Index g.snap.Term g.entries
  let e : T_api_Entry := ⟨t, wu64 (p.1 + 1), k, d⟩
  if okE e p.1 p.2 = true then (e, 0, ⟨g.snap, g.entries ++ [e]⟩) else (⟨0, 0, 0, []⟩, 1, g)
theorem p_Add (n : Nat) (hn : 20 ≤ n) (g : T_rlog_Log) (h : LI g) (t k : Int) (d : List UInt8) (hd : d.length < 9000000000000000000) : rlog_Log_Add.f n g t k d = some (addM g t k d) := by
  have h0 := h.len
  have h1 := h.last
  have h2 := h.ix
  unfold rlog_Log_Add.f addM
  have el : rlog_Log_Last.f n ⟨⟨g.snap.Index, g.snap.Term, g.snap.Config, g.snap.Data⟩, g.entries⟩ = some (lastP g.snap.Index g.snap.Term g.entries) := p_Last n g (by omega)
  rw [el, Option.bind_some, p_sound n hn _ _ _ (by omega) hd, Option.bind_some]
  simp only
  by_cases ho : okE ⟨t, wu64 ((lastP g.snap.Index g.snap.Term g.entries).1 + 1), k, d⟩ (lastP g.snap.Index g.snap.Term g.entries).1 (lastP g.snap.Index g.snap.Term g.entries).2 = true
  · have c : capOk 40 (g.entries ++ [(⟨t, wu64 ((lastP g.snap.Index g.snap.Term g.entries).1 + 1), k, d⟩ : T_api_Entry)]).length := by simp only [List.length_append, List.length_cons, List.length_nil]; unfold capOk; omega
    rw [ho, if_neg (by simp), if_pos c, if_pos rfl]
  · have ho' : okE ⟨t, wu64 ((lastP g.snap.Index g.snap.Term g.entries).1 + 1), k, d⟩ (lastP g.snap.Index g.snap.Term g.entries).1 (lastP g.snap.Index g.snap.Term g.entries).2 = false := by simpa using ho
    rw [ho', if_pos (by rfl), if_neg (by simp)]
theorem r_Last (n : Nat) (g : T_rlog_Log) (h : g.entries.length ≤ 4000000000000) : tontineref07_Log_Last.f n (refL g) = some (lastP g.snap.Index g.snap.Term g.entries) := by
  unfold tontineref07_Log_Last.f
  have e1 : (refL g).L = g.entries := rfl
  have e2 : (refL g).Snap = g.snap := rfl
  rw [e1, e2]
  by_cases h0 : g.entries.length = 0
  · rw [if_pos (show ((g.entries.length : Int) == 0) = true by rw [beq_iff_eq]; omega), List.length_eq_zero_iff.1 h0]
    rfl
  · have w : wi64 ((g.entries.length : Int) - 1) = ((g.entries.length - 1 : Nat) : Int) := by rw [wi64_id (by omega) (by omega)]; omega
    rw [if_neg (show ¬ (((g.entries.length : Int) == 0) = true) by rw [beq_iff_eq]; omega), w, if_pos ⟨by omega, by omega⟩, if_pos ⟨by omega, by omega⟩, lastP_rd _ _ _ (by omega)]
theorem r_Add (n : Nat) (hn : 20 ≤ n) (g : T_rlog_Log) (h : LI g) (t k : Int) (d : List UInt8) (hd : d.length < 9000000000000000000) : tontineref07_Log_Add.f n (refL g) t k d = some ((addM g t k d).1, (addM g t k d).2.1, refL (addM g t k d).2.2) := by
  have h0 := h.len
  have h1 := h.last
  have h2 := h.ix
  unfold tontineref07_Log_Add.f addM
  have el : tontineref07_Log_Last.f n ⟨⟨(refL g).Snap.Index, (refL g).Snap.Term, (refL g).Snap.Config, (refL g).Snap.Data⟩, (refL g).L⟩ = some (lastP g.snap.Index g.snap.Term g.entries) := r_Last n g (by omega)
  rw [el, Option.bind_some, r_may n hn _ _ _ (by omega) hd, Option.bind_some]
  simp only
  by_cases ho : okE ⟨t, wu64 ((lastP g.snap.Index g.snap.Term g.entries).1 + 1), k, d⟩ (lastP g.snap.Index g.snap.Term g.entries).1 (lastP g.snap.Index g.snap.Term g.entries).2 = true
  · have c : capOk 40 ((refL g).L ++ [(⟨t, wu64 ((lastP g.snap.Index g.snap.Term g.entries).1 + 1), k, d⟩ : T_api_Entry)]).length := by show capOk 40 (g.entries ++ _).length; simp only [List.length_append, List.length_cons, List.length_nil]; unfold capOk; omega
    rw [ho, if_neg (by simp), if_pos c, if_pos rfl]
    rfl
  · have ho' : okE ⟨t, wu64 ((lastP g.snap.Index g.snap.Term g.entries).1 + 1), k, d⟩ (lastP g.snap.Index g.snap.Term g.entries).1 (lastP g.snap.Index g.snap.Term g.entries).2 = false := by simpa using ho
    rw [ho', if_pos (by rfl), if_neg (by simp)]
theorem li_add {g : T_rlog_Log} (h : LI g) (hl : g.entries.length < 4000) (t k : Int) (d : List UInt8) : LI (addM g t k d).2.2 ∧ (addM g t k d).2.2.entries.length ≤ g.entries.length + 1 := by
  unfold addM
  simp only
  split
  · rename_i ho
    refine ⟨⟨h.ix, h.cf, ?_, ?_⟩, ?_⟩
    · show chain g.snap.Index g.snap.Term (g.entries ++ [_]) = true
      rw [chain_app, h.ch, chain_cons, ho]; rfl
    · show (g.entries ++ [_]).length ≤ 4000
      simp; omega
    · show (g.entries ++ [_]).length ≤ _
      simp
  · exact ⟨h, by simp⟩
def cutM (g : T_rlog_Log) (i : Int) : T_rlog_Log := if 0 ≤ atM g.snap.Index g.entries.length i then ⟨g.snap, g.entries.take (atM g.snap.Index g.entries.length i).toNat⟩ else g
theorem p_Cut (n : Nat) (g : T_rlog_Log) (h : LI g) (i : Int) (hi : 0 ≤ i ∧ i ≤ 18446744073709551615) : rlog_Log_Cut.f n g i = some (cutM g i) := by
  have h0 := h.len
  unfold rlog_Log_Cut.f cutM
  have e : rlog_Log_at.f n ⟨⟨g.snap.Index, g.snap.Term, g.snap.Config, g.snap.Data⟩, g.entries⟩ i = some (atM g.snap.Index g.entries.length i) := p_at n g i h.ix hi (by omega)
  rw [e, Option.bind_some]
  rcases atM_cases g.snap.Index g.entries.length i with ⟨ha, _⟩ | ⟨k, ha, hk, _⟩
  · rw [ha, if_neg (by decide), if_neg (by omega)]
  · have c : capOk 40 (g.entries.take k).length := by rw [List.length_take]; unfold capOk; omega
    rw [ha, if_pos (show decide ((k : Int) ≥ 0) = true by rw [decide_eq_true_eq]; omega), if_pos ⟨by omega, by omega, by omega⟩, if_pos (show (0 : Int) ≤ (k : Int) by omega), Int.toNat_natCast]
    rw [show ([] : List T_api_Entry) ++ (g.entries.take k).drop (0 : Int).toNat = g.entries.take k from rfl, if_pos c]
theorem rcut_l0 (n : Nat) (g : T_rlog_Log) (h : LI g) (i : Int) : ∀ (j k x : Nat), x + j = g.entries.length → j < k → (atM g.snap.Index g.entries.length i = -1 ∨ (x : Int) ≤ atM g.snap.Index g.entries.length i) →
    tontineref07_Log_Cut.l0 n (refL g) i k (g.entries.take x) (x : Int) = some (refL (cutM g i))
  | j, 0, x, _, hk, _ => by omega
  | 0, k + 1, x, hx, _, ha => by
    have e1 : (refL g).L = g.entries := rfl
    have ha' : atM g.snap.Index g.entries.length i = -1 := by
      rcases atM_cases g.snap.Index g.entries.length i with ⟨q, _⟩ | ⟨k, q, hk, _⟩
      · exact q
      · omega
    unfold tontineref07_Log_Cut.l0 cutM
    rw [e1, if_neg (by rw [decide_eq_true_eq]; omega), ha', if_neg (by omega)]
    rfl
  | j + 1, k + 1, x, hx, hk, ha => by
    have h0 := h.len
    have e1 : (refL g).L = g.entries := rfl
    have hlt : x < g.entries.length := by omega
    have hix := h.at_ x hlt
    unfold tontineref07_Log_Cut.l0
    rw [e1, if_pos (by rw [decide_eq_true_eq]; omega), if_pos ⟨by omega, by omega⟩]
    by_cases he : (rdL g.entries (x : Int)).Index = i
    · have hat := atM_at g.snap.Index g.entries.length i x (by omega) hlt
      rw [if_pos (show ((rdL g.entries (x : Int)).Index == i) = true by rw [beq_iff_eq]; exact he)]
      unfold cutM
      rw [hat, if_pos (by omega), Int.toNat_natCast]
      rfl
    · have c : capOk 40 (g.entries.take x ++ [rdL g.entries (x : Int)]).length := by simp only [List.length_append, List.length_take, List.length_cons, List.length_nil]; unfold capOk; omega
      have ha2 : atM g.snap.Index g.entries.length i = -1 ∨ ((x + 1 : Nat) : Int) ≤ atM g.snap.Index g.entries.length i := by
        rcases ha with q | q
        · exact .inl q
        · right
          rcases atM_cases g.snap.Index g.entries.length i with ⟨q2, _⟩ | ⟨k, q2, hk, hi⟩
          · omega
          · by_cases hxk : x = k
            · subst hxk; exact absurd (by omega) he
            · omega
      rw [if_neg (show ¬ (((rdL g.entries (x : Int)).Index == i) = true) by rw [beq_iff_eq]; exact he), if_pos ⟨by omega, by omega⟩, if_pos c, wi64_id (by omega) (by omega), show ((x : Int) + 1) = ((x + 1 : Nat) : Int) by omega, ← take_snoc hlt]
      exact rcut_l0 n g h i j k (x + 1) (by omega) (by omega) ha2
theorem r_Cut (n : Nat) (g : T_rlog_Log) (h : LI g) (i : Int) (hn : 5000 ≤ n) : tontineref07_Log_Cut.f n (refL g) i = some (refL (cutM g i)) := by
  have h0 := h.len
  refine rcut_l0 n g h i g.entries.length n 0 (by omega) (by omega) ?_
  rcases atM_cases g.snap.Index g.entries.length i with ⟨q, _⟩ | ⟨k, q, hk, _⟩
  · exact .inl q
  · right; omega
theorem chain_take {i t : Int} {l : List T_api_Entry} (h : chain i t l = true) (k : Nat) : chain i t (l.take k) = true := by
  have : chain i t (l.take k ++ l.drop k) = true := by rw [List.take_append_drop]; exact h
  rw [chain_app, Bool.and_eq_true] at this
  exact this.1
theorem chain_drop {i t : Int} {l : List T_api_Entry} (h : chain i t l = true) (k : Nat) (hk : k < l.length) : chain (rdL l (k : Int)).Index (rdL l (k : Int)).Term (l.drop (k + 1)) = true := by
  have : chain i t (l.take (k + 1) ++ l.drop (k + 1)) = true := by rw [List.take_append_drop]; exact h
  rw [chain_app, Bool.and_eq_true, take_snoc hk, lastP_app] at this
  exact this.2
theorem li_cut {g : T_rlog_Log} (h : LI g) (i : Int) : LI (cutM g i) ∧ (cutM g i).entries.length ≤ g.entries.length := by
  have h0 := h.len
  unfold cutM
  split
  · exact ⟨⟨h.ix, h.cf, chain_take h.ch _, by show (g.entries.take _).length ≤ 4000; rw [List.length_take]; omega⟩, by show (g.entries.take _).length ≤ _; rw [List.length_take]; omega⟩
  · exact ⟨h, Nat.le_refl _⟩
def instM (g : T_rlog_Log) (s : T_api_Snapshot) : Int × T_rlog_Log :=
  if soundC s.Config = true then (if s.Index ≤ g.snap.Index then (20, g) else if (termM g.snap g.entries s.Index).2 = 0 ∧ (termM g.snap g.entries s.Index).1 = s.Term then (0, ⟨s, g.entries.drop ((atM g.snap.Index g.entries.length s.Index).toNat + 1)⟩) else (0, ⟨s, []⟩)) else (1, g)
theorem p_Inst (n : Nat) (g : T_rlog_Log) (h : LI g) (s : T_api_Snapshot) (hi : 0 ≤ s.Index ∧ s.Index ≤ 18446744073709551615) (hc : 0 ≤ s.Config ∧ s.Config ≤ 18446744073709551615) : rlog_Log_Install.f n g s = some (instM g s) := by
  have h0 := h.len
  unfold rlog_Log_Install.f rlog_Log_Install.j0 instM
  have et : rlog_Log_Term.f n ⟨⟨g.snap.Index, g.snap.Term, g.snap.Config, g.snap.Data⟩, g.entries⟩ s.Index = some (termM g.snap g.entries s.Index) := p_Term n g s.Index h.ix hi (by omega)
  have ea : rlog_Log_at.f n ⟨⟨g.snap.Index, g.snap.Term, g.snap.Config, g.snap.Data⟩, g.entries⟩ s.Index = some (atM g.snap.Index g.entries.length s.Index) := p_at n g s.Index h.ix hi (by omega)
  rw [p_Sound n s.Config hc, Option.bind_some]
  by_cases hs : soundC s.Config = true
  rotate_left
  · have hs' : soundC s.Config = false := by simpa using hs
    rw [hs', if_pos (by rfl), if_neg (by simp)]
  rw [hs, if_neg (by simp), if_pos rfl]
  by_cases h1 : s.Index ≤ g.snap.Index
  · rw [if_pos (show decide (s.Index ≤ g.snap.Index) = true from decide_eq_true h1), if_pos h1]
  rw [if_neg (show ¬ (decide (s.Index ≤ g.snap.Index) = true) by rw [decide_eq_true_eq]; exact h1), if_neg h1, et, Option.bind_some]
  by_cases h2 : (termM g.snap g.entries s.Index).2 = 0
  rotate_left
  · rw [if_neg (show ¬ (((termM g.snap g.entries s.Index).2 == 0) = true) by rw [beq_iff_eq]; exact h2), if_neg (by simp), if_neg (fun hh => h2 hh.1)]
  rw [if_pos (show ((termM g.snap g.entries s.Index).2 == 0) = true by rw [beq_iff_eq]; exact h2)]
  by_cases h3 : (termM g.snap g.entries s.Index).1 = s.Term
  rotate_left
  · rw [show ((termM g.snap g.entries s.Index).1 == s.Term) = false by rw [beq_eq_false_iff_ne]; exact h3, if_neg (by simp), if_neg (fun hh => h3 hh.2)]
  rw [show ((termM g.snap g.entries s.Index).1 == s.Term) = true by rw [beq_iff_eq]; exact h3, if_pos rfl, if_pos ⟨h2, h3⟩, ea, Option.bind_some]
  rcases atM_cases g.snap.Index g.entries.length s.Index with ⟨ha, _⟩ | ⟨k, ha, hk, _⟩
  · exfalso
    unfold termM at h2
    rw [ha, if_neg (by omega), if_neg (by omega)] at h2
    simp at h2
  · have w : wi64 ((k : Int) + 1) = ((k + 1 : Nat) : Int) := by rw [wi64_id (by omega) (by omega)]; omega
    have c : capOk 40 (g.entries.drop (k + 1)).length := by rw [List.length_drop]; unfold capOk; omega
    rw [ha, w, if_pos ⟨by omega, by omega, by omega⟩, Int.toNat_natCast, Int.toNat_natCast, List.take_length, List.nil_append, if_pos c, Int.toNat_natCast]
theorem li_inst {g : T_rlog_Log} (h : LI g) (s : T_api_Snapshot) (hi : 0 ≤ s.Index ∧ s.Index ≤ 18446744073709551615) : LI (instM g s).2 ∧ (instM g s).2.entries.length ≤ g.entries.length := by
  have h0 := h.len
  unfold instM
  split
  · rename_i hs
    split
    · exact ⟨h, Nat.le_refl _⟩
    · rename_i h1
      split
      · rename_i h2
        rcases atM_cases g.snap.Index g.entries.length s.Index with ⟨ha, _⟩ | ⟨k, ha, hk, hki⟩
        · exfalso
          have := h2.1
          unfold termM at this
          rw [ha, if_neg (by omega), if_neg (by omega)] at this
          simp at this
        · rw [ha, Int.toNat_natCast]
          have e := h.at_ k hk
          have et := h2.2
          rw [term_at g.snap g.entries s.Index k hki hk] at et
          have et : (rdL g.entries (k : Int)).Term = s.Term := et
          have hd := chain_drop h.ch k hk
          rw [e, et, ← hki] at hd
          exact ⟨⟨hi, hs, hd, by show (g.entries.drop _).length ≤ 4000; rw [List.length_drop]; omega⟩, by show (g.entries.drop _).length ≤ _; rw [List.length_drop]; omega⟩
      · exact ⟨⟨hi, hs, rfl, by simp⟩, by simp⟩
  · exact ⟨h, Nat.le_refl _⟩
theorem rterm_l0 (n : Nat) (g : T_rlog_Log) (h : LI g) (i : Int) : ∀ (j k x : Nat), x + j = g.entries.length → j < k → (atM g.snap.Index g.entries.length i = -1 ∨ (x : Int) ≤ atM g.snap.Index g.entries.length i) →
    tontineref07_Log_Term.l0 n (refL g) i k (x : Int) = some (termM g.snap g.entries i)
  | j, 0, x, _, hk, _ => by omega
  | 0, k + 1, x, hx, _, ha => by
    have e1 : (refL g).L = g.entries := rfl
    have e2 : (refL g).Snap = g.snap := rfl
    have ha' : atM g.snap.Index g.entries.length i = -1 := by
      rcases atM_cases g.snap.Index g.entries.length i with ⟨q, _⟩ | ⟨k, q, hk, _⟩
      · exact q
      · omega
    unfold tontineref07_Log_Term.l0 termM
    rw [e1, e2, if_neg (by rw [decide_eq_true_eq]; omega), ha', if_neg (show ¬ ((-1 : Int) ≥ 0) by omega)]
    by_cases h2 : i = g.snap.Index
    · rw [if_pos (show (i == g.snap.Index) = true by rw [beq_iff_eq]; exact h2), if_pos h2]
    · rw [if_neg (show ¬ ((i == g.snap.Index) = true) by rw [beq_iff_eq]; exact h2), if_neg h2]
  | j + 1, k + 1, x, hx, hk, ha => by
    have h0 := h.len
    have e1 : (refL g).L = g.entries := rfl
    have hlt : x < g.entries.length := by omega
    have hix := h.at_ x hlt
    unfold tontineref07_Log_Term.l0
    rw [e1, if_pos (by rw [decide_eq_true_eq]; omega), if_pos ⟨by omega, by omega⟩]
    by_cases he : (rdL g.entries (x : Int)).Index = i
    · rw [if_pos (show ((rdL g.entries (x : Int)).Index == i) = true by rw [beq_iff_eq]; exact he), if_pos ⟨by omega, by omega⟩, term_at g.snap g.entries i x (by omega) hlt]
    · have ha2 : atM g.snap.Index g.entries.length i = -1 ∨ ((x + 1 : Nat) : Int) ≤ atM g.snap.Index g.entries.length i := by
        rcases ha with q | q
        · exact .inl q
        · right
          rcases atM_cases g.snap.Index g.entries.length i with ⟨q2, _⟩ | ⟨k, q2, hk, hi⟩
          · omega
          · by_cases hxk : x = k
            · subst hxk; exact absurd (by omega) he
            · omega
      rw [if_neg (show ¬ (((rdL g.entries (x : Int)).Index == i) = true) by rw [beq_iff_eq]; exact he), wi64_id (by omega) (by omega), show ((x : Int) + 1) = ((x + 1 : Nat) : Int) by omega]
      exact rterm_l0 n g h i j k (x + 1) (by omega) (by omega) ha2
theorem r_Term (n : Nat) (g : T_rlog_Log) (h : LI g) (i : Int) (hn : 5000 ≤ n) : tontineref07_Log_Term.f n (refL g) i = some (termM g.snap g.entries i) := by
  have h0 := h.len
  refine rterm_l0 n g h i g.entries.length n 0 (by omega) (by omega) ?_
  rcases atM_cases g.snap.Index g.entries.length i with ⟨q, _⟩ | ⟨k, q, hk, _⟩
  · exact .inl q
  · right; omega
theorem rmem_l0 (n : Nat) (hn : 20 ≤ n) (g : T_rlog_Log) (h : LI g) (i : Int) : ∀ (j k x : Nat) (q : Int × Int), x + j = g.entries.length → j < k →
    tontineref07_Log_MembersAt.l0 n (refL g) i k q.1 q.2 (x : Int) = some (memF i q (g.entries.drop x))
  | j, 0, x, _, _, hk => by omega
  | 0, k + 1, x, q, hx, _ => by
    have e1 : (refL g).L = g.entries := rfl
    unfold tontineref07_Log_MembersAt.l0
    rw [e1, if_neg (by rw [decide_eq_true_eq]; omega), List.drop_of_length_le (by omega)]
    rfl
  | j + 1, k + 1, x, q, hx, hk => by
    have h0 := h.len
    have e1 : (refL g).L = g.entries := rfl
    have hlt : x < g.entries.length := by omega
    have w : wi64 ((x : Int) + 1) = ((x + 1 : Nat) : Int) := by rw [wi64_id (by omega) (by omega)]; omega
    have ih := fun q => rmem_l0 n hn g h i j k (x + 1) q (by omega) (by omega)
    unfold tontineref07_Log_MembersAt.l0 tontineref07_Log_MembersAt.j0
    rw [e1, if_pos (by rw [decide_eq_true_eq]; omega), if_pos ⟨by omega, by omega⟩, w, getD_drop hlt]
    unfold memF
    by_cases h2 : (rdL g.entries (x : Int)).Kind = 2
    · rw [if_pos (show ((rdL g.entries (x : Int)).Kind == 2) = true by rw [beq_iff_eq]; exact h2), if_pos ⟨by omega, by omega⟩]
      by_cases h3 : (rdL g.entries (x : Int)).Index ≤ i
      · rw [decide_eq_true h3, if_pos rfl, if_pos ⟨by omega, by omega⟩, r_cfg n hn _ (h.dat _ (rdL_mem hlt)), Option.bind_some, if_pos ⟨by omega, by omega⟩, if_pos ⟨h2, h3⟩]
        exact ih ((cfgM (rdL g.entries (x : Int)).Data).1, (rdL g.entries (x : Int)).Index)
      · rw [decide_eq_false h3, if_neg (by simp), if_neg (fun hh => h3 hh.2)]
        exact ih q
    · rw [if_neg (show ¬ (((rdL g.entries (x : Int)).Kind == 2) = true) by rw [beq_iff_eq]; exact h2), if_neg (by simp), if_neg (fun hh => h2 hh.1)]
      exact ih q
theorem r_Mem (n : Nat) (g : T_rlog_Log) (h : LI g) (i : Int) (hn : 5000 ≤ n) : tontineref07_Log_MembersAt.f n (refL g) i = some (memF i (g.snap.Config, g.snap.Index) g.entries) := by
  have h0 := h.len
  exact rmem_l0 n (by omega) g h i g.entries.length n 0 (g.snap.Config, g.snap.Index) (by omega) (by omega)
theorem rcomp_l0 (n : Nat) (hn : 5000 ≤ n) (g : T_rlog_Log) (h : LI g) (i : Int) (d : List UInt8) : ∀ (j k x : Nat), x + j = g.entries.length → j < k → (atM g.snap.Index g.entries.length i = -1 ∨ (x : Int) ≤ atM g.snap.Index g.entries.length i) →
    tontineref07_Log_Compact.l0 n (refL g) i d k (x : Int) = some ((compM g i d).1, refL (compM g i d).2)
  | j, 0, x, _, hk, _ => by omega
  | 0, k + 1, x, hx, _, ha => by
    have e1 : (refL g).L = g.entries := rfl
    have ha' : atM g.snap.Index g.entries.length i = -1 := by
      rcases atM_cases g.snap.Index g.entries.length i with ⟨q, _⟩ | ⟨k, q, hk, _⟩
      · exact q
      · omega
    unfold tontineref07_Log_Compact.l0 compM
    rw [e1, if_neg (by rw [decide_eq_true_eq]; omega), ha', if_pos (by omega)]
    rfl
  | j + 1, k + 1, x, hx, hk, ha => by
    have h0 := h.len
    have e1 : (refL g).L = g.entries := rfl
    have hlt : x < g.entries.length := by omega
    have hix := h.at_ x hlt
    have w : wi64 ((x : Int) + 1) = ((x + 1 : Nat) : Int) := by rw [wi64_id (by omega) (by omega)]; omega
    have em : tontineref07_Log_MembersAt.f n ⟨⟨(refL g).Snap.Index, (refL g).Snap.Term, (refL g).Snap.Config, (refL g).Snap.Data⟩, (refL g).L⟩ i = some (memF i (g.snap.Config, g.snap.Index) g.entries) := r_Mem n g h i hn
    unfold tontineref07_Log_Compact.l0
    rw [e1] at em ⊢
    rw [if_pos (by rw [decide_eq_true_eq]; omega), if_pos ⟨by omega, by omega⟩, w]
    by_cases he : (rdL g.entries (x : Int)).Index = i
    · have hat := atM_at g.snap.Index g.entries.length i x (by omega) hlt
      have c : capOk 40 (g.entries.drop (x + 1)).length := by rw [List.length_drop]; unfold capOk; omega
      rw [if_pos (show ((rdL g.entries (x : Int)).Index == i) = true by rw [beq_iff_eq]; exact he), em, Option.bind_some, if_pos ⟨by omega, by omega⟩, if_pos ⟨by omega, by omega, by omega⟩, Int.toNat_natCast, Int.toNat_natCast, List.take_length, List.nil_append, if_pos c]
      unfold compM
      rw [hat, if_neg (by omega), Int.toNat_natCast]
      rfl
    · have ha2 : atM g.snap.Index g.entries.length i = -1 ∨ ((x + 1 : Nat) : Int) ≤ atM g.snap.Index g.entries.length i := by
        rcases ha with q | q
        · exact .inl q
        · right
          rcases atM_cases g.snap.Index g.entries.length i with ⟨q2, _⟩ | ⟨k, q2, hk, hi⟩
          · omega
          · by_cases hxk : x = k
            · subst hxk; exact absurd (by omega) he
            · omega
      rw [if_neg (show ¬ (((rdL g.entries (x : Int)).Index == i) = true) by rw [beq_iff_eq]; exact he)]
      exact rcomp_l0 n hn g h i d j k (x + 1) (by omega) (by omega) ha2
theorem r_Comp (n : Nat) (g : T_rlog_Log) (h : LI g) (i : Int) (d : List UInt8) (hn : 5000 ≤ n) : tontineref07_Log_Compact.f n (refL g) i d = some ((compM g i d).1, refL (compM g i d).2) := by
  have h0 := h.len
  refine rcomp_l0 n hn g h i d g.entries.length n 0 (by omega) (by omega) ?_
  rcases atM_cases g.snap.Index g.entries.length i with ⟨q, _⟩ | ⟨k, q, hk, _⟩
  · exact .inl q
  · right; omega
theorem memF_sound (i : Int) : ∀ (l : List T_api_Entry) (q : Int × Int), soundC q.1 = true → (∀ e ∈ l, e.Kind = 2 → (cfgM e.Data).2 = true) → soundC (memF i q l).1 = true
  | [], q, h, _ => h
  | e :: l, q, h, hl => by
    unfold memF
    refine memF_sound i l _ ?_ fun x hx => hl x (by simp [hx])
    split
    · rename_i hc
      have := hl e (by simp) hc.1
      unfold cfgM at this ⊢
      cases hr : rdNum e.Data with
      | none => rw [hr] at this; cases this
      | some q =>
        rw [hr] at this
        simp only at this ⊢
        split at this
        · exact this
        · cases this
    · exact h
theorem li_comp {g : T_rlog_Log} (h : LI g) (i : Int) (d : List UInt8) (hi : 0 ≤ i ∧ i ≤ 18446744073709551615) : LI (compM g i d).2 ∧ (compM g i d).2.entries.length ≤ g.entries.length := by
  have h0 := h.len
  unfold compM
  rcases atM_cases g.snap.Index g.entries.length i with ⟨ha, _⟩ | ⟨k, ha, hk, hki⟩
  · rw [ha, if_pos (by omega)]
    exact ⟨h, Nat.le_refl _⟩
  · rw [ha, if_neg (by omega), Int.toNat_natCast]
    have e := h.at_ k hk
    have hd := chain_drop h.ch k hk
    rw [e, ← hki] at hd
    exact ⟨⟨hi, memF_sound i _ _ h.cf (fun x hx => (chain_mem _ _ _ h.ch x hx).2), hd, by show (g.entries.drop _).length ≤ 4000; rw [List.length_drop]; omega⟩, by show (g.entries.drop _).length ≤ _; rw [List.length_drop]; omega⟩
end Go.GL
