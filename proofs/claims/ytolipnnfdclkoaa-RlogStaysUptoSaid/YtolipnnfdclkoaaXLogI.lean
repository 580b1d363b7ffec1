/- Logs: both at once, call by call; the weight of many calls. -/
import Derived.Test.YtolipnnfdclkoaaXLogH
import Derived.Test.YtolipnnfdclkoaaXLogF
set_option linter.unusedVariables false
set_option linter.unusedSimpArgs false
set_option maxRecDepth 10000
namespace Go.GL
open Go
theorem mrg_len (s : T_api_Snapshot) (l : List T_api_Entry) : ∀ c : List T_api_Entry, (mrg s l c).1.length ≤ c.length
  | [] => by simp [mrg]
  | e :: c => by
    have := mrg_len s l c
    unfold mrg
    split
    · simp only [List.length_cons]; omega
    · simp
theorem skip_len (si : Int) : ∀ (c : List T_api_Entry) (i t : Int), (skipM si i t c).2.2.length ≤ c.length
  | [], i, t => by simp [skipM]
  | e :: c, i, t => by
    unfold skipM
    split
    · have := skip_len si c e.Index e.Term
      simp only [List.length_cons]; omega
    · simp
theorem merge_len (s : T_api_Snapshot) (l : List T_api_Entry) (i t : Int) (c : List T_api_Entry) : (mergeM s l i t c).1.length ≤ c.length := by
  unfold mergeM
  split
  · have h1 := skip_len s.Index c i t
    have h2 := mrg_len s l (skipM s.Index i t c).2.2
    unfold tailM
    split
    · simp
    · split
      · simp only; omega
      · simp
  · simp
theorem f_both (n : Nat) (g : T_rlog_Log) (h : LI g) (c : T_tontinelaw07_Call) (hc : wf_T_tontinelaw07_Call c) (hn : 6000 + c.L.length ≤ n) (hl : g.entries.length + 1 + c.L.length ≤ 1000) :
    ∃ g', LI g' ∧ g'.entries.length ≤ g.entries.length + 1 + c.L.length ∧ tontinelaw07_both.f n g (refL g) c = some (true, g', refL g') := by
  obtain ⟨c1, c2, c3, c4, c5, c6, c7⟩ := hc
  have hi := wf_u64 c2
  have hd : c.Data.length < 9000000000000000000 := by have : c.Data.length ≤ reachBytes := c5; unfold reachBytes at this; omega
  have hdc : ∀ e ∈ c.L, e.Data.length < 9000000000000000000 := fun e he => by have := (c6.2 e he).2.2.2; unfold reachBytes at this; omega
  have huc : ∀ e ∈ c.L, 0 ≤ e.Index ∧ e.Index ≤ 18446744073709551615 := fun e he => wf_u64 (c6.2 e he).2.1
  have esm := same07 n (mergeM g.snap g.entries c.Index c.Term c.L).1 (by have := merge_len g.snap g.entries c.Index c.Term c.L; omega) (by have := merge_len g.snap g.entries c.Index c.Term c.L; omega)
  have b0 : rlog_Log_Add.f n ⟨⟨g.snap.Index, g.snap.Term, g.snap.Config, g.snap.Data⟩, g.entries⟩ c.Term c.What c.Data = some (addM g c.Term c.What c.Data) := p_Add n (by omega) g h _ _ _ hd
  have b0' : tontineref07_Log_Add.f n ⟨⟨(refL g).Snap.Index, (refL g).Snap.Term, (refL g).Snap.Config, (refL g).Snap.Data⟩, (refL g).L⟩ c.Term c.What c.Data = some ((addM g c.Term c.What c.Data).1, (addM g c.Term c.What c.Data).2.1, refL (addM g c.Term c.What c.Data).2.2) := r_Add n (by omega) g h _ _ _ hd
  have b1 : rlog_Log_Merge.f n ⟨⟨g.snap.Index, g.snap.Term, g.snap.Config, g.snap.Data⟩, g.entries⟩ c.Index c.Term c.L = some (outM g.snap (mergeM g.snap g.entries c.Index c.Term c.L)) := p_Merge n g c.Index c.Term c.L (by omega) h.ix hi (by omega) hdc huc (fun _ => by omega)
  have b1' : tontineref07_Log_Merge.f n ⟨⟨(refL g).Snap.Index, (refL g).Snap.Term, (refL g).Snap.Config, (refL g).Snap.Data⟩, (refL g).L⟩ c.Index c.Term c.L = some (outR g.snap (mergeM g.snap g.entries c.Index c.Term c.L)) := r_Merge n g h c.Index c.Term c.L (by omega) hi (by omega) hdc huc
  have b2 : rlog_Log_Cut.f n ⟨⟨g.snap.Index, g.snap.Term, g.snap.Config, g.snap.Data⟩, g.entries⟩ c.Index = some (cutM g c.Index) := p_Cut n g h _ hi
  have b2' : tontineref07_Log_Cut.f n ⟨⟨(refL g).Snap.Index, (refL g).Snap.Term, (refL g).Snap.Config, (refL g).Snap.Data⟩, (refL g).L⟩ c.Index = some (refL (cutM g c.Index)) := r_Cut n g h _ (by omega)
  have b3 : rlog_Log_Compact.f n ⟨⟨g.snap.Index, g.snap.Term, g.snap.Config, g.snap.Data⟩, g.entries⟩ c.Index c.Data = some (compM g c.Index c.Data) := p_Compact n g _ _ (by omega) h.ix hi (by omega) h.dat
  have b3' : tontineref07_Log_Compact.f n ⟨⟨(refL g).Snap.Index, (refL g).Snap.Term, (refL g).Snap.Config, (refL g).Snap.Data⟩, (refL g).L⟩ c.Index c.Data = some ((compM g c.Index c.Data).1, refL (compM g c.Index c.Data).2) := r_Comp n g h _ _ (by omega)
  have b4 : rlog_Log_Install.f n ⟨⟨g.snap.Index, g.snap.Term, g.snap.Config, g.snap.Data⟩, g.entries⟩ ⟨c.Snap.Index, c.Snap.Term, c.Snap.Config, c.Snap.Data⟩ = some (instM g c.Snap) := p_Inst n g h c.Snap (wf_u64 c7.1) (wf_u64 c7.2.2.1)
  have b4' : tontineref07_Log_Install.f n ⟨⟨(refL g).Snap.Index, (refL g).Snap.Term, (refL g).Snap.Config, (refL g).Snap.Data⟩, (refL g).L⟩ ⟨c.Snap.Index, c.Snap.Term, c.Snap.Config, c.Snap.Data⟩ = some ((instM g c.Snap).1, refL (instM g c.Snap).2) := r_Inst n g h c.Snap (by omega)
  unfold tontinelaw07_both.f
  split
  · obtain ⟨q1, q2⟩ := li_add h (by omega) c.Term c.What c.Data
    refine ⟨_, q1, by omega, ?_⟩
    rw [b0, Option.bind_some, b0', Option.bind_some, if_pos (by simp)]
    simp
  split
  · obtain ⟨q1, q2⟩ := li_merge h c.L c.Index c.Term hi (by omega)
    refine ⟨_, q1, by show (mergeM g.snap g.entries c.Index c.Term c.L).2.2.length ≤ _; omega, ?_⟩
    rw [b1, Option.bind_some, b1', Option.bind_some]
    refine (congrArg (fun o => Option.bind o _) esm).trans ?_
    rw [Option.bind_some, if_pos rfl]
    simp [outM, outR, refL]
  split
  · obtain ⟨q1, q2⟩ := li_cut h c.Index
    refine ⟨_, q1, by omega, ?_⟩
    rw [b2, Option.bind_some, b2', Option.bind_some]
  split
  · obtain ⟨q1, q2⟩ := li_comp h c.Index c.Data hi
    refine ⟨_, q1, by omega, ?_⟩
    rw [b3, Option.bind_some, b3', Option.bind_some]
    simp
  split
  · obtain ⟨q1, q2⟩ := li_inst h c.Snap (wf_u64 c7.1)
    refine ⟨_, q1, by omega, ?_⟩
    rw [b4, Option.bind_some, b4', Option.bind_some]
    simp
  · exact ⟨g, h, by omega, rfl⟩
theorem get_whole (g : T_rlog_Log) (h : LI g) (m : Nat) (hl : g.entries.length ≤ m) : getM g.snap g.entries (wu64 (g.snap.Index + 1)) (m : Int) = g.entries := by
  have h1 := h.last
  have h2 := h.ix
  unfold getM
  by_cases h0 : 0 < g.entries.length
  · rw [wu64_id (by omega) (by omega), atM_at g.snap.Index g.entries.length (g.snap.Index + 1) 0 (by omega) h0, if_neg (by omega), Int.toNat_natCast, Int.toNat_natCast, List.drop_zero, List.take_of_length_le hl]
  · have : atM g.snap.Index g.entries.length (wu64 (g.snap.Index + 1)) = -1 := by
      unfold atM
      rw [if_neg]
      rw [next_u64 h2]
      split <;> omega
    rw [this, if_pos (.inl (by omega)), List.length_eq_zero_iff.1 (by omega : g.entries.length = 0)]
theorem f_alike (n : Nat) (hn : 6000 ≤ n) (g : T_rlog_Log) (h : LI g) (i m : Int) (hi : 0 ≤ i ∧ i ≤ 18446744073709551615) (hl : g.entries.length ≤ 1000) : tontinelaw07_alike.f n g (refL g) i m = some true := by
  have hs := h.ix
  have hsu : 0 ≤ wu64 (g.snap.Index + 1) ∧ wu64 (g.snap.Index + 1) ≤ 18446744073709551615 := by rw [next_u64 hs]; split <;> omega
  have a1 : rlog_Log_Last.f n ⟨⟨g.snap.Index, g.snap.Term, g.snap.Config, g.snap.Data⟩, g.entries⟩ = some (lastP g.snap.Index g.snap.Term g.entries) := p_Last n g (by omega)
  have a2 : tontineref07_Log_Last.f n ⟨⟨(refL g).Snap.Index, (refL g).Snap.Term, (refL g).Snap.Config, (refL g).Snap.Data⟩, (refL g).L⟩ = some (lastP g.snap.Index g.snap.Term g.entries) := r_Last n g (by omega)
  have a3 : rlog_Log_Term.f n ⟨⟨g.snap.Index, g.snap.Term, g.snap.Config, g.snap.Data⟩, g.entries⟩ i = some (termM g.snap g.entries i) := p_Term n g i hs hi (by omega)
  have a4 : tontineref07_Log_Term.f n ⟨⟨(refL g).Snap.Index, (refL g).Snap.Term, (refL g).Snap.Config, (refL g).Snap.Data⟩, (refL g).L⟩ i = some (termM g.snap g.entries i) := r_Term n g h i (by omega)
  have a5 : rlog_Log_Members.f n ⟨⟨g.snap.Index, g.snap.Term, g.snap.Config, g.snap.Data⟩, g.entries⟩ = some (memF 18446744073709551615 (g.snap.Config, g.snap.Index) g.entries) := p_Members n g (by omega) (by omega) h.dat
  have a6 : tontineref07_Log_MembersAt.f n ⟨⟨(refL g).Snap.Index, (refL g).Snap.Term, (refL g).Snap.Config, (refL g).Snap.Data⟩, (refL g).L⟩ 18446744073709551615 = some (memF 18446744073709551615 (g.snap.Config, g.snap.Index) g.entries) := r_Mem n g h _ (by omega)
  have a7 : rlog_Log_MembersAt.f n ⟨⟨g.snap.Index, g.snap.Term, g.snap.Config, g.snap.Data⟩, g.entries⟩ i = some (memF i (g.snap.Config, g.snap.Index) g.entries) := p_Mem n g i (by omega) (by omega) h.dat
  have a8 : tontineref07_Log_MembersAt.f n ⟨⟨(refL g).Snap.Index, (refL g).Snap.Term, (refL g).Snap.Config, (refL g).Snap.Data⟩, (refL g).L⟩ i = some (memF i (g.snap.Config, g.snap.Index) g.entries) := r_Mem n g h i (by omega)
  have a9 : rlog_Log_First.f n ⟨⟨g.snap.Index, g.snap.Term, g.snap.Config, g.snap.Data⟩, g.entries⟩ = some g.snap := rfl
  have a10 : rlog_Log_Get.f n ⟨⟨g.snap.Index, g.snap.Term, g.snap.Config, g.snap.Data⟩, g.entries⟩ (wu64 ((refL g).Snap.Index + 1)) 1000 = some g.entries := by
    refine (p_Get n g (wu64 (g.snap.Index + 1)) 1000 hs hsu (by omega)).trans ?_
    rw [show (1000 : Int) = ((1000 : Nat) : Int) by rfl, get_whole g h 1000 hl]
  have a11 : rlog_Log_Get.f n ⟨⟨g.snap.Index, g.snap.Term, g.snap.Config, g.snap.Data⟩, g.entries⟩ i m = some (getM g.snap g.entries i m) := p_Get n g i m hs hi (by omega)
  have a12 : tontineref07_Log_Get.f n ⟨⟨(refL g).Snap.Index, (refL g).Snap.Term, (refL g).Snap.Config, (refL g).Snap.Data⟩, (refL g).L⟩ i m = some (getM g.snap g.entries i m) := r_Get n g h i m (by omega)
  have s1 : tontineref07_Same.f n g.entries (refL g).L = some true := same07 n g.entries (by omega) (by omega)
  have hgl : (getM g.snap g.entries i m).length ≤ 1000 := by
    unfold getM
    split
    · simp
    · rw [List.length_take, List.length_drop]; omega
  have s2 := same07 n (getM g.snap g.entries i m) (by omega) (by omega)
  have t1 : ∀ x : Int, (x == x) = true := fun x => by simp
  have fs : ((g.snap.Index == (refL g).Snap.Index) && ((g.snap.Term == (refL g).Snap.Term) && ((g.snap.Config == (refL g).Snap.Config) && ((g.snap.Data == (refL g).Snap.Data) && true)))) = true := by simp [refL]
  unfold tontinelaw07_alike.f tontinelaw07_alike.j0 tontinelaw07_alike.j1 tontinelaw07_alike.j2 tontinelaw07_alike.j3 tontinelaw07_alike.j4 tontinelaw07_alike.j5 tontinelaw07_alike.j6 tontinelaw07_alike.j7
  rw [a1, Option.bind_some, a2, Option.bind_some, a3, Option.bind_some, a4, Option.bind_some, a5, Option.bind_some, a6, Option.bind_some, a7, Option.bind_some, a8, Option.bind_some]
  simp only [t1, if_true, a9, Option.bind_some, fs, a10, s1, a11, a12, s2]
def wsum (cs : List T_tontinelaw07_Call) : Nat := (cs.map fun c => c.L.length).sum
theorem light_l0 (n : Nat) (l : List T_api_Entry) (hl : l.length ≤ 2000000) (hln : l.length < n) (hd : ∀ e ∈ l, e.Data.length ≤ 2000000) (cs : List T_tontinelaw07_Call) (hcl : cs.length ≤ 2000000) (hc : ∀ c ∈ cs, c.L.length ≤ 2000000 ∧ c.L.length < n ∧ c.Data.length ≤ 2000000 ∧ ∀ e ∈ c.L, e.Data.length ≤ 2000000) :
    ∀ (j k x : Nat) (a : Nat), x + j = cs.length → j < k → a + 50000000000 * j ≤ 8000000000000000000 → ∃ N : Nat, a + wsum (cs.drop x) ≤ N ∧ tontinelaw07_light.l0 n l cs k (a : Int) (x : Int) = some (decide ((N : Int) ≤ 800))
  | j, 0, x, _, _, h, _ => by omega
  | 0, k + 1, x, a, hx, _, hb => by
    obtain ⟨N, h1, h2, h3⟩ := light_l2 n l (by omega) hd l.length n 0 a (by omega) hln (by omega)
    unfold tontinelaw07_light.l0
    rw [if_neg (by rw [decide_eq_true_eq]; omega), List.drop_of_length_le (by omega)]
    exact ⟨N, by simp [wsum]; omega, h3⟩
  | j + 1, k + 1, x, a, hx, hk, hb => by
    have hlt : x < cs.length := by omega
    obtain ⟨d1, d2, d3, d4⟩ := hc _ (rdL_mem hlt)
    have et : ((rdL cs (x : Int)).Data.length : Int).tdiv 100 = (((rdL cs (x : Int)).Data.length / 100 : Nat) : Int) := by
      rw [Int.tdiv_eq_ediv_of_nonneg (by omega)]; omega
    have w : wi64 ((a : Int) + wi64 (((rdL cs (x : Int)).L.length : Int) + wi64 (((rdL cs (x : Int)).Data.length : Int).tdiv 100))) = ((a + (rdL cs (x : Int)).L.length + (rdL cs (x : Int)).Data.length / 100 : Nat) : Int) := by
      rw [et, wi64_id (x := (((rdL cs (x : Int)).Data.length / 100 : Nat) : Int)) (by omega) (by omega), wi64_id (x := ((rdL cs (x : Int)).L.length : Int) + (((rdL cs (x : Int)).Data.length / 100 : Nat) : Int)) (by omega) (by omega), wi64_id (by omega) (by omega)]
      omega
    unfold tontinelaw07_light.l0
    rw [if_pos (by rw [decide_eq_true_eq]; omega), if_pos ⟨by omega, by omega⟩, w]
    obtain ⟨N, n1, n2, hv⟩ := light_l1 n (tontinelaw07_light.l0 n l cs k) cs x (rdL cs (x : Int)) rfl (by omega) d4 (rdL cs (x : Int)).L.length n 0 (a + (rdL cs (x : Int)).L.length + (rdL cs (x : Int)).Data.length / 100) (by omega) d2 (by omega)
    obtain ⟨N2, m1, m2⟩ := light_l0 n l hl hln hd cs hcl hc j k (x + 1) N (by omega) (by omega) (by omega)
    refine ⟨N2, ?_, ?_⟩
    · rw [getD_drop hlt]
      simp only [wsum, List.map_cons, List.sum_cons] at m1 ⊢
      omega
    · refine hv.trans ?_
      rw [wi64_id (by omega) (by omega), show ((x : Int) + 1) = ((x + 1 : Nat) : Int) by omega]
      exact m2
theorem le_sum {α : Type} (f : α → Nat) : ∀ (l : List α) (x : α), x ∈ l → f x ≤ (l.map f).sum
  | [], x, h => by cases h
  | y :: l, x, h => by
    simp only [List.map_cons, List.sum_cons]
    rcases List.mem_cons.1 h with h | h
    · subst h; omega
    · have := le_sum f l x h; omega
theorem len_sum {α : Type} (f : α → Nat) (hf : ∀ x, 1 ≤ f x) : ∀ (l : List α), l.length ≤ (l.map f).sum
  | [] => by simp
  | y :: l => by
    have := len_sum f hf l
    have := hf y
    simp only [List.map_cons, List.sum_cons, List.length_cons]
    omega
theorem light_ge (n : Nat) (s : T_api_Snapshot) (l : List T_api_Entry) (cs : List T_tontinelaw07_Call) (hsm : ms_T_api_Snapshot s + ((l.map ms_T_api_Entry).sum + 1) + ((cs.map ms_T_tontinelaw07_Call).sum + 1) ≤ 1048576) (hn : 2000000 ≤ n) :
    l.length ≤ 1048576 ∧ (∀ c ∈ cs, c.L.length ≤ 1048576) ∧ cs.length ≤ 1048576 ∧ ∃ N : Nat, l.length + cs.length + wsum cs ≤ N ∧ tontinelaw07_light.f n l cs = some (decide ((N : Int) ≤ 800)) := by
  have e1 : ∀ e : T_api_Entry, 1 ≤ ms_T_api_Entry e := fun e => by simp only [ms_T_api_Entry]; omega
  have e2 : ∀ e : T_api_Entry, e.Data.length ≤ ms_T_api_Entry e := fun e => by simp only [ms_T_api_Entry]; omega
  have c1 : ∀ c : T_tontinelaw07_Call, 1 ≤ ms_T_tontinelaw07_Call c := fun c => by simp only [ms_T_tontinelaw07_Call]; omega
  have hl := len_sum ms_T_api_Entry e1 l
  have hcl := len_sum ms_T_tontinelaw07_Call c1 cs
  have hd : ∀ e ∈ l, e.Data.length ≤ 1048576 := fun e he => by have := le_sum ms_T_api_Entry l e he; have := e2 e; omega
  have hc : ∀ c ∈ cs, c.L.length ≤ 1048576 ∧ c.Data.length ≤ 1048576 ∧ ∀ e ∈ c.L, e.Data.length ≤ 1048576 := by
    intro c hcm
    have h1 := le_sum ms_T_tontinelaw07_Call cs c hcm
    have h2 := len_sum ms_T_api_Entry e1 c.L
    have h3 : (c.L.map ms_T_api_Entry).sum ≤ ms_T_tontinelaw07_Call c := by simp only [ms_T_tontinelaw07_Call]; omega
    have h4 : c.Data.length ≤ ms_T_tontinelaw07_Call c := by simp only [ms_T_tontinelaw07_Call]; omega
    exact ⟨by omega, by omega, fun e he => by have := le_sum ms_T_api_Entry c.L e he; have := e2 e; omega⟩
  refine ⟨by omega, fun c hcm => (hc c hcm).1, by omega, ?_⟩
  obtain ⟨N, n1, n2⟩ := light_l0 n l (by omega) (by omega) (fun e he => by have := hd e he; omega) cs (by omega) (fun c hcm => by obtain ⟨a, b, d⟩ := hc c hcm; exact ⟨by omega, by omega, by omega, fun e he => by have := d e he; omega⟩) cs.length n 0 (l.length + cs.length) (by omega) (by omega) (by omega)
  refine ⟨N, by simpa using n1, ?_⟩
  unfold tontinelaw07_light.f
  rw [wi64_id (by omega) (by omega), show ((l.length : Int) + (cs.length : Int)) = ((l.length + cs.length : Nat) : Int) by omega]
  exact n2
end Go.GL
