/- The law NetRuns, over the plain functions. -/
import Derived.Test.YtmpockelhphkdaaNet
set_option linter.unusedVariables false
set_option linter.unusedSimpArgs false
set_option maxRecDepth 10000
namespace Go.GL
open Go
def wf_T_api_Entry (x : T_api_Entry) : Prop := (fun n => (Lit.int .u64 n).wf = true) x.Term ∧ (fun n => (Lit.int .u64 n).wf = true) x.Index ∧ (fun n => (Lit.int .i64 n).wf = true) x.Kind ∧ (fun l => l.length ≤ reachBytes) x.Data
def ms_T_api_Entry (x : T_api_Entry) : Nat := (fun _ => 1) x.Term + (fun _ => 1) x.Index + (fun _ => 1) x.Kind + (fun l => l.length + 1) x.Data
def wf_T_api_Letter (x : T_api_Letter) : Prop := (fun n => (Lit.int .i64 n).wf = true) x.Kind ∧ (fun n => (Lit.int .i64 n).wf = true) x.From ∧ (fun n => (Lit.int .i64 n).wf = true) x.To ∧ (fun n => (Lit.int .u64 n).wf = true) x.Term ∧ (fun n => (Lit.int .u64 n).wf = true) x.Index ∧ (fun n => (Lit.int .u64 n).wf = true) x.Prev ∧ (fun n => (Lit.int .u64 n).wf = true) x.Commit ∧ (fun _ => True) x.Ok ∧ (fun xs => xs.length * 40 ≤ reachBytes ∧ ∀ x ∈ xs, wf_T_api_Entry x) x.Entries ∧ (fun l => l.length ≤ reachBytes) x.Data
def ms_T_api_Letter (x : T_api_Letter) : Nat := (fun _ => 1) x.Kind + (fun _ => 1) x.From + (fun _ => 1) x.To + (fun _ => 1) x.Term + (fun _ => 1) x.Index + (fun _ => 1) x.Prev + (fun _ => 1) x.Commit + (fun _ => 1) x.Ok + (fun xs => (xs.map ms_T_api_Entry).sum + 1) x.Entries + (fun l => l.length + 1) x.Data
def wf_T_tontinelaw10_Call (x : T_tontinelaw10_Call) : Prop := (fun n => (Lit.int .i64 n).wf = true) x.Kind ∧ (fun n => (Lit.int .i64 n).wf = true) x.I ∧ wf_T_api_Letter x.Letter
def ms_T_tontinelaw10_Call (x : T_tontinelaw10_Call) : Nat := (fun _ => 1) x.Kind + (fun _ => 1) x.I + ms_T_api_Letter x.Letter
/-- An entry's slice that memory can hold. -/
def fits (x : T_api_Letter) : Prop := x.Entries.length * 40 ≤ 140737488351232
theorem f_copied2 (n : Nat) (x : T_api_Letter) (h : fits x) : net_copied.f n x = some x := by
  unfold net_copied.f
  have h : x.Entries.length * 40 ≤ 140737488351232 := h
  have c : capOk 40 (([] : List T_api_Entry) ++ x.Entries).length := by rw [List.nil_append]; unfold capOk; omega
  rw [if_pos c]
  rfl
theorem f_Send2 (n : Nat) (m : T_net_Net) (x : T_api_Letter) (h : fits x) (hm : m.l.length ≤ 256) : net_Net_Send.f n m x = some (sendM m x) := by
  unfold net_Net_Send.f sendM
  by_cases h1 : m.l.length = 256
  · rw [if_pos (by simp; omega), if_pos h1]
  · have c : capOk 104 (m.l ++ [x]).length := by simp only [List.length_append, List.length_cons, List.length_nil]; unfold capOk; omega
    rw [if_neg (by simp; omega), if_neg h1, f_copied2 n x h, Option.bind_some, if_pos c]
def refN (m : T_net_Net) : T_tontineref10_Net := ⟨m.l, m.lost⟩
theorem r_Send2 (n : Nat) (m : T_net_Net) (x : T_api_Letter) (hm : m.l.length ≤ 256) : tontineref10_Net_Send.f n (refN m) x = some ((sendM m x).1, refN (sendM m x).2) := by
  unfold tontineref10_Net_Send.f sendM refN
  by_cases h1 : m.l.length = 256
  · rw [if_pos (by simp; omega), if_pos h1]
  · have c : capOk 104 (m.l ++ [x]).length := by simp only [List.length_append, List.length_cons, List.length_nil]; unfold capOk; omega
    rw [if_neg (by simp; omega), if_neg h1, if_pos c]
theorem both_place (n : Nat) (m : T_net_Net) (i : Int) (h : 0 < m.l.length) (hm : m.l.length ≤ 256) : ∃ k : Nat, k < m.l.length ∧ net_Net_place.f n m i = some (k : Int) ∧ tontineref10_Net_Place.f n (refN m) i = some (k : Int) := by
  have h1 : i.tmod (m.l.length : Int) < (m.l.length : Int) := Int.tmod_lt_of_pos i (by omega)
  have h2 : (-i).tmod (m.l.length : Int) < (m.l.length : Int) := Int.tmod_lt_of_pos (-i) (by omega)
  rw [Int.neg_tmod] at h2
  have w : wi64 (i.tmod (m.l.length : Int) + (m.l.length : Int)) = i.tmod (m.l.length : Int) + (m.l.length : Int) := wi64_id (by omega) (by omega)
  have hp : net_Net_place.f n m i = some (if i.tmod (m.l.length : Int) < 0 then i.tmod (m.l.length : Int) + (m.l.length : Int) else i.tmod (m.l.length : Int)) := by
    unfold net_Net_place.f
    rw [if_neg (by rw [beq_iff_eq]; omega), if_pos (by omega)]
    by_cases hn : i.tmod (m.l.length : Int) < 0
    · rw [if_pos (by simpa using hn), w, if_pos hn]
    · rw [if_neg (by simpa using hn), if_neg hn]
  have hr : tontineref10_Net_Place.f n (refN m) i = some ((i.tmod (m.l.length : Int) + (m.l.length : Int)).tmod (m.l.length : Int)) := by
    unfold tontineref10_Net_Place.f
    have e : (refN m).L = m.l := rfl
    rw [e, if_neg (by rw [beq_iff_eq]; omega), if_pos (by omega), w]
  rw [hp, hr]
  by_cases hn : i.tmod (m.l.length : Int) < 0
  · refine ⟨(i.tmod (m.l.length : Int) + (m.l.length : Int)).toNat, by omega, ?_, ?_⟩
    · rw [if_pos hn]; congr 1; omega
    · rw [Int.tmod_eq_of_lt (by omega) (by omega)]; congr 1; omega
  · have e : (i.tmod (m.l.length : Int) + (m.l.length : Int)).tmod (m.l.length : Int) = i.tmod (m.l.length : Int) := by
      rw [Int.tmod_eq_emod_of_nonneg (by omega), Int.add_emod_right]
      exact Int.emod_eq_of_lt (by omega) (by omega)
    refine ⟨(i.tmod (m.l.length : Int)).toNat, by omega, ?_, ?_⟩
    · rw [if_neg hn]; congr 1; omega
    · rw [e]; congr 1; omega
theorem r_take_l0 (n : Nat) (m : T_net_Net) (p : Nat) (hp : p < m.l.length) (hm : m.l.length ≤ 256) : ∀ (j k i : Nat), i + j = m.l.length → j < k →
    tontineref10_Net_Take.l0 n (refN m) (p : Int) k ((m.l.take i).take p ++ (m.l.take i).drop (p + 1)) (i : Int) = some (rdL m.l (p : Int), true, ⟨m.l.take p ++ m.l.drop (p + 1), m.lost⟩)
  | j, 0, i, _, hk => by omega
  | 0, k + 1, i, hi, _ => by
    have hl : m.l.take i = m.l := List.take_of_length_le (by omega)
    unfold tontineref10_Net_Take.l0
    rw [if_neg (by rw [decide_eq_true_eq]; show ¬ ((i : Int) < (m.l.length : Int)); omega), hl]
    rfl
  | j + 1, k + 1, i, hi, hk => by
    have hlt : i < m.l.length := by omega
    have ih := r_take_l0 n m p hp hm j k (i + 1) (by omega) (by omega)
    have w : wi64 ((i : Int) + 1) = ((i + 1 : Nat) : Int) := by rw [wi64_id (by omega) (by omega)]; omega
    have er : rdL (refN m).L (i : Int) = m.l[i] := by simp [rdL, refN, hlt]
    have es : m.l.take (i + 1) = m.l.take i ++ [m.l[i]] := by rw [List.take_add_one, List.getElem?_eq_getElem hlt]; rfl
    have hli : (m.l.take i).length = i := by rw [List.length_take]; omega
    unfold tontineref10_Net_Take.l0
    rw [if_pos (by rw [decide_eq_true_eq]; show (i : Int) < (m.l.length : Int); omega), w]
    by_cases hip : i = p
    · rw [if_neg (by simp [hip])]
      have e : (m.l.take (i + 1)).take p ++ (m.l.take (i + 1)).drop (p + 1) = (m.l.take i).take p ++ (m.l.take i).drop (p + 1) := by
        subst hip
        rw [List.drop_of_length_le (by rw [List.length_take]; omega), List.drop_of_length_le (by rw [List.length_take]; omega), List.take_take, List.take_take]
        congr 2
        omega
      rw [e] at ih
      exact ih
    · have c : capOk 104 ((m.l.take i).take p ++ (m.l.take i).drop (p + 1) ++ [m.l[i]]).length := by
        simp only [List.length_append, List.length_take, List.length_drop, List.length_cons, List.length_nil]; unfold capOk; omega
      rw [if_pos (by rw [bne_iff_ne]; omega), if_pos ⟨by omega, by show (i : Int) < (m.l.length : Int); omega⟩, er, if_pos c]
      have e : (m.l.take (i + 1)).take p ++ (m.l.take (i + 1)).drop (p + 1) = (m.l.take i).take p ++ (m.l.take i).drop (p + 1) ++ [m.l[i]] := by
        rcases Nat.lt_or_gt_of_ne hip with hlt2 | hgt
        · have a1 : (m.l.take (i + 1)).take p = m.l.take (i + 1) := List.take_of_length_le (by rw [List.length_take]; omega)
          have a2 : (m.l.take i).take p = m.l.take i := List.take_of_length_le (by omega)
          have a3 : (m.l.take (i + 1)).drop (p + 1) = [] := List.drop_of_length_le (by rw [List.length_take]; omega)
          have a4 : (m.l.take i).drop (p + 1) = [] := List.drop_of_length_le (by omega)
          rw [a1, a2, a3, a4, List.append_nil, List.append_nil]
          exact es
        · rw [es, List.take_append_of_le_length (by omega), List.drop_append_of_le_length (by omega), List.append_assoc]
      rw [e] at ih
      exact ih
theorem both_take (n : Nat) (hn : 1000 ≤ n) (m : T_net_Net) (i : Int) (hm : m.l.length ≤ 256) :
    (m.l = [] ∧ net_Net_Take.f n m i = some (⟨0, 0, 0, 0, 0, 0, 0, false, [], []⟩, false, m) ∧ tontineref10_Net_Take.f n (refN m) i = some (⟨0, 0, 0, 0, 0, 0, 0, false, [], []⟩, false, refN m)) ∨
    (∃ k, k < m.l.length ∧ net_Net_Take.f n m i = some (rdL m.l (k : Int), true, ⟨m.l.take k ++ m.l.drop (k + 1), m.lost⟩) ∧ tontineref10_Net_Take.f n (refN m) i = some (rdL m.l (k : Int), true, refN ⟨m.l.take k ++ m.l.drop (k + 1), m.lost⟩)) := by
  by_cases h : m.l.length = 0
  · obtain ⟨l, d⟩ := m
    have : l = [] := List.length_eq_zero_iff.1 h
    subst this
    exact .inl ⟨rfl, take0 n i d, rfl⟩
  · obtain ⟨k, hk, hp, hr⟩ := both_place n m i (by omega) hm
    refine .inr ⟨k, hk, take_of n m i k hp hk hm, ?_⟩
    unfold tontineref10_Net_Take.f
    rw [hr, Option.bind_some, if_neg (by rw [decide_eq_true_eq]; omega), if_pos ⟨by omega, by show (k : Int) < (m.l.length : Int); omega⟩]
    have := r_take_l0 n m k hk hm m.l.length n 0 (by omega) (by omega)
    rw [List.take_zero, List.take_nil, List.drop_nil, List.append_nil] at this
    exact this
/-- What holds all along. -/
structure NR (m : T_net_Net) (i : Nat) : Prop where
  len : m.l.length ≤ 256
  ent : ∀ y ∈ m.l, fits y
  l0 : 0 ≤ m.lost
  l1 : m.lost ≤ i
theorem all_l0 (n : Nat) (m : T_net_Net) (hm : m.l.length ≤ 256) (he : ∀ y ∈ m.l, fits y) : ∀ (j k i : Nat), i + j = m.l.length → j < k → net_Net_All.l0 n m k (m.l.take i) (i : Int) = some m.l
  | j, 0, i, _, h => by omega
  | 0, k + 1, i, hi, _ => by
    unfold net_Net_All.l0
    rw [if_neg (by simp; omega), List.take_of_length_le (by omega)]
  | j + 1, k + 1, i, hi, hk => by
    have hlt : i < m.l.length := by omega
    have er : rdL m.l (i : Int) = m.l[i] := by simp [rdL, hlt]
    have es : m.l.take (i + 1) = m.l.take i ++ [m.l[i]] := by rw [List.take_add_one, List.getElem?_eq_getElem hlt]; rfl
    unfold net_Net_All.l0
    have c : capOk 104 (m.l.take i ++ [m.l[i]]).length := by simp only [List.length_append, List.length_take, List.length_cons, List.length_nil]; unfold capOk; omega
    have := he _ (List.getElem_mem hlt)
    rw [if_pos (by simp; omega), if_pos ⟨by omega, by omega⟩, er, f_copied2 n _ this, Option.bind_some, if_pos c, wi64_id (by omega) (by omega), show ((i : Int) + 1) = ((i + 1 : Nat) : Int) by omega, ← es]
    exact all_l0 n m hm he j k (i + 1) (by omega) (by omega)
theorem f_All (n : Nat) (hn : 1000 ≤ n) (m : T_net_Net) (hm : m.l.length ≤ 256) (he : ∀ y ∈ m.l, fits y) : net_Net_All.f n m = some m.l := by
  have := all_l0 n m hm he m.l.length n 0 (by omega) (by omega)
  rw [List.take_zero] at this
  exact this
theorem rall_l0 (n : Nat) (hn : 140737488351232 ≤ n) (l : List T_api_Letter) (hl : l.length ≤ 256) (he : ∀ y ∈ l, fits y) : ∀ (j k i : Nat), i + j = l.length → j < k → tontineref10_All.l0 n l l k (i : Int) = some true
  | j, 0, i, _, h => by omega
  | 0, k + 1, i, hi, _ => by
    unfold tontineref10_All.l0
    rw [if_neg (by simp; omega)]
  | j + 1, k + 1, i, hi, hk => by
    have hm := he _ (rdL_mem (l := l) (i := i) (by omega))
    have hm : (rdL l (i : Int)).Entries.length * 40 ≤ 140737488351232 := hm
    unfold tontineref10_All.l0
    rw [if_pos (by simp; omega), if_pos ⟨by omega, by omega⟩, if_pos ⟨by omega, by omega⟩, same_x n _ (by omega) (by omega), Option.bind_some, if_neg (by simp), wi64_id (by omega) (by omega), show ((i : Int) + 1) = ((i + 1 : Nat) : Int) by omega]
    exact rall_l0 n hn l hl he j k (i + 1) (by omega) (by omega)
theorem r_All (n : Nat) (hn : 140737488351232 ≤ n) (l : List T_api_Letter) (hl : l.length ≤ 256) (he : ∀ y ∈ l, fits y) : tontineref10_All.f n l l = some true := by
  unfold tontineref10_All.f
  rw [if_neg (by simp)]
  exact rall_l0 n hn l hl he l.length n 0 (by omega) (by omega)
theorem runs_j0 (n : Nat) (hn : 140737488351232 ≤ n) (m : T_net_Net) (i : Nat) (h : NR m i) : tontinelaw10_NetRuns.j0 n m.l m.lost m.l = some true := by
  unfold tontinelaw10_NetRuns.j0
  have e : net_Net_All.f n (⟨m.l, m.lost⟩ : T_net_Net) = some m.l := f_All n (by omega) m h.len h.ent
  rw [e, Option.bind_some, r_All n hn m.l h.len h.ent]
  rfl
abbrev LR := List T_api_Letter → Int → List T_api_Letter → Int → Int → Option Bool
theorem runs_j1 (n : Nat) (hn : 140737488351232 ≤ n) (L : LR) (x : Int) (m : T_net_Net) (i : Nat) (h : NR m i) : tontinelaw10_NetRuns.j1 n L x m.l m.lost m.l m.lost = L m.l m.lost m.l m.lost (wi64 (x + 1)) := by
  have e : net_Net_All.f n (⟨m.l, m.lost⟩ : T_net_Net) = some m.l := f_All n (by omega) m h.len h.ent
  have ec : net_Net_Count.f n (⟨m.l, m.lost⟩ : T_net_Net) = some ((m.l.length : Int), m.lost) := rfl
  have e2 : tontinelaw10_NetRuns.j2 n L x m.l m.lost m.l m.lost false = L m.l m.lost m.l m.lost (wi64 (x + 1)) := rfl
  unfold tontinelaw10_NetRuns.j1
  rw [ec, Option.bind_some, if_neg (by simp), if_neg (by simp)]
  split
  · rw [e, Option.bind_some, r_All n hn m.l h.len h.ent, Option.bind_some]
    exact e2
  · exact e2
theorem nr_send {m : T_net_Net} {i : Nat} (h : NR m i) (hi : i < 1000) (x : T_api_Letter) (hx : fits x) : NR (sendM m x).2 (i + 1) := by
  have h1 := h.len
  have h2 := h.l0
  have h3 := h.l1
  unfold sendM
  split
  · have w : wi64 (m.lost + 1) = m.lost + 1 := wi64_id (by omega) (by omega)
    exact ⟨h.len, h.ent, by show 0 ≤ wi64 (m.lost + 1); omega, by show wi64 (m.lost + 1) ≤ _; omega⟩
  · refine ⟨by show (m.l ++ [x]).length ≤ 256; simp; omega, fun z hz => ?_, h2, by show m.lost ≤ _; omega⟩
    rcases List.mem_append.1 hz with hz | hz
    · exact h.ent z hz
    · rw [List.mem_singleton] at hz; rw [hz]; exact hx
theorem nr_cut {m : T_net_Net} {i : Nat} (h : NR m i) (k : Nat) (d : Int) (h0 : 0 ≤ d) (h1 : d ≤ (i : Int) + 1) : NR ⟨m.l.take k ++ m.l.drop (k + 1), d⟩ (i + 1) := by
  have hl := h.len
  refine ⟨by show (m.l.take k ++ m.l.drop (k + 1)).length ≤ 256; simp; omega, fun z hz => ?_, h0, by show d ≤ _; omega⟩
  rcases List.mem_append.1 hz with hz | hz
  · exact h.ent z (List.mem_of_mem_take hz)
  · exact h.ent z (List.mem_of_mem_drop hz)
theorem nr_more {m : T_net_Net} {i : Nat} (h : NR m i) : NR m (i + 1) := ⟨h.len, h.ent, h.l0, by have := h.l1; omega⟩
theorem runs_l0 (n : Nat) (hn : 140737488351232 ≤ n) (cs : List T_tontinelaw10_Call) (hc : cs.length ≤ 1000000000000000) (hw : ∀ c ∈ cs, fits c.Letter) : ∀ (j k i : Nat) (m : T_net_Net), NR m i → i ≤ 400 → i + j = 401 → j < k →
    tontinelaw10_NetRuns.l0 n cs k m.l m.lost m.l m.lost (i : Int) = some true
  | j, 0, i, m, _, _, _, h => by omega
  | j, k + 1, i, m, h, hi4, hi, hk => by
    unfold tontinelaw10_NetRuns.l0
    by_cases hlt : i < cs.length
    rotate_left
    · rw [if_neg (by rw [decide_eq_true_eq]; omega)]
      exact runs_j0 n hn m i h
    rw [if_pos (by rw [decide_eq_true_eq]; omega), if_pos ⟨by omega, by omega⟩]
    by_cases h4 : i = 400
    · rw [if_pos (by rw [beq_iff_eq]; omega)]
      exact runs_j0 n hn m i h
    rw [if_neg (by rw [beq_iff_eq]; omega)]
    have hcf := hw _ (rdL_mem (l := cs) (i := i) hlt)
    obtain ⟨c, hcc⟩ : ∃ c, rdL cs (i : Int) = c := ⟨_, rfl⟩
    rw [hcc] at hcf ⊢
    have hl := h.len
    have l0 := h.l0
    have l1 := h.l1
    have w : wi64 ((i : Int) + 1) = ((i + 1 : Nat) : Int) := by rw [wi64_id (by omega) (by omega)]; omega
    have ih : ∀ m', NR m' (i + 1) → tontinelaw10_NetRuns.j1 n (tontinelaw10_NetRuns.l0 n cs k) (i : Int) m'.l m'.lost m'.l m'.lost = some true := fun m' h' => by
      rw [runs_j1 n hn _ _ m' (i + 1) h', w]
      exact runs_l0 n hn cs hc hw (j - 1) k (i + 1) m' h' (by omega) (by omega) (by omega)
    have em : (⟨m.l, m.lost⟩ : T_net_Net) = m := rfl
    have er : (⟨m.l, m.lost⟩ : T_tontineref10_Net) = refN m := rfl
    rw [em, er]
    split
    · have e1 : net_Net_Send.f n m (⟨c.Letter.Kind, c.Letter.From, c.Letter.To, c.Letter.Term, c.Letter.Index, c.Letter.Prev, c.Letter.Commit, c.Letter.Ok, c.Letter.Entries, c.Letter.Data⟩ : T_api_Letter) = some (sendM m c.Letter) := f_Send2 n m c.Letter hcf hl
      have e2 : tontineref10_Net_Send.f n (refN m) (⟨c.Letter.Kind, c.Letter.From, c.Letter.To, c.Letter.Term, c.Letter.Index, c.Letter.Prev, c.Letter.Commit, c.Letter.Ok, c.Letter.Entries, c.Letter.Data⟩ : T_api_Letter) = some ((sendM m c.Letter).1, refN (sendM m c.Letter).2) := r_Send2 n m c.Letter hl
      rw [e1, Option.bind_some, e2, Option.bind_some, if_neg (by simp)]
      exact ih _ (nr_send h (by omega) c.Letter hcf)
    split
    · rcases both_take n (by omega) m c.I hl with ⟨h0, e1, e2⟩ | ⟨q, hq, e1, e2⟩
      · rw [e1, Option.bind_some, e2, Option.bind_some, if_neg (by simp), same_x n _ (by simp) (by simp; omega), Option.bind_some]
        unfold tontinelaw10_NetRuns.j3
        rw [if_neg (by simp)]
        exact ih m (nr_more h)
      · have hf := h.ent _ (rdL_mem (l := m.l) (i := q) hq)
        have hf : (rdL m.l (q : Int)).Entries.length * 40 ≤ 140737488351232 := hf
        rw [e1, Option.bind_some, e2, Option.bind_some, if_neg (by simp), same_x n (rdL m.l (q : Int)) (by omega) (by omega), Option.bind_some]
        unfold tontinelaw10_NetRuns.j3
        rw [if_neg (by simp)]
        exact ih _ (nr_cut h q m.lost l0 (by omega))
    split
    · have wl : wi64 (m.lost + 1) = m.lost + 1 := wi64_id (by omega) (by omega)
      rcases both_take n (by omega) m c.I hl with ⟨h0, e1, e2⟩ | ⟨q, hq, e1, e2⟩
      · have e3 : net_Net_Lose.f n m c.I = some (false, m) := by unfold net_Net_Lose.f; rw [e1, Option.bind_some, if_neg (by simp)]
        rw [e2, Option.bind_some, if_neg (by simp)]
        unfold tontinelaw10_NetRuns.j4
        rw [hcc, em, e3, Option.bind_some, if_neg (by simp)]
        exact ih m (nr_more h)
      · have e3 : net_Net_Lose.f n m c.I = some (true, ⟨m.l.take q ++ m.l.drop (q + 1), m.lost + 1⟩) := by unfold net_Net_Lose.f; rw [e1, Option.bind_some, if_pos rfl, wl]
        rw [e2, Option.bind_some, if_pos rfl]
        unfold tontinelaw10_NetRuns.j4
        rw [hcc, em, e3, Option.bind_some, if_neg (by simp)]
        have := ih ⟨m.l.take q ++ m.l.drop (q + 1), m.lost + 1⟩ (nr_cut h q (m.lost + 1) (by omega) (by omega))
        rw [← wl] at this
        rw [← wl]
        exact this
    · by_cases h0 : m.l.length = 0
      · obtain ⟨l, d⟩ := m
        have hnil : l = [] := List.length_eq_zero_iff.1 h0
        subst hnil
        have e1 : tontineref10_Net_Place.f n (refN ⟨[], d⟩) c.I = some (-1) := rfl
        have e2 : net_Net_Double.f n (⟨[], d⟩ : T_net_Net) c.I = some (false, ⟨[], d⟩) := rfl
        rw [e1, Option.bind_some, e2, Option.bind_some, if_neg (by simp)]
        unfold tontinelaw10_NetRuns.j5
        rw [if_neg (by simp)]
        exact ih ⟨[], d⟩ (nr_more h)
      · obtain ⟨q, hq, p1, p2⟩ := both_place n m c.I (by omega) hl
        have hf := h.ent _ (rdL_mem (l := m.l) (i := q) hq)
        have e2 : net_Net_Double.f n m c.I = some ((sendM m (rdL m.l (q : Int))).1, (sendM m (rdL m.l (q : Int))).2) := by
          unfold net_Net_Double.f
          rw [p1, Option.bind_some, if_neg (by rw [decide_eq_true_eq]; omega), if_pos ⟨by omega, by omega⟩, f_Send2 n m _ hf hl]
          rfl
        have e3 : (if (0 : Int) > (q : Int) then (0 : Int) else (q : Int)) = (q : Int) := if_neg (by omega)
        rw [p2, Option.bind_some, e2, Option.bind_some, if_pos (by rw [decide_eq_true_eq]; omega), e3, if_pos ⟨by omega, by omega⟩, r_Send2 n m _ hl, Option.bind_some]
        unfold tontinelaw10_NetRuns.j5
        rw [if_neg (by simp)]
        exact ih _ (nr_send h (by omega) _ hf)
theorem light_some (n : Nat) (cs : List T_tontinelaw10_Call) (hc : cs.length ≤ 1000000000000000) : ∀ (j k i : Nat) (a : Int), i + j = cs.length → j < k → ∃ b, tontinelaw10_light.l0 n cs k a (i : Int) = some b
  | j, 0, i, _, _, h => by omega
  | 0, k + 1, i, a, hi, _ => by
    unfold tontinelaw10_light.l0
    rw [if_neg (by rw [decide_eq_true_eq]; omega)]
    exact ⟨_, rfl⟩
  | j + 1, k + 1, i, a, hi, hk => by
    unfold tontinelaw10_light.l0
    rw [if_pos (by rw [decide_eq_true_eq]; omega), if_pos ⟨by omega, by omega⟩, wi64_id (x := (i : Int) + 1) (by omega) (by omega), show ((i : Int) + 1) = ((i + 1 : Nat) : Int) by omega]
    exact light_some n cs hc j k (i + 1) _ (by omega) (by omega)
theorem tontinelaw10_NetRuns_law (cs : List T_tontinelaw10_Call) (h : cs.length * 120 ≤ reachBytes ∧ ∀ x ∈ cs, wf_T_tontinelaw10_Call x) : Ev (fun n => tontinelaw10_NetRuns.f n cs) true := by
  have hr : reachBytes = 140737488351232 := by decide
  unfold tontinelaw10_NetRuns.f
  refine Ev.bind (Ev.ge 40 begun10) (Ev.ge 140737488361232 fun n hn => ?_)
  rw [if_neg (by simp)]
  obtain ⟨b, hb⟩ := light_some n cs (by omega) cs.length n 0 0 (by omega) (by omega)
  have hb : tontinelaw10_light.f n cs = some b := hb
  rw [hb, Option.bind_some]
  cases b
  · rw [if_pos (by simp)]
  · rw [if_neg (by simp)]
    have e : net_New.f n = some (⟨[], 0⟩ : T_net_Net) := rfl
    rw [e, Option.bind_some]
    exact runs_l0 n (by omega) cs (by omega) (fun c hc => by have := (h.2 c hc).2.2.2.2.2.2.2.2.2.2.1; rw [hr] at this; exact this.1) 401 n 0 (⟨[], 0⟩ : T_net_Net) ⟨by simp, by simp, by simp, by simp⟩ (by omega) (by omega) (by omega)
end Go.GL
