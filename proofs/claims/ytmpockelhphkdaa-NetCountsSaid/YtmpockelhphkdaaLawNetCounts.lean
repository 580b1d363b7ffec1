/- The law NetCounts, over the plain functions. -/
import Derived.Test.YtmpockelhphkdaaNet
set_option linter.unusedVariables false
set_option linter.unusedSimpArgs false
set_option maxRecDepth 10000
namespace Go.GL
open Go
/-- What holds all along: the net is small, its letters hold no entries, and what was sent is told by the counts. -/
structure NC (m : T_net_Net) (sent taken : Int) (i : Nat) : Prop where
  len : m.l.length ≤ 256
  ent : ∀ y ∈ m.l, y.Entries.length ≤ 1000
  l0 : 0 ≤ m.lost
  l1 : m.lost ≤ i
  t0 : 0 ≤ taken
  t1 : taken ≤ i
  s : sent = (m.l.length : Int) + taken + m.lost
theorem nc_step {m : T_net_Net} {s t : Int} {i : Nat} (h : NC m s t i) : NC m s t (i + 1) :=
  ⟨h.len, h.ent, h.l0, by have := h.l1; omega, h.t0, by have := h.t1; omega, h.s⟩
theorem nc_send {m : T_net_Net} {s t : Int} {i : Nat} (h : NC m s t i) (hi : i < 1000) (n : Nat) (y : T_api_Letter) (hy : y.Entries.length ≤ 1000) :
    ∃ b m', net_Net_Send.f n m y = some (b, m') ∧ NC m' (wi64 (s + 1)) t (i + 1) := by
  have h1 := h.len
  have h2 := h.l0
  have h3 := h.l1
  have h4 := h.t0
  have h5 := h.t1
  have h6 := h.s
  rw [f_Send n m y (by omega) h.len]
  unfold sendM
  split
  · refine ⟨_, _, rfl, ⟨h.len, h.ent, ?_, ?_, h.t0, by omega, ?_⟩⟩
    · show 0 ≤ wi64 (m.lost + 1)
      rw [wi64_id (by omega) (by omega)]; omega
    · show wi64 (m.lost + 1) ≤ _
      rw [wi64_id (by omega) (by omega)]; omega
    · show wi64 (s + 1) = (m.l.length : Int) + t + wi64 (m.lost + 1)
      rw [wi64_id (by omega) (by omega), wi64_id (by omega) (by omega)]; omega
  · refine ⟨_, _, rfl, ⟨?_, ?_, h2, by show m.lost ≤ _; omega, h4, by omega, ?_⟩⟩
    · show (m.l ++ [y]).length ≤ 256
      simp; omega
    · intro z hz
      rcases List.mem_append.1 hz with hz | hz
      · exact h.ent z hz
      · rw [List.mem_singleton] at hz; rw [hz]; exact hy
    · show wi64 (s + 1) = ((m.l ++ [y]).length : Int) + t + m.lost
      rw [wi64_id (by omega) (by omega)]; simp; omega
theorem nc_take (n : Nat) (m : T_net_Net) (hm : m.l.length ≤ 256) (i : Int) :
    (m.l.length = 0 ∧ ∃ x, net_Net_Take.f n m i = some (x, false, m)) ∨ (∃ x k, k < m.l.length ∧ net_Net_Take.f n m i = some (x, true, ⟨m.l.take k ++ m.l.drop (k + 1), m.lost⟩)) := by
  by_cases h : m.l.length = 0
  · refine .inl ⟨h, ?_⟩
    obtain ⟨l, d⟩ := m
    have : l = [] := List.length_eq_zero_iff.1 h
    subst this
    exact ⟨_, take0 n i d⟩
  · obtain ⟨k, hp, hk, _⟩ := f_place n m i (by omega) hm
    exact .inr ⟨_, k, hk, take_of n m i k hp hk hm⟩
theorem nc_cut {m : T_net_Net} {s t : Int} {i : Nat} (h : NC m s t i) (hi : i < 1000) (k : Nat) (hk : k < m.l.length) (d : Int) (t' : Int) (hd : (d = m.lost ∧ t' = t + 1) ∨ (d = m.lost + 1 ∧ t' = t)) :
    NC ⟨m.l.take k ++ m.l.drop (k + 1), d⟩ s t' (i + 1) := by
  have h1 := h.len
  have h2 := h.l0
  have h3 := h.l1
  have h4 := h.t0
  have h5 := h.t1
  have h6 := h.s
  have e : (m.l.take k ++ m.l.drop (k + 1)).length = m.l.length - 1 := by simp; omega
  refine ⟨by show (m.l.take k ++ m.l.drop (k + 1)).length ≤ 256; omega, fun z hz => ?_, by show 0 ≤ d; omega, by show d ≤ _; omega, by omega, by omega, ?_⟩
  · rcases List.mem_append.1 hz with hz | hz
    · exact h.ent z (List.mem_of_mem_take hz)
    · exact h.ent z (List.mem_of_mem_drop hz)
  · show s = ((m.l.take k ++ m.l.drop (k + 1)).length : Int) + t' + d
    omega
theorem nc_all0 (n : Nat) (m : T_net_Net) (hm : m.l.length ≤ 256) (he : ∀ y ∈ m.l, y.Entries.length ≤ 1000) : ∀ (j k i : Nat) (r : List T_api_Letter), i + j = m.l.length → r.length = i → j < k →
    ∃ r', net_Net_All.l0 n m k r (i : Int) = some r' ∧ r'.length = m.l.length
  | j, 0, i, r, _, _, h => by omega
  | 0, k + 1, i, r, hi, hr, _ => by
    unfold net_Net_All.l0
    rw [if_neg (by simp; omega)]
    exact ⟨r, rfl, by omega⟩
  | j + 1, k + 1, i, r, hi, hr, hk => by
    unfold net_Net_All.l0
    have c : capOk 104 (r ++ [rdL m.l (i : Int)]).length := by simp only [List.length_append, List.length_cons, List.length_nil]; unfold capOk; omega
    have := he _ (rdL_mem (l := m.l) (i := i) (by omega))
    rw [if_pos (by simp; omega), if_pos ⟨by omega, by omega⟩, f_copied n _ (by omega), Option.bind_some, if_pos c, wi64_id (by omega) (by omega), show ((i : Int) + 1) = ((i + 1 : Nat) : Int) by omega]
    exact nc_all0 n m hm he j k (i + 1) _ (by omega) (by simp; omega) (by omega)
theorem nc_j0 (n : Nat) (hn : 2000 ≤ n) (m : T_net_Net) (s t : Int) (i : Nat) (h : NC m s t i) (hi : i < 1000) : tontinelaw10_NetCounts.j0 n m.l m.lost s t = some true := by
  have h1 := h.len
  have h2 := h.l0
  have h3 := h.l1
  have h4 := h.t0
  have h5 := h.t1
  have h6 := h.s
  unfold tontinelaw10_NetCounts.j0 net_Net_Count.f
  rw [Option.bind_some]
  simp only
  rw [if_pos (by rw [beq_iff_eq, wi64_id (x := (m.l.length : Int) + t) (by omega) (by omega), wi64_id (by omega) (by omega)]; exact h6)]
  obtain ⟨r, hr, hr2⟩ := nc_all0 n m h.len h.ent m.l.length n 0 [] (by omega) rfl (by omega)
  have hr : net_Net_All.f n ⟨m.l, m.lost⟩ = some r := hr
  rw [hr, Option.bind_some, if_pos (by rw [beq_iff_eq, hr2])]
  congr 1
  simp; omega
theorem nc_l0 (n : Nat) (hn : 2000 ≤ n) (ks : List Int) (i4 : Int) : ∀ (j k i : Nat) (m : T_net_Net) (s t : Int), NC m s t i → i + j = 900 → j < k →
    tontinelaw10_NetCounts.l0 n ks i4 k m.l m.lost s t (i : Int) = some true
  | j, 0, i, _, _, _, _, _, h => by omega
  | 0, k + 1, i, m, s, t, h, hi, _ => by
    unfold tontinelaw10_NetCounts.l0
    have : i = 900 := by omega
    subst this
    split
    · rename_i hl
      have hl : (900 : Int) < (ks.length : Int) := of_decide_eq_true hl
      rw [if_pos ⟨by omega, by omega⟩, if_pos (by rfl)]
      exact nc_j0 n hn m s t _ h (by omega)
    · exact nc_j0 n hn m s t _ h (by omega)
  | j + 1, k + 1, i, m, s, t, h, hi, hk => by
    have ih := fun m' s' t' (h' : NC m' s' t' (i + 1)) => nc_l0 n hn ks i4 j k (i + 1) m' s' t' h' (by omega) (by omega)
    have hw : wi64 ((i : Int) + 1) = ((i + 1 : Nat) : Int) := by rw [wi64_id (by omega) (by omega)]; omega
    have h1 := h.len
    have h3 := h.l1
    have h2 := h.l0
    have h4 := h.t0
    have h5 := h.t1
    have h6 := h.s
    unfold tontinelaw10_NetCounts.l0
    split
    rotate_left
    · exact nc_j0 n hn m s t _ h (by omega)
    rename_i hl
    have hl : (i : Int) < (ks.length : Int) := of_decide_eq_true hl
    rw [if_pos ⟨by omega, by omega⟩, if_neg (by rw [beq_iff_eq]; omega)]
    unfold net_Net_Count.f
    rw [Option.bind_some]
    unfold tontinelaw10_NetCounts.j1
    rw [hw]
    split
    · obtain ⟨b, m', e, h'⟩ := nc_send h (by omega) n (⟨wi64 (1 + ((i : Int).tmod 9)), 0, 0, 0, wu64 i, 0, 0, false, [], []⟩ : T_api_Letter) (by simp)
      rw [show (⟨m.l, m.lost⟩ : T_net_Net) = m by rfl, e, Option.bind_some]
      exact ih _ _ _ h'
    split
    · rw [show (⟨m.l, m.lost⟩ : T_net_Net) = m by rfl]
      rcases nc_take n m h.len (wi64 (i4 + (i : Int))) with ⟨_, x, e⟩ | ⟨x, q, hq, e⟩
      · rw [e, Option.bind_some, if_neg (by simp)]
        exact ih _ _ _ (nc_step h)
      · rw [e, Option.bind_some, if_pos rfl]
        exact ih _ _ _ (nc_cut h (by omega) q hq _ _ (.inl ⟨rfl, by rw [wi64_id (by omega) (by omega)]⟩))
    split
    · rw [show (⟨m.l, m.lost⟩ : T_net_Net) = m by rfl]
      unfold net_Net_Lose.f
      rcases nc_take n m h.len (wi64 (i4 - (i : Int))) with ⟨_, x, e⟩ | ⟨x, q, hq, e⟩
      · rw [e, Option.bind_some, if_neg (by simp), Option.bind_some]
        exact ih _ _ _ (nc_step h)
      · rw [e, Option.bind_some, if_pos rfl, Option.bind_some]
        exact ih _ _ _ (nc_cut h (by omega) q hq _ _ (.inr ⟨by show wi64 (m.lost + 1) = _; rw [wi64_id (by omega) (by omega)], rfl⟩))
    split
    · rename_i hc
      have hc : (0 : Int) < (m.l.length : Int) := of_decide_eq_true hc
      obtain ⟨q, hp, hq, _⟩ := f_place n m (i : Int) (by omega) h.len
      obtain ⟨b, m', e, h'⟩ := nc_send h (by omega) n (rdL m.l (q : Int)) (h.ent _ (rdL_mem hq))
      rw [show (⟨m.l, m.lost⟩ : T_net_Net) = m by rfl]
      unfold net_Net_Double.f
      rw [hp, Option.bind_some, if_neg (by simp), if_pos ⟨by omega, by omega⟩, e, Option.bind_some, Option.bind_some]
      exact ih _ _ _ h'
    · rename_i hc
      have hc : ¬ (0 : Int) < (m.l.length : Int) := fun hh => hc (decide_eq_true hh)
      have hl0 : m.l = [] := List.length_eq_zero_iff.1 (by omega)
      obtain ⟨l, d⟩ := m
      subst hl0
      unfold net_Net_Double.f
      rw [place0, Option.bind_some, if_pos (by rfl), Option.bind_some]
      exact ih _ _ _ (nc_step h)
theorem tontinelaw10_NetCounts_law (ks : List Int) (i4 : Int) (h1 : ks.length * 8 ≤ reachBytes ∧ ∀ x ∈ ks, (Lit.int .i64 x).wf = true) (h2 : (Lit.int .i64 i4).wf = true) : Ev (fun n => tontinelaw10_NetCounts.f n ks i4) true := by
  refine Ev.ge 2000 fun n hn => ?_
  unfold tontinelaw10_NetCounts.f
  rw [begun10 n (by omega), Option.bind_some, if_neg (by simp)]
  unfold net_New.f
  rw [Option.bind_some]
  exact nc_l0 n hn ks i4 900 n 0 ⟨[], 0⟩ 0 0 ⟨by simp, by simp, by simp, by simp, by simp, by simp, by simp⟩ (by omega) (by omega)
end Go.GL
