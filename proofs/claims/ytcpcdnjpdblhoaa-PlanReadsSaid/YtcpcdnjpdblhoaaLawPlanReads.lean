/- The law PlanReads, over the plain functions. -/
import Derived.Test.YtcpcdnjpdblhoaaBoth
set_option linter.unusedVariables false
set_option linter.unusedSimpArgs false
namespace Go.GL
open Go

theorem capOk32 {m : Nat} (h : m ≤ 1000000000) : capOk 32 m := by unfold capOk; omega

theorem same_l0 (n : Nat) (a : List T_api_Step) (ha : a.length ≤ 1000000) : ∀ (k i : Nat), i ≤ a.length → a.length - i < k → tontineref13_Same.l0 n a a k (i : Int) = some true
  | 0, i, _, h => by omega
  | k + 1, i, hi, hk => by
    unfold tontineref13_Same.l0
    by_cases h : i < a.length
    · have e : wi64 ((i : Int) + 1) = ((i + 1 : Nat) : Int) := by rw [wi64_id (by omega) (by omega)]; omega
      rw [if_pos (by simp <;> omega), if_pos ⟨by omega, by omega⟩, if_pos ⟨by omega, by omega⟩, if_neg (by simp), e]
      exact same_l0 n a ha k (i + 1) (by omega) (by omega)
    · rw [if_neg (by simp <;> omega)]
theorem same_f (n : Nat) (a : List T_api_Step) (ha : a.length ≤ 1000000) (hn : a.length < n) : tontineref13_Same.f n a a = some true := by
  unfold tontineref13_Same.f
  rw [if_neg (by simp)]
  exact same_l0 n a ha n 0 (by omega) (by omega)

theorem up_le {n : Nat} (hn : 20 ≤ n) (s : List UInt8) (bad : Bool) (hs : s.length < 1000000000000000000) (limit : Int) {a : Int} {q : T_pack_Reader} (h : pack_Reader_Up.f n ⟨s, bad⟩ limit = some (a, q)) (h0 : 0 ≤ limit) (hm : limit ≤ 9223372036854775807) : a ≤ limit := by
  unfold pack_Reader_Up.f at h
  rw [p_Num n hn s bad (by omega)] at h
  simp only [Option.bind_some] at h
  have h1 : ∀ q c, pack_Reader_Up.j0 n q c = if c = true then some (0, ⟨[], true⟩) else some (wi64 q.1, q.2) := fun q c => by cases c <;> rfl
  simp only [h1] at h
  rw [if_neg (by simp <;> omega), wu64_id (by omega) (by omega)] at h
  cases hq : rdNum s with
  | none =>
    rw [hq] at h
    simp only at h
    split at h
    · simp only [Option.some.injEq, Prod.mk.injEq] at h; omega
    · simp only [Option.some.injEq, Prod.mk.injEq, show wi64 0 = 0 from rfl] at h; omega
  | some q =>
    rw [hq] at h
    simp only at h
    split at h
    · simp only [Option.some.injEq, Prod.mk.injEq] at h; omega
    · rename_i hc
      simp only [decide_eq_true_eq] at hc
      simp only [Option.some.injEq, Prod.mk.injEq] at h
      rw [wi64_id (by omega) (by omega)] at h
      omega

theorem read_l0 (n : Nat) (hn : 20 ≤ n) (N : Nat) (hN : N ≤ 64) (r3 : Int × T_tontineref03_Reader) (h3 : r3.1 = (N : Int)) : ∀ (d k : Nat) (s : List UInt8) (bad : Bool) (l : List T_api_Step), d ≤ N → d < k → s.length < 1000000000000000000 → l.length ≤ 1000 - d →
    ∃ a t b, plan_Read.l0 n k s bad l (d : Int) = some (a, ⟨t, b⟩) ∧ tontineref13_Read.l0 n r3 k s bad l ((N : Int) - d) = some (a, ⟨t, b⟩) ∧ a.length ≤ 1000
  | d, 0, s, bad, l, _, h, _, _ => by omega
  | 0, k + 1, s, bad, l, hd, hk, hs, hl => by
    unfold plan_Read.l0 tontineref13_Read.l0
    rw [if_neg (by simp), if_neg (by rw [h3]; simp)]
    have e : pack_Reader_Left.f n (⟨s, bad⟩ : T_pack_Reader) = some ((s.length : Int), !bad) := rfl
    rw [e, Option.bind_some]
    cases bad
    · exact ⟨l, s, false, rfl, rfl, by omega⟩
    · exact ⟨[], s, true, rfl, rfl, by simp⟩
  | d + 1, k + 1, s, bad, l, hd, hk, hs, hl => by
    unfold plan_Read.l0 tontineref13_Read.l0
    rw [if_pos (by simp <;> omega), if_pos (by rw [h3]; simp <;> omega)]
    obtain ⟨a1, t1, b1, e1, e1', l1⟩ := both_Up hn s bad hs 3
    rw [e1, e1']
    simp only [Option.bind_some]
    obtain ⟨a2, t2, b2, e2, e2', l2⟩ := both_Text hn t1 b1 (by omega) 16 (by omega)
    rw [e2, e2']
    simp only [Option.bind_some]
    obtain ⟨a4, t4, b4, e4, e4', l4⟩ := both_Up hn t2 b2 (by omega) 9
    rw [e4, e4']
    simp only [Option.bind_some]
    have c : capOk 32 (l ++ [(⟨a1, a2, a4⟩ : T_api_Step)]).length := capOk32 (by simp <;> omega)
    have w1 : wi64 (((d + 1 : Nat) : Int) - 1) = (d : Int) := by rw [wi64_id (by omega) (by omega)]; omega
    have w2 : wi64 ((N : Int) - ((d + 1 : Nat) : Int) + 1) = (N : Int) - (d : Int) := by rw [wi64_id (by omega) (by omega)]; omega
    rw [if_pos c, if_pos c, w1, w2]
    exact read_l0 n hn N hN r3 h3 d k t4 b4 _ (by omega) (by omega) (by omega) (by simp <;> omega)

theorem tontinelaw13_PlanReads_law (s : List UInt8) (hs : s.length ≤ reachBytes) : Ev (fun n => tontinelaw13_PlanReads.f n s) true := by
  unfold tontinelaw13_PlanReads.f
  refine Ev.bind begun13 (Ev.ge 2000 fun n hn => ?_)
  rw [if_neg (by simp)]
  have hr : reachBytes < 1000000000000000000 := by decide
  have hf : pack_From.f n s = some ⟨s, false⟩ := rfl
  rw [hf, Option.bind_some]
  obtain ⟨a, t, b, e1, e2, hl⟩ := both_Up (n := n) (by omega) s false (by omega) 64
  have g1 := up_ge (n := n) (by omega) s false (by omega) 64 e1 (by omega)
  have g2 := up_le (n := n) (by omega) s false (by omega) 64 e1 (by omega) (by omega)
  obtain ⟨N, rfl⟩ : ∃ N : Nat, a = (N : Int) := ⟨a.toNat, by omega⟩
  obtain ⟨x, u, c, f1, f2, hx⟩ := read_l0 n (by omega) N (by omega) ((N : Int), ⟨t, b⟩) rfl N n t b [] (by omega) (by omega) (by omega) (by simp <;> omega)
  rw [show ((N : Int) - (N : Int)) = 0 by omega] at f2
  have r1 : plan_Read.f n ⟨s, false⟩ = some (x, ⟨u, c⟩) := by unfold plan_Read.f; rw [e1, Option.bind_some]; exact f1
  have r2 : tontineref13_Read.f n ⟨s, false⟩ = some (x, ⟨u, c⟩) := by unfold tontineref13_Read.f; rw [e2, Option.bind_some]; exact f2
  have hL : pack_Reader_Left.f n (⟨u, c⟩ : T_pack_Reader) = some ((u.length : Int), !c) := rfl
  rw [r1, Option.bind_some, r2, Option.bind_some, hL, Option.bind_some, same_f n x (by omega) (by omega), Option.bind_some, if_pos rfl]
  rw [if_pos (by simp)]
  cases c <;> rfl
end Go.GL
