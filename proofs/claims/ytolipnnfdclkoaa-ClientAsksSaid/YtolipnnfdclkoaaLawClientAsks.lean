/- The law ClientAsks, over the plain functions. -/
import Derived.Test.YtolipnnfdclkoaaCBegun
set_option linter.unusedVariables false
set_option linter.unusedSimpArgs false
set_option maxRecDepth 10000
namespace Go.GL
open Go
theorem modN (x : Int) (p : Nat) (hp : 0 < p) (hp2 : p ≤ 1000000) : ∃ y : Nat, (wi64 ((x.tmod (p : Int)) + (p : Int))).tmod (p : Int) = (y : Int) ∧ y < p := by
  have h1 : x.tmod (p : Int) < (p : Int) := Int.tmod_lt_of_pos x (by omega)
  have h2 : (-x).tmod (p : Int) < (p : Int) := Int.tmod_lt_of_pos (-x) (by omega)
  rw [Int.neg_tmod] at h2
  rw [wi64_id (by omega) (by omega)]
  have h3 : 0 ≤ (x.tmod (p : Int) + (p : Int)).tmod (p : Int) := Int.tmod_nonneg _ (by omega)
  have h4 : (x.tmod (p : Int) + (p : Int)).tmod (p : Int) < (p : Int) := Int.tmod_lt_of_pos _ (by omega)
  exact ⟨((x.tmod (p : Int) + (p : Int)).tmod (p : Int)).toNat, by omega, by omega⟩
def regC : T_api_Command := ⟨1, 0, 0, 0, [], 0, false, 0, false, 0⟩
theorem ask_call (n : Nat) (hn : 40 ≤ n) (K : Int) : ∃ D, client_Client_Call.f n ⟨K, 0, 0, 0, false, ⟨0, 0, 0, 0, [], 0, false, 0, false, 0⟩, [], 0⟩ regC = some (⟨8, wi64 (200 + K), 0, 0, 1, 0, 0, false, [], D⟩, 0, ⟨K, 0, 0, 1, true, regC, D, 0⟩) := by
  obtain ⟨m, rfl⟩ : ∃ m, n = m + 40 := ⟨n - 40, by omega⟩
  exact ⟨_, rfl⟩
theorem ask_l0 (n : Nat) (n2 : Int) (N : Nat) (hN : (wi64 ((n2.tmod 50) + 50)).tmod 50 = (N : Int)) (hN2 : N < 50) (K : Int) (D : List UInt8) (c : T_client_Client) : ∀ (j k i : Nat), i + j = N → j < k →
    tontinelaw21_ClientAsks.l0 n n2 (⟨8, wi64 (200 + K), 0, 0, 1, 0, 0, false, [], D⟩, 0, c) k K 0 0 1 true 1 0 0 0 [] 0 false 0 false 0 D ((i % 7 : Nat) : Int) (i : Int) = some true
  | j, 0, i, _, h => by omega
  | 0, k + 1, i, hi, _ => by
    unfold tontinelaw21_ClientAsks.l0
    rw [hN, if_neg (by rw [decide_eq_true_eq]; omega)]
  | j + 1, k + 1, i, hi, hk => by
    unfold tontinelaw21_ClientAsks.l0
    have w : wi64 ((i : Int) + 1) = ((i + 1 : Nat) : Int) := by rw [wi64_id (by omega) (by omega)]; omega
    have w2 : (((i + 1 : Nat) : Int)).tmod 7 = (((i + 1) % 7 : Nat) : Int) := by rw [Int.tmod_eq_emod_of_nonneg (by omega)]; omega
    have w3 : (wi64 (((i % 7 : Nat) : Int) + 1)).tmod 7 = (((i + 1) % 7 : Nat) : Int) := by
      rw [wi64_id (by omega) (by omega), Int.tmod_eq_emod_of_nonneg (by omega)]; omega
    rw [hN, if_pos (by rw [decide_eq_true_eq]; omega), w, w2]
    have e : client_Client_Again.f n ⟨K, 0, 0, 1, true, ⟨1, 0, 0, 0, [], 0, false, 0, false, 0⟩, D, ((i % 7 : Nat) : Int)⟩ = some (⟨8, wi64 (200 + K), (((i + 1) % 7 : Nat) : Int), 0, 1, 0, 0, false, [], D⟩, 0, ⟨K, 0, 0, 1, true, ⟨1, 0, 0, 0, [], 0, false, 0, false, 0⟩, D, (((i + 1) % 7 : Nat) : Int)⟩) := by
      rw [← w3]
      rfl
    rw [e, Option.bind_some]
    unfold tontinelaw21_ClientAsks.j1
    simp only [w]
    rw [if_neg (by simp), if_neg (by simp), if_neg (by simp), if_neg (by simp)]
    rw [if_neg (by simp)]
    exact ask_l0 n n2 N hN hN2 K D c j k (i + 1) (by omega) (by omega)
theorem tontinelaw21_ClientAsks_law (id n2 : Int) (h1 : (Lit.int .i64 id).wf = true) (h2 : (Lit.int .i64 n2).wf = true) : Ev (fun n => tontinelaw21_ClientAsks.f n id n2) true := by
  refine Ev.ge 2000 fun n hn => ?_
  obtain ⟨M, hM, hM2⟩ := modN id 4 (by omega) (by omega)
  obtain ⟨N, hN, hN2⟩ := modN n2 50 (by omega) (by omega)
  have hM : (wi64 ((id.tmod 4) + 4)).tmod 4 = (M : Int) := hM
  obtain ⟨D, hD⟩ := ask_call n (by omega) (M : Int)
  have hD : client_Client_Call.f n ⟨(M : Int), 0, 0, 0, false, ⟨0, 0, 0, 0, [], 0, false, 0, false, 0⟩, [], 0⟩ ⟨1, 0, 0, 0, [], 0, false, 0, false, 0⟩ = some (⟨8, wi64 (200 + (M : Int)), 0, 0, 1, 0, 0, false, [], D⟩, 0, ⟨(M : Int), 0, 0, 1, true, regC, D, 0⟩) := hD
  unfold tontinelaw21_ClientAsks.f client_New.f
  rw [begun21 n (by omega), Option.bind_some, if_neg (by simp), hM, if_neg (by rw [decide_eq_true_eq]; omega), if_neg (by rw [decide_eq_true_eq]; omega), Option.bind_some]
  simp only
  rw [hD, Option.bind_some, if_neg (by simp), if_neg (by simp)]
  unfold tontinelaw21_ClientAsks.j0
  rw [if_neg (by simp)]
  exact ask_l0 n n2 N hN (by omega) (M : Int) D _ N n 0 (by omega) (by omega)
end Go.GL
