/- The law CrcJoins, over the plain functions. -/
import Derived.Test.YtapiconoooncgaaCrcJoin
set_option linter.unusedVariables false
set_option linter.unusedSimpArgs false
namespace Go.GL
open Go Crc

theorem rjoin_l1 (n : Nat) (L0 : Int → Int → Option Int) (i : Int) : ∀ (j k : Nat) (x : BitVec 32), j ≤ 8 → j < k → tontineref02_Join.l1 n L0 i k (I x) (8 - (j : Int)) = L0 (I (halfN j x)) (wi64 (i + 1))
  | j, 0, x, _, h => by omega
  | 0, k + 1, x, _, _ => by
    unfold tontineref02_Join.l1
    rw [if_neg (by simp)]
    rfl
  | j + 1, k + 1, x, hj, hk => by
    unfold tontineref02_Join.l1
    rw [if_pos (by simp; omega), r_half, Option.bind_some, wi64_id (by omega) (by omega), show (8 - ((j + 1 : Nat) : Int) + 1) = 8 - (j : Int) by omega, rjoin_l1 n L0 i j k _ (by omega) (by omega)]
    rfl
theorem rjoin_l0 (n : Nat) (hn : 9 ≤ n) (b : BitVec 32) (N : Nat) (hN : N ≤ 1000000000000000) : ∀ (m k i : Nat) (x : BitVec 32), i + m = N → m < k → tontineref02_Join.l0 n (I b) (N : Int) k (I x) (i : Int) = some (I (halfN (8 * m) x ^^^ b))
  | m, 0, i, x, _, h => by omega
  | 0, k + 1, i, x, hi, _ => by
    unfold tontineref02_Join.l0
    rw [if_neg (by simp; omega), I_xor]
    rfl
  | m + 1, k + 1, i, x, hi, hk => by
    unfold tontineref02_Join.l0
    have h8 := rjoin_l1 n (tontineref02_Join.l0 n (I b) (N : Int) k) (i : Int) 8 n x (by omega) (by omega)
    rw [show (8 - ((8 : Nat) : Int)) = 0 by omega] at h8
    rw [if_pos (by simp; omega), h8, wi64_id (by omega) (by omega), show ((i : Int) + 1) = ((i + 1 : Nat) : Int) by omega, rjoin_l0 n hn b N hN m k (i + 1) _ (by omega) (by omega), ← halfN_add, show 8 + 8 * m = 8 * (m + 1) by omega]
theorem r_Join (n : Nat) (a b : BitVec 32) (N : Nat) (hN : N ≤ 1000000000000000) (hn : N + 9 ≤ n) : tontineref02_Join.f n (I a) (I b) (N : Int) = some (I (join a b N)) := by
  unfold tontineref02_Join.f
  rw [if_neg (by simp)]
  exact rjoin_l0 n (by omega) b N hN N n 0 a (by omega) (by omega)
theorem joins_j0 (n : Nat) (a b : BitVec 32) (x : Int) (h : x ≤ 5000) (hn : 6000 ≤ n) : tontinelaw02_CrcJoins.j0 n (I a) (I b) x = some true := by
  unfold tontinelaw02_CrcJoins.j0
  by_cases h0 : x < 0
  · unfold crc_Join.f tontineref02_Join.f
    rw [if_pos (by simpa using h0), if_pos (by simpa using h0)]
    rfl
  · obtain ⟨N, rfl⟩ : ∃ N : Nat, x = (N : Int) := ⟨x.toNat, by omega⟩
    rw [f_Join n (by omega) a b N (by omega), Option.bind_some, r_Join n a b N (by omega) (by omega), Option.bind_some]
    simp
theorem tontinelaw02_CrcJoins_law (a b x : Int) (ha : (Lit.int .u32 a).wf = true) (hb : (Lit.int .u32 b).wf = true) (hx : (Lit.int .i64 x).wf = true) : Ev (fun n => tontinelaw02_CrcJoins.f n a b x) true := by
  obtain ⟨a, rfl⟩ := wf_I ha
  obtain ⟨b, rfl⟩ := wf_I hb
  refine Ev.ge 6000 fun n hn => ?_
  unfold tontinelaw02_CrcJoins.f
  rw [begun02 n (by omega), Option.bind_some, if_neg (by simp)]
  split
  · exact joins_j0 n a b _ (by have := Int.tmod_lt_of_pos x (b := 5000) (by decide); omega) hn
  · rename_i h
    exact joins_j0 n a b _ (by simpa using h) hn
end Go.GL
