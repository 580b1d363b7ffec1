/- The law StuffBack, over the plain functions. -/
import Derived.Test.YtapiconoooncgaaLawStuffOne
set_option linter.unusedVariables false
set_option linter.unusedSimpArgs false
set_option maxRecDepth 10000
namespace Go.GL
open Go Cobs
theorem back_l0 (n : Nat) (b r : List UInt8) (hr : nz r) (hd : dec n r = some b) (h1 : b.length < r.length) (h2 : r.length ≤ b.length + b.length / 254 + 1) (hb : b.length ≤ 140737488351232) (hn : r.length + 300 ≤ n) :
    ∀ (j k i : Nat), i + j = r.length → j < k → tontinelaw01_StuffBack.l0 n b r k (i : Int) = some true
  | j, 0, i, _, h => by omega
  | 0, k + 1, i, hi, _ => by
    unfold tontinelaw01_StuffBack.l0
    rw [if_neg (by simp; omega), f_Decode n r (by omega) (by omega), Option.bind_some, hd]
    have e1 : ((b.length : Int).tdiv 254) = ((b.length / 254 : Nat) : Int) := by rfl
    have e2 : wi64 ((wi64 ((b.length : Int) + (wi64 ((b.length : Int).tdiv 254)))) + 1) = ((b.length + b.length / 254 + 1 : Nat) : Int) := by
      rw [e1, wi64_id (x := ((b.length / 254 : Nat) : Int)) (by omega) (by omega), wi64_id (x := (b.length : Int) + ((b.length / 254 : Nat) : Int)) (by omega) (by omega), wi64_id (by omega) (by omega)]
      omega
    rw [e2]
    simp only [decR, List.nil_append, beq_self_eq_true, if_true]
    rw [if_pos (by simp; omega)]
    congr 1
    simp only [decide_eq_true_eq]
    omega
  | j + 1, k + 1, i, hi, hk => by
    unfold tontinelaw01_StuffBack.l0
    have hm : rdL r (i : Int) ≠ 0 := hr _ (by simp [rdL, show i < r.length by omega])
    rw [if_pos (by simp; omega), if_pos ⟨by omega, by omega⟩, u8_zero, if_neg (by simpa using hm), wi64_id (by omega) (by omega), show ((i : Int) + 1) = ((i + 1 : Nat) : Int) by omega]
    exact back_l0 n b r hr hd h1 h2 hb hn j k (i + 1) (by omega) (by omega)
theorem tontinelaw01_StuffBack_law (b : List UInt8) (hb : b.length * 1 ≤ reachBytes ∧ ∀ x ∈ b, True) : Ev (fun n => tontinelaw01_StuffBack.f n b) true := by
  have hl := reach_len hb
  refine Ev.ge (2 * b.length + 3000) fun n hn => ?_
  unfold tontinelaw01_StuffBack.f
  have hel := enc_len b [] (by simp)
  simp only [List.length_nil, Nat.zero_add] at hel
  rw [begun01 n (by omega), Option.bind_some, if_neg (by simp), f_Encode n b (by omega) (by omega), Option.bind_some]
  have hd := dec_enc b [] n nz_nil (by simp) (by omega)
  rw [List.nil_append] at hd
  exact back_l0 n b (Cobs.enc [] b) (enc_nz b [] nz_nil (by simp)) hd hel.1 hel.2 hl (by omega) (Cobs.enc [] b).length n 0 (by omega) (by omega)
end Go.GL
