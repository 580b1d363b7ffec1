/- The law StuffRuns, over the plain functions. -/
import Derived.Test.YtapiconoooncgaaStuffFn
set_option linter.unusedVariables false
set_option linter.unusedSimpArgs false
set_option maxRecDepth 10000
namespace Go.GL
open Go Cobs

/-- Full pieces, so many. -/
def fulls (c : UInt8) : Nat → List UInt8
  | 0 => []
  | q + 1 => (255 :: List.replicate 254 c) ++ fulls c q
theorem fulls_len (c : UInt8) : ∀ q, (fulls c q).length = 255 * q
  | 0 => rfl
  | q + 1 => by simp only [fulls, List.length_append, List.length_cons, List.length_replicate, fulls_len c q]; omega
theorem fulls_add (c : UInt8) : ∀ i j, fulls c (i + j) = fulls c i ++ fulls c j
  | 0, j => by simp [fulls]
  | i + 1, j => by rw [Nat.add_right_comm]; simp only [fulls, fulls_add c i j, List.append_assoc]
theorem nz_rep {c : UInt8} (h : c ≠ 0) (m : Nat) : nz (List.replicate m c) := fun x hx => by rw [(List.mem_replicate.1 hx).2]; exact h
theorem enc_fulls {c : UInt8} (h : c ≠ 0) (z : List UInt8) : ∀ q m, enc [] (List.replicate (254 * q + m) c ++ z) = fulls c q ++ enc [] (List.replicate m c ++ z)
  | 0, m => by simp [fulls]
  | q + 1, m => by
    rw [show 254 * (q + 1) + m = 254 + (254 * q + m) by omega, ← List.replicate_append_replicate, List.append_assoc, enc_full _ (nz_rep h 254) (by simp), enc_fulls h z q m]
    simp [fulls]
theorem enc_zeros : ∀ z, enc [] (List.replicate z 0) = List.replicate (z + 1) 1
  | 0 => rfl
  | z + 1 => by
    rw [List.replicate_succ, enc, if_pos rfl, enc_zeros z]
    rfl
theorem enc_last {c : UInt8} (h : c ≠ 0) (m z : Nat) (hm : m < 254) : enc [] (List.replicate m c ++ List.replicate z 0) = (UInt8.ofNat (m + 1) :: List.replicate m c) ++ List.replicate z 1 := by
  cases z with
  | zero => simp only [List.replicate_zero, List.append_nil]; rw [enc_end (nz_rep h m) (by simpa using hm), List.length_replicate]
  | succ z => rw [List.replicate_succ, enc_zero _ (nz_rep h m) (by simpa using hm), enc_zeros, List.length_replicate]

theorem runs_l2 (n : Nat) (n1 z1 : Int) (c : UInt8) (q m Z : Nat) (hm : m < 254) (hq : q ≤ 10) (hZ : Z < 5) (hN : (wi64 ((n1.tmod 1100) + 1100)).tmod 1100 = ((254 * q + m : Nat) : Int)) (hz : (wi64 ((z1.tmod 5) + 5)).tmod 5 = (Z : Int)) :
    ∀ (j k i : Nat), i + j = q → j < k → tontinelaw01_StuffRuns.l2 n n1 z1 (fulls c q ++ ((UInt8.ofNat (m + 1) :: List.replicate m c) ++ List.replicate Z 1)) k (i : Int) = some true := by
  have e1 : ((254 * q + m : Nat) : Int).tdiv 254 = (q : Int) := by
    have : ((254 * q + m : Nat) : Int).tdiv 254 = (((254 * q + m) / 254 : Nat) : Int) := by rfl
    rw [this]
    congr 1
    omega
  have e2 : ((254 * q + m : Nat) : Int).tmod 254 = (m : Int) := by
    have : ((254 * q + m : Nat) : Int).tmod 254 = (((254 * q + m) % 254 : Nat) : Int) := by rfl
    rw [this]
    congr 1
    omega
  have e3 : wi64 (q : Int) = (q : Int) := wi64_id (by omega) (by omega)
  have hlen : (fulls c q ++ ((UInt8.ofNat (m + 1) :: List.replicate m c) ++ List.replicate Z 1)).length = 255 * q + m + 1 + Z := by
    simp [fulls_len]; omega
  have hrd : ∀ i t : List UInt8, rdL (i ++ t) ((i.length : Nat) : Int) = t.getD 0 default := by
    intro i t
    simp [rdL, List.getD_eq_getElem?_getD, List.getElem?_append_right]
  intro j
  induction j with
  | zero =>
    intro k i hi hk
    obtain ⟨k, rfl⟩ : ∃ k', k = k' + 1 := ⟨k - 1, by omega⟩
    unfold tontinelaw01_StuffRuns.l2
    simp only [hN, hz, e1, e2, e3]
    rw [if_neg (by simp; omega)]
    have w1 : wi64 (((254 * q + m : Nat) : Int) + (q : Int)) = ((255 * q + m : Nat) : Int) := by rw [wi64_id (by omega) (by omega)]; omega
    have w2 : wi64 (((255 * q + m : Nat) : Int) + (Z : Int)) = ((255 * q + m + Z : Nat) : Int) := by rw [wi64_id (by omega) (by omega)]; omega
    have w3 : wi64 (((255 * q + m + Z : Nat) : Int) + 1) = ((255 * q + m + Z + 1 : Nat) : Int) := by rw [wi64_id (by omega) (by omega)]; omega
    have w4 : wi64 (255 * (q : Int)) = ((255 * q : Nat) : Int) := by rw [wi64_id (by omega) (by omega)]; omega
    have w5 : wi64 ((m : Int) + 1) = ((m + 1 : Nat) : Int) := by rw [wi64_id (by omega) (by omega)]; omega
    rw [w1, w2, w3, w4, w5, hlen, if_pos (by simp; omega), if_pos ⟨by omega, by omega⟩]
    have := hrd (fulls c q) ((UInt8.ofNat (m + 1) :: List.replicate m c) ++ List.replicate Z 1)
    rw [fulls_len] at this
    rw [this]
    show some (wi64 (((UInt8.ofNat (m + 1)).toNat : Nat) : Int) == ((m + 1 : Nat) : Int)) = some true
    rw [wi_u8, toNat_ofNat (by omega)]
    simp
  | succ j ih =>
    intro k i hi hk
    obtain ⟨k, rfl⟩ : ∃ k', k = k' + 1 := ⟨k - 1, by omega⟩
    unfold tontinelaw01_StuffRuns.l2
    simp only [hN, hz, e1, e2, e3]
    have w4 : wi64 (255 * (i : Int)) = ((255 * i : Nat) : Int) := by rw [wi64_id (by omega) (by omega)]; omega
    rw [if_pos (by simp; omega), w4, hlen, if_pos ⟨by omega, by omega⟩]
    have hsp : fulls c q ++ ((UInt8.ofNat (m + 1) :: List.replicate m c) ++ List.replicate Z 1) = fulls c i ++ (fulls c (j + 1) ++ ((UInt8.ofNat (m + 1) :: List.replicate m c) ++ List.replicate Z 1)) := by
      rw [← List.append_assoc (fulls c i), ← fulls_add, show i + (j + 1) = q by omega]
    have hr : rdL (fulls c q ++ ((UInt8.ofNat (m + 1) :: List.replicate m c) ++ List.replicate Z 1)) ((255 * i : Nat) : Int) = 255 := by
      rw [hsp]
      have := hrd (fulls c i) (fulls c (j + 1) ++ ((UInt8.ofNat (m + 1) :: List.replicate m c) ++ List.replicate Z 1))
      rw [fulls_len] at this
      rw [this]
      rfl
    rw [hr, if_neg (by decide), wi64_id (by omega) (by omega), show ((i : Int) + 1) = ((i + 1 : Nat) : Int) by omega]
    exact ih k (i + 1) (by omega) (by omega)

theorem runs_l1 (n : Nat) (hn : 3000 ≤ n) (n1 z1 : Int) (c : UInt8) (hc : c ≠ 0) (q m Z : Nat) (hm : m < 254) (hq : q ≤ 10) (hZ : Z < 5) (hN : (wi64 ((n1.tmod 1100) + 1100)).tmod 1100 = ((254 * q + m : Nat) : Int)) (hz : (wi64 ((z1.tmod 5) + 5)).tmod 5 = (Z : Int)) :
    ∀ (j k i : Nat), i + j = Z → j < k → tontinelaw01_StuffRuns.l1 n n1 z1 k (List.replicate (254 * q + m) c ++ List.replicate i 0) (i : Int) = some true
  | j, 0, i, _, h => by omega
  | 0, k + 1, i, hi, _ => by
    unfold tontinelaw01_StuffRuns.l1
    have : i = Z := by omega
    subst this
    rw [hz, if_neg (by simp), f_Encode n _ (by simp; omega) (by simp; omega), Option.bind_some, enc_fulls hc, enc_last hc m i hm]
    exact runs_l2 n n1 z1 c q m i hm hq hZ hN hz q n 0 (by omega) (by omega)
  | j + 1, k + 1, i, hi, hk => by
    unfold tontinelaw01_StuffRuns.l1
    rw [hz, if_pos (by simp; omega), if_pos (capOk1 (by simp; omega)), List.append_assoc, ← List.replicate_succ', wi64_id (by omega) (by omega), show ((i : Int) + 1) = ((i + 1 : Nat) : Int) by omega]
    exact runs_l1 n hn n1 z1 c hc q m Z hm hq hZ hN hz j k (i + 1) (by omega) (by omega)
theorem runs_l0 (n : Nat) (hn : 3000 ≤ n) (n1 z1 : Int) (c : UInt8) (hc : c ≠ 0) (q m Z : Nat) (hm : m < 254) (hq : q ≤ 10) (hZ : Z < 5) (hN : (wi64 ((n1.tmod 1100) + 1100)).tmod 1100 = ((254 * q + m : Nat) : Int)) (hz : (wi64 ((z1.tmod 5) + 5)).tmod 5 = (Z : Int)) :
    ∀ (j k i : Nat), i + j = 254 * q + m → j < k → tontinelaw01_StuffRuns.l0 n n1 z1 c k (List.replicate i c) (i : Int) = some true
  | j, 0, i, _, h => by omega
  | 0, k + 1, i, hi, _ => by
    unfold tontinelaw01_StuffRuns.l0
    have e : i = 254 * q + m := by omega
    rw [hN, if_neg (by simp; omega), e]
    have := runs_l1 n hn n1 z1 c hc q m Z hm hq hZ hN hz Z n 0 (by omega) (by omega)
    simpa using this
  | j + 1, k + 1, i, hi, hk => by
    unfold tontinelaw01_StuffRuns.l0
    rw [hN, if_pos (by simp; omega), if_pos (capOk1 (by simp; omega)), ← List.replicate_succ', wi64_id (by omega) (by omega), show ((i : Int) + 1) = ((i + 1 : Nat) : Int) by omega]
    exact runs_l0 n hn n1 z1 c hc q m Z hm hq hZ hN hz j k (i + 1) (by omega) (by omega)
theorem modN (x : Int) (p : Nat) (hp : 0 < p) (hp2 : p ≤ 1000000) : ∃ y : Nat, (wi64 ((x.tmod (p : Int)) + (p : Int))).tmod (p : Int) = (y : Int) ∧ y < p := by
  have h1 : x.tmod (p : Int) < (p : Int) := Int.tmod_lt_of_pos x (by omega)
  have h2 : (-x).tmod (p : Int) < (p : Int) := Int.tmod_lt_of_pos (-x) (by omega)
  rw [Int.neg_tmod] at h2
  rw [wi64_id (by omega) (by omega)]
  have h3 : 0 ≤ (x.tmod (p : Int) + (p : Int)).tmod (p : Int) := Int.tmod_nonneg _ (by omega)
  have h4 : (x.tmod (p : Int) + (p : Int)).tmod (p : Int) < (p : Int) := Int.tmod_lt_of_pos _ (by omega)
  exact ⟨((x.tmod (p : Int) + (p : Int)).tmod (p : Int)).toNat, by omega, by omega⟩
theorem tontinelaw01_StuffRuns_law (n1 : Int) (c : UInt8) (z1 : Int) (h1 : (Lit.int .i64 n1).wf = true) (h2 : True) (h3 : (Lit.int .i64 z1).wf = true) : Ev (fun n => tontinelaw01_StuffRuns.f n n1 c z1) true := by
  refine Ev.ge 3000 fun n hn => ?_
  unfold tontinelaw01_StuffRuns.f
  rw [begun01 n (by omega), Option.bind_some, if_neg (by simp)]
  obtain ⟨N, hN, hN2⟩ := modN n1 1100 (by omega) (by omega)
  obtain ⟨Z, hz, hZ⟩ := modN z1 5 (by omega) (by omega)
  have key : ∀ c : UInt8, c ≠ 0 → tontinelaw01_StuffRuns.j0 n n1 z1 c = some true := by
    intro c hc
    unfold tontinelaw01_StuffRuns.j0
    exact runs_l0 n hn n1 z1 c hc (N / 254) (N % 254) Z (by omega) (by omega) hZ (by rw [show (254 * (N / 254) + N % 254) = N by omega]; exact hN) hz N n 0 (by omega) (by omega)
  rw [u8_zero]
  by_cases hc : c = 0
  · rw [if_pos (by simpa using hc)]; exact key 1 (by decide)
  · rw [if_neg (by simpa using hc)]; exact key c hc
end Go.GL
