/- The law CrcBursts, over the plain functions. -/
import Derived.Test.YtapiconoooncgaaLawCrcThree
set_option linter.unusedVariables false
set_option linter.unusedSimpArgs false
set_option maxRecDepth 10000
namespace Go.GL
open Go Crc

theorem feed_plus (y z : BitVec 32) (l : List UInt8) : feed (y ^^^ z) l = feed y l ^^^ halfN (8 * l.length) z := by
  rw [feed_split, feed_split y, halfN_xor]
  ac_rfl
theorem feed_set : ∀ (c : List UInt8) (q : Nat) (x : BitVec 32) (v : UInt8), q < c.length → feed x (c.set q (rdL c (q : Int) ^^^ v)) = feed x c ^^^ halfN (8 * (c.length - q)) (u8v v)
  | [], q, _, _, h => by simp at h
  | a :: l, 0, x, v, _ => by
    have e : rdL (a :: l) ((0 : Nat) : Int) = a := rfl
    rw [e, List.set_cons_zero]
    show feed (byteStep x (a ^^^ v)) l = feed (byteStep x a) l ^^^ _
    have h := byteStep_xor x 0#32 a v
    rw [BitVec.xor_zero] at h
    have h2 : byteStep 0#32 v = halfN 8 (u8v v) := by simp [byteStep]
    rw [h, feed_plus, h2, ← halfN_add, List.length_cons, Nat.sub_zero, show 8 + 8 * l.length = 8 * (l.length + 1) by omega]
  | a :: l, q + 1, x, v, h => by
    have e : rdL (a :: l) ((q + 1 : Nat) : Int) = rdL l (q : Int) := by
      unfold rdL
      rw [Int.toNat_natCast, Int.toNat_natCast]
      rfl
    rw [e, List.set_cons_succ]
    show feed (byteStep x a) (l.set q _) = feed (byteStep x a) l ^^^ _
    rw [feed_set l q _ v (by simpa using h), List.length_cons, show l.length + 1 - (q + 1) = l.length - q by omega]
theorem u8v_pow (r : Nat) (h : r < 8) : u8v (UInt8.ofNat (2 ^ r)) = 1#32 <<< r := by
  revert h; revert r
  decide
theorem halfN_shl (j : Nat) (h : j < 32) : halfN j (1#32 <<< j) = 1#32 := by
  revert h; revert j
  decide
theorem halfN_shl' {a j : Nat} (h : j < 32) (h' : j ≤ a) : halfN a (1#32 <<< j) = halfN (a - j) 1#32 := by
  conv => lhs; rw [show a = j + (a - j) by omega]
  rw [halfN_add, halfN_shl j h]
theorem shL_u8 (r : Nat) (h : r < 8) : shL .u8 1 (r : Int) = ((((UInt8.ofNat (2 ^ r)).toNat : Nat)) : Int) := by
  revert h; revert r
  decide

theorem burst_l0 (n : Nat) (b : List UInt8) (at' burst : Int) (P : Nat) (hb : b.length ≤ 1000000000000000) (hn : b.length + 100 ≤ n)
    (hP : (wi64 ((at'.tmod (wi64 (8 * (b.length : Int)))) + (wi64 (8 * (b.length : Int))))).tmod (wi64 (8 * (b.length : Int))) = (P : Int)) (hP2 : P < 8 * b.length) :
    ∀ (j k i : Nat) (c : List UInt8) (m : BitVec 32), i + j = 32 → j < k → c.length = b.length → (∀ x, feed x c = feed x b ^^^ halfN (8 * b.length - P) m) → m.toNat < 2 ^ i →
    tontinelaw02_CrcBursts.l0 n b at' burst k c (decide (m ≠ 0#32)) (i : Int) = some true
  | j, 0, i, c, m, _, h, _, _, _ => by omega
  | 0, k + 1, i, c, m, hi, _, hc, hf, hm => by
    unfold tontinelaw02_CrcBursts.l0
    rw [if_neg (by simp; omega), f_Sum n c (by omega) (by omega), Option.bind_some, f_Sum n b (by omega) (by omega), Option.bind_some]
    congr 1
    have e : (I (add 0#32 c) != I (add 0#32 b)) = decide (m ≠ 0#32) := by
      rw [Bool.eq_iff_iff, bne_iff_ne, decide_eq_true_eq]
      constructor
      · intro h hm0
        apply h
        unfold add
        rw [hf, hm0, halfN_zero, BitVec.xor_zero]
      · intro h h2
        apply h
        have h3 := I_inj.1 h2
        unfold add at h3
        have h4 : feed (~~~ 0#32) c = feed (~~~ 0#32) b := by
          have := congrArg (~~~ ·) h3
          simpa using this
        rw [hf] at h4
        have h5 := congrArg (feed (~~~ 0#32) b ^^^ ·) h4
        simp only [← BitVec.xor_assoc, BitVec.xor_self, BitVec.zero_xor] at h5
        exact halfN_inj0 h5
    rw [e]
    simp
  | j + 1, k + 1, i, c, m, hi, hk, hc, hf, hm => by
    have h8 : wi64 (8 * (b.length : Int)) = ((8 * b.length : Nat) : Int) := by rw [wi64_id (by omega) (by omega)]; omega
    have hpi : wi64 ((P : Int) + (i : Int)) = ((P + i : Nat) : Int) := by rw [wi64_id (by omega) (by omega)]; omega
    have hi1 : wi64 ((i : Int) + 1) = ((i + 1 : Nat) : Int) := by rw [wi64_id (by omega) (by omega)]; omega
    have hmore : m.toNat < 2 ^ (i + 1) := by rw [Nat.pow_succ]; omega
    have hno : tontinelaw02_CrcBursts.j1 n (tontinelaw02_CrcBursts.l0 n b at' burst k) b at' c (decide (m ≠ 0#32)) (i : Int) false = some true := by
      unfold tontinelaw02_CrcBursts.j1
      rw [if_neg (by simp), hi1]
      exact burst_l0 n b at' burst P hb hn hP hP2 j k (i + 1) c m (by omega) (by omega) hc hf hmore
    unfold tontinelaw02_CrcBursts.l0
    rw [if_pos (by simp; omega), if_pos (by omega)]
    split
    · simp only [hP]
      simp only [hpi, h8]
      by_cases hlt : P + i < 8 * b.length
      · rw [show decide (((P + i : Nat) : Int) < ((8 * b.length : Nat) : Int)) = true by simp; omega]
        unfold tontinelaw02_CrcBursts.j1
        have e1 : ((P + i : Nat) : Int).tmod 8 = (((P + i) % 8 : Nat) : Int) := by rfl
        have e2 : wi64 (((P + i : Nat) : Int).tdiv 8) = (((P + i) / 8 : Nat) : Int) := by
          have : ((P + i : Nat) : Int).tdiv 8 = (((P + i) / 8 : Nat) : Int) := by rfl
          rw [this, wi64_id (by omega) (by omega)]
        simp only [hP]
        simp only [hpi, e1, e2]
        rw [if_pos trivial, if_pos (by omega), if_pos ⟨by omega, by omega⟩, if_pos ⟨by omega, by omega⟩, shL_u8 _ (by omega), u8_xor, u8of_self, hi1, Int.toNat_natCast]
        have hne : m ^^^ (1#32 <<< i) ≠ 0#32 := by
          intro h
          have : m = 1#32 <<< i := by
            have h5 := congrArg (· ^^^ (1#32 <<< i)) h
            simpa [BitVec.xor_assoc] using h5
          rw [this] at hm
          have e : (1#32 <<< i).toNat = 2 ^ i := by
            rw [BitVec.toNat_shiftLeft, Nat.shiftLeft_eq]
            simp only [BitVec.toNat_ofNat, Nat.one_mul]
            rw [show (1 % 2 ^ 32) = 1 by decide, Nat.one_mul]
            exact Nat.mod_eq_of_lt (Nat.pow_lt_pow_right (by omega) (by omega))
          omega
        have := burst_l0 n b at' burst P hb hn hP hP2 j k (i + 1) (c.set ((P + i) / 8) (rdL c (((P + i) / 8 : Nat) : Int) ^^^ UInt8.ofNat (2 ^ ((P + i) % 8)))) (m ^^^ (1#32 <<< i)) (by omega) (by omega) (by simpa using hc) ?_ ?_
        · rw [decide_eq_true hne] at this
          exact this
        · intro x
          rw [feed_set c _ x _ (by omega), hf, u8v_pow _ (by omega), hc, halfN_xor, BitVec.xor_assoc]
          congr 2
          rw [halfN_shl' (by omega) (by omega), halfN_shl' (by omega) (by omega)]
          congr 1
          omega
        · rw [BitVec.toNat_xor]
          refine Nat.xor_lt_two_pow hmore ?_
          rw [BitVec.toNat_shiftLeft, Nat.shiftLeft_eq]
          have : (1#32).toNat * 2 ^ i % 2 ^ 32 ≤ (1#32).toNat * 2 ^ i := Nat.mod_le _ _
          have e : (1#32).toNat = 1 := by decide
          rw [e, Nat.one_mul] at this
          rw [e, Nat.one_mul, Nat.pow_succ]
          omega
      · rw [show decide (((P + i : Nat) : Int) < ((8 * b.length : Nat) : Int)) = false by simp; omega]
        exact hno
    · exact hno

theorem tontinelaw02_CrcBursts_law (b : List UInt8) (at' burst : Int) (hb : b.length * 1 ≤ reachBytes ∧ ∀ x ∈ b, True) (ha : (Lit.int .i64 at').wf = true) (hu : (Lit.int .u32 burst).wf = true) : Ev (fun n => tontinelaw02_CrcBursts.f n b at' burst) true := by
  have hr : b.length ≤ 140737488351232 := by have := hb.1; unfold reachBytes at this; omega
  have ha := wf_i64 ha
  clear hb hu
  refine Ev.ge (b.length + 200) fun n hn => ?_
  unfold tontinelaw02_CrcBursts.f
  rw [begun02 n (by omega), Option.bind_some, if_neg (by simp)]
  have ht : tontinelaw02_CrcBursts.j0 n b at' burst true = some true := rfl
  by_cases h0 : b.length = 0
  · rw [if_pos (by rw [h0]; rfl)]; exact ht
  · rw [if_neg (by simpa using h0)]
    cases burst == 0 with
    | true => exact ht
    | false =>
      unfold tontinelaw02_CrcBursts.j0
      have h8 : wi64 (8 * (b.length : Int)) = ((8 * b.length : Nat) : Int) := by rw [wi64_id (by omega) (by omega)]; omega
      have c1 : capOk 1 (([] : List UInt8) ++ b).length := by rw [List.nil_append]; unfold capOk; omega
      rw [if_neg (by simp), if_pos (by rw [h8]; omega), if_pos c1, List.nil_append]
      have h1 : -((8 * b.length : Nat) : Int) < at'.tmod ((8 * b.length : Nat) : Int) := by
        have := Int.tmod_lt_of_pos (-at') (b := ((8 * b.length : Nat) : Int)) (by omega)
        rw [Int.neg_tmod] at this
        omega
      have h2 : at'.tmod ((8 * b.length : Nat) : Int) < ((8 * b.length : Nat) : Int) := Int.tmod_lt_of_pos at' (by omega)
      have hw : wi64 (at'.tmod ((8 * b.length : Nat) : Int) + ((8 * b.length : Nat) : Int)) = at'.tmod ((8 * b.length : Nat) : Int) + ((8 * b.length : Nat) : Int) := wi64_id (by omega) (by omega)
      have h3 : 0 ≤ (at'.tmod ((8 * b.length : Nat) : Int) + ((8 * b.length : Nat) : Int)).tmod ((8 * b.length : Nat) : Int) := Int.tmod_nonneg _ (by omega)
      have h4 : (at'.tmod ((8 * b.length : Nat) : Int) + ((8 * b.length : Nat) : Int)).tmod ((8 * b.length : Nat) : Int) < ((8 * b.length : Nat) : Int) := Int.tmod_lt_of_pos _ (by omega)
      have := burst_l0 n b at' burst ((at'.tmod ((8 * b.length : Nat) : Int) + ((8 * b.length : Nat) : Int)).tmod ((8 * b.length : Nat) : Int)).toNat (by omega) (by omega) (by rw [h8, hw]; omega) (by omega) 32 n 0 b 0#32 (by omega) (by omega) rfl (fun x => by rw [halfN_zero, BitVec.xor_zero]) (by decide)
      exact this
end Go.GL
