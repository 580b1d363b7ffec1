/- Sums that are joined: what the plain functions compute. -/
import Derived.Test.YtapiconoooncgaaCrcFn
set_option linter.unusedVariables false
set_option linter.unusedSimpArgs false
namespace Go.GL
open Go Crc

def Lin (f : BitVec 32 → BitVec 32) : Prop := ∀ x y, f (x ^^^ y) = f x ^^^ f y
/-- A list of numbers stands for a map that keeps sums. -/
def Rep (L : List Int) (f : BitVec 32 → BitVec 32) : Prop := L.length = 32 ∧ ∀ i, i < 32 → L[i]? = some (I (f (1#32 <<< i)))
theorem Rep.rd {L : List Int} {f : BitVec 32 → BitVec 32} (h : Rep L f) {i : Nat} (hi : i < 32) : rdL L (i : Int) = I (f (1#32 <<< i)) := by
  have := h.2 i hi
  simp [rdL, this]
theorem Lin.zero {f : BitVec 32 → BitVec 32} (h : Lin f) : f 0#32 = 0#32 := by
  have := h 0#32 0#32
  rw [BitVec.xor_self] at this
  have e := congrArg (· ^^^ f 0#32) this
  simp only [BitVec.xor_self, BitVec.xor_assoc, BitVec.xor_zero] at e
  simpa using e.symm
theorem Lin.comp {f g : BitVec 32 → BitVec 32} (hf : Lin f) (hg : Lin g) : Lin (fun x => f (g x)) := fun x y => by
  show f (g (x ^^^ y)) = _
  rw [hg, hf]
theorem Lin.halfN (n : Nat) : Lin (halfN n) := halfN_xor n

theorem shl_split (x : BitVec 32) (i : Nat) : x <<< i = ((x >>> 1) <<< (i + 1)) ^^^ (if x.getLsbD 0 then 1#32 <<< i else 0#32) := by
  apply BitVec.eq_of_getLsbD_eq
  intro j hj
  rw [BitVec.getLsbD_xor, BitVec.getLsbD_shiftLeft, BitVec.getLsbD_shiftLeft, BitVec.getLsbD_ushiftRight]
  have h1 : (if x.getLsbD 0 then 1#32 <<< i else 0#32).getLsbD j = (x.getLsbD 0 && decide (j = i)) := by
    cases h : x.getLsbD 0 with
    | false => simp
    | true =>
      simp only [if_true, BitVec.getLsbD_shiftLeft, BitVec.getLsbD_one, Bool.true_and]
      by_cases e : j = i
      · subst e; simp [hj]
      · by_cases e2 : j < i
        · simp [e2, e]
        · have : ¬ (j - i = 0) := by omega
          simp [e, this]
  rw [h1]
  by_cases e : j = i
  · subst e; simp [hj]
  · by_cases e2 : j < i
    · simp [e, e2, show j < i + 1 by omega]
    · have e3 : ¬ j < i + 1 := by omega
      have e4 : 1 + (j - (i + 1)) = j - i := by omega
      simp [e, e2, e3, e4, hj]

theorem shr_lt (x : BitVec 32) (i : Nat) (h : x.toNat < 2 ^ (i + 1)) : (x >>> 1).toNat < 2 ^ i := by
  rw [BitVec.toNat_ushiftRight, Nat.shiftRight_eq_div_pow]
  rw [Nat.pow_succ] at h
  omega

theorem I_step (y v x : BitVec 32) : bXor .u32 (I y) (bAnd .u32 (I v) (wu32 (0 - bAnd .u32 (I x) 1))) = I (y ^^^ (if x.getLsbD 0 then v else 0#32)) := by
  rw [I_one, I_and, I_neg, I_and, I_xor, mask]
theorem times_l0 (n : Nat) {m : List Int} {f : BitVec 32 → BitVec 32} (hm : Rep m f) (hf : Lin f) : ∀ (j k i : Nat) (x y : BitVec 32), i + j = 32 → x.toNat < 2 ^ j → j < k → crc_times.l0 n m k (I x) (I y) (i : Int) = some (I (y ^^^ f (x <<< i)))
  | j, 0, i, x, y, _, _, h => by omega
  | 0, k + 1, i, x, y, hi, hx, _ => by
    have : x = 0#32 := by
      apply BitVec.eq_of_toNat_eq
      simpa using hx
    subst this
    unfold crc_times.l0
    rw [if_neg (by decide), BitVec.zero_shiftLeft, hf.zero, BitVec.xor_zero]
  | j + 1, k + 1, i, x, y, hi, hx, hk => by
    unfold crc_times.l0
    by_cases h0 : x = 0#32
    · subst h0
      rw [if_neg (by decide), BitVec.zero_shiftLeft, hf.zero, BitVec.xor_zero]
    · have hpos : 0 < I x := by
        have h := I_range x
        have hne : I x ≠ 0 := fun e => h0 (I_inj.1 (by rw [e]; rfl))
        omega
      have hl : m.length = 32 := hm.1
      rw [if_pos (by simpa using hpos), if_pos ⟨by omega, by omega⟩, if_pos ⟨hl, by omega, by omega⟩, hm.rd (by omega : i < 32), I_shr1, I_step, wi64_id (by omega) (by omega),
        show ((i : Int) + 1) = ((i + 1 : Nat) : Int) by omega, times_l0 n hm hf j k (i + 1) _ _ (by omega) (shr_lt x j hx) (by omega)]
      rw [shl_split x i, hf]
      congr 2
      split
      · ac_rfl
      · rw [hf.zero]; simp
theorem f_times (n : Nat) (hn : 40 ≤ n) {m : List Int} {f : BitVec 32 → BitVec 32} (hm : Rep m f) (hf : Lin f) (x : BitVec 32) : crc_times.f n m (I x) = some (I (f x)) := by
  unfold crc_times.f
  have := times_l0 n hm hf 32 n 0 x 0#32 (by omega) x.isLt (by omega)
  rw [BitVec.shiftLeft_zero, BitVec.zero_xor] at this
  exact this

theorem squared_l0 (n : Nat) (hn : 40 ≤ n) {m : List Int} {f : BitVec 32 → BitVec 32} (hm : Rep m f) (hf : Lin f) : ∀ (j k i : Nat) (L : List Int), i + j = 32 → j < k → L.length = 32 → (∀ q, q < i → L[q]? = some (I (f (f (1#32 <<< q))))) →
    ∃ L', crc_squared.l0 n m k L (i : Int) = some L' ∧ Rep L' (fun x => f (f x))
  | j, 0, i, L, _, h, _, _ => by omega
  | 0, k + 1, i, L, hi, _, hl, hq => by
    unfold crc_squared.l0
    refine ⟨L, ?_, hl, fun q h => hq q (by omega)⟩
    rw [if_neg (by simp; omega), if_pos hl, if_pos ⟨by simp, hl⟩, if_pos hl]
  | j + 1, k + 1, i, L, hi, hk, hl, hq => by
    unfold crc_squared.l0
    have hml : m.length = 32 := hm.1
    rw [if_pos (by simp; omega), if_pos ⟨hml, by omega, by omega⟩, if_pos hml, hm.rd (by omega : i < 32), f_times n hn hm hf, Option.bind_some, if_pos ⟨by omega, by omega⟩, if_pos ⟨hl, by omega, by omega⟩, wi64_id (by omega) (by omega),
      show ((i : Int) + 1) = ((i + 1 : Nat) : Int) by omega, Int.toNat_natCast]
    refine squared_l0 n hn hm hf j k (i + 1) _ (by omega) (by omega) (by simpa using hl) fun q h => ?_
    by_cases e : q = i
    · subst e; rw [List.getElem?_set_self (by omega)]
    · rw [List.getElem?_set_ne (fun h => e h.symm)]; exact hq q (by omega)
theorem f_squared (n : Nat) (hn : 40 ≤ n) {m : List Int} {f : BitVec 32 → BitVec 32} (hm : Rep m f) (hf : Lin f) : ∃ L', crc_squared.f n m = some L' ∧ Rep L' (fun x => f (f x)) := by
  unfold crc_squared.f
  rw [if_pos hm.1]
  exact squared_l0 n hn hm hf 32 n 0 _ (by omega) (by omega) (by simp) (fun q h => by omega)

theorem half_one (i : Nat) (h : i < 31) : half (1#32 <<< (i + 1)) = 1#32 <<< i := by
  revert h; revert i
  decide
theorem shl1 (i : Nat) (h : i < 32) : shL .u32 1 (i : Int) = I (1#32 <<< i) := by
  revert h; revert i
  decide

/-- k steps. -/
def iter (f : BitVec 32 → BitVec 32) : Nat → BitVec 32 → BitVec 32
  | 0, x => x
  | k + 1, x => iter f k (f x)
theorem iter_comm (f : BitVec 32 → BitVec 32) : ∀ k x, iter f k (f x) = f (iter f k x)
  | 0, _ => rfl
  | k + 1, x => by simp only [iter]; exact iter_comm f k (f x)
theorem iter_two (f : BitVec 32 → BitVec 32) : ∀ k x, iter (fun x => f (f x)) k x = iter f (2 * k) x
  | 0, _ => rfl
  | k + 1, x => by rw [Nat.mul_add]; simp only [iter]; exact iter_two f k _
theorem iter_half : ∀ k x, iter half k x = halfN k x
  | 0, _ => rfl
  | k + 1, x => by simp only [iter, halfN]; exact iter_half k _

theorem join_l1 (n : Nat) (hn : 40 ≤ n) (b : BitVec 32) : ∀ (j k K : Nat) (a : BitVec 32) (L : List Int) (f : BitVec 32 → BitVec 32), Rep L f → Lin f → K < 2 ^ j → j ≤ 64 → j < k → crc_Join.l1 n (I b) k (I a) L (K : Int) = some (I (iter f K a ^^^ b))
  | j, 0, K, a, L, f, _, _, _, _, h => by omega
  | 0, k + 1, K, a, L, f, hL, hf, hK, _, _ => by
    have : K = 0 := by simpa using hK
    subst this
    unfold crc_Join.l1
    rw [if_neg (by simp), I_xor]
    rfl
  | j + 1, k + 1, K, a, L, f, hL, hf, hK, hj, hk => by
    unfold crc_Join.l1
    by_cases h0 : K = 0
    · subst h0
      rw [if_neg (by simp), I_xor]
      rfl
    · have hl : L.length = 32 := hL.1
      obtain ⟨L', e, hL'⟩ := f_squared n hn hL hf
      have hl' : L'.length = 32 := hL'.1
      have hK2 : K < 18446744073709551616 := Nat.lt_of_lt_of_le hK (Nat.pow_le_pow_right (by omega) hj)
      have hsh : shR .u64 (K : Int) 1 = ((K / 2 : Nat) : Int) := by
        show (K : Int).fdiv (2 ^ (min (1 : Int).toNat 64)) = _
        rw [show (2 : Int) ^ (min (1 : Int).toNat 64) = 2 by decide, Int.fdiv_eq_ediv_of_nonneg _ (by decide)]
        omega
      have had : bAnd .u64 (K : Int) 1 = ((K % 2 : Nat) : Int) := by
        show IntKind.u64.wrap ((BitVec.ofInt 64 (K : Int) &&& BitVec.ofInt 64 1).toNat : Int) = _
        have e1 : BitVec.ofInt 64 (K : Int) &&& BitVec.ofInt 64 1 = BitVec.ofNat 64 (K % 2) := by
          rw [BitVec.ofInt_natCast]
          apply BitVec.eq_of_toNat_eq
          rw [BitVec.toNat_and, show (BitVec.ofInt 64 1).toNat = 1 by decide, Nat.and_one_is_mod]
          simp
          omega
        rw [e1]
        simp only [IntKind.wrap, IntKind.bits, IntKind.signed, Bool.false_and, Bool.false_eq_true, if_false, BitVec.toNat_ofNat]
        omega
      have hK3 : K / 2 < 2 ^ j := by rw [Nat.pow_succ] at hK; omega
      rw [if_pos (by simp; omega), had, hsh]
      by_cases hp : K % 2 = 1
      · rw [hp, if_pos (by decide), if_pos hl, f_times n hn hL hf, Option.bind_some, if_pos hl, e, Option.bind_some, if_pos ⟨hl, hl'⟩, join_l1 n hn b j k (K / 2) _ L' _ hL' (hf.comp hf) hK3 (by omega) (by omega), iter_two]
        conv => rhs; rw [show K = 2 * (K / 2) + 1 by omega]
        rfl
      · have hp : K % 2 = 0 := by omega
        rw [hp, if_neg (by decide), if_pos hl, e, Option.bind_some, if_pos ⟨hl, hl'⟩, join_l1 n hn b j k (K / 2) _ L' _ hL' (hf.comp hf) hK3 (by omega) (by omega), iter_two, show 2 * (K / 2) = K by omega]

theorem join_l0 (n : Nat) (hn : 100 ≤ n) (a b : BitVec 32) (N : Nat) (hN : N ≤ 1000000000000000) : ∀ (j k i : Nat) (L : List Int), i + j = 32 → 1 ≤ i → j < k → L.length = 32 → (∀ q, q < i → L[q]? = some (I (half (1#32 <<< q)))) →
    crc_Join.l0 n (I a) (I b) (N : Int) k L (i : Int) = some (I (join a b N))
  | j, 0, i, L, _, _, h, _, _ => by omega
  | 0, k + 1, i, L, hi, _, _, hl, hq => by
    unfold crc_Join.l0
    rw [if_neg (by simp; omega), wu64_id (x := (N : Int)) (by omega) (by omega), wu64_id (by omega) (by omega), show (8 * (N : Int)) = ((8 * N : Nat) : Int) by omega]
    have := join_l1 n (by omega) b 64 n (8 * N) a L half ⟨hl, fun q h => hq q (by omega)⟩ half_xor (by omega) (by omega) (by omega)
    rw [this, iter_half]
    rfl
  | j + 1, k + 1, i, L, hi, h1, hk, hl, hq => by
    unfold crc_Join.l0
    obtain ⟨p, rfl⟩ : ∃ p, i = p + 1 := ⟨i - 1, by omega⟩
    have e : wi64 (((p + 1 : Nat) : Int) - 1) = (p : Int) := by rw [wi64_id (by omega) (by omega)]; omega
    rw [if_pos (by simp; omega), e, if_pos (by omega), if_pos ⟨by omega, by omega⟩, if_pos ⟨hl, by omega, by omega⟩, shl1 p (by omega), wi64_id (by omega) (by omega), show (((p + 1 : Nat) : Int) + 1) = ((p + 2 : Nat) : Int) by omega, Int.toNat_natCast]
    refine join_l0 n hn a b N hN j k (p + 2) _ (by omega) (by omega) (by omega) (by simpa using hl) fun q h => ?_
    by_cases e : q = p + 1
    · subst e; rw [List.getElem?_set_self (by omega), half_one p (by omega)]
    · rw [List.getElem?_set_ne (fun h => e h.symm)]; exact hq q (by omega)
theorem f_Join (n : Nat) (hn : 100 ≤ n) (a b : BitVec 32) (N : Nat) (hN : N ≤ 1000000000000000) : crc_Join.f n (I a) (I b) (N : Int) = some (I (join a b N)) := by
  unfold crc_Join.f
  rw [if_neg (by simp), if_pos ⟨by simp, by simp⟩, if_pos ⟨by decide, by decide⟩, if_pos ⟨by simp, by decide, by simp⟩]
  refine join_l0 n hn a b N hN 31 n 1 _ (by omega) (by omega) (by omega) (by simp) fun q h => ?_
  have : q = 0 := by omega
  subst this
  simp only [Int.toNat_zero]
  rw [List.getElem?_set_self (by simp)]
  decide
end Go.GL
