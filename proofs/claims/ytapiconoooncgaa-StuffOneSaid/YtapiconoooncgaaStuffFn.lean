/- Pieces: what the plain functions compute. -/
import Derived.Test.YtapiconoooncgaaCrcFn
import Derived.Test.YtapiconoooncgaaCobs
set_option linter.unusedVariables false
set_option linter.unusedSimpArgs false
set_option maxRecDepth 10000
namespace Go.GL
open Go

theorem capOk1 {m : Nat} (h : m ≤ 220000000000000) : capOk 1 m := by unfold capOk; omega
theorem u8of_nat {a : Nat} (h : a < 256) : u8of (a : Int) = UInt8.ofNat a := by
  unfold u8of
  congr 1
  simp only [IntKind.wrap, IntKind.bits, IntKind.signed]
  simp
  omega
theorem wi_u8 (c : UInt8) : wi64 ((c.toNat : Nat) : Int) = ((c.toNat : Nat) : Int) := by
  have := c.toNat_lt
  exact wi64_id (by omega) (by omega)
theorem u8_zero (c : UInt8) : (((c.toNat : Nat) : Int) == 0) = decide (c = 0) := by
  rw [Bool.eq_iff_iff, beq_iff_eq, decide_eq_true_eq, ← UInt8.toNat_inj]
  constructor <;> intro h
  · have : c.toNat = 0 := by omega
    rw [this]; rfl
  · rw [h]; rfl

open Cobs

theorem set_mid (d p : List UInt8) (x y : UInt8) : (d ++ x :: p).set d.length y = d ++ y :: p := by
  rw [List.set_append_right _ _ (Nat.le_refl _), Nat.sub_self, List.set_cons_zero]

theorem encode_l0 (n : Nat) (b : List UInt8) (hb : b.length ≤ 140737488351232) : ∀ (j k i : Nat) (d p : List UInt8), i + j = b.length → j < k → nz p → p.length < 254 → p.length ≤ i → d.length ≤ (i - p.length) + (i - p.length) / 254 →
    stuff_Encode.l0 n b k (d ++ 0 :: p) ((d.length : Nat) : Int) (i : Int) = some (d ++ Cobs.enc p (b.drop i))
  | j, 0, i, d, p, _, h, _, _, _, _ => by omega
  | 0, k + 1, i, d, p, hi, _, hp, hl, hd, hd' => by
    unfold stuff_Encode.l0
    have e : (((d ++ 0 :: p).length : Nat) : Int) - ((d.length : Nat) : Int) = ((p.length + 1 : Nat) : Int) := by simp; omega
    rw [if_neg (by simp; omega), if_pos ⟨by omega, by simp; omega⟩, List.drop_of_length_le (by omega), e, wi64_id (by omega) (by omega), u8of_nat (by omega), Int.toNat_natCast, set_mid]
    rw [Cobs.enc]
  | j + 1, k + 1, i, d, p, hi, hk, hp, hl, hd, hd' => by
    unfold stuff_Encode.l0
    have hil : i < b.length := by omega
    have hi1 : wi64 ((i : Int) + 1) = ((i + 1 : Nat) : Int) := by rw [wi64_id (by omega) (by omega)]; omega
    rw [if_pos (by simp; omega), if_pos ⟨by omega, by omega⟩, getD_drop hil]
    by_cases hc : rdL b (i : Int) = 0
    · have e0 : ((((rdL b (i : Int)).toNat : Nat) : Int) != 0) = false := by rw [hc]; rfl
      rw [e0, if_neg (by simp)]
      unfold stuff_Encode.j0
      rw [u8_zero, hc, if_pos (by simp)]
      unfold stuff_Encode.j1
      have e : (((d ++ 0 :: p).length : Nat) : Int) - ((d.length : Nat) : Int) = ((p.length + 1 : Nat) : Int) := by simp; omega
      have c1 : capOk 1 (d ++ UInt8.ofNat (p.length + 1) :: p ++ [0]).length := capOk1 (by simp; omega)
      rw [if_pos rfl, if_pos ⟨by omega, by simp; omega⟩, e, wi64_id (by omega) (by omega), u8of_nat (by omega), Int.toNat_natCast, set_mid, if_pos c1, hi1]
      have := encode_l0 n b hb j k (i + 1) (d ++ UInt8.ofNat (p.length + 1) :: p) [] (by omega) (by omega) nz_nil (by simp) (by simp) (by simp; omega)
      rw [this, Cobs.enc, if_pos rfl]
      simp
    · have e0 : ((((rdL b (i : Int)).toNat : Nat) : Int) != 0) = true := by
        rw [bne, u8_zero]; simp [hc]
      have c0 : capOk 1 (d ++ 0 :: p ++ [rdL b (i : Int)]).length := capOk1 (by simp; omega)
      rw [e0, if_pos rfl, if_pos c0]
      unfold stuff_Encode.j0
      rw [u8_zero, if_neg (by simpa using hc)]
      have ea : d ++ 0 :: p ++ [rdL b (i : Int)] = d ++ 0 :: (p ++ [rdL b (i : Int)]) := by simp
      have e : (((d ++ 0 :: (p ++ [rdL b (i : Int)])).length : Nat) : Int) - ((d.length : Nat) : Int) = ((p.length + 2 : Nat) : Int) := by simp; omega
      rw [ea, e, wi64_id (by omega) (by omega)]
      unfold stuff_Encode.j1
      by_cases hf : p.length + 1 = 254
      · rw [if_pos (by simp; omega), if_pos ⟨by omega, by simp; omega⟩, e, wi64_id (by omega) (by omega), u8of_nat (by omega), Int.toNat_natCast, set_mid]
        have e255 : UInt8.ofNat (p.length + 2) = 255 := by rw [show p.length + 2 = 255 by omega]; rfl
        have c1 : capOk 1 (d ++ 255 :: (p ++ [rdL b (i : Int)]) ++ [0]).length := capOk1 (by simp; omega)
        rw [e255, if_pos c1, hi1]
        have := encode_l0 n b hb j k (i + 1) (d ++ 255 :: (p ++ [rdL b (i : Int)])) [] (by omega) (by omega) nz_nil (by simp) (by simp) (by simp; omega)
        rw [this, Cobs.enc, if_neg hc, if_pos hf]
        simp
      · rw [if_neg (by simp; omega), hi1]
        have := encode_l0 n b hb j k (i + 1) d (p ++ [rdL b (i : Int)]) (by omega) (by omega) (by rw [nz_append, nz_cons]; exact ⟨hp, hc, nz_nil⟩) (by simp; omega) (by simp; omega) (by simp; omega)
        rw [this, Cobs.enc, if_neg hc, if_neg hf]

theorem f_Encode (n : Nat) (b : List UInt8) (hb : b.length ≤ 140737488351232) (hn : b.length + 1 ≤ n) : stuff_Encode.f n b = some (Cobs.enc [] b) := by
  unfold stuff_Encode.f
  have e1 : ((b.length : Int).tdiv 254) = ((b.length / 254 : Nat) : Int) := by rfl
  have e2 : wi64 ((wi64 ((b.length : Int) + (wi64 ((b.length : Int).tdiv 254)))) + 1) = ((b.length + b.length / 254 + 1 : Nat) : Int) := by
    rw [e1, wi64_id (x := ((b.length / 254 : Nat) : Int)) (by omega) (by omega), wi64_id (x := (b.length : Int) + ((b.length / 254 : Nat) : Int)) (by omega) (by omega), wi64_id (by omega) (by omega)]
    omega
  rw [e2, if_pos ⟨by omega, by omega, by omega⟩]
  have := encode_l0 n b hb b.length n 0 [] [] (by omega) (by omega) nz_nil (by simp) (by simp) (by simp)
  simpa using this

theorem r_zero (n : Nat) (b : List UInt8) (hb : b.length ≤ 140737488351232) : ∀ (j k i : Nat), i + j = b.length → j < k → tontineref01_zero.l0 n b k (i : Int) = some (((i + Cobs.zero (b.drop i) : Nat)) : Int)
  | j, 0, i, _, h => by omega
  | 0, k + 1, i, hi, _ => by
    unfold tontineref01_zero.l0
    rw [if_neg (by simp; omega), List.drop_of_length_le (by omega), Cobs.zero, Nat.add_zero, show i = b.length by omega]
  | j + 1, k + 1, i, hi, hk => by
    unfold tontineref01_zero.l0
    rw [if_pos (by simp; omega), if_pos ⟨by omega, by omega⟩, getD_drop (by omega : i < b.length), u8_zero, Cobs.zero]
    by_cases hc : rdL b (i : Int) = 0
    · rw [if_pos (by simpa using hc), if_pos hc, Nat.add_zero]
    · rw [if_neg (by simpa using hc), if_neg hc, wi64_id (by omega) (by omega), show ((i : Int) + 1) = ((i + 1 : Nat) : Int) by omega, r_zero n b hb j k (i + 1) (by omega) (by omega)]
      congr 2
      omega
theorem f_zero (n : Nat) (b : List UInt8) (hb : b.length ≤ 140737488351232) (hn : b.length + 1 ≤ n) : tontineref01_zero.f n b = some ((Cobs.zero b : Nat) : Int) := by
  unfold tontineref01_zero.f
  have := r_zero n b hb b.length n 0 (by omega) (by omega)
  simpa using this

theorem r_Encode_l0 (n : Nat) (N : Nat) (hN : N ≤ 140737488351232) (hn : N + 2 ≤ n) : ∀ (k : Nat) (b o : List UInt8), b.length < k → b.length ≤ N → o.length + b.length + b.length / 254 + 1 ≤ N + N / 254 + 1 → tontineref01_Encode.l0 n k b o = some (o ++ Cobs.enc [] b)
  | 0, b, o, h, _, _ => by omega
  | k + 1, b, o, hk, hbn, ho => by
    unfold tontineref01_Encode.l0
    have hz := zero_le b
    rw [f_zero n b (by omega) (by omega), Option.bind_some, enc_round b]
    by_cases h1 : 254 ≤ Cobs.zero b
    · have c1 : capOk 1 (o ++ [(255 : UInt8)]).length := capOk1 (by simp; omega)
      have c2 : capOk 1 (o ++ [(255 : UInt8)] ++ (b.take (254 : Int).toNat).drop (0 : Int).toNat).length := capOk1 (by
        have : (254 : Int).toNat = 254 := rfl
        simp [this]; omega)
      rw [if_pos (by simp; omega), if_pos c1, if_pos ⟨by omega, by omega, by omega⟩, if_pos c2, if_pos ⟨by omega, by omega, by omega⟩, if_pos h1, Int.toNat_natCast, List.take_length, show (254 : Int).toNat = 254 by rfl, show (0 : Int).toNat = 0 by rfl, List.drop_zero]
      rw [r_Encode_l0 n N hN hn k (b.drop 254) _ (by rw [List.length_drop]; omega) (by rw [List.length_drop]; omega) (by simp only [List.length_append, List.length_take, List.length_drop, List.length_cons, List.length_nil]; omega)]
      simp
    · rw [if_neg (by simp; omega), if_neg h1]
      have e1 : wi64 (((Cobs.zero b : Nat) : Int) + 1) = ((Cobs.zero b + 1 : Nat) : Int) := by rw [wi64_id (by omega) (by omega)]; omega
      have c1 : capOk 1 (o ++ [UInt8.ofNat (Cobs.zero b + 1)]).length := capOk1 (by simp; omega)
      have c2 : capOk 1 (o ++ [UInt8.ofNat (Cobs.zero b + 1)] ++ b.take (Cobs.zero b)).length := capOk1 (by simp; omega)
      rw [e1, u8of_nat (by omega), if_pos c1, if_pos ⟨by omega, by omega, by omega⟩, Int.toNat_natCast, show (0 : Int).toNat = 0 by rfl, List.drop_zero, if_pos c2]
      by_cases h2 : Cobs.zero b = b.length
      · rw [if_pos (by simp; omega), if_pos h2]
        simp
      · rw [if_neg (by simp; omega), if_neg h2, if_pos ⟨by omega, by omega, by omega⟩, Int.toNat_natCast, Int.toNat_natCast, List.take_length]
        rw [r_Encode_l0 n N hN hn k (b.drop (Cobs.zero b + 1)) _ (by rw [List.length_drop]; omega) (by rw [List.length_drop]; omega) (by simp only [List.length_append, List.length_take, List.length_drop, List.length_cons, List.length_nil]; omega)]
        simp
theorem r_Encode (n : Nat) (b : List UInt8) (hb : b.length ≤ 140737488351232) (hn : b.length + 2 ≤ n) : tontineref01_Encode.f n b = some (Cobs.enc [] b) := by
  unfold tontineref01_Encode.f
  have := r_Encode_l0 n b.length hb hn n b [] (by omega) (Nat.le_refl _) (by simp)
  simpa using this

theorem begun01 : ∀ n, 40 ≤ n → tontinelaw01_begun.f n = some true := by
  intro n hn
  obtain ⟨m, rfl⟩ : ∃ m, n = m + 40 := ⟨n - 40, by omega⟩
  rfl
theorem reach_len {b : List UInt8} (h : b.length * 1 ≤ reachBytes ∧ ∀ x ∈ b, True) : b.length ≤ 140737488351232 := by have := h.1; unfold reachBytes at this; omega
end Go.GL
