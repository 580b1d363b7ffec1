/- Numbers laid and read, over the plain functions: what pack and its reference compute. -/
import Derived.Test.YtolipnnfdclkoaaBegun
set_option linter.unusedVariables false
set_option linter.unusedSimpArgs false
namespace Go.GL
open Go

/-- A number's bytes, the highest first, m of them. -/
def be : Nat → Nat → List UInt8
  | 0, _ => []
  | m + 1, x => UInt8.ofNat (x / 256 ^ m % 256) :: be m x
/-- How many bytes a number takes (at most j). -/
def blen : Nat → Nat → Nat
  | 0, _ => 0
  | j + 1, x => if x = 0 then 0 else blen j (x / 256) + 1
/-- A number, laid. -/
def enc (x : Nat) : List UInt8 := UInt8.ofNat (blen 8 x) :: be (blen 8 x) x

theorem be_succ : ∀ (m x : Nat), be (m + 1) x = be m (x / 256) ++ [UInt8.ofNat (x % 256)]
  | 0, x => by simp [be]
  | m + 1, x => by
    show UInt8.ofNat (x / 256 ^ (m + 1) % 256) :: be (m + 1) x = UInt8.ofNat (x / 256 / 256 ^ m % 256) :: be m (x / 256) ++ _
    rw [be_succ m x, Nat.div_div_eq_div_mul, Nat.pow_succ, Nat.mul_comm]
    rfl
theorem be_length : ∀ (m x : Nat), (be m x).length = m
  | 0, _ => rfl
  | m + 1, x => by simp [be, be_length m x]
theorem blen_le : ∀ (j x : Nat), blen j x ≤ j
  | 0, _ => Nat.le_refl _
  | j + 1, x => by unfold blen; split; omega; have := blen_le j (x / 256); omega
theorem blen_lt : ∀ (j x : Nat), x < 256 ^ j → x < 256 ^ blen j x
  | 0, x, h => by simpa [blen] using h
  | j + 1, x, h => by
    unfold blen; split
    · omega
    · have := blen_lt j (x / 256) (by rw [Nat.pow_succ] at h; omega)
      rw [Nat.pow_succ]; omega
theorem blen_ge : ∀ (j x : Nat), 0 < blen j x → 256 ^ (blen j x - 1) ≤ x
  | 0, x, h => by simp [blen] at h
  | j + 1, x, h => by
    unfold blen at h ⊢
    split at h
    · omega
    · rename_i hx
      rw [if_neg hx]
      by_cases h0 : 0 < blen j (x / 256)
      · have := blen_ge j (x / 256) h0
        have e : blen j (x / 256) + 1 - 1 = (blen j (x / 256) - 1) + 1 := by omega
        rw [e, Nat.pow_succ]; omega
      · have : blen j (x / 256) = 0 := by omega
        rw [this]; simp; omega
theorem enc_length (x : Nat) : (enc x).length ≤ 9 := by
  have := blen_le 8 x
  simp [enc, be_length]; omega

theorem u8of_nat {a : Nat} (h : a < 256) : u8of (a : Int) = UInt8.ofNat a := by
  unfold u8of
  congr 1
  simp only [IntKind.wrap, IntKind.bits, IntKind.signed]
  simp
  omega

theorem ref_Num_l0 (n : Nat) : ∀ (j k x c : Nat) (s : List UInt8), x < 256 ^ j → j < k → j + c ≤ 200 → x ≤ 18446744073709551615 → s.length + j + 1 ≤ i64max →
    tontineref03_Num.l0 n k (x : Int) s (c : Int) = some (UInt8.ofNat (c + blen j x) :: (be (blen j x) x ++ s))
  | j, 0, x, c, s, h, hk, hc, hx, hs => by omega
  | 0, k + 1, x, c, s, h, hk, hc, hx, hs => by
    have : x = 0 := by simpa using h
    subst this
    unfold tontineref03_Num.l0
    rw [if_neg (by simp), if_pos (by simp; omega), u8of_nat (by omega)]
    simp [blen, be]
  | j + 1, k + 1, x, c, s, h, hk, hc, hx, hs => by
    unfold tontineref03_Num.l0
    by_cases h0 : x = 0
    · subst h0
      rw [if_neg (by simp), if_pos (by simp; omega), u8of_nat (by omega)]
      simp [blen, be]
    · rw [if_pos (by simp; omega), if_pos (by simp; omega)]
      have e1 : ((x : Int)).tmod 256 = ((x % 256 : Nat) : Int) := by rfl
      have e2 : ((x : Int)).tdiv 256 = ((x / 256 : Nat) : Int) := by rfl
      have e3 : wi64 ((c : Int) + 1) = ((c + 1 : Nat) : Int) := by rw [wi64_id (by omega) (by omega)]; omega
      have e4 : wu64 ((x / 256 : Nat) : Int) = ((x / 256 : Nat) : Int) := wu64_id (by omega) (by omega)
      rw [e1, e2, e3, e4, u8of_nat (by omega), ref_Num_l0 n j k (x / 256) (c + 1) _ (by rw [Nat.pow_succ] at h; omega) (by omega) (by omega) (by omega) (by simp; omega)]
      have hb : blen (j + 1) x = blen j (x / 256) + 1 := by rw [blen, if_neg h0]
      rw [hb, be_succ]
      simp [Nat.add_assoc, Nat.add_comm]

theorem ref_Num (n : Nat) (hn : 20 ≤ n) {x : Int} (h : 0 ≤ x ∧ x ≤ 18446744073709551615) : tontineref03_Num.f n x = some (enc x.toNat) := by
  obtain ⟨m, rfl⟩ : ∃ m : Nat, x = (m : Int) := ⟨x.toNat, by omega⟩
  unfold tontineref03_Num.f
  have := ref_Num_l0 n 8 n m 0 [] (by simp; omega) (by omega) (by omega) (by omega) (by simp [i64max])
  simp only [Nat.zero_add, List.append_nil] at this
  exact this

theorem shR_8 (y : Nat) : shR .u64 (y : Int) 8 = ((y / 256 : Nat) : Int) := by
  show (y : Int).fdiv (2 ^ 8) = _
  rw [Int.fdiv_eq_ediv_of_nonneg _ (by decide)]
  simp
theorem shR_n (y : Nat) (i : Nat) (h : i < 8) : shR .u64 (y : Int) (wi64 (8 * (i : Int))) = ((y / 256 ^ i : Nat) : Int) := by
  rw [wi64_id (by omega) (by omega)]
  have e : (8 * (i : Int)).toNat = 8 * i := by omega
  unfold shR
  rw [e, Nat.min_eq_left (by simp [IntKind.bits]; omega), Int.fdiv_eq_ediv_of_nonneg _ (by exact Int.le_of_lt (Int.pow_pos (by decide)))]
  have : (2 : Int) ^ (8 * i) = ((256 ^ i : Nat) : Int) := by
    rw [Int.pow_mul]; simp
  rw [this]; simp
theorem u8of_mod (a : Nat) : u8of (a : Int) = UInt8.ofNat (a % 256) := by
  unfold u8of
  congr 1

theorem capOk1 {m : Nat} (h : m ≤ 100000000000000) : capOk 1 m := by unfold capOk; omega

theorem w_Num_l1 (n X : Nat) : ∀ (i k : Nat) (f : List UInt8), i ≤ 8 → i < k → f.length + i ≤ 100000000000000 →
    pack_Writer_Num.l1 n (X : Int) k f ((i : Int) - 1) = some ⟨f ++ be i X⟩
  | i, 0, f, _, h, _ => by omega
  | 0, k + 1, f, _, _, _ => by
    unfold pack_Writer_Num.l1
    rw [if_neg (by simp)]
    simp [be]
  | i + 1, k + 1, f, hi, hk, hf => by
    unfold pack_Writer_Num.l1
    have e : (((i + 1 : Nat) : Int) - 1) = (i : Int) := by omega
    have e2 : (0 : Int) ≤ wi64 (8 * (i : Int)) := by rw [wi64_id (by omega) (by omega)]; omega
    rw [e, if_pos (by simp), if_pos e2, shR_n X i (by omega), if_pos (capOk1 (by simp; omega)), wi64_id (by omega) (by omega), w_Num_l1 n X i k _ (by omega) (by omega) (by simp; omega), u8of_mod]
    simp [be]

theorem w_Num_l0 (n X : Nat) (w : T_pack_Writer) (hn : 10 ≤ n) (hw : w.b.length ≤ 1000000000000) : ∀ (j k c y : Nat), y < 256 ^ j → j < k → c + j ≤ 8 → y ≤ 18446744073709551615 →
    pack_Writer_Num.l0 n w (X : Int) k (c : Int) (y : Int) = some ⟨w.b ++ (UInt8.ofNat (c + blen j y) :: be (c + blen j y) X)⟩
  | j, 0, c, y, h, hk, hc, hx => by omega
  | 0, k + 1, c, y, h, hk, hc, hx => by
    have : y = 0 := by simpa using h
    subst this
    unfold pack_Writer_Num.l0
    rw [if_neg (by simp), if_pos (capOk1 (by simp; omega)), u8of_nat (by omega), wi64_id (by omega) (by omega), w_Num_l1 n X c n _ (by omega) (by omega) (by simp; omega)]
    simp [blen]
  | j + 1, k + 1, c, y, h, hk, hc, hx => by
    unfold pack_Writer_Num.l0
    by_cases h0 : y = 0
    · subst h0
      rw [if_neg (by simp), if_pos (capOk1 (by simp; omega)), u8of_nat (by omega), wi64_id (by omega) (by omega), w_Num_l1 n X c n _ (by omega) (by omega) (by simp; omega)]
      simp [blen]
    · have e3 : wi64 ((c : Int) + 1) = ((c + 1 : Nat) : Int) := by rw [wi64_id (by omega) (by omega)]; omega
      rw [if_pos (by simp; omega), shR_8, e3, w_Num_l0 n X w hn hw j k (c + 1) (y / 256) (by rw [Nat.pow_succ] at h; omega) (by omega) (by omega) (by omega)]
      have hb : blen (j + 1) y = blen j (y / 256) + 1 := by rw [blen, if_neg h0]
      rw [hb, show c + 1 + blen j (y / 256) = c + (blen j (y / 256) + 1) by omega]

theorem w_Num (n : Nat) (hn : 20 ≤ n) (w : T_pack_Writer) (hw : w.b.length ≤ 1000000000000) {x : Int} (h : 0 ≤ x ∧ x ≤ 18446744073709551615) : pack_Writer_Num.f n w x = some ⟨w.b ++ enc x.toNat⟩ := by
  obtain ⟨m, rfl⟩ : ∃ m : Nat, x = (m : Int) := ⟨x.toNat, by omega⟩
  unfold pack_Writer_Num.f
  have := w_Num_l0 n m w (by omega) hw 8 n 0 m (by simp; omega) (by omega) (by omega) (by omega)
  simp only [Nat.zero_add] at this
  exact this
end Go.GL
