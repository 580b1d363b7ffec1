/- Sums: what the plain functions compute. No condition but the bounds named. -/
import Derived.Test.YtapiconoooncgaaKindsT1
import Derived.Test.YtapiconoooncgaaCrc
set_option linter.unusedVariables false
set_option linter.unusedSimpArgs false
namespace Go.GL
open Go Crc

theorem wi64_id {x : Int} (h1 : -9223372036854775808 ≤ x) (h2 : x ≤ 9223372036854775807) : wi64 x = x := by
  simp only [wi64, IntKind.wrap, IntKind.bits, IntKind.signed]
  simp
  omega
theorem wu64_id {x : Int} (h1 : 0 ≤ x) (h2 : x ≤ 18446744073709551615) : wu64 x = x := by
  simp only [wu64, IntKind.wrap, IntKind.bits, IntKind.signed]
  simp
  omega
theorem wu32_id {x : Int} (h1 : 0 ≤ x) (h2 : x ≤ 4294967295) : wu32 x = x := by
  simp only [wu32, IntKind.wrap, IntKind.bits, IntKind.signed]
  simp
  omega
theorem getD_drop {α : Type} [Inhabited α] {l : List α} {i : Nat} (h : i < l.length) : l.drop i = rdL l (i : Int) :: l.drop (i + 1) := by
  rw [List.drop_eq_getElem_cons h]
  congr 1
  simp [rdL, h]
theorem w_u8 (c : UInt8) : wu32 ((c.toNat : Nat) : Int) = I (u8v c) := by
  have := c.toNat_lt
  rw [wu32_id (by omega) (by omega), I_u8]

theorem add_l1 (n : Nat) (L0 : Int → Int → Option Int) (i : Int) : ∀ (j k : Nat) (x : BitVec 32), j ≤ 8 → j < k → crc_Add.l1 n L0 i k (I x) (8 - (j : Int)) = L0 (I (halfN j x)) (wi64 (i + 1))
  | j, 0, x, _, h => by omega
  | 0, k + 1, x, _, _ => by
    unfold crc_Add.l1
    rw [if_neg (by simp)]
    rfl
  | j + 1, k + 1, x, hj, hk => by
    unfold crc_Add.l1
    rw [if_pos (by simp; omega), I_half, wi64_id (by omega) (by omega), show (8 - ((j + 1 : Nat) : Int) + 1) = 8 - (j : Int) by omega, add_l1 n L0 i j k _ (by omega) (by omega)]
    rfl
theorem add_l0 (n : Nat) (hn : 9 ≤ n) (b : List UInt8) (hb : b.length ≤ 1000000000000000) : ∀ (m k i : Nat) (x : BitVec 32), i + m = b.length → m < k → crc_Add.l0 n b k (I x) (i : Int) = some (I (~~~ feed x (b.drop i)))
  | m, 0, i, x, _, h => by omega
  | 0, k + 1, i, x, hi, _ => by
    unfold crc_Add.l0
    rw [if_neg (by simp; omega), List.drop_of_length_le (by omega), I_not]
    rfl
  | m + 1, k + 1, i, x, hi, hk => by
    unfold crc_Add.l0
    rw [if_pos (by simp; omega), if_pos ⟨by omega, by omega⟩, w_u8, I_xor]
    have h8 := add_l1 n (crc_Add.l0 n b k) (i : Int) 8 n (x ^^^ u8v (rdL b (i : Int))) (by omega) (by omega)
    rw [show (8 - ((8 : Nat) : Int)) = 0 by omega] at h8
    rw [h8, wi64_id (by omega) (by omega), show ((i : Int) + 1) = ((i + 1 : Nat) : Int) by omega, add_l0 n hn b hb m k (i + 1) _ (by omega) (by omega), getD_drop (by omega : i < b.length)]
    rfl
theorem f_Add (n : Nat) (s : BitVec 32) (b : List UInt8) (hb : b.length ≤ 1000000000000000) (hn : b.length + 9 ≤ n) : crc_Add.f n (I s) b = some (I (add s b)) := by
  unfold crc_Add.f
  rw [I_not]
  have := add_l0 n (by omega) b hb b.length n 0 (~~~ s) (by omega) (by omega)
  rw [List.drop_zero] at this
  exact this
theorem f_Sum (n : Nat) (b : List UInt8) (hb : b.length ≤ 1000000000000000) (hn : b.length + 9 ≤ n) : crc_Sum.f n b = some (I (add 0#32 b)) := by
  unfold crc_Sum.f
  have := f_Add n 0#32 b hb hn
  rw [show I 0#32 = 0 by decide] at this
  rw [this]; rfl

theorem begun02 : ∀ n, 40 ≤ n → tontinelaw02_begun.f n = some true := by
  intro n hn
  unfold tontinelaw02_begun.f
  rw [f_Sum n _ (by decide) (by simp; omega), Option.bind_some, f_Sum n _ (by decide) (by simp; omega)]
  have e1 : I (add 0#32 [(49 : UInt8), (50 : UInt8), (51 : UInt8), (52 : UInt8), (53 : UInt8), (54 : UInt8), (55 : UInt8), (56 : UInt8), (57 : UInt8)]) = 3808858755 := by kernel_rfl
  have e2 : I (add 0#32 ([] : List UInt8)) = 0 := by kernel_rfl
  rw [e1, e2]
  rfl

theorem I_sr1 (x : BitVec 32) : wu32 ((I x).tdiv 2) = I (x >>> 1) := by
  have h := I_range x
  have e : (I x).tdiv 2 = I (x >>> 1) := by
    rw [← I_shr1]
    show _ = (I x).fdiv (2 ^ (min (1 : Int).toNat 32))
    rw [show (2 : Int) ^ (min (1 : Int).toNat 32) = 2 by decide, Int.fdiv_eq_ediv_of_nonneg _ (by decide), Int.tdiv_eq_ediv_of_nonneg h.1]
  have h2 := I_range (x >>> 1)
  rw [e, wu32_id h2.1 h2.2]
theorem I_odd (x : BitVec 32) : ((I x).tmod 2 == 1) = x.getLsbD 0 := by
  have h := I_range x
  rw [Int.tmod_eq_emod_of_nonneg h.1]
  unfold I
  rw [BitVec.getLsbD]
  rw [Nat.testBit_zero]
  rw [Bool.eq_iff_iff]
  simp only [beq_iff_eq, decide_eq_true_eq]
  constructor <;> intro q <;> omega
theorem r_half (n : Nat) (x : BitVec 32) : tontineref02_half.f n (I x) = some (I (half x)) := by
  unfold tontineref02_half.f
  rw [I_odd, I_sr1]
  unfold half
  split
  · rename_i h
    rw [I_poly, I_xor]
  · rename_i h
    rw [BitVec.xor_zero]
theorem I_not2 (x : BitVec 32) : wu32 (4294967295 - I x) = I (~~~ x) := by
  have h := I_range x
  rw [wu32_id (by omega) (by omega)]
  unfold I
  rw [BitVec.toNat_not]
  have := x.isLt
  omega
theorem r_add_l1 (n : Nat) (L0 : Int → Int → Option Int) (i : Int) : ∀ (j k : Nat) (x : BitVec 32), j ≤ 8 → j < k → tontineref02_Add.l1 n L0 i k (I x) (8 - (j : Int)) = L0 (I (halfN j x)) (wi64 (i + 1))
  | j, 0, x, _, h => by omega
  | 0, k + 1, x, _, _ => by
    unfold tontineref02_Add.l1
    rw [if_neg (by simp)]
    rfl
  | j + 1, k + 1, x, hj, hk => by
    unfold tontineref02_Add.l1
    rw [if_pos (by simp; omega), r_half, Option.bind_some, wi64_id (by omega) (by omega), show (8 - ((j + 1 : Nat) : Int) + 1) = 8 - (j : Int) by omega, r_add_l1 n L0 i j k _ (by omega) (by omega)]
    rfl
theorem r_add_l0 (n : Nat) (hn : 9 ≤ n) (b : List UInt8) (hb : b.length ≤ 1000000000000000) : ∀ (m k i : Nat) (x : BitVec 32), i + m = b.length → m < k → tontineref02_Add.l0 n b k (I x) (i : Int) = some (I (~~~ feed x (b.drop i)))
  | m, 0, i, x, _, h => by omega
  | 0, k + 1, i, x, hi, _ => by
    unfold tontineref02_Add.l0
    rw [if_neg (by simp; omega), List.drop_of_length_le (by omega), I_not2]
    rfl
  | m + 1, k + 1, i, x, hi, hk => by
    unfold tontineref02_Add.l0
    rw [if_pos (by simp; omega), if_pos ⟨by omega, by omega⟩, w_u8, I_xor]
    have h8 := r_add_l1 n (tontineref02_Add.l0 n b k) (i : Int) 8 n (x ^^^ u8v (rdL b (i : Int))) (by omega) (by omega)
    rw [show (8 - ((8 : Nat) : Int)) = 0 by omega] at h8
    rw [h8, wi64_id (by omega) (by omega), show ((i : Int) + 1) = ((i + 1 : Nat) : Int) by omega, r_add_l0 n hn b hb m k (i + 1) _ (by omega) (by omega), getD_drop (by omega : i < b.length)]
    rfl
theorem r_Add (n : Nat) (s : BitVec 32) (b : List UInt8) (hb : b.length ≤ 1000000000000000) (hn : b.length + 9 ≤ n) : tontineref02_Add.f n (I s) b = some (I (add s b)) := by
  unfold tontineref02_Add.f
  rw [I_not2]
  have := r_add_l0 n (by omega) b hb b.length n 0 (~~~ s) (by omega) (by omega)
  rw [List.drop_zero] at this
  exact this
theorem wf_I {x : Int} (h : (Lit.int .u32 x).wf = true) : ∃ b, x = I b := ⟨_, I_of (wf_u32 h).1 (wf_u32 h).2⟩
theorem reach_small {n : Nat} (h : n ≤ reachBytes) : n ≤ 1000000000000000 := by unfold reachBytes at h; omega
end Go.GL
