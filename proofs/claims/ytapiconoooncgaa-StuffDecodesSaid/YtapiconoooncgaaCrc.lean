/- Sums: the model over bits, and what holds of it. No condition. -/
import Derived.Test.YtapiconoooncgaaG13
set_option linter.unusedVariables false
set_option linter.unusedSimpArgs false
namespace Go.GL.Crc
open Go Go.GL

def poly : BitVec 32 := 0x82F63B78#32
def half (x : BitVec 32) : BitVec 32 := (x >>> 1) ^^^ (if x.getLsbD 0 then poly else 0#32)
def halfN : Nat → BitVec 32 → BitVec 32
  | 0, x => x
  | n + 1, x => halfN n (half x)
def u8v (c : UInt8) : BitVec 32 := c.toBitVec.setWidth 32
def byteStep (x : BitVec 32) (c : UInt8) : BitVec 32 := halfN 8 (x ^^^ u8v c)
def feed (x : BitVec 32) (l : List UInt8) : BitVec 32 := l.foldl byteStep x
def add (s : BitVec 32) (l : List UInt8) : BitVec 32 := ~~~ (feed (~~~ s) l)

theorem half_xor (x y : BitVec 32) : half (x ^^^ y) = half x ^^^ half y := by
  simp only [half, BitVec.ushiftRight_xor_distrib, BitVec.getLsbD_xor]
  cases x.getLsbD 0 <;> cases y.getLsbD 0 <;> simp
  · ac_rfl
  · ac_rfl
  · rw [show x >>> 1 ^^^ poly ^^^ (y >>> 1 ^^^ poly) = x >>> 1 ^^^ y >>> 1 ^^^ (poly ^^^ poly) by ac_rfl]
    simp
theorem half_zero : half 0#32 = 0#32 := by decide
theorem halfN_xor : ∀ (n : Nat) (x y : BitVec 32), halfN n (x ^^^ y) = halfN n x ^^^ halfN n y
  | 0, _, _ => rfl
  | n + 1, x, y => by simp only [halfN, half_xor, halfN_xor n]
theorem halfN_zero : ∀ n, halfN n 0#32 = 0#32
  | 0 => rfl
  | n + 1 => by simp only [halfN, half_zero, halfN_zero n]
theorem halfN_add : ∀ (a b : Nat) (x : BitVec 32), halfN (a + b) x = halfN b (halfN a x)
  | 0, b, x => by simp [halfN]
  | a + 1, b, x => by rw [Nat.add_right_comm]; simp only [halfN, halfN_add a b]
theorem half_inj0 {x : BitVec 32} (h : half x = 0#32) : x = 0#32 := by
  have hb : x.getLsbD 0 = false := by
    have := congrArg (fun z => z.getLsbD 31) h
    simp only [half, BitVec.getLsbD_xor, BitVec.getLsbD_ushiftRight] at this
    cases hx : x.getLsbD 0 with
    | false => rfl
    | true =>
      rw [hx] at this
      have h32 : x.getLsbD (1 + 31) = false := BitVec.getLsbD_of_ge x 32 (by decide)
      rw [h32] at this
      revert this; decide
  simp only [half, hb, Bool.false_eq_true, if_false, BitVec.xor_zero] at h
  apply BitVec.eq_of_getLsbD_eq
  intro i hi
  cases i with
  | zero => simpa using hb
  | succ i =>
    have := congrArg (fun z => z.getLsbD i) h
    simp only [BitVec.getLsbD_ushiftRight] at this
    rw [Nat.add_comm]
    simpa using this
theorem halfN_inj0 : ∀ {n : Nat} {x : BitVec 32}, halfN n x = 0#32 → x = 0#32
  | 0, _, h => h
  | n + 1, x, h => half_inj0 (halfN_inj0 (n := n) h)

theorem u8v_xor (a b : UInt8) : u8v (a ^^^ b) = u8v a ^^^ u8v b := by
  simp only [u8v, UInt8.toBitVec_xor, BitVec.setWidth_xor]
theorem u8v_zero : u8v 0 = 0#32 := by decide
theorem byteStep_xor (x y : BitVec 32) (a b : UInt8) : byteStep (x ^^^ y) (a ^^^ b) = byteStep x a ^^^ byteStep y b := by
  simp only [byteStep, u8v_xor]
  rw [← halfN_xor]
  congr 1
  ac_rfl
theorem feed_xor : ∀ (a b : List UInt8) (x y : BitVec 32), a.length = b.length → feed (x ^^^ y) (List.zipWith (· ^^^ ·) a b) = feed x a ^^^ feed y b
  | [], [], _, _, _ => rfl
  | a :: as, b :: bs, x, y, h => by
    simp only [feed, List.zipWith_cons_cons, List.foldl_cons, byteStep_xor]
    exact feed_xor as bs _ _ (by simpa using h)
theorem feed_append (x : BitVec 32) (a b : List UInt8) : feed x (a ++ b) = feed (feed x a) b := by simp [feed]
theorem feed_zeros : ∀ (n : Nat) (x : BitVec 32), feed x (List.replicate n 0) = halfN (8 * n) x
  | 0, x => rfl
  | n + 1, x => by
    rw [List.replicate_succ, Nat.mul_add, Nat.mul_one, Nat.add_comm, halfN_add]
    have : byteStep x 0 = halfN 8 x := by simp [byteStep, u8v_zero]
    show feed (byteStep x 0) (List.replicate n 0) = _
    rw [this, feed_zeros n]
theorem zip_zeros : ∀ (l : List UInt8), List.zipWith (· ^^^ ·) (List.replicate l.length 0) l = l
  | [] => rfl
  | x :: r => by
    rw [List.length_cons, List.replicate_succ, List.zipWith_cons_cons, zip_zeros r]
    congr 1
    exact UInt8.zero_xor
theorem feed_split (x : BitVec 32) (l : List UInt8) : feed x l = halfN (8 * l.length) x ^^^ feed 0#32 l := by
  have := feed_xor (List.replicate l.length 0) l x 0#32 (by simp)
  rw [zip_zeros, feed_zeros] at this
  rw [← this, BitVec.xor_zero]
theorem feed_inj0 {x : BitVec 32} {l : List UInt8} (h : feed x l = feed 0#32 l) : x = 0#32 := by
  rw [feed_split] at h
  refine halfN_inj0 (n := 8 * l.length) ?_
  have := congrArg (· ^^^ feed 0#32 l) h
  simpa [BitVec.xor_assoc] using this

def join (a b : BitVec 32) (n : Nat) : BitVec 32 := halfN (8 * n) a ^^^ b
theorem not_xor1 (x : BitVec 32) : ~~~ x = x ^^^ BitVec.allOnes 32 := (BitVec.xor_allOnes).symm
theorem add_append (s : BitVec 32) (a b : List UInt8) : add s (a ++ b) = add (add s a) b := by
  simp [add, feed_append]
theorem add_join (s : BitVec 32) (a b : List UInt8) : add s (a ++ b) = join (add s a) (add 0#32 b) b.length := by
  rw [add_append]
  simp only [join, add]
  rw [feed_split (~~~ ~~~ _), feed_split (~~~ 0#32)]
  rw [BitVec.not_not, not_xor1 (feed _ a), halfN_xor]
  rw [not_xor1 (halfN _ _ ^^^ feed _ _), not_xor1 (halfN _ _ ^^^ feed _ _), show (~~~ 0#32 : BitVec 32) = BitVec.allOnes 32 by decide]
  generalize halfN (8 * b.length) (feed (~~~ s) a) = p
  generalize halfN (8 * b.length) (BitVec.allOnes 32) = q
  generalize feed 0#32 b = r
  rw [show p ^^^ q ^^^ (q ^^^ r ^^^ BitVec.allOnes 32) = p ^^^ r ^^^ BitVec.allOnes 32 ^^^ (q ^^^ q) by ac_rfl]
  simp

/-! ### As numbers -/
def I (b : BitVec 32) : Int := (b.toNat : Int)
theorem I_range (b : BitVec 32) : 0 ≤ I b ∧ I b ≤ 4294967295 := by have := b.isLt; unfold I; omega
theorem I_inj {a b : BitVec 32} : I a = I b ↔ a = b := by
  unfold I
  rw [Int.ofNat_inj]
  exact ⟨BitVec.eq_of_toNat_eq, fun h => by rw [h]⟩
theorem ofInt_I (b : BitVec 32) : BitVec.ofInt 32 (I b) = b := by
  unfold I
  rw [BitVec.ofInt_natCast]
  simp
theorem I_of {x : Int} (h0 : 0 ≤ x) (h1 : x ≤ 4294967295) : x = I (BitVec.ofInt 32 x) := by
  unfold I
  rw [BitVec.toNat_ofInt]
  have : x % ((2 ^ 32 : Nat) : Int) = x := Int.emod_eq_of_lt h0 (by omega)
  rw [this]; omega
theorem wrapI (b : BitVec 32) : IntKind.u32.wrap (b.toNat : Int) = I b := by
  have := b.isLt
  simp only [IntKind.wrap, IntKind.bits, IntKind.signed, Bool.false_and, Bool.false_eq_true, if_false]
  exact Int.emod_eq_of_lt (by omega) (by omega)
theorem I_xor (a b : BitVec 32) : bXor .u32 (I a) (I b) = I (a ^^^ b) := by
  show IntKind.u32.wrap ((BitVec.ofInt 32 (I a) ^^^ BitVec.ofInt 32 (I b)).toNat : Int) = _
  rw [ofInt_I, ofInt_I, wrapI]
theorem I_and (a b : BitVec 32) : bAnd .u32 (I a) (I b) = I (a &&& b) := by
  show IntKind.u32.wrap ((BitVec.ofInt 32 (I a) &&& BitVec.ofInt 32 (I b)).toNat : Int) = _
  rw [ofInt_I, ofInt_I, wrapI]
theorem I_not (a : BitVec 32) : bNot .u32 (I a) = I (~~~ a) := by
  show IntKind.u32.wrap ((BitVec.ofInt 32 (if IntKind.u32.signed then -1 else IntKind.u32.max) ^^^ BitVec.ofInt 32 (I a)).toNat : Int) = _
  rw [ofInt_I, wrapI, show BitVec.ofInt 32 (if IntKind.u32.signed then -1 else IntKind.u32.max) = BitVec.allOnes 32 by decide]
  congr 1
theorem I_shr1 (a : BitVec 32) : shR .u32 (I a) 1 = I (a >>> 1) := by
  show (I a).fdiv (2 ^ (min (1 : Int).toNat 32)) = _
  unfold I
  rw [show (2 : Int) ^ (min (1 : Int).toNat 32) = 2 by decide, BitVec.toNat_ushiftRight, Nat.shiftRight_eq_div_pow]
  rw [Int.fdiv_eq_ediv_of_nonneg _ (by decide)]
  omega
theorem I_neg (a : BitVec 32) : wu32 (0 - I a) = I (-a) := by
  show IntKind.u32.wrap (0 - I a) = _
  simp only [IntKind.wrap, IntKind.bits, IntKind.signed, Bool.false_and, Bool.false_eq_true, if_false]
  unfold I
  rw [BitVec.toNat_neg]
  have := a.isLt
  omega
theorem and_one (x : BitVec 32) : x &&& 1#32 = if x.getLsbD 0 then 1#32 else 0#32 := by
  apply BitVec.eq_of_getLsbD_eq
  intro i hi
  cases i with
  | zero => rw [BitVec.getLsbD_and]; cases h : x.getLsbD 0 <;> rfl
  | succ i => cases h : x.getLsbD 0 <;> simp
theorem mask (p x : BitVec 32) : p &&& -(x &&& 1#32) = if x.getLsbD 0 then p else 0#32 := by
  rw [and_one]
  split
  · rw [show (-1#32 : BitVec 32) = BitVec.allOnes 32 by decide, BitVec.and_allOnes]
  · simp
theorem I_one : (1 : Int) = I 1#32 := by decide
theorem I_poly : (2197175160 : Int) = I poly := by decide
theorem I_zero : (0 : Int) = I 0#32 := by decide
theorem I_half (x : BitVec 32) : bXor .u32 (shR .u32 (I x) 1) (bAnd .u32 2197175160 (wu32 (0 - bAnd .u32 (I x) 1))) = I (half x) := by
  rw [I_shr1, I_one, I_and, I_neg, I_poly, I_and, I_xor, mask]
  rfl
theorem I_u8 (c : UInt8) : ((c.toNat : Nat) : Int) = I (u8v c) := by
  unfold I u8v
  have := c.toNat_lt
  rw [BitVec.toNat_setWidth, UInt8.toNat_toBitVec, Nat.mod_eq_of_lt (by omega)]
end Go.GL.Crc
