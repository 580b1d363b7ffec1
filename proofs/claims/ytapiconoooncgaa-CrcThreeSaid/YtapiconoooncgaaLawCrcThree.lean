/- The law CrcThree, over the plain functions. -/
import Derived.Test.YtapiconoooncgaaCrcFn
set_option linter.unusedVariables false
set_option linter.unusedSimpArgs false
namespace Go.GL
open Go Crc

/-- Three texts, laid over one another. -/
def lay3 (a b c : List UInt8) : List UInt8 := List.zipWith (· ^^^ ·) (List.zipWith (· ^^^ ·) a b) c
theorem u8_xor (a b : UInt8) : bXor .u8 ((a.toNat : Nat) : Int) ((b.toNat : Nat) : Int) = (((a ^^^ b).toNat : Nat) : Int) := by
  show IntKind.u8.wrap ((BitVec.ofInt 8 ((a.toNat : Nat) : Int) ^^^ BitVec.ofInt 8 ((b.toNat : Nat) : Int)).toNat : Int) = _
  have e : ∀ c : UInt8, BitVec.ofInt 8 ((c.toNat : Nat) : Int) = c.toBitVec := by
    intro c
    rw [BitVec.ofInt_natCast]
    apply BitVec.eq_of_toNat_eq
    have := c.toNat_lt
    simp
  rw [e, e, ← UInt8.toBitVec_xor]
  have := (a ^^^ b).toNat_lt
  simp only [IntKind.wrap, IntKind.bits, IntKind.signed, Bool.false_and, Bool.false_eq_true, if_false, UInt8.toNat_toBitVec]
  omega
theorem u8of_self (a : UInt8) : u8of ((a.toNat : Nat) : Int) = a := by
  apply UInt8.toNat_inj.1
  have h := u8of_toNat ((a.toNat : Nat) : Int)
  have := a.toNat_lt
  have e : IntKind.u8.wrap ((a.toNat : Nat) : Int) = ((a.toNat : Nat) : Int) := by
    simp only [IntKind.wrap, IntKind.bits, IntKind.signed, Bool.false_and, Bool.false_eq_true, if_false]
    omega
  rw [e] at h
  omega
theorem add3 (a b c : List UInt8) (h1 : a.length = b.length) (h2 : a.length = c.length) : add 0#32 (lay3 a b c) = add 0#32 a ^^^ add 0#32 b ^^^ add 0#32 c := by
  have hf : feed (~~~ 0#32) (lay3 a b c) = feed (~~~ 0#32) a ^^^ feed (~~~ 0#32) b ^^^ feed (~~~ 0#32) c := by
    have e1 := feed_xor a b (~~~ 0#32) (~~~ 0#32) h1
    have e2 := feed_xor (List.zipWith (· ^^^ ·) a b) c (~~~ 0#32 ^^^ ~~~ 0#32) (~~~ 0#32) (by rw [List.length_zipWith]; omega)
    rw [e1] at e2
    rw [← e2, show (~~~ 0#32 ^^^ ~~~ 0#32 ^^^ ~~~ 0#32 : BitVec 32) = ~~~ 0#32 by decide]
    rfl
  simp only [add, hf]
  generalize feed (~~~ 0#32) a = p
  generalize feed (~~~ 0#32) b = q
  generalize feed (~~~ 0#32) c = r
  rw [not_xor1, not_xor1 p, not_xor1 q, not_xor1 r, show (p ^^^ BitVec.allOnes 32 ^^^ (q ^^^ BitVec.allOnes 32) ^^^ (r ^^^ BitVec.allOnes 32)) = (p ^^^ q ^^^ r ^^^ BitVec.allOnes 32) ^^^ (BitVec.allOnes 32 ^^^ BitVec.allOnes 32) by ac_rfl]
  simp

theorem three_l0 (n : Nat) (a b c : List UInt8) (m : Nat) (hm : (if (c.length : Int) < (if (b.length : Int) < (a.length : Int) then (b.length : Int) else (a.length : Int)) then (c.length : Int) else (if (b.length : Int) < (a.length : Int) then (b.length : Int) else (a.length : Int))) = (m : Int))
    (h1 : m ≤ a.length) (h2 : m ≤ b.length) (h3 : m ≤ c.length) (hl : m ≤ 1000000000000000) (hn : m + 9 ≤ n) :
    ∀ (j k i : Nat), i + j = m → j < k → tontinelaw02_CrcThree.l0 n a b c k ((lay3 a b c).take i ++ List.replicate j 0) (i : Int) = some true
  | j, 0, i, _, h => by omega
  | 0, k + 1, i, hi, _ => by
    unfold tontinelaw02_CrcThree.l0
    have hi : i = m := by omega
    subst hi
    have e : (lay3 a b c).take i = lay3 (a.take i) (b.take i) (c.take i) := by simp [lay3, List.take_zipWith]
    simp only [hm, Int.toNat_natCast, List.length_replicate, List.replicate_zero, List.append_nil, Int.toNat_zero, List.drop_zero]
    rw [if_neg (by simp), if_pos ⟨by omega, by omega, by omega⟩, if_pos ⟨by omega, by omega, by omega⟩, if_pos ⟨by omega, by omega, by omega⟩]
    have la : (a.take i).length = i := by rw [List.length_take]; omega
    have lb : (b.take i).length = i := by rw [List.length_take]; omega
    have lc : (c.take i).length = i := by rw [List.length_take]; omega
    have le : (lay3 (a.take i) (b.take i) (c.take i)).length = i := by simp [lay3]; omega
    rw [e, f_Sum n _ (by omega) (by omega), Option.bind_some, f_Sum n _ (by omega) (by omega), Option.bind_some, f_Sum n _ (by omega) (by omega), Option.bind_some, f_Sum n _ (by omega) (by omega), Option.bind_some, I_xor, I_xor, add3 _ _ _ (by omega) (by omega)]
    simp
  | j + 1, k + 1, i, hi, hk => by
    unfold tontinelaw02_CrcThree.l0
    have hll : (lay3 a b c).length = min (min a.length b.length) c.length := by simp [lay3]
    have hlt : ((lay3 a b c).take i).length = i := by rw [List.length_take]; omega
    simp only [hm, Int.toNat_natCast, List.length_replicate, List.length_append, hlt]
    rw [if_pos (by simp; omega), if_pos ⟨by omega, by omega⟩, if_pos ⟨by omega, by omega⟩, if_pos ⟨by omega, by omega⟩, if_pos ⟨by omega, by omega⟩, u8_xor, u8_xor, u8of_self, wi64_id (by omega) (by omega), show ((i : Int) + 1) = ((i + 1 : Nat) : Int) by omega]
    have hset : ((lay3 a b c).take i ++ List.replicate (j + 1) 0).set i (rdL a (i : Int) ^^^ rdL b (i : Int) ^^^ rdL c (i : Int)) = (lay3 a b c).take (i + 1) ++ List.replicate j 0 := by
      rw [List.set_append_right _ _ (by omega), hlt, Nat.sub_self, List.replicate_succ, List.set_cons_zero, List.take_add_one]
      have : (lay3 a b c)[i]? = some (rdL a (i : Int) ^^^ rdL b (i : Int) ^^^ rdL c (i : Int)) := by
        have ia : i < a.length := by omega
        have ib : i < b.length := by omega
        have ic : i < c.length := by omega
        simp [lay3, List.getElem?_zipWith, rdL, ia, ib, ic]
      rw [this]
      simp
    rw [hset]
    exact three_l0 n a b c m hm h1 h2 h3 hl hn j k (i + 1) (by omega) (by omega)

theorem tontinelaw02_CrcThree_law (a b c : List UInt8) (ha : a.length * 1 ≤ reachBytes ∧ ∀ x ∈ a, True) (hb : b.length * 1 ≤ reachBytes ∧ ∀ x ∈ b, True) (hc : c.length * 1 ≤ reachBytes ∧ ∀ x ∈ c, True) : Ev (fun n => tontinelaw02_CrcThree.f n a b c) true := by
  have hl := reach_small (by simpa using ha.1 : a.length ≤ reachBytes)
  have hr := ha.1
  refine Ev.ge (a.length + 100) fun n hn => ?_
  unfold tontinelaw02_CrcThree.f
  obtain ⟨m, hm, h1, h2, h3⟩ : ∃ m : Nat, (if (c.length : Int) < (if (b.length : Int) < (a.length : Int) then (b.length : Int) else (a.length : Int)) then (c.length : Int) else (if (b.length : Int) < (a.length : Int) then (b.length : Int) else (a.length : Int))) = (m : Int) ∧ m ≤ a.length ∧ m ≤ b.length ∧ m ≤ c.length := by
    refine ⟨min (min a.length b.length) c.length, ?_, by omega, by omega, by omega⟩
    repeat' split
    all_goals omega
  rw [begun02 n (by omega), Option.bind_some, if_neg (by simp)]
  have := three_l0 n a b c m hm h1 h2 h3 (by omega) (by omega) m n 0 (by omega) (by omega)
  simp only [List.take_zero, List.nil_append] at this
  simp only [hm, Int.toNat_natCast]
  unfold reachBytes at hr
  rw [if_pos ⟨by omega, by omega, by omega⟩]
  exact this
end Go.GL
