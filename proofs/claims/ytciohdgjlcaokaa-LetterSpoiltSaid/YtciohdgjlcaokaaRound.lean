/- What is laid is read, and what is read has one form, over the plain functions. -/
import Derived.Test.YtciohdgjlcaokaaBoth
set_option linter.unusedVariables false
set_option linter.unusedSimpArgs false
namespace Go.GL
open Go

theorem val_be : ∀ (m x : Nat), x < 256 ^ m → val (be m x) = x
  | 0, x, h => by simp at h; subst h; rfl
  | m + 1, x, h => by
    rw [be_succ, val_snoc, val_be m (x / 256) (by rw [Nat.pow_succ] at h; omega)]
    have : (UInt8.ofNat (x % 256)).toNat = x % 256 := by simp <;> omega
    rw [this]; omega

theorem rd_enc {x : Nat} (hx : x < 18446744073709551616) (r : List UInt8) : rdNum (enc x ++ r) = some (x, r) := by
  have h8 := blen_le 8 x
  have hlt := blen_lt 8 x (by simpa using hx)
  have hge := blen_ge 8 x
  have hc : (UInt8.ofNat (blen 8 x)).toNat = blen 8 x := by simp <;> omega
  have hl := be_length (blen 8 x) x
  show rdNum (UInt8.ofNat (blen 8 x) :: (be (blen 8 x) x ++ r)) = _
  simp only [rdNum, hc]
  have h0 : 0 < blen 8 x → ((be (blen 8 x) x ++ r).getD 0 0).toNat ≠ 0 := by
    intro hp
    have hge := hge hp
    obtain ⟨m, hm⟩ : ∃ m, blen 8 x = m + 1 := ⟨blen 8 x - 1, by omega⟩
    rw [hm] at hge hlt ⊢
    simp only [Nat.add_sub_cancel] at hge
    have hpos : 0 < 256 ^ m := Nat.pow_pos (by omega)
    have q1 : 1 ≤ x / 256 ^ m := (Nat.le_div_iff_mul_le hpos).2 (by omega)
    have q2 : x / 256 ^ m < 256 := (Nat.div_lt_iff_lt_mul hpos).2 (by rw [Nat.pow_succ] at hlt; rw [Nat.mul_comm]; exact hlt)
    show (UInt8.ofNat (x / 256 ^ m % 256)).toNat ≠ 0
    rw [Nat.mod_eq_of_lt q2]
    simp <;> omega
  rw [if_neg (by
    rintro (h | h | ⟨h, h'⟩)
    · omega
    · simp at h; omega
    · exact h0 h h')]
  rw [List.take_append_of_le_length (by omega), List.take_of_length_le (by omega), List.drop_append_of_le_length (by omega), List.drop_of_length_le (by omega), val_be _ _ hlt]
  rfl

theorem p_enc {n : Nat} (hn : 20 ≤ n) {x : Nat} (hx : x < 18446744073709551616) (r : List UInt8) (bad : Bool) (hr : r.length < 1000000000000000000) :
    pack_Reader_Num.f n ⟨enc x ++ r, bad⟩ = some ((x : Int), ⟨r, bad⟩) := by
  have := enc_length x
  rw [p_Num n hn _ _ (by simp <;> omega), rd_enc hx]

theorem p_up {n : Nat} (hn : 20 ≤ n) {x : Nat} (hx : x < 9223372036854775808) (r : List UInt8) (bad : Bool) (hr : r.length < 1000000000000000000) {limit : Int} (hl : (x : Int) ≤ limit) (hm : limit ≤ 9223372036854775807) :
    pack_Reader_Up.f n ⟨enc x ++ r, bad⟩ limit = some ((x : Int), ⟨r, bad⟩) := by
  unfold pack_Reader_Up.f
  rw [p_enc hn (by omega) r bad hr, Option.bind_some, if_neg (by simp <;> omega), wu64_id (by omega) (by omega)]
  have h1 : ∀ q c, pack_Reader_Up.j0 n q c = if c = true then some (0, ⟨[], true⟩) else some (wi64 q.1, q.2) := fun q c => by cases c <;> rfl
  rw [h1, if_neg (by simp <;> omega), wi64_id (by simp <;> omega) (by simp <;> omega)]
/-- One past the limit. -/
theorem p_up_past {n : Nat} (hn : 20 ≤ n) {x : Nat} (hx : x < 9223372036854775808) (r : List UInt8) (bad : Bool) (hr : r.length < 1000000000000000000) {limit : Int} (hl : limit < (x : Int)) :
    pack_Reader_Up.f n ⟨enc x ++ r, bad⟩ limit = some (0, ⟨[], true⟩) := by
  unfold pack_Reader_Up.f
  have h1 : ∀ q c, pack_Reader_Up.j0 n q c = if c = true then some (0, ⟨[], true⟩) else some (wi64 q.1, q.2) := fun q c => by cases c <;> rfl
  rw [p_enc hn (by omega) r bad hr, Option.bind_some]
  simp only [h1]
  by_cases h : limit < 0
  · rw [if_pos (by simpa using h), if_pos trivial]
  · rw [if_neg (by simpa using h), wu64_id (by omega) (by omega), if_pos (by simp <;> omega)]

theorem p_text {n : Nat} (hn : 20 ≤ n) (s : List UInt8) (r : List UInt8) (bad : Bool) (hr : s.length + r.length < 100000000000000000) {limit : Int} (hl : (s.length : Int) ≤ limit) (hm : limit ≤ 9223372036854775807) :
    pack_Reader_Text.f n ⟨encT s ++ r, bad⟩ limit = some (s, ⟨r, bad⟩) := by
  unfold pack_Reader_Text.f
  rw [encT, List.append_assoc, p_up hn (by omega) _ bad (by simp <;> omega) hl hm, Option.bind_some]
  have hd : decide ((s.length : Int) > ((s ++ r).length : Int)) = false := decide_eq_false (by simp <;> omega)
  have hc : (0 : Int) ≤ (s.length : Int) ∧ (s.length : Int) ≤ ((s ++ r).length : Int) := ⟨by omega, by simp <;> omega⟩
  simp only [hd, Bool.false_eq_true, if_false, if_pos hc, Int.toNat_natCast]
  simp
theorem p_text_past {n : Nat} (hn : 20 ≤ n) (s : List UInt8) (r : List UInt8) (bad : Bool) (hr : s.length + r.length < 100000000000000000) {limit : Int} (hl : limit < (s.length : Int)) :
    pack_Reader_Text.f n ⟨encT s ++ r, bad⟩ limit = some ([], ⟨[], true⟩) := by
  unfold pack_Reader_Text.f
  rw [encT, List.append_assoc, p_up_past hn (by omega) _ bad (by simp <;> omega) hl]
  rfl
end Go.GL
