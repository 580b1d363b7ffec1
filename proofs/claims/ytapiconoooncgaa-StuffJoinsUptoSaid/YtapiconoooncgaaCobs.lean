/- Bytes without a zero: the model of pieces, and what holds of it. No condition. -/
import Derived.Test.YtapiconoooncgaaG13
set_option linter.unusedVariables false
set_option linter.unusedSimpArgs false
namespace Go.GL.Cobs
open Go Go.GL

/-- What is laid of b, where a piece p has begun. -/
def enc (p : List UInt8) : List UInt8 → List UInt8
  | [] => UInt8.ofNat (p.length + 1) :: p
  | c :: r =>
    if c = 0 then (UInt8.ofNat (p.length + 1) :: p) ++ enc [] r
    else if p.length + 1 = 254 then (255 :: (p ++ [c])) ++ enc [] r
    else enc (p ++ [c]) r

def nz (l : List UInt8) : Prop := ∀ x ∈ l, x ≠ 0

theorem nz_nil : nz [] := fun _ h => by cases h
theorem nz_cons {a : UInt8} {l : List UInt8} : nz (a :: l) ↔ a ≠ 0 ∧ nz l := by simp [nz]
theorem nz_append {a b : List UInt8} : nz (a ++ b) ↔ nz a ∧ nz b := by simp [nz, or_imp, forall_and]

theorem enc_run : ∀ (q p r : List UInt8), nz q → p.length + q.length < 254 → enc p (q ++ r) = enc (p ++ q) r
  | [], p, r, _, _ => by simp
  | c :: q, p, r, hq, hl => by
    rw [nz_cons] at hq
    rw [List.length_cons] at hl
    rw [List.cons_append, enc, if_neg hq.1, if_neg (by omega), enc_run q (p ++ [c]) r hq.2 (by simp; omega)]
    simp
theorem enc_end {q : List UInt8} (h : nz q) (hl : q.length < 254) : enc [] q = UInt8.ofNat (q.length + 1) :: q := by
  have := enc_run q [] [] h (by simpa using hl)
  simp only [List.append_nil, List.nil_append] at this
  rw [this, enc]
theorem enc_zero {q : List UInt8} (r : List UInt8) (h : nz q) (hl : q.length < 254) : enc [] (q ++ 0 :: r) = (UInt8.ofNat (q.length + 1) :: q) ++ enc [] r := by
  have := enc_run q [] (0 :: r) h (by simpa using hl)
  simp only [List.nil_append] at this
  rw [this, enc, if_pos rfl]
theorem enc_full {q : List UInt8} (r : List UInt8) (h : nz q) (hl : q.length = 254) : enc [] (q ++ r) = (255 :: q) ++ enc [] r := by
  obtain ⟨p, c, rfl⟩ : ∃ p c, q = p ++ [c] := ⟨q.dropLast, q.getLast (by intro e; rw [e] at hl; cases hl), (List.dropLast_concat_getLast _).symm⟩
  rw [nz_append, nz_cons] at h
  rw [List.length_append, List.length_singleton] at hl
  have := enc_run p [] ([c] ++ r) h.1 (by simp; omega)
  rw [List.append_assoc, this]
  simp only [List.nil_append, List.cons_append]
  rw [enc, if_neg h.2.1, if_pos hl]
  simp

/-- The first zero's place, or the length. -/
def zero : List UInt8 → Nat
  | [] => 0
  | c :: r => if c = 0 then 0 else zero r + 1
theorem zero_le : ∀ l : List UInt8, zero l ≤ l.length
  | [] => Nat.le_refl _
  | c :: r => by unfold zero; split; omega; have := zero_le r; simp; omega
theorem zero_nz : ∀ l : List UInt8, nz (l.take (zero l))
  | [] => nz_nil
  | c :: r => by
    unfold zero; split
    · exact nz_nil
    · rename_i h; rw [List.take_succ_cons, nz_cons]; exact ⟨h, zero_nz r⟩
theorem zero_drop : ∀ l : List UInt8, zero l < l.length → l.drop (zero l) = 0 :: l.drop (zero l + 1)
  | [], h => by simp [zero] at h
  | c :: r, h => by
    unfold zero at h ⊢
    by_cases hc : c = 0
    · rw [if_pos hc]; subst hc; simp
    · rw [if_neg hc] at h ⊢
      have := zero_drop r (by simpa using h)
      simpa using this
theorem zero_full : ∀ l : List UInt8, zero l = l.length ↔ nz l
  | [] => by simp [zero, nz]
  | c :: r => by
    unfold zero
    rw [nz_cons, List.length_cons, ← zero_full r]
    split
    · rename_i h; simp [h]
    · rename_i h; simp [h]
theorem nz_take {l : List UInt8} (h : nz l) (n : Nat) : nz (l.take n) := fun x hx => h x (List.mem_of_mem_take hx)

/-- One round of the document's encoding. -/
theorem enc_round (b : List UInt8) :
    enc [] b = if 254 ≤ zero b then (255 :: b.take 254) ++ enc [] (b.drop 254)
      else if zero b = b.length then UInt8.ofNat (zero b + 1) :: b.take (zero b)
      else (UInt8.ofNat (zero b + 1) :: b.take (zero b)) ++ enc [] (b.drop (zero b + 1)) := by
  have hz := zero_nz b
  have hle := zero_le b
  split
  · rename_i h
    have h1 : nz (b.take 254) := by
      have : b.take 254 = (b.take (zero b)).take 254 := by rw [List.take_take, Nat.min_eq_left h]
      rw [this]; exact nz_take hz _
    have := enc_full (b.drop 254) h1 (by rw [List.length_take]; omega)
    rw [List.take_append_drop] at this
    exact this
  · rename_i h
    split
    · rename_i he
      rw [he, List.take_length]
      exact enc_end ((zero_full b).1 he) (by omega)
    · rename_i hne
      have hd := zero_drop b (by omega)
      have := enc_zero (b.drop (zero b + 1)) hz (by rw [List.length_take]; omega)
      rw [← hd, List.take_append_drop, List.length_take, Nat.min_eq_left hle] at this
      exact this

theorem enc_ne (p b : List UInt8) : enc p b ≠ [] := by
  induction b generalizing p with
  | nil => simp [enc]
  | cons c r ih =>
    rw [enc]
    split
    · simp
    · split
      · simp
      · exact ih _

theorem enc_join : ∀ (a p b : List UInt8), enc p (a ++ 0 :: b) = enc p a ++ enc [] b
  | [], p, b => by simp [enc]
  | c :: a, p, b => by
    rw [List.cons_append, enc, enc]
    split
    · rw [enc_join a [] b]; simp
    · split
      · rw [enc_join a [] b]; simp
      · exact enc_join a _ b

theorem ofNat_ne0 {n : Nat} (h0 : 0 < n) (h : n < 256) : UInt8.ofNat n ≠ 0 := by
  intro e
  have := congrArg UInt8.toNat e
  simp at this
  omega
theorem enc_nz : ∀ (b p : List UInt8), nz p → p.length < 254 → nz (enc p b)
  | [], p, h, hl => by rw [enc, nz_cons]; exact ⟨ofNat_ne0 (by omega) (by omega), h⟩
  | c :: r, p, h, hl => by
    rw [enc]
    split
    · rw [nz_append, nz_cons]; exact ⟨⟨ofNat_ne0 (by omega) (by omega), h⟩, enc_nz r [] nz_nil (by simp)⟩
    · rename_i hc
      split
      · rw [nz_append, nz_cons, nz_append, nz_cons]; exact ⟨⟨by decide, h, hc, nz_nil⟩, enc_nz r [] nz_nil (by simp)⟩
      · exact enc_nz r _ (by rw [nz_append, nz_cons]; exact ⟨h, hc, nz_nil⟩) (by simp; omega)
theorem enc_len : ∀ (b p : List UInt8), p.length < 254 → p.length + b.length < (enc p b).length ∧ (enc p b).length ≤ p.length + b.length + (p.length + b.length) / 254 + 1
  | [], p, hl => by simp [enc]
  | c :: r, p, hl => by
    have h0 := enc_len r [] (by simp)
    simp only [List.length_nil, Nat.zero_add] at h0
    rw [enc]
    split
    · simp only [List.length_append, List.length_cons]; omega
    · split
      · simp only [List.length_append, List.length_cons, List.length_nil]; omega
      · have := enc_len r (p ++ [c]) (by simp; omega)
        simp only [List.length_append, List.length_cons, List.length_nil] at this ⊢
        omega

instance (l : List UInt8) : Decidable (nz l) := inferInstanceAs (Decidable (∀ x ∈ l, x ≠ 0))
/-- What pieces stand for. -/
def dec : Nat → List UInt8 → Option (List UInt8)
  | 0, _ => none
  | _ + 1, [] => none
  | k + 1, a :: r =>
    if a = 0 ∨ r.length + 1 < a.toNat then none
    else if nz (r.take (a.toNat - 1)) then
      if r.drop (a.toNat - 1) = [] then (if a = 255 then none else some (r.take (a.toNat - 1)))
      else (dec k (r.drop (a.toNat - 1))).map fun o => r.take (a.toNat - 1) ++ ((if a = 255 then [] else [0]) ++ o)
    else none

theorem toNat_ofNat {n : Nat} (h : n < 256) : (UInt8.ofNat n).toNat = n := by simp; omega
theorem ne255 {n : Nat} (h : n < 255) : UInt8.ofNat n ≠ 255 := by
  intro e
  have := congrArg UInt8.toNat e
  rw [toNat_ofNat (by omega)] at this
  simp at this
  omega

theorem head_ok {m l : Nat} (h : m + 1 < 256) (h' : m ≤ l) : ¬ (UInt8.ofNat (m + 1) = 0 ∨ l + 1 < (UInt8.ofNat (m + 1)).toNat) := by
  rw [toNat_ofNat h]
  exact fun q => q.elim (ofNat_ne0 (by omega) h) (by omega)
theorem dec_enc : ∀ (b p : List UInt8) (k : Nat), nz p → p.length < 254 → b.length < k → dec k (enc p b) = some (p ++ b)
  | _, _, 0, _, _, h => by omega
  | [], p, k + 1, hp, hl, _ => by
    rw [enc, dec, if_neg (head_ok (by omega) (by omega)), toNat_ofNat (n := p.length + 1) (by omega), Nat.add_sub_cancel, List.take_length, if_pos hp, List.drop_length, if_pos rfl, if_neg (ne255 (by omega))]
    simp
  | c :: r, p, k + 1, hp, hl, hk => by
    rw [List.length_cons] at hk
    rw [enc]
    split
    · rename_i hc; subst hc
      have ih := dec_enc r [] k nz_nil (by simp) (by omega)
      rw [List.cons_append, dec, if_neg (head_ok (by omega) (by simp)), toNat_ofNat (n := p.length + 1) (by omega), Nat.add_sub_cancel, List.take_left, if_pos hp, List.drop_left, if_neg (enc_ne _ _), ih, if_neg (ne255 (by omega))]
      simp
    · rename_i hc
      split
      · rename_i hf
        have ih := dec_enc r [] k nz_nil (by simp) (by omega)
        have hl' : (p ++ [c]).length = 254 := by simp; omega
        have e : ((255 : UInt8).toNat - 1) = (p ++ [c]).length := by rw [hl']; rfl
        rw [List.cons_append, dec, if_neg (by rw [List.length_append, hl']; simp), e, List.take_left, if_pos (by rw [nz_append, nz_cons]; exact ⟨hp, hc, nz_nil⟩), List.drop_left, if_neg (enc_ne _ _), ih, if_pos rfl]
        simp
      · rw [dec_enc r (p ++ [c]) (k + 1) (by rw [nz_append, nz_cons]; exact ⟨hp, hc, nz_nil⟩) (by simp; omega) (by omega)]
        simp

theorem enc_dec : ∀ (k : Nat) (b o : List UInt8), dec k b = some o → enc [] o = b
  | 0, _, _, h => by simp [dec] at h
  | _ + 1, [], _, h => by simp [dec] at h
  | k + 1, a :: r, o, h => by
    rw [dec] at h
    split at h
    · cases h
    · rename_i h1
      have h1' : a ≠ 0 ∧ a.toNat ≤ r.length + 1 := by
        constructor
        · intro e; exact h1 (.inl e)
        · have : ¬ r.length + 1 < a.toNat := fun e => h1 (.inr e)
          omega
      have hlt := a.toNat_lt
      have ha0 : 0 < a.toNat := by
        rcases Nat.eq_zero_or_pos a.toNat with e | e
        · exact absurd (by rw [← UInt8.toNat_inj]; simpa using e) h1'.1
        · exact e
      split at h
      · rename_i hz
        have hl : (r.take (a.toNat - 1)).length = a.toNat - 1 := by rw [List.length_take]; omega
        have hofn : UInt8.ofNat a.toNat = a := by simp
        split at h
        · rename_i hr
          split at h
          · cases h
          · rename_i h255
            cases h
            have hne : a.toNat ≠ 255 := fun e => h255 (by rw [← UInt8.toNat_inj, e]; rfl)
            rw [enc_end hz (by rw [hl]; omega), hl]
            have := List.take_append_drop (a.toNat - 1) r
            rw [hr, List.append_nil] at this
            rw [this, show a.toNat - 1 + 1 = a.toNat by omega, hofn]
        · rename_i hr
          cases hd : dec k (r.drop (a.toNat - 1)) with
          | none => rw [hd] at h; cases h
          | some o' =>
            rw [hd] at h
            simp only [Option.map_some, Option.some.injEq] at h
            have ih := enc_dec k _ _ hd
            subst h
            by_cases h255 : a = 255
            · rw [if_pos h255, List.nil_append]
              subst h255
              have hl : (r.take ((255 : UInt8).toNat - 1)).length = 254 := by rw [hl]; rfl
              rw [enc_full _ hz hl, ih, List.cons_append, List.take_append_drop]
            · have hne : a.toNat ≠ 255 := fun e => h255 (by rw [← UInt8.toNat_inj, e]; rfl)
              rw [if_neg h255, List.cons_append, List.nil_append, enc_zero _ hz (by rw [hl]; omega), ih, hl, List.cons_append, List.take_append_drop, show a.toNat - 1 + 1 = a.toNat by omega, hofn]
      · cases h
end Go.GL.Cobs
