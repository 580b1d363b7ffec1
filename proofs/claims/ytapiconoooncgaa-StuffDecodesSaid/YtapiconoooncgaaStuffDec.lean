/- Pieces, read back: what the plain functions compute. -/
import Derived.Test.YtapiconoooncgaaStuffFn
set_option linter.unusedVariables false
set_option linter.unusedSimpArgs false
set_option maxRecDepth 10000
namespace Go.GL
open Go Cobs

/-- Behind a piece. -/
def after1 (L0 : List UInt8 → List UInt8 → Option (List UInt8 × Int)) (N : Nat) (r' : List UInt8) (o : List UInt8) : Option (List UInt8 × Int) :=
  if r' = [] then (if N = 255 then some ([], 2) else some (o, 0)) else if N < 255 then L0 r' (o ++ [0]) else L0 r' o

theorem decode_l1 (n : Nat) (L0 : List UInt8 → List UInt8 → Option (List UInt8 × Int)) (a : UInt8) (r : List UInt8) (h0 : 0 < a.toNat) (h1 : a.toNat ≤ r.length + 1) (hr : r.length ≤ 142000000000000) :
    ∀ (j k i : Nat) (o : List UInt8), i + j = a.toNat - 1 → j < k → o.length + j + 1 ≤ 142000000000000 →
    stuff_Decode.l1 n L0 (a :: r) k o (i : Int) = if nz ((r.take (a.toNat - 1)).drop i) then after1 L0 a.toNat (r.drop (a.toNat - 1)) (o ++ (r.take (a.toNat - 1)).drop i) else some ([], 2) := by
  have ha := a.toNat_lt
  have e0 : rdL (a :: r) (0 : Int) = a := rfl
  have eN : wi64 (((rdL (a :: r) (0 : Int)).toNat : Nat) : Int) = ((a.toNat : Nat) : Int) := by rw [e0, wi_u8]
  have eq1 : ((a :: r).take a.toNat).drop (1 : Int).toNat = r.take (a.toNat - 1) := by
    obtain ⟨m, hm⟩ : ∃ m, a.toNat = m + 1 := ⟨a.toNat - 1, by omega⟩
    rw [hm]; rfl
  have eq2 : ((a :: r).take (a :: r).length).drop a.toNat = r.drop (a.toNat - 1) := by
    obtain ⟨m, hm⟩ : ∃ m, a.toNat = m + 1 := ⟨a.toNat - 1, by omega⟩
    rw [hm, List.take_length]; rfl
  have hlen : (r.take (a.toNat - 1)).length = a.toNat - 1 := by rw [List.length_take]; omega
  intro j
  induction j with
  | zero =>
    intro k i o hi hk ho
    cases k with
    | zero => omega
    | succ k =>
      unfold stuff_Decode.l1
      simp only [eN, Int.toNat_natCast, eq1]
      rw [if_neg (by simp; omega), if_pos ⟨by omega, by simp; omega, by omega⟩]
      have hdrop : (r.take (a.toNat - 1)).drop i = [] := List.drop_of_length_le (by omega)
      rw [hdrop, if_pos nz_nil, List.append_nil]
      simp only [eq2]
      unfold after1
      by_cases h2 : r.drop (a.toNat - 1) = []
      · rw [if_pos (by rw [h2]; rfl), if_pos h2]
        by_cases h3 : a.toNat = 255
        · rw [if_pos (by rw [h3]; rfl), if_pos h3]
        · rw [if_neg (by simp; omega), if_neg h3]
      · have h4 : (r.drop (a.toNat - 1)).length ≠ 0 := fun e => h2 (List.eq_nil_of_length_eq_zero e)
        rw [if_neg (by simp at h4 ⊢; omega), if_neg h2]
        by_cases h3 : a.toNat < 255
        · rw [if_pos (by simp; omega), if_pos h3, if_pos (capOk1 (by simp; omega))]
        · rw [if_neg (by simp; omega), if_neg h3]
  | succ j ih =>
    intro k i o hi hk ho
    cases k with
    | zero => omega
    | succ k =>
      unfold stuff_Decode.l1
      simp only [eN, Int.toNat_natCast, eq1]
      have hlt : i < (r.take (a.toNat - 1)).length := by omega
      rw [if_pos (by simp; omega), if_pos ⟨by omega, by omega⟩, getD_drop hlt, u8_zero]
      by_cases hc : rdL (r.take (a.toNat - 1)) (i : Int) = 0
      · rw [if_pos (by simpa using hc), if_neg (by rw [nz_cons]; exact fun h => h.1 hc)]
      · rw [if_neg (by simpa using hc), if_pos (capOk1 (by simp; omega)), wi64_id (by omega) (by omega), show ((i : Int) + 1) = ((i + 1 : Nat) : Int) by omega]
        have := ih k (i + 1) (o ++ [rdL (r.take (a.toNat - 1)) (i : Int)]) (by omega) (by omega) (by simp; omega)
        rw [this]
        by_cases hz : nz ((r.take (a.toNat - 1)).drop (i + 1))
        · rw [if_pos hz, if_pos (by rw [nz_cons]; exact ⟨hc, hz⟩)]
          simp
        · rw [if_neg hz, if_neg (by rw [nz_cons]; exact fun h => hz h.2)]

def decR (x : Option (List UInt8)) (out : List UInt8) : List UInt8 × Int := match x with | some o => (out ++ o, 0) | none => ([], 2)

theorem decode_l0 (n : Nat) (hn : 300 ≤ n) : ∀ (k : Nat) (b out : List UInt8), b.length < k → out.length + b.length + 1 ≤ 142000000000000 → stuff_Decode.l0 n k b out = some (decR (dec k b) out)
  | 0, b, out, h, _ => by omega
  | k + 1, [], out, _, _ => rfl
  | k + 1, a :: r, out, hk, ho => by
    unfold stuff_Decode.l0
    have ha := a.toNat_lt
    rw [List.length_cons] at hk ho
    have e0 : rdL (a :: r) (0 : Int) = a := rfl
    have eN : wi64 (((rdL (a :: r) (0 : Int)).toNat : Nat) : Int) = ((a.toNat : Nat) : Int) := by rw [e0, wi_u8]
    rw [if_pos (by simp), if_pos ⟨by omega, by simp⟩, eN, dec]
    have hbad : stuff_Decode.j0 n (stuff_Decode.l0 n k) (a :: r) out true = some ([], 2) := rfl
    by_cases hz : a = 0
    · rw [if_pos (by rw [hz]; rfl), if_pos (.inl hz)]; exact hbad
    · have hz' : a.toNat ≠ 0 := fun e => hz (by rw [← UInt8.toNat_inj, e]; rfl)
      rw [if_neg (by simp; omega)]
      by_cases hlt : r.length + 1 < a.toNat
      · rw [if_pos (.inr hlt), show decide (((a.toNat : Nat) : Int) > ((a :: r).length : Int)) = true by simp; omega]; exact hbad
      · rw [if_neg (fun h => h.elim hz hlt), show decide (((a.toNat : Nat) : Int) > ((a :: r).length : Int)) = false by simp; omega]
        unfold stuff_Decode.j0
        rw [if_neg (by simp), eN, if_pos ⟨by omega, by omega, by simp; omega⟩]
        have := decode_l1 n (stuff_Decode.l0 n k) a r (by omega) (by omega) (by omega) (a.toNat - 1) n 0 out (by omega) (by omega) (by omega)
        rw [show ((0 : Nat) : Int) = 0 by rfl, List.drop_zero] at this
        rw [this]
        by_cases hn' : nz (r.take (a.toNat - 1))
        · rw [if_pos hn', if_pos hn']
          unfold after1
          by_cases h2 : r.drop (a.toNat - 1) = []
          · rw [if_pos h2, if_pos h2]
            by_cases h3 : a.toNat = 255
            · rw [if_pos h3, if_pos (by rw [← UInt8.toNat_inj, h3]; rfl)]; rfl
            · rw [if_neg h3, if_neg (fun e => h3 (by rw [e]; rfl))]; rfl
          · rw [if_neg h2, if_neg h2]
            have hl : (r.drop (a.toNat - 1)).length + (r.take (a.toNat - 1)).length = r.length := by rw [List.length_take, List.length_drop]; omega
            by_cases h3 : a = 255
            · have h4 : a.toNat = 255 := by rw [h3]; rfl
              rw [if_neg (by omega), decode_l0 n hn k _ _ (by rw [List.length_drop]; omega) (by rw [List.length_append]; omega)]
              cases dec k (r.drop (a.toNat - 1)) with
              | none => rfl
              | some o => simp [decR, h3]
            · have h4 : a.toNat ≠ 255 := fun e => h3 (by rw [← UInt8.toNat_inj, e]; rfl)
              have h5 : 0 < (r.drop (a.toNat - 1)).length := by
                rcases Nat.eq_zero_or_pos (r.drop (a.toNat - 1)).length with e | e
                · exact absurd (List.eq_nil_of_length_eq_zero e) h2
                · exact e
              rw [if_pos (by omega), decode_l0 n hn k _ _ (by rw [List.length_drop]; omega) (by simp only [List.length_append, List.length_cons, List.length_nil] at *; omega)]
              cases dec k (r.drop (a.toNat - 1)) with
              | none => rfl
              | some o => simp [decR, h3]
        · rw [if_neg hn', if_neg hn']; rfl
theorem f_Decode (n : Nat) (b : List UInt8) (hb : b.length + 1 ≤ 142000000000000) (hn : b.length + 300 ≤ n) : stuff_Decode.f n b = some (decR (dec n b) []) := by
  unfold stuff_Decode.f
  exact decode_l0 n (by omega) n b [] (by omega) (by simpa using hb)
end Go.GL
