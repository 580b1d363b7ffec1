/- The law StuffDecodes, over the plain functions. -/
import Derived.Test.YtapiconoooncgaaLawStuffOne
set_option linter.unusedVariables false
set_option linter.unusedSimpArgs false
set_option maxRecDepth 10000
namespace Go.GL
open Go Cobs
/-- What the document's reading makes of pieces, behind one that is full or not. -/
def pt : Nat → Bool → List UInt8 → Option (List UInt8)
  | 0, _, _ => none
  | _ + 1, _, [] => some []
  | k + 1, full, a :: r =>
    if a = 0 ∨ r.length + 1 < a.toNat then none
    else if nz (r.take (a.toNat - 1)) then (pt k (decide (a.toNat = 255)) (r.drop (a.toNat - 1))).map fun o => (if full then [] else [0]) ++ (r.take (a.toNat - 1) ++ o)
    else none
theorem pt_dec : ∀ (k : Nat) (b o : List UInt8), dec k b = some o → ∀ (k' : Nat) (full : Bool), b.length < k' → pt k' full b = some ((if full then [] else [0]) ++ o)
  | 0, _, _, h, _, _, _ => by simp [dec] at h
  | _ + 1, [], _, h, _, _, _ => by simp [dec] at h
  | k + 1, a :: r, o, h, 0, full, hk => by omega
  | k + 1, a :: r, o, h, k' + 1, full, hk => by
    rw [List.length_cons] at hk
    rw [dec] at h
    rw [pt]
    split at h
    · cases h
    · rename_i h1
      rw [if_neg h1]
      split at h
      · rename_i hz
        rw [if_pos hz]
        split at h
        · rename_i hr
          split at h
          · cases h
          · rename_i h255
            cases h
            obtain ⟨m, rfl⟩ : ∃ m, k' = m + 1 := ⟨k' - 1, by omega⟩
            rw [hr, pt]
            simp
        · rename_i hr
          cases hd : dec k (r.drop (a.toNat - 1)) with
          | none => rw [hd] at h; cases h
          | some o' =>
            rw [hd] at h
            simp only [Option.map_some, Option.some.injEq] at h
            subst h
            rw [pt_dec k _ o' hd k' _ (by rw [List.length_drop]; omega)]
            have e : (decide (a.toNat = 255)) = decide (a = 255) := by
              rw [Bool.eq_iff_iff, decide_eq_true_eq, decide_eq_true_eq, ← UInt8.toNat_inj]
              rfl
            rw [e]
            by_cases h255 : a = 255 <;> simp [h255]
      · cases h

def ptR (x : Option (List UInt8)) (out : List UInt8) : List UInt8 × Bool := match x with | some o => (out ++ o, true) | none => ([], false)

theorem plain_body (n : Nat) (hn : 300 ≤ n) (k : Nat) (L : List UInt8 → List UInt8 → Bool → Bool → Option (List UInt8 × Bool)) (a : UInt8) (r out : List UInt8) (full first : Bool) (ho : out.length + r.length + 4 ≤ 140737488361232) (hr : r.length ≤ 140737488351232) (hff : first = true → full = true) (x : Option (List UInt8 → List UInt8)) :
    (a ≠ 0 → a.toNat ≤ r.length + 1 → tontineref01_plain.j0 n L (a :: r) out full first false = L (r.drop (a.toNat - 1)) (out ++ ((if full then [] else [0]) ++ r.take (a.toNat - 1))) (decide (a.toNat = 255)) false) := by
  intro hz hlt
  have ha := a.toNat_lt
  have hz' : a.toNat ≠ 0 := fun e => hz (by rw [← UInt8.toNat_inj, e]; rfl)
  have e0 : rdL (a :: r) (0 : Int) = a := rfl
  have eN : wi64 (((rdL (a :: r) (0 : Int)).toNat : Nat) : Int) = ((a.toNat : Nat) : Int) := by rw [e0, wi_u8]
  have eq1 : ((a :: r).take a.toNat).drop (1 : Int).toNat = r.take (a.toNat - 1) := by
    obtain ⟨m, hm⟩ : ∃ m, a.toNat = m + 1 := ⟨a.toNat - 1, by omega⟩
    rw [hm]; rfl
  have eq2 : ((a :: r).take (a :: r).length).drop a.toNat = r.drop (a.toNat - 1) := by
    obtain ⟨m, hm⟩ : ∃ m, a.toNat = m + 1 := ⟨a.toNat - 1, by omega⟩
    rw [hm, List.take_length]; rfl
  have hj2 : ∀ o : List UInt8, o.length + r.length + 2 ≤ 140737488361232 → tontineref01_plain.j2 n L (a :: r) o = L (r.drop (a.toNat - 1)) (o ++ r.take (a.toNat - 1)) (decide (a.toNat = 255)) false := by
    intro o ho
    unfold tontineref01_plain.j2
    simp only [eN, Int.toNat_natCast, eq1, eq2]
    rw [if_pos ⟨by omega, by omega, by simp; omega⟩, if_pos (capOk1 (by simp; omega)), if_pos ⟨by omega, by simp; omega, by omega⟩]
    congr 1
    rw [Bool.eq_iff_iff, beq_iff_eq, decide_eq_true_eq]
    omega
  have hj1 : ∀ c : Bool, tontineref01_plain.j1 n L (a :: r) out c = L (r.drop (a.toNat - 1)) (out ++ ((if c then [0] else []) ++ r.take (a.toNat - 1))) (decide (a.toNat = 255)) false := by
    intro c
    unfold tontineref01_plain.j1
    cases c with
    | true => rw [if_pos rfl, if_pos (capOk1 (by simp; omega)), hj2 _ (by simp; omega)]; simp
    | false => rw [if_neg (by simp), hj2 _ (by omega)]; simp
  unfold tontineref01_plain.j0
  rw [if_neg (by simp)]
  cases first with
  | true => rw [if_neg (by simp), hj1, hff rfl]; simp
  | false => rw [if_pos (by simp), hj1]; cases full <;> simp

theorem plain_l0 (n : Nat) (N : Nat) (hN : N ≤ 140737488351232) (hn : N + 300 ≤ n) : ∀ (k : Nat) (b out : List UInt8) (full first : Bool), b.length < k → b.length ≤ N → out.length + b.length + 4 ≤ 140737488361232 → (first = true → full = true ∧ b ≠ []) → (first = false → True) →
    tontineref01_plain.l0 n k b out full first = some (ptR (pt k full b) out)
  | 0, b, out, full, first, h, _, _, _, _ => by omega
  | k + 1, [], out, full, first, _, _, _, hf, _ => by
    cases first with
    | true => exact absurd rfl (hf rfl).2
    | false =>
      unfold tontineref01_plain.l0
      rw [if_neg (by simp), pt]
      simp [ptR]
  | k + 1, a :: r, out, full, first, hk, hbn, ho, hf, _ => by
    unfold tontineref01_plain.l0
    have ha := a.toNat_lt
    rw [List.length_cons] at hk hbn ho
    have e0 : rdL (a :: r) (0 : Int) = a := rfl
    have eN : wi64 (((rdL (a :: r) (0 : Int)).toNat : Nat) : Int) = ((a.toNat : Nat) : Int) := by rw [e0, wi_u8]
    have hbad : tontineref01_plain.j0 n (tontineref01_plain.l0 n k) (a :: r) out full first true = some ([], false) := rfl
    rw [if_pos (by simp), if_pos ⟨by omega, by simp⟩, eN, pt]
    by_cases hz : a = 0
    · rw [if_pos (by rw [hz]; rfl), if_pos (.inl hz)]; exact hbad
    · have hz' : a.toNat ≠ 0 := fun e => hz (by rw [← UInt8.toNat_inj, e]; rfl)
      rw [if_neg (by simp; omega)]
      by_cases hlt : r.length + 1 < a.toNat
      · rw [if_pos (show decide (((a.toNat : Nat) : Int) > ((a :: r).length : Int)) = true by simp; omega), if_pos (show a = 0 ∨ r.length + 1 < a.toNat from .inr hlt)]; exact hbad
      · have eq1 : ((a :: r).take ((a.toNat : Nat) : Int).toNat).drop (1 : Int).toNat = r.take (a.toNat - 1) := by
          obtain ⟨m, hm⟩ : ∃ m, a.toNat = m + 1 := ⟨a.toNat - 1, by omega⟩
          rw [hm, Int.toNat_natCast]; rfl
        have hlen : (r.take (a.toNat - 1)).length = a.toNat - 1 := by rw [List.length_take]; omega
        have e1 : wi64 (((a.toNat : Nat) : Int) - 1) = ((a.toNat - 1 : Nat) : Int) := by rw [wi64_id (by omega) (by omega)]; omega
        have hzl := zero_le (r.take (a.toNat - 1))
        rw [if_neg (show ¬ decide (((a.toNat : Nat) : Int) > ((a :: r).length : Int)) = true by simp; omega), if_neg (show ¬ (a = 0 ∨ r.length + 1 < a.toNat) from fun h => h.elim hz hlt), if_pos ⟨by omega, by omega, by simp; omega⟩, eq1, f_zero n _ (by omega) (by omega), Option.bind_some, e1]
        by_cases hn' : nz (r.take (a.toNat - 1))
        · have := (zero_full _).2 hn'
          rw [if_pos hn', show decide (((Cobs.zero (r.take (a.toNat - 1)) : Nat) : Int) < ((a.toNat - 1 : Nat) : Int)) = false by simp; omega,
            plain_body n (by omega) k _ a r out full first (by omega) (by omega) (fun h => (hf h).1) none hz (by omega)]
          rw [plain_l0 n N hN hn k _ _ _ _ (by rw [List.length_drop]; omega) (by rw [List.length_drop]; omega) (by
            simp only [List.length_append, List.length_take, List.length_drop]
            have : (if full = true then ([] : List UInt8) else [0]).length ≤ 1 := by split <;> simp
            omega) (fun h => by cases h) (fun _ => trivial)]
          cases pt k (decide (a.toNat = 255)) (r.drop (a.toNat - 1)) with
          | none => rfl
          | some o => simp [ptR]
        · have : Cobs.zero (r.take (a.toNat - 1)) ≠ (r.take (a.toNat - 1)).length := fun e => hn' ((zero_full _).1 e)
          rw [if_neg hn', show decide (((Cobs.zero (r.take (a.toNat - 1)) : Nat) : Int) < ((a.toNat - 1 : Nat) : Int)) = true by simp; omega]
          exact hbad
theorem pt_len : ∀ (k : Nat) (full : Bool) (b o : List UInt8), pt k full b = some o → o.length ≤ b.length
  | 0, _, _, _, h => by simp [pt] at h
  | _ + 1, _, [], o, h => by simp [pt] at h; simp [h]
  | k + 1, full, a :: r, o, h => by
    rw [pt] at h
    split at h
    · cases h
    · split at h
      · cases hp : pt k (decide (a.toNat = 255)) (r.drop (a.toNat - 1)) with
        | none => rw [hp] at h; cases h
        | some o' =>
          rw [hp] at h
          simp only [Option.map_some, Option.some.injEq] at h
          have := pt_len k _ _ o' hp
          subst h
          simp only [List.length_append, List.length_take, List.length_drop, List.length_cons] at *
          have : (if full = true then ([] : List UInt8) else [0]).length ≤ 1 := by split <;> simp
          omega
      · cases h

theorem r_Decode (n : Nat) (b : List UInt8) (hb : b.length ≤ 140737488351232) (hn : b.length + 400 ≤ n) : tontineref01_Decode.f n b = some (decR (dec n b) []) := by
  unfold tontineref01_Decode.f tontineref01_plain.f
  cases b with
  | nil =>
    obtain ⟨m, rfl⟩ : ∃ m, n = m + 1 := ⟨n - 1, by omega⟩
    rfl
  | cons a r =>
    rw [plain_l0 n (a :: r).length (by omega) (by omega) n (a :: r) [] true true (by omega) (Nat.le_refl _) (by simp at hb ⊢; omega) (fun _ => ⟨rfl, by simp⟩) (fun _ => trivial), Option.bind_some]
    cases hp : pt n true (a :: r) with
    | none =>
      cases hd : dec n (a :: r) with
      | none => rfl
      | some o => rw [pt_dec n _ o hd n true (by omega)] at hp; cases hp
    | some o =>
      have hol := pt_len n true _ o hp
      show (if (!true) = true then _ else (tontineref01_Encode.f n ([] ++ o)).bind _) = _
      rw [if_neg (by simp), List.nil_append, r_Encode n o (by omega) (by omega), Option.bind_some]
      by_cases he : Cobs.enc [] o = a :: r
      · have hd := dec_enc o [] n nz_nil (by simp) (by omega)
        rw [he, List.nil_append] at hd
        rw [hd, if_neg (by simp [he])]
        rfl
      · rw [if_pos (by simp [he])]
        cases hd : dec n (a :: r) with
        | none => rfl
        | some o' =>
          rw [pt_dec n _ o' hd n true (by omega)] at hp
          simp at hp
          subst hp
          exact absurd (enc_dec n _ _ hd) he
theorem tontinelaw01_StuffDecodes_law (b : List UInt8) (hb : b.length * 1 ≤ reachBytes ∧ ∀ x ∈ b, True) : Ev (fun n => tontinelaw01_StuffDecodes.f n b) true := by
  have hl := reach_len hb
  refine Ev.ge (b.length + 500) fun n hn => ?_
  unfold tontinelaw01_StuffDecodes.f
  rw [begun01 n (by omega), Option.bind_some, if_neg (by simp), f_Decode n b (by omega) (by omega), Option.bind_some, r_Decode n b hl (by omega), Option.bind_some]
  simp
end Go.GL
