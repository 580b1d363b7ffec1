/- The law PackBack, over the plain functions. -/
import Derived.Test.YtcpcdnjpdblhoaaRound
set_option linter.unusedVariables false
set_option linter.unusedSimpArgs false
namespace Go.GL
open Go

/-- A thing, laid. -/
def encG (x : T_tontinelaw03_Thing) : List UInt8 := enc x.Num.toNat ++ (enc (zz (wi64 x.Num)).toNat ++ (enc (x.Num.toNat % 2) ++ encT x.Text))
theorem encG_length (x : T_tontinelaw03_Thing) : (encG x).length ≤ 36 + x.Text.length := by
  have z1 := enc_length x.Num.toNat
  have z2 := enc_length (zz (wi64 x.Num)).toNat
  have z3 := enc_length (x.Num.toNat % 2)
  have z4 := encT_length x.Text
  simp only [encG, List.length_append]; omega
def lenG (l : List T_tontinelaw03_Thing) : Nat := (l.map fun s => 36 + s.Text.length).sum
theorem encGs_length : ∀ l : List T_tontinelaw03_Thing, (l.flatMap encG).length ≤ lenG l
  | [] => by simp [lenG]
  | s :: l => by
    have := encGs_length l
    have := encG_length s
    simp only [lenG, List.flatMap_cons, List.length_append, List.map_cons, List.sum_cons] at *
    omega

theorem zz_back {x : Int} (h1 : -9223372036854775808 ≤ x) (h2 : x ≤ 9223372036854775807) : (if (zz x).toNat % 2 = 0 then (((zz x).toNat / 2 : Nat) : Int) else -(((zz x).toNat / 2 : Nat) : Int) - 1) = x := by
  unfold zz
  by_cases h : 0 ≤ x
  · rw [if_pos h, if_pos (by omega)]; omega
  · rw [if_neg h, if_neg (by omega)]; omega

theorem hand_1 {x : Int} (h : 0 ≤ x ∧ x ≤ 18446744073709551615) : bAnd .u64 x 1 = ((x.toNat % 2 : Nat) : Int) := by
  obtain ⟨m, rfl⟩ : ∃ m : Nat, x = (m : Int) := ⟨x.toNat, by omega⟩
  exact bAnd_one m (by omega)
theorem bit_eq (m : Nat) : (if ((((m % 2 : Nat) : Int)) == 1) = true then 1 else 0) = m % 2 := by
  by_cases q : m % 2 = 1
  · rw [q]; rfl
  · have : m % 2 = 0 := by omega
    rw [this]; rfl

theorem packBack_l1 (n : Nat) (hn : 20 ≤ n) (l : List T_tontinelaw03_Thing) (hw : ∀ x ∈ l, wf_T_tontinelaw03_Thing x) (hl : lenG l ≤ 100000000) : ∀ (k i : Nat), i ≤ l.length → l.length ≤ 200 → 200 - i < k → lenG (l.drop i) ≤ 100000000 →
    tontinelaw03_PackBack.l1 n l k ((l.drop i).flatMap encG) false (i : Int) = some true
  | 0, i, _, _, hk, _ => by omega
  | k + 1, i, hi, h2, hk, hd => by
    unfold tontinelaw03_PackBack.l1
    by_cases h : i < l.length
    · rw [if_pos (by simp <;> omega), if_pos ⟨by omega, by omega⟩]
      have hx := hw _ (rdL_mem h)
      have e : wi64 ((i : Int) + 1) = ((i + 1 : Nat) : Int) := by rw [wi64_id (by omega) (by omega)]; omega
      have hdr := getD_drop h
      rw [hdr] at hd ⊢
      have z := encGs_length (l.drop (i + 1))
      have ih := packBack_l1 n hn l hw hl k (i + 1) (by omega) h2 (by omega) (by simp only [lenG, List.map_cons, List.sum_cons] at hd ⊢; omega)
      generalize hs : rdL l (i : Int) = s at *
      obtain ⟨w1, w2, w3⟩ := hx
      have w2 := wf_u64 w2
      have hwi := wi64_range s.Num
      have hz := zz_range hwi.1 hwi.2
      simp only [lenG, List.map_cons, List.sum_cons] at hd
      have zl : ((l.drop (i + 1)).flatMap encG).length ≤ 100000000 := Nat.le_trans z (by simp only [lenG]; omega)
      generalize hr : (l.drop (i + 1)).flatMap encG = r at *
      have z2 := enc_length (zz (wi64 s.Num)).toNat
      have z3 := enc_length (s.Num.toNat % 2)
      have z4 := encT_length s.Text
      rw [List.flatMap_cons, hr, encG]
      simp only [List.append_assoc]
      rw [p_enc hn (by omega) _ false (by simp <;> omega), Option.bind_some]
      simp only
      rw [if_neg (by simp <;> omega)]
      have hI : pack_Reader_Int.f n ⟨enc (zz (wi64 s.Num)).toNat ++ (enc (s.Num.toNat % 2) ++ (encT s.Text ++ r)), false⟩ = some (wi64 s.Num, ⟨enc (s.Num.toNat % 2) ++ (encT s.Text ++ r), false⟩) := by
        unfold pack_Reader_Int.f
        rw [p_enc hn (by omega) _ false (by simp <;> omega), Option.bind_some]
        simp only
        rw [unzz (by omega), zz_back hwi.1 hwi.2]
      rw [hI, Option.bind_some]
      simp only
      rw [if_neg (by simp)]
      have hB : pack_Reader_Bool.f n ⟨enc (s.Num.toNat % 2) ++ (encT s.Text ++ r), false⟩ = some ((((s.Num.toNat % 2 : Nat) : Int) == 1), ⟨encT s.Text ++ r, false⟩) := by
        unfold pack_Reader_Bool.f
        rw [p_up hn (by omega) _ false (by simp <;> omega) (by omega) (by omega)]
        rfl
      rw [hB, Option.bind_some, hand_1 w2]
      simp only
      rw [if_neg (by simp), p_text hn s.Text r false (by simp only [reachBytes] at w3; omega) (Int.le_refl _) (by simp only [reachBytes] at w3; omega), Option.bind_some]
      simp only
      unfold tontinelaw03_PackBack.j1
      rw [if_neg (by simp), e]
      exact ih
    · have : i = l.length := by omega
      rw [if_neg (by simp <;> omega)]
      subst this
      simp only [List.drop_length, List.flatMap_nil]
      rfl

theorem packBack_l0 (n : Nat) (hn : 300 ≤ n) (l : List T_tontinelaw03_Thing) (hw : ∀ x ∈ l, wf_T_tontinelaw03_Thing x) : ∀ (k i : Nat), i ≤ 200 → i ≤ l.length → 201 - i < k → (∀ x ∈ l.take i, x.Text.length ≤ 1000) →
    tontinelaw03_PackBack.l0 n l k ((l.take i).flatMap encG) (i : Int) (i : Int) = some true
  | 0, i, _, _, hk, _ => by omega
  | k + 1, i, h2, hi, hk, hf => by
    have hlen : ∀ l : List T_tontinelaw03_Thing, (∀ x ∈ l, x.Text.length ≤ 1000) → lenG l ≤ l.length * 1036 := by
      intro l
      induction l with
      | nil => intro _; simp [lenG]
      | cons s l ih =>
        intro h
        have := ih (fun x hx => h x (List.mem_cons_of_mem _ hx))
        have := h s (List.mem_cons_self)
        simp only [lenG, List.map_cons, List.sum_cons, List.length_cons] at *
        omega
    have hg := hlen _ hf
    have hg2 := encGs_length (l.take i)
    have ht : (l.take i).length ≤ i := List.length_take_le i l
    unfold tontinelaw03_PackBack.l0
    by_cases h : i < l.length
    · rw [if_pos (by simp <;> omega), if_pos ⟨by omega, by omega⟩]
      have hx := hw _ (rdL_mem h)
      have e : wi64 ((i : Int) + 1) = ((i + 1 : Nat) : Int) := by rw [wi64_id (by omega) (by omega)]; omega
      have hj : ∀ L0 f, tontinelaw03_PackBack.j0 n L0 l f (i : Int) (i : Int) true = some true := fun L0 f => by unfold tontinelaw03_PackBack.j0; rw [if_pos rfl]
      rw [e]
      by_cases h3 : i = 200
      · rw [if_pos (by simp [h3]), hj]
      rw [if_neg (by simp <;> omega)]
      by_cases h4 : ((rdL l (i : Int)).Text.length : Int) > 1000
      · rw [decide_eq_true h4, hj]
      rw [decide_eq_false h4]
      have htk : l.take (i + 1) = l.take i ++ [rdL l (i : Int)] := by
        rw [List.take_add_one, List.getElem?_eq_getElem h]
        simp [rdL, h]
      have ih := packBack_l0 n hn l hw k (i + 1) (by omega) (by omega) (by omega) (by
        intro x hx
        rw [htk] at hx
        rcases List.mem_append.1 hx with hx | hx
        · exact hf x hx
        · simp only [List.mem_singleton] at hx; subst hx; omega)
      rw [htk] at ih
      unfold tontinelaw03_PackBack.j0
      rw [if_neg (by simp)]
      generalize hs : rdL l (i : Int) = s at *
      obtain ⟨w1, w2, w3⟩ := hx
      have w2 := wf_u64 w2
      have hwi := wi64_range s.Num
      have z1 := enc_length s.Num.toNat
      have z2 := enc_length (zz (wi64 s.Num)).toNat
      have z3 := enc_length (s.Num.toNat % 2)
      generalize hF : (l.take i).flatMap encG = f at *
      have hfl : f.length ≤ 1000000 := by
        have : (l.take i).length * 1036 ≤ 200 * 1036 := Nat.mul_le_mul_right _ (by omega)
        omega
      rw [w_Num n (by omega) _ (by simp <;> omega) w2, Option.bind_some, p_Int n (by omega) _ (by simp <;> omega) hwi, Option.bind_some, p_Bool n (by omega) _ (by simp <;> omega), Option.bind_some, hand_1 w2, bit_eq,
        w_Text n (by omega) _ (by simp <;> omega) (by omega), Option.bind_some, e]
      rw [List.flatMap_append, hF] at ih
      simp only [List.flatMap_cons, List.flatMap_nil, List.append_nil, encG] at ih
      simp only [List.append_assoc]
      exact ih
    · have hi : i = l.length := by omega
      rw [if_neg (by simp <;> omega)]
      have htk : l.take i = l := List.take_of_length_le (by omega)
      rw [htk] at hg hf ⊢
      have hb : pack_Writer_Bytes.f n (⟨l.flatMap encG⟩ : T_pack_Writer) = some (l.flatMap encG) := rfl
      have hfr : pack_From.f n (l.flatMap encG) = some ⟨l.flatMap encG, false⟩ := rfl
      rw [hb, Option.bind_some, hfr, Option.bind_some]
      have : l.length * 1036 ≤ 200 * 1036 := Nat.mul_le_mul_right _ (by omega)
      exact packBack_l1 n (by omega) l hw (by omega) n 0 (by omega) (by omega) (by omega) (by simp; omega)

theorem tontinelaw03_PackBack_law (l : List T_tontinelaw03_Thing) (h : l.length * 32 ≤ reachBytes ∧ ∀ x ∈ l, wf_T_tontinelaw03_Thing x) : Ev (fun n => tontinelaw03_PackBack.f n l) true := by
  unfold tontinelaw03_PackBack.f
  refine Ev.bind begun03 (Ev.ge 400 fun n hn => ?_)
  rw [if_neg (by simp)]
  exact packBack_l0 n (by omega) l h.2 n 0 (by omega) (by omega) (by omega) (by simp)
end Go.GL
