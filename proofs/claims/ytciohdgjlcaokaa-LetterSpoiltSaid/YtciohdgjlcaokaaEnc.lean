/- Letters laid, over the plain functions. -/
import Derived.Test.YtciohdgjlcaokaaMay
set_option linter.unusedVariables false
set_option linter.unusedSimpArgs false
namespace Go.GL
open Go

theorem r_May_l0 (n : Nat) (x : T_api_Letter) (hl : x.Entries.length ≤ 8) : ∀ (k i : Nat) (ok : Bool), i ≤ x.Entries.length → x.Entries.length - i + 1 < k → tontineref11_May.l0 n x k ok (i : Int) = some (ok && (x.Entries.drop i).all entOk)
  | 0, i, _, _, h => by omega
  | k + 1, i, ok, hi, hk => by
    unfold tontineref11_May.l0
    cases ok
    · unfold tontineref11_May.j2
      by_cases h : i < x.Entries.length <;> simp
    by_cases h : i < x.Entries.length
    · rw [if_pos (by simp <;> omega)]
      unfold tontineref11_May.j2
      rw [if_pos rfl, if_pos ⟨by omega, by omega⟩, getD_drop h]
      have e : wi64 ((i : Int) + 1) = ((i + 1 : Nat) : Int) := by rw [wi64_id (by omega) (by omega)]; omega
      have ih := fun b => r_May_l0 n x hl k (i + 1) b (by omega) (by omega)
      generalize rdL x.Entries (i : Int) = s at *
      simp only [e, ih, List.all_cons]
      by_cases h1 : s.Kind < 0
      · have : entOk s = false := by rw [Bool.eq_false_iff]; intro q; have := entOk_iff.1 q; omega
        rw [if_neg (by simp <;> omega), this]; simp
      by_cases h2 : s.Kind > 2
      · have : entOk s = false := by rw [Bool.eq_false_iff]; intro q; have := entOk_iff.1 q; omega
        rw [if_pos (by simp <;> omega), if_neg (by simp <;> omega), this]; simp
      rw [if_pos (by simp <;> omega), if_pos (by simp <;> omega)]
      by_cases h3 : (s.Data.length : Int) > 65536
      · have : entOk s = false := by rw [Bool.eq_false_iff]; intro q; have := entOk_iff.1 q; omega
        rw [this, decide_eq_false (by omega)]; simp
      have : entOk s = true := entOk_iff.2 ⟨by omega, by omega, by omega⟩
      rw [this, decide_eq_true (by omega)]; simp
    · have : i = x.Entries.length := by omega
      rw [if_neg (by simp <;> omega)]
      unfold tontineref11_May.j2
      subst this; simp

theorem r_May (n : Nat) (x : T_api_Letter) (hn : 20 ≤ n) : tontineref11_May.f n x = some (mayB x) := by
  have hfalse : tontineref11_May.l0 n x n false 0 = some false := by
    obtain ⟨m, rfl⟩ : ∃ m, n = m + 1 := ⟨n - 1, by omega⟩
    unfold tontineref11_May.l0 tontineref11_May.j2
    by_cases h : 0 < x.Entries.length <;> simp
  have hj : ∀ b, tontineref11_May.j0 n x b = if x.Entries.length > 0 ∧ x.Kind ≠ 3 then some false else tontineref11_May.l0 n x n b 0 := by
    intro b
    unfold tontineref11_May.j0 tontineref11_May.j1
    by_cases h3 : x.Kind = 3
    · rw [if_neg (by simp [h3]), if_neg (by simp), if_neg (by simp [h3])]
    · rw [if_pos (by simpa using h3)]
      by_cases h : x.Entries.length > 0
      · have hd : decide ((x.Entries.length : Int) > 0) = true := decide_eq_true (by omega)
        rw [hd, if_pos rfl, if_pos ⟨h, h3⟩]
      · have hd : decide ((x.Entries.length : Int) > 0) = false := decide_eq_false (by omega)
        rw [hd, if_neg (by simp), if_neg (fun q => h q.1)]
  have hf : tontineref11_May.j0 n x false = some false := by rw [hj, hfalse]; split <;> rfl
  unfold tontineref11_May.f
  simp only [hf]
  by_cases h : headOk x = true
  · obtain ⟨h1, h2, h3, h4, h5, h6, h7, h8⟩ := headOk_iff.1 h
    have d1 : decide (x.Kind ≥ 1) = true := decide_eq_true (by omega)
    have d2 : decide (x.Kind ≤ 9) = true := decide_eq_true (by omega)
    have d3 : decide (x.From ≥ 0) = true := decide_eq_true (by omega)
    have d4 : decide (x.From ≤ 255) = true := decide_eq_true (by omega)
    have d5 : decide (x.To ≥ 0) = true := decide_eq_true (by omega)
    have d6 : decide (x.To ≤ 255) = true := decide_eq_true (by omega)
    have d7 : decide ((x.Entries.length : Int) ≤ 8) = true := decide_eq_true (by omega)
    have d8 : decide ((x.Data.length : Int) ≤ 65536) = true := decide_eq_true (by omega)
    simp only [d1, d2, d3, d4, d5, d6, d7, d8, if_true]
    have hl := r_May_l0 n x h7 n 0 true (by omega) (by omega)
    rw [List.drop_zero] at hl
    have hl : tontineref11_May.l0 n x n true 0 = _ := hl
    unfold mayB
    rw [hj, h, hl]
    by_cases g : x.Entries = []
    · rw [if_neg (by simp [g])]; simp [g]
    · have g' : x.Entries.length > 0 := List.length_pos_iff.2 g
      by_cases g3 : x.Kind = 3
      · rw [if_neg (by simp [g3])]; simp [g, g3]
      · rw [if_pos ⟨g', g3⟩]; simp [g, g3]
  · have hm : mayB x = false := by unfold mayB; rw [show headOk x = false by simpa using h]; rfl
    have h' : ¬ (1 ≤ x.Kind ∧ x.Kind ≤ 9 ∧ 0 ≤ x.From ∧ x.From ≤ 255 ∧ 0 ≤ x.To ∧ x.To ≤ 255 ∧ x.Entries.length ≤ 8 ∧ x.Data.length ≤ 65536) := fun q => h (headOk_iff.2 q)
    rw [hm]
    split
    · rename_i k1; split
      · rename_i k2; split
        · rename_i k3; split
          · rename_i k4; split
            · rename_i k5; split
              · rename_i k6; split
                · rename_i k7
                  simp only [decide_eq_true_eq] at *
                  rw [decide_eq_false (by omega)]; exact hf
                · rfl
              · rfl
            · rfl
          · rfl
        · rfl
      · rfl
    · rfl

def tr (b : Bool) : Nat := if b then 1 else 0
def encE (e : T_api_Entry) : List UInt8 := enc e.Term.toNat ++ (enc e.Index.toNat ++ (enc (wu64 e.Kind).toNat ++ encT e.Data))
/-- The numbers at a letter's head. -/
def headN (x : T_api_Letter) : List Int := [wu64 x.Kind, wu64 x.From, wu64 x.To, x.Term, x.Index, x.Prev, x.Commit, ((tr x.Ok : Nat) : Int), wu64 (x.Entries.length : Int)]
def encN (l : List Int) : List UInt8 := l.flatMap fun x => enc x.toNat
def encX (x : T_api_Letter) : List UInt8 := encN (headN x) ++ (x.Entries.flatMap encE ++ encT x.Data)
def outX (x : T_api_Letter) : List UInt8 × Int := if mayB x = true then (encX x, 0) else ([], 1)

theorem encE_length {e : T_api_Entry} (h : entOk e = true) : (encE e).length ≤ 70000 := by
  have := entOk_iff.1 h
  have z1 := enc_length e.Term.toNat
  have z2 := enc_length e.Index.toNat
  have z3 := enc_length (wu64 e.Kind).toNat
  have z4 := encT_length e.Data
  simp only [encE, List.length_append]; omega
theorem mayB_iff {x : T_api_Letter} (h : mayB x = true) : headOk x = true ∧ (x.Entries = [] ∨ x.Kind = 3) ∧ x.Entries.all entOk = true := by
  simp only [mayB, Bool.and_eq_true, Bool.or_eq_true, decide_eq_true_eq] at h
  exact ⟨h.1.1, h.1.2, h.2⟩

theorem p_Enc_l0 (n : Nat) (hn : 20 ≤ n) (x : T_api_Letter) (hw : ∀ e ∈ x.Entries, wf_T_api_Entry e) (hl : x.Entries.length ≤ 8) (ha : x.Entries.all entOk = true) (hd : x.Data.length ≤ 65536) : ∀ (k i : Nat) (f : List UInt8), i ≤ x.Entries.length → x.Entries.length - i < k → f.length ≤ 1000 + i * 70000 →
    letter_Encode.l0 n x k f (i : Int) = some (f ++ ((x.Entries.drop i).flatMap encE ++ encT x.Data), 0)
  | 0, i, f, _, hk, _ => by omega
  | k + 1, i, f, hi, hk, hf => by
    unfold letter_Encode.l0
    by_cases h : i < x.Entries.length
    · rw [if_pos (by simp <;> omega), if_pos ⟨by omega, by omega⟩]
      have e : wi64 ((i : Int) + 1) = ((i + 1 : Nat) : Int) := by rw [wi64_id (by omega) (by omega)]; omega
      have hx := hw _ (rdL_mem h)
      have ho := List.all_eq_true.1 ha _ (rdL_mem h)
      rw [getD_drop h]
      have ih := fun g hg => p_Enc_l0 n hn x hw hl ha hd k (i + 1) g (by omega) (by omega) hg
      generalize rdL x.Entries (i : Int) = s at *
      obtain ⟨w1, w2, w3, w4⟩ := hx
      have w1 := wf_u64 w1
      have w2 := wf_u64 w2
      have hE := encE_length ho
      have ho := entOk_iff.1 ho
      have z1 := enc_length s.Term.toNat
      have z2 := enc_length s.Index.toNat
      have z3 := enc_length (wu64 s.Kind).toNat
      have z4 := encT_length s.Data
      rw [w_Num n hn _ (by show f.length ≤ _; omega) w1, Option.bind_some, w_Num n hn _ (by simp only [List.length_append]; omega) w2, Option.bind_some, w_Num n hn _ (by simp only [List.length_append]; omega) (wu64_range _), Option.bind_some,
        w_Text n hn _ (by simp only [List.length_append]; omega) (by omega), Option.bind_some, e]
      simp only
      rw [ih _ (by simp only [List.length_append]; omega)]
      simp only [List.flatMap_cons, encE, List.append_assoc]
    · have : i = x.Entries.length := by omega
      rw [if_neg (by simp <;> omega), w_Text n hn _ (by show f.length ≤ _; omega) (by omega), Option.bind_some]
      subst this
      simp only [List.drop_length, List.flatMap_nil, List.nil_append, pack_Writer_Bytes.f, Option.bind_some]

theorem p_Encode (n : Nat) (x : T_api_Letter) (hn : 100 ≤ n) (hx : wf_T_api_Letter x) : letter_Encode.f n x = some (outX x) := by
  obtain ⟨w1, w2, w3, w4, w5, w6, w7, _, w8, w9⟩ := hx
  have w4 := wf_u64 w4
  have w5 := wf_u64 w5
  have w6 := wf_u64 w6
  have w7 := wf_u64 w7
  unfold letter_Encode.f outX
  rw [p_May n x (by omega), Option.bind_some]
  cases hm : mayB x
  · rfl
  obtain ⟨h1, _, h3⟩ := mayB_iff hm
  obtain ⟨k1, k2, k3, k4, k5, k6, k7, k8⟩ := headOk_iff.1 h1
  have z1 := enc_length (wu64 x.Kind).toNat
  have z2 := enc_length (wu64 x.From).toNat
  have z3 := enc_length (wu64 x.To).toNat
  have z4 := enc_length x.Term.toNat
  have z5 := enc_length x.Index.toNat
  have z6 := enc_length x.Prev.toNat
  have z7 := enc_length x.Commit.toNat
  have z8 := enc_length (tr x.Ok)
  have z9 := enc_length (wu64 (x.Entries.length : Int)).toNat
  have hB : ∀ (w : T_pack_Writer), w.b.length ≤ 1000000000000 → pack_Writer_Bool.f n w x.Ok = some ⟨w.b ++ enc (tr x.Ok)⟩ := by
    intro w hw
    unfold pack_Writer_Bool.f
    cases x.Ok
    · rw [if_neg (by simp), w_Num n (by omega) w hw ⟨by omega, by omega⟩]; rfl
    · rw [if_pos rfl, w_Num n (by omega) w hw ⟨by omega, by omega⟩]; rfl
  rw [if_neg (by simp), if_pos rfl, w_Num n (by omega) _ (by simp) (wu64_range _), Option.bind_some, w_Num n (by omega) _ (by simp only [List.nil_append]; omega) (wu64_range _), Option.bind_some,
    w_Num n (by omega) _ (by simp only [List.nil_append, List.length_append]; omega) (wu64_range _), Option.bind_some, w_Num n (by omega) _ (by simp only [List.nil_append, List.length_append]; omega) w4, Option.bind_some,
    w_Num n (by omega) _ (by simp only [List.nil_append, List.length_append]; omega) w5, Option.bind_some, w_Num n (by omega) _ (by simp only [List.nil_append, List.length_append]; omega) w6, Option.bind_some,
    w_Num n (by omega) _ (by simp only [List.nil_append, List.length_append]; omega) w7, Option.bind_some, hB _ (by simp only [List.nil_append, List.length_append]; omega), Option.bind_some,
    w_Num n (by omega) _ (by simp only [List.nil_append, List.length_append]; omega) (wu64_range _), Option.bind_some]
  have := p_Enc_l0 n (by omega) x w8.2 k7 h3 k8 n 0
  simp only [List.nil_append]
  have g := fun f hf => (this f (by omega) (by omega) hf)
  have g : ∀ f : List UInt8, f.length ≤ 1000 + 0 * 70000 → letter_Encode.l0 n x n f 0 = some (f ++ ((x.Entries.drop 0).flatMap encE ++ encT x.Data), 0) := g
  rw [g _ (by simp only [List.length_append]; omega), List.drop_zero]
  simp [encX, headN, encN]

theorem r_Enc_l1 (n : Nat) (hn : 20 ≤ n) (x : T_api_Letter) (hw : ∀ e ∈ x.Entries, wf_T_api_Entry e) (hl : x.Entries.length ≤ 8) (ha : x.Entries.all entOk = true) (hd : x.Data.length ≤ 65536) : ∀ (k i : Nat) (f : List UInt8), i ≤ x.Entries.length → x.Entries.length - i < k → f.length ≤ 1000 + i * 70000 →
    tontineref11_Encode.l1 n x k f (i : Int) = some (f ++ ((x.Entries.drop i).flatMap encE ++ encT x.Data), 0)
  | 0, i, f, _, hk, _ => by omega
  | k + 1, i, f, hi, hk, hf => by
    unfold tontineref11_Encode.l1
    by_cases h : i < x.Entries.length
    · rw [if_pos (by simp <;> omega), if_pos ⟨by omega, by omega⟩]
      have e : wi64 ((i : Int) + 1) = ((i + 1 : Nat) : Int) := by rw [wi64_id (by omega) (by omega)]; omega
      have hx := hw _ (rdL_mem h)
      have ho := List.all_eq_true.1 ha _ (rdL_mem h)
      rw [getD_drop h]
      have ih := fun g hg => r_Enc_l1 n hn x hw hl ha hd k (i + 1) g (by omega) (by omega) hg
      generalize rdL x.Entries (i : Int) = s at *
      obtain ⟨w1, w2, w3, w4⟩ := hx
      have w1 := wf_u64 w1
      have w2 := wf_u64 w2
      have hE := encE_length ho
      have ho := entOk_iff.1 ho
      have z1 := enc_length s.Term.toNat
      have z2 := enc_length s.Index.toNat
      have z3 := enc_length (wu64 s.Kind).toNat
      have z4 := encT_length s.Data
      rw [ref_Num n hn w1, Option.bind_some, ref_Num n hn w2, Option.bind_some, if_pos (by simp only [i64max]; omega), ref_Num n hn (wu64_range _), Option.bind_some, if_pos (by simp only [i64max, List.length_append]; omega),
        ref_Text n hn (by omega), Option.bind_some, if_pos (by simp only [i64max, List.length_append]; omega), if_pos (by simp only [i64max, List.length_append]; omega), e, ih _ (by simp only [List.length_append]; omega)]
      simp only [List.flatMap_cons, encE, List.append_assoc]
    · have : i = x.Entries.length := by omega
      have z := encT_length x.Data
      rw [if_neg (by simp <;> omega), ref_Text n hn (by omega), Option.bind_some, if_pos (by simp only [i64max]; omega)]
      subst this
      simp only [List.drop_length, List.flatMap_nil, List.nil_append]

theorem r_Enc_l0 (n : Nat) (hn : 20 ≤ n) (x : T_api_Letter) (hh : ∀ v ∈ headN x, 0 ≤ v ∧ v ≤ 18446744073709551615) (R : List UInt8 × Int) (hR : ∀ f, f.length ≤ 1000 → tontineref11_Encode.l1 n x n f 0 = some (f ++ R.1, R.2)) : ∀ (k i : Nat) (f : List UInt8), i ≤ 9 → 9 - i < k → f.length ≤ i * 9 →
    tontineref11_Encode.l0 n x ((tr x.Ok : Nat) : Int) k f (i : Int) = some (f ++ (encN ((headN x).drop i) ++ R.1), R.2)
  | 0, i, f, _, hk, _ => by omega
  | k + 1, i, f, hi, hk, hf => by
    have hL : (headN x).length = 9 := rfl
    unfold tontineref11_Encode.l0
    show (if decide ((i : Int) < ((headN x).length : Int)) = true then (if (0 : Int) ≤ (i : Int) ∧ (i : Int) < ((headN x).length : Int) then ((tontineref03_Num.f n (rdL (headN x) (i : Int))).bind fun r_15 => (if f.length + r_15.length ≤ i64max then ((tontineref11_Encode.l0 n x ((tr x.Ok : Nat) : Int) k) (f ++ r_15) (wi64 ((i : Int) + 1))) else none)) else none) else (tontineref11_Encode.l1 n x n f 0)) = _
    rw [hL]
    by_cases h : i < 9
    · rw [if_pos (by simp <;> omega), if_pos ⟨by omega, by omega⟩]
      have e : wi64 ((i : Int) + 1) = ((i + 1 : Nat) : Int) := by rw [wi64_id (by omega) (by omega)]; omega
      have hv := hh _ (rdL_mem (l := headN x) (i := i) (by omega))
      rw [getD_drop (l := headN x) (i := i) (by omega)]
      have ih := fun g hg => r_Enc_l0 n hn x hh R hR k (i + 1) g (by omega) (by omega) hg
      generalize rdL (headN x) (i : Int) = v at *
      have z := enc_length v.toNat
      rw [ref_Num n hn hv, Option.bind_some, if_pos (by simp only [i64max]; omega), e, ih _ (by simp only [List.length_append]; omega)]
      simp [encN]
    · have : i = 9 := by omega
      rw [if_neg (by simp <;> omega), hR f (by omega)]
      subst this
      rw [List.drop_of_length_le (by omega)]
      simp [encN]

theorem r_Encode (n : Nat) (x : T_api_Letter) (hn : 100 ≤ n) (hx : wf_T_api_Letter x) : tontineref11_Encode.f n x = some (outX x) := by
  obtain ⟨w1, w2, w3, w4, w5, w6, w7, _, w8, w9⟩ := hx
  have w4 := wf_u64 w4
  have w5 := wf_u64 w5
  have w6 := wf_u64 w6
  have w7 := wf_u64 w7
  unfold tontineref11_Encode.f outX
  rw [r_May n x (by omega), Option.bind_some]
  cases hm : mayB x
  · rfl
  obtain ⟨h1, _, h3⟩ := mayB_iff hm
  obtain ⟨k1, k2, k3, k4, k5, k6, k7, k8⟩ := headOk_iff.1 h1
  rw [if_neg (by simp), if_pos rfl]
  have hj : (if x.Ok = true then tontineref11_Encode.j0 n x 1 else tontineref11_Encode.j0 n x 0) = tontineref11_Encode.l0 n x ((tr x.Ok : Nat) : Int) n [] 0 := by
    cases x.Ok <;> rfl
  rw [hj]
  have hh : ∀ v ∈ headN x, 0 ≤ v ∧ v ≤ 18446744073709551615 := by
    have ht : 0 ≤ ((tr x.Ok : Nat) : Int) ∧ ((tr x.Ok : Nat) : Int) ≤ 18446744073709551615 := by cases x.Ok <;> simp [tr]
    intro v hv
    simp only [headN, List.mem_cons, List.mem_nil_iff, or_false] at hv
    rcases hv with rfl | rfl | rfl | rfl | rfl | rfl | rfl | rfl | rfl
    · exact wu64_range _
    · exact wu64_range _
    · exact wu64_range _
    · exact w4
    · exact w5
    · exact w6
    · exact w7
    · exact ht
    · exact wu64_range _
  have := r_Enc_l0 n (by omega) x hh (x.Entries.flatMap encE ++ encT x.Data, 0) (fun f hf => by
    have g := r_Enc_l1 n (by omega) x w8.2 k7 h3 k8 n 0 f (by omega) (by omega) (by omega)
    rw [List.drop_zero] at g
    exact g) n 0 [] (by omega) (by omega) (by simp)
  rw [List.drop_zero] at this
  exact this
end Go.GL
