/- A letter is read as it was laid, over the plain functions. -/
import Derived.Test.YtciohdgjlcaokaaDec
set_option linter.unusedVariables false
set_option linter.unusedSimpArgs false
namespace Go.GL
open Go

theorem p_bool {n : Nat} (hn : 20 ≤ n) (b : Bool) (r : List UInt8) (bad : Bool) (hr : r.length < 1000000000000000000) : pack_Reader_Bool.f n ⟨enc (tr b) ++ r, bad⟩ = some (b, ⟨r, bad⟩) := by
  unfold pack_Reader_Bool.f
  rw [p_up hn (by cases b <;> simp [tr]) r bad hr (by cases b <;> simp [tr]) (by omega)]
  cases b <;> rfl

theorem ents_len : ∀ l : List T_api_Entry, l.all entOk = true → (l.flatMap encE).length ≤ l.length * 70000
  | [], _ => by simp
  | e :: l, h => by
    simp only [List.all_cons, Bool.and_eq_true] at h
    have := ents_len l h.2
    have := encE_length h.1
    simp only [List.flatMap_cons, List.length_append, List.length_cons]
    omega

theorem ents_back (n : Nat) (hn : 20 ≤ n) (r5 r6 r7 r8 r9 r10 r11 : Int × T_pack_Reader) (r12 : Bool × T_pack_Reader) (l : List T_api_Entry) (hl : l.length ≤ 8) (ha : l.all entOk = true) (hw : ∀ e ∈ l, wf_T_api_Entry e) (R : List UInt8) (hR : R.length ≤ 1000000) :
    ∀ (d k i : Nat), i + d = l.length → d < k →
    letter_Decode.l0 n r5 r6 r7 r8 r9 r10 r11 r12 k ((l.drop i).flatMap encE ++ R) false (l.take i) (d : Int) = tailP n r5 r6 r7 r8 r9 r10 r11 r12 l R false
  | d, 0, i, _, h => by omega
  | 0, k + 1, i, h, hk => by
    have hi : i = l.length := by omega
    subst hi
    unfold letter_Decode.l0
    rw [if_neg (by simp)]
    simp only [List.drop_length, List.take_length, List.flatMap_nil, List.nil_append]
    rfl
  | d + 1, k + 1, i, h, hk => by
    have hi : i < l.length := by omega
    have hso : entOk (rdL l (i : Int)) = true := List.all_eq_true.1 ha _ (rdL_mem hi)
    have hx := hw _ (rdL_mem hi)
    have htk : l.take (i + 1) = l.take i ++ [rdL l (i : Int)] := by
      rw [List.take_add_one, List.getElem?_eq_getElem hi]
      simp [rdL, hi]
    have ih := ents_back n hn r5 r6 r7 r8 r9 r10 r11 r12 l hl ha hw R hR d k (i + 1) (by omega) (by omega)
    have hall : (l.drop (i + 1)).all entOk = true := List.all_eq_true.2 fun x hx => List.all_eq_true.1 ha x (List.mem_of_mem_drop hx)
    have z := ents_len _ hall
    have z'' : (l.drop (i + 1)).length ≤ 8 := by rw [List.length_drop]; omega
    rw [htk] at ih
    rw [getD_drop hi]
    unfold letter_Decode.l0
    rw [if_pos (by simp <;> omega)]
    generalize rdL l (i : Int) = s at *
    obtain ⟨w1, w2, w3, w4⟩ := hx
    have w1 := wf_u64 w1
    have w2 := wf_u64 w2
    obtain ⟨q1, q2, q3⟩ := entOk_iff.1 hso
    have z1 := enc_length s.Index.toNat
    have z2 := enc_length s.Kind.toNat
    have z3 := encT_length s.Data
    have e1 : (s :: l.drop (i + 1)).flatMap encE ++ R = enc s.Term.toNat ++ (enc s.Index.toNat ++ (enc s.Kind.toNat ++ (encT s.Data ++ ((l.drop (i + 1)).flatMap encE ++ R)))) := by
      simp only [List.flatMap_cons, encE, List.append_assoc]
      rw [wu64_id q1 (by omega)]
    have zz : ((l.drop (i + 1)).flatMap encE ++ R).length ≤ 2000000 := by rw [List.length_append]; omega
    generalize hG : (l.drop (i + 1)).flatMap encE ++ R = G at *
    have e2 : (s.Term.toNat : Int) = s.Term := by omega
    have e3 : (s.Index.toNat : Int) = s.Index := by omega
    have e4 : (s.Kind.toNat : Int) = s.Kind := by omega
    have e5 : wi64 (((d + 1 : Nat) : Int) - 1) = (d : Int) := by rw [wi64_id (by omega) (by omega)]; omega
    have ht : (l.take i).length ≤ i := List.length_take_le i l
    rw [e1, p_enc hn (by omega) _ false (by simp only [List.length_append]; omega), Option.bind_some]
    simp only
    rw [p_enc hn (by omega) _ false (by simp only [List.length_append]; omega), Option.bind_some]
    simp only
    rw [p_up hn (by omega) _ false (by simp only [List.length_append]; omega) (by omega) (by omega), Option.bind_some]
    simp only
    rw [p_text hn s.Data _ false (by omega) (by omega) (by omega), Option.bind_some]
    simp only
    rw [e2, e3, e4, e5, if_pos (capOk40 (by simp <;> omega))]
    exact ih
end Go.GL
