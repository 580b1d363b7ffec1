/- A letter is read as it was laid, over the plain functions. -/
import Derived.Test.YtciohdgjlcaokaaDec2
set_option linter.unusedVariables false
set_option linter.unusedSimpArgs false
namespace Go.GL
open Go

theorem back_rest (n : Nat) (hn : 400 ≤ n) (x : T_api_Letter) (hx : wf_T_api_Letter x) (hm : mayB x = true) (r : List UInt8) (hr : r.length ≤ 1000) : letter_Decode.f n (encX x ++ r) = some (if r = [] then (x, 0) else (noX, 2)) := by
  obtain ⟨w1, w2, w3, w4, w5, w6, w7, _, w8, w9⟩ := hx
  have w4 := wf_u64 w4
  have w5 := wf_u64 w5
  have w6 := wf_u64 w6
  have w7 := wf_u64 w7
  obtain ⟨h1, _, h3⟩ := mayB_iff hm
  obtain ⟨k1, k2, k3, k4, k5, k6, k7, k8⟩ := headOk_iff.1 h1
  have z1 := enc_length x.Kind.toNat
  have z2 := enc_length x.From.toNat
  have z3 := enc_length x.To.toNat
  have z4 := enc_length x.Term.toNat
  have z5 := enc_length x.Index.toNat
  have z6 := enc_length x.Prev.toNat
  have z7 := enc_length x.Commit.toNat
  have z8 := enc_length (tr x.Ok)
  have z9 := enc_length x.Entries.length
  have z10 := encT_length x.Data
  have z11 := ents_len _ h3
  have y1 : (x.Kind.toNat : Int) = x.Kind := by omega
  have y2 : (x.From.toNat : Int) = x.From := by omega
  have y3 : (x.To.toNat : Int) = x.To := by omega
  have y4 : (x.Term.toNat : Int) = x.Term := by omega
  have y5 : (x.Index.toNat : Int) = x.Index := by omega
  have y6 : (x.Prev.toNat : Int) = x.Prev := by omega
  have y7 : (x.Commit.toNat : Int) = x.Commit := by omega
  have u1 : (wu64 x.Kind).toNat = x.Kind.toNat := by rw [wu64_id (by omega) (by omega)]
  have u2 : (wu64 x.From).toNat = x.From.toNat := by rw [wu64_id (by omega) (by omega)]
  have u3 : (wu64 x.To).toNat = x.To.toNat := by rw [wu64_id (by omega) (by omega)]
  have u9 : (wu64 (x.Entries.length : Int)).toNat = x.Entries.length := by rw [wu64_id (by omega) (by omega)]; omega
  have hX : encX x ++ r = enc x.Kind.toNat ++ (enc x.From.toNat ++ (enc x.To.toNat ++ (enc x.Term.toNat ++ (enc x.Index.toNat ++ (enc x.Prev.toNat ++ (enc x.Commit.toNat ++ (enc (tr x.Ok) ++ (enc x.Entries.length ++ (x.Entries.flatMap encE ++ (encT x.Data ++ r)))))))))) := by
    simp only [encX, headN, encN, List.flatMap_cons, List.flatMap_nil, List.append_nil, u1, u2, u3, u9, Int.toNat_natCast, List.append_assoc]
  have hT : (x.Entries.flatMap encE ++ (encT x.Data ++ r)).length ≤ 1000000 := by simp only [List.length_append]; omega
  obtain ⟨T, hTe⟩ : ∃ T, T = x.Entries.flatMap encE ++ (encT x.Data ++ r) := ⟨_, rfl⟩
  rw [← hTe] at hT hX
  have hf : ∀ l, pack_From.f n l = some ⟨l, false⟩ := fun _ => rfl
  unfold letter_Decode.f
  rw [hX, hf, Option.bind_some, p_up (by omega) (by omega) _ false (by simp only [List.length_append]; omega) (by omega) (by omega), Option.bind_some]
  simp only
  rw [p_up (by omega) (by omega) _ false (by simp only [List.length_append]; omega) (by omega) (by omega), Option.bind_some]
  simp only
  rw [p_up (by omega) (by omega) _ false (by simp only [List.length_append]; omega) (by omega) (by omega), Option.bind_some]
  simp only
  rw [p_enc (by omega) (by omega) _ false (by simp only [List.length_append]; omega), Option.bind_some]
  simp only
  rw [p_enc (by omega) (by omega) _ false (by simp only [List.length_append]; omega), Option.bind_some]
  simp only
  rw [p_enc (by omega) (by omega) _ false (by simp only [List.length_append]; omega), Option.bind_some]
  simp only
  rw [p_enc (by omega) (by omega) _ false (by simp only [List.length_append]; omega), Option.bind_some]
  simp only
  rw [p_bool (by omega) _ _ false (by simp only [List.length_append]; omega), Option.bind_some]
  simp only
  rw [p_up (by omega) (by omega) T false (by omega) (by omega) (by omega), Option.bind_some]
  simp only [y1, y2, y3, y4, y5, y6, y7]
  have he := fun r5 r6 r7 r8 r9 r10 r11 r12 => ents_back n (by omega) r5 r6 r7 r8 r9 r10 r11 r12 x.Entries k7 h3 w8.2 (encT x.Data ++ r) (by simp only [List.length_append]; omega) x.Entries.length n 0 (by omega) (by omega)
  simp only [List.drop_zero, List.take_zero, ← hTe] at he
  rw [he]
  unfold tailP
  rw [p_text (by omega) x.Data r false (by omega) (by omega) (by omega), Option.bind_some]
  simp only
  rw [done_f, Option.bind_some]
  by_cases h0 : r = []
  · rw [if_pos h0, if_pos h0, if_neg (by simp)]
    show ((letter_May.f n x).bind fun r_39 => (if (!r_39) = true then some ((⟨0, 0, 0, 0, 0, 0, 0, false, [], []⟩ : T_api_Letter), 2) else some (x, 0))) = _
    rw [p_May n x (by omega), Option.bind_some, hm]
    rfl
  · rw [if_neg h0, if_neg h0]
    rfl
theorem back_p (n : Nat) (hn : 400 ≤ n) (x : T_api_Letter) (hx : wf_T_api_Letter x) (hm : mayB x = true) : letter_Decode.f n (encX x) = some (x, 0) := by
  have := back_rest n hn x hx hm [] (by simp)
  rw [List.append_nil] at this
  exact this
end Go.GL
