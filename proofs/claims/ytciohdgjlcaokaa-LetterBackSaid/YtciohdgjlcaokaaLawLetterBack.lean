/- The law LetterBack, over the plain functions. -/
import Derived.Test.YtciohdgjlcaokaaDec4
set_option linter.unusedVariables false
set_option linter.unusedSimpArgs false
namespace Go.GL
open Go
theorem tontinelaw11_LetterBack_law (x : T_api_Letter) (h : wf_T_api_Letter x) : Ev (fun n => tontinelaw11_LetterBack.f n x) true := by
  unfold tontinelaw11_LetterBack.f
  refine Ev.bind begun11 (Ev.ge 1000 fun n hn => ?_)
  rw [if_neg (by simp), p_Encode n x (by omega) h, Option.bind_some]
  cases hm : mayB x
  · have : outX x = ([], 1) := by unfold outX; rw [hm]; rfl
    rw [this]; rfl
  · obtain ⟨h1, _, h3⟩ := mayB_iff hm
    obtain ⟨k1, k2, k3, k4, k5, k6, k7, k8⟩ := headOk_iff.1 h1
    have z := encT_length x.Data
    have z2 := ents_len _ h3
    have hh : (encN (headN x)).length ≤ 81 := by
      have := enc_length
      simp only [encN, headN, List.flatMap_cons, List.flatMap_nil, List.length_append, List.length_nil]
      have a1 := enc_length (wu64 x.Kind).toNat
      have a2 := enc_length (wu64 x.From).toNat
      have a3 := enc_length (wu64 x.To).toNat
      have a4 := enc_length x.Term.toNat
      have a5 := enc_length x.Index.toNat
      have a6 := enc_length x.Prev.toNat
      have a7 := enc_length x.Commit.toNat
      have a8 := enc_length ((tr x.Ok : Nat) : Int).toNat
      have a9 := enc_length (wu64 (x.Entries.length : Int)).toNat
      omega
    have hpos : 0 < (encX x).length := by
      simp only [encX, headN, encN, List.flatMap_cons, List.length_append, enc, List.length_cons]
      omega
    have hlen : (encX x).length ≤ 1000000 := by
      simp only [encX, List.length_append]; omega
    have hst : x.Entries.length ≤ 8 := k7
    rw [mayB_out hm, if_neg (by simp)]
    simp only
    rw [back_p n (by omega) x h hm, Option.bind_some, if_pos (by simp only [i64max, List.length_cons, List.length_nil]; omega), back_rest n (by omega) x h hm [0] (by simp), Option.bind_some]
    have e1 : wi64 (((encX x).length : Int) - 1) = (((encX x).length - 1 : Nat) : Int) := by rw [wi64_id (by omega) (by omega)]; omega
    rw [e1, if_pos ⟨by omega, by omega⟩, Int.toNat_natCast]
    have hg : letter_Decode.f n ((encX x).take ((encX x).length - 1)) = some (noX, 2) := by
      rcases canon_p n (by omega) ((encX x).take ((encX x).length - 1)) (by rw [List.length_take]; omega) with q | ⟨y, q, hy, wy, hc⟩
      · exact q
      · have e2 : encX x = encX y ++ (encX x).drop ((encX x).length - 1) := by rw [← hc, List.take_append_drop]
        have hd : ((encX x).drop ((encX x).length - 1)).length = 1 := by rw [List.length_drop]; omega
        have b1 := back_rest n (by omega) y wy hy ((encX x).drop ((encX x).length - 1)) (by omega)
        rw [← e2, back_p n (by omega) x h hm, if_neg (by intro q0; rw [q0] at hd; simp at hd)] at b1
        simp at b1
    rw [hg, Option.bind_some, if_pos (by simp), same_x n x (by omega) (by omega), Option.bind_some, if_pos rfl]
    simp
end Go.GL
