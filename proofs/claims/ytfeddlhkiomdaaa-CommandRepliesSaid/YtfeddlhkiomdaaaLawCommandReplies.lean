/- The law CommandReplies, over the plain functions. -/
import Derived.Test.YtfeddlhkiomdaaaRound
set_option linter.unusedVariables false
set_option linter.unusedSimpArgs false
namespace Go.GL
open Go

theorem done_f (n : Nat) (t : List UInt8) (b : Bool) : pack_Reader_Done.f n (⟨t, b⟩ : T_pack_Reader) = some (if t = [] then !b else false) := by
  unfold pack_Reader_Done.f
  have hl : pack_Reader_Left.f n (⟨t, b⟩ : T_pack_Reader) = some ((t.length : Int), !b) := rfl
  rw [hl, Option.bind_some]
  by_cases h : t = []
  · subst h; rfl
  · have h' : ((t.length : Int) == 0) = false := by rw [beq_eq_false_iff_ne]; intro q; exact h (List.length_eq_zero_iff.1 (by omega))
    simp only [h', if_neg h]
    rfl

theorem said_same (n : Nat) (hn : 20 ≤ n) (s : List UInt8) (hs : s.length < 1000000000000000000) : ∃ r, command_Said.f n s = some r ∧ tontineref16_Said.f n s = some r := by
  unfold command_Said.f tontineref16_Said.f
  have hf : pack_From.f n s = some ⟨s, false⟩ := rfl
  rw [hf, Option.bind_some]
  obtain ⟨a1, t1, b1, e1, e1', l1⟩ := both_Up hn s false hs 52
  rw [e1, e1']
  simp only [Option.bind_some]
  obtain ⟨a2, t2, b2, e2, e2', l2⟩ := both_Num hn t1 b1 (by omega)
  rw [e2, e2']
  simp only [Option.bind_some]
  obtain ⟨a3, t3, b3, e3, e3', l3⟩ := both_Num hn t2 b2 (by omega)
  rw [e3, e3']
  simp only [Option.bind_some, done_f]
  by_cases h : t3 = []
  · subst h
    cases b3
    · exact ⟨_, rfl, rfl⟩
    · exact ⟨_, rfl, rfl⟩
  · rw [if_neg h]
    have h' : (t3 == ([] : List UInt8)) = false := by rw [beq_eq_false_iff_ne]; exact h
    refine ⟨_, rfl, ?_⟩
    cases b3
    · simp [h']
    · rfl

theorem tontinelaw16_CommandReplies_law (y : T_api_Reply) (s : List UInt8) (hy : wf_T_api_Reply y) (hs : s.length ≤ reachBytes) : Ev (fun n => tontinelaw16_CommandReplies.f n y s) true := by
  unfold tontinelaw16_CommandReplies.f
  refine Ev.bind begun16 (Ev.ge 300 fun n hn => ?_)
  rw [if_neg (by simp)]
  have hr : reachBytes < 1000000000000000000 := by decide
  obtain ⟨w1, w2, w3⟩ := hy
  have w1 := wf_i64 w1
  have w2 := wf_u64 w2
  have w3 := wf_u64 w3
  obtain ⟨E, hE⟩ : ∃ E, E = wu64 (if y.Err > 0 then y.Err else 0) := ⟨_, rfl⟩
  have hE' : E = if y.Err > 0 then y.Err else 0 := by
    rw [hE]; split
    · exact wu64_id (by omega) (by omega)
    · exact wu64_id (by omega) (by omega)
  have hEr : 0 ≤ E ∧ E ≤ 18446744073709551615 := by rw [hE']; split <;> omega
  have z1 := enc_length E.toNat
  have z2 := enc_length y.Num.toNat
  have z3 := enc_length y.Extra.toNat
  have hA : command_Answer.f n y = some (enc E.toNat ++ (enc y.Num.toNat ++ enc y.Extra.toNat)) := by
    unfold command_Answer.f
    rw [← hE, w_Num n (by omega) _ (by simp) hEr, Option.bind_some, w_Num n (by omega) _ (by simp <;> omega) w2, Option.bind_some, w_Num n (by omega) _ (by simp <;> omega) w3, Option.bind_some]
    simp only [pack_Writer_Bytes.f, Option.bind_some, List.nil_append, List.append_assoc]
  have hA' : tontineref16_Answer.f n y = some (enc E.toNat ++ (enc y.Num.toNat ++ enc y.Extra.toNat)) := by
    unfold tontineref16_Answer.f
    rw [← hE, nums_f n _ (by simp <;> omega) (by simp) (by intro x hx; simp only [List.mem_cons, List.mem_nil_iff, or_false] at hx; rcases hx with rfl | rfl | rfl <;> assumption), Option.bind_some]
    simp [encN]
  obtain ⟨r, h1, h2⟩ := said_same n (by omega) s (by omega)
  obtain ⟨q, h3, _⟩ := said_same n (by omega) (enc E.toNat ++ (enc y.Num.toNat ++ enc y.Extra.toNat)) (by simp <;> omega)
  rw [hA, Option.bind_some, h1, Option.bind_some, h2, Option.bind_some, h3, Option.bind_some, hA', Option.bind_some, if_pos (by simp), if_pos (by simp), if_pos (by simp)]
  by_cases c1 : y.Err < 0
  · rw [if_pos (by simpa using c1)]
  rw [if_neg (by simpa using c1)]
  by_cases c2 : y.Err > 52
  · rw [if_pos (by simpa using c2)]
  rw [if_neg (by simpa using c2)]
  have hEe : E = y.Err := by rw [hE']; split <;> omega
  have hq : q = (y, 0) := by
    have : command_Said.f n (enc E.toNat ++ (enc y.Num.toNat ++ enc y.Extra.toNat)) = some (y, 0) := by
      unfold command_Said.f
      have hf : ∀ l, pack_From.f n l = some ⟨l, false⟩ := fun _ => rfl
      have g3 := p_enc (n := n) (by omega) (x := y.Extra.toNat) (by omega) [] false (by simp)
      rw [List.append_nil] at g3
      rw [hf, Option.bind_some, p_up (by omega) (by omega) _ false (by simp <;> omega) (by omega) (by omega), Option.bind_some, p_enc (by omega) (by omega) _ false (by omega), Option.bind_some, g3, Option.bind_some, done_f]
      have x1 : (E.toNat : Int) = y.Err := by omega
      have x2 : (y.Num.toNat : Int) = y.Num := by omega
      have x3 : (y.Extra.toNat : Int) = y.Extra := by omega
      simp only [x1, x2, x3]
      rfl
    rw [this] at h3
    exact (Option.some.inj h3).symm
  subst hq
  simp
end Go.GL
