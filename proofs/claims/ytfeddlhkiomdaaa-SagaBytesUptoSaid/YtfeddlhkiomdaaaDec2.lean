/- A command is read as it was laid, and what is read was laid so, over the plain functions. -/
import Derived.Test.YtfeddlhkiomdaaaDec
set_option linter.unusedVariables false
set_option linter.unusedSimpArgs false
namespace Go.GL
open Go

theorem done_f (n : Nat) (t : List UInt8) (b : Bool) : pack_Reader_Done.f n (⟨t, b⟩ : T_pack_Reader) = some (if t = [] then !b else false) := by
  unfold pack_Reader_Done.f
  have hl : pack_Reader_Left.f n (⟨t, b⟩ : T_pack_Reader) = some ((t.length : Int), !b) := rfl
  rw [hl, Option.bind_some]
  by_cases h : t = []
  · subst h; rfl
  · have h' : ((t.length : Int) == 0) = false := by rw [beq_eq_false_iff_ne]; intro q; exact h (List.length_eq_zero_iff.1 (by omega))
    simp only [h', if_neg h]
    rfl

abbrev noCmd : T_api_Command := ⟨0, 0, 0, 0, [], 0, false, 0, false, 0⟩

/-- A command that both may say: nothing that its kind doesn't bear. -/
theorem mayB_plain {c : T_api_Command} (h : mayB c = true) (h2 : c.Kind ≠ 2) (h4 : c.Kind ≠ 4) : (c.Kind = 1 ∨ c.Kind = 3 ∨ c.Kind = 5) ∧ c.Steps = [] ∧ c.Step = 0 ∧ c.Back = false ∧ c.Try = 0 ∧ c.Ok = false := by
  unfold mayB at h
  have e2 : (c.Kind == 2) = false := by simpa using h2
  have e4 : (c.Kind == 4) = false := by simpa using h4
  cases hk : ((c.Kind == 1) || (c.Kind == 3) || (c.Kind == 5))
  · simp [hk, e2, e4] at h
  · simp only [hk, if_true, bareB, Bool.and_eq_true, Bool.not_eq_true', beq_iff_eq] at h
    simp only [Bool.or_eq_true, beq_iff_eq] at hk
    obtain ⟨h1, ⟨⟨h3, h5⟩, h6⟩, h7⟩ := h
    exact ⟨by omega, List.length_eq_zero_iff.1 h1, h3, h5, h6, h7⟩
theorem mayB_two {c : T_api_Command} (h : mayB c = true) (h2 : c.Kind = 2) : chk c.Steps = true ∧ c.Step = 0 ∧ c.Back = false ∧ c.Try = 0 ∧ c.Ok = false := by
  unfold mayB at h
  rw [h2] at h
  have e0 : (((2 : Int) == 1) || ((2 : Int) == 3) || ((2 : Int) == 5)) = false := rfl
  have e1 : ((2 : Int) == 2) = true := rfl
  rw [e0, e1] at h
  simp only [Bool.false_eq_true, if_false, if_true, bareB, Bool.and_eq_true, Bool.not_eq_true', beq_iff_eq] at h
  obtain ⟨h1, ⟨⟨h3, h5⟩, h6⟩, h7⟩ := h
  exact ⟨h1, h3, h5, h6, h7⟩
theorem mayB_four {c : T_api_Command} (h : mayB c = true) (h4 : c.Kind = 4) : c.Steps = [] ∧ (0 ≤ c.Step ∧ c.Step < 64) ∧ (0 ≤ c.Try ∧ c.Try < 9) ∧ c.Session = 0 ∧ c.Seq = 0 := by
  unfold mayB at h
  rw [h4] at h
  have e0 : (((4 : Int) == 1) || ((4 : Int) == 3) || ((4 : Int) == 5)) = false := rfl
  have e1 : ((4 : Int) == 2) = false := rfl
  have e2 : ((4 : Int) == 4) = true := rfl
  rw [e0, e1, e2] at h
  simp only [Bool.false_eq_true, if_false, if_true, Bool.and_eq_true, beq_iff_eq, decide_eq_true_eq] at h
  obtain ⟨⟨⟨⟨⟨⟨h1, h3⟩, h5⟩, h6⟩, h7⟩, h8⟩, h9⟩ := h
  exact ⟨List.length_eq_zero_iff.1 h1, ⟨h3, h5⟩, ⟨h6, h7⟩, h8, h9⟩
theorem mayB_kind {c : T_api_Command} (h : mayB c = true) : 1 ≤ c.Kind ∧ c.Kind ≤ 5 := by
  by_cases h2 : c.Kind = 2
  · omega
  by_cases h4 : c.Kind = 4
  · omega
  have := (mayB_plain h h2 h4).1
  omega

theorem eta_two {c : T_api_Command} (q1 : c.Step = 0) (q2 : c.Back = false) (q3 : c.Try = 0) (q4 : c.Ok = false) : (⟨c.Kind, c.Session, c.Seq, c.Saga, c.Steps, 0, false, 0, false, c.Now⟩ : T_api_Command) = c := by
  cases c; simp_all
theorem eta_four {c : T_api_Command} (q0 : c.Steps = []) : (⟨c.Kind, c.Session, c.Seq, c.Saga, [], c.Step, c.Back, c.Try, c.Ok, c.Now⟩ : T_api_Command) = c := by
  cases c; simp_all
theorem eta_plain {c : T_api_Command} (q0 : c.Steps = []) (q1 : c.Step = 0) (q2 : c.Back = false) (q3 : c.Try = 0) (q4 : c.Ok = false) : (⟨c.Kind, c.Session, c.Seq, c.Saga, [], 0, false, 0, false, c.Now⟩ : T_api_Command) = c := by
  cases c; simp_all

theorem read_back (n : Nat) (hn : 20 ≤ n) (l : List T_api_Step) (hl : l.length ≤ 64) (ha : l.all stepOk = true) : ∀ (d k i : Nat), i + d = l.length → d < k →
    plan_Read.l0 n k (encL (l.drop i)) false (l.take i) (d : Int) = some (l, ⟨[], false⟩)
  | d, 0, i, _, h => by omega
  | 0, k + 1, i, h, hk => by
    have hi : i = l.length := by omega
    subst hi
    unfold plan_Read.l0
    rw [if_neg (by simp)]
    simp only [List.drop_length, List.take_length]
    rfl
  | d + 1, k + 1, i, h, hk => by
    have hi : i < l.length := by omega
    have hso : stepOk (rdL l (i : Int)) = true := List.all_eq_true.1 ha _ (rdL_mem hi)
    have hdr := getD_drop hi
    have htk : l.take (i + 1) = l.take i ++ [rdL l (i : Int)] := by
      rw [List.take_add_one, List.getElem?_eq_getElem hi]
      simp [rdL, hi]
    have ih := read_back n hn l hl ha d k (i + 1) (by omega) (by omega)
    have hall : (l.drop (i + 1)).all stepOk = true := List.all_eq_true.2 fun x hx => List.all_eq_true.1 ha x (List.mem_of_mem_drop hx)
    have z := encL_length (l.drop (i + 1))
    have z' := lenL_ok _ hall
    have z'' : (l.drop (i + 1)).length ≤ 64 := by rw [List.length_drop]; omega
    rw [htk] at ih
    rw [hdr]
    unfold plan_Read.l0
    rw [if_pos (by simp <;> omega)]
    generalize rdL l (i : Int) = s at *
    obtain ⟨q1, q2, q3, q4, q5, q6⟩ := stepOk_iff hso
    have e1 : encL (s :: l.drop (i + 1)) = enc s.Part.toNat ++ (encT s.Name ++ (enc s.Budget.toNat ++ encL (l.drop (i + 1)))) := by
      simp only [encL, List.flatMap_cons, encS, List.append_assoc]
      rw [wu64_id q1 (by omega), wu64_id (x := s.Budget) (by omega) (by omega)]
    have z1 := encT_length s.Name
    have z2 := enc_length s.Budget.toNat
    rw [e1, p_up hn (by omega) _ false (by simp <;> omega) (by omega) (by omega), Option.bind_some]
    simp only
    rw [p_text hn s.Name _ false (by simp <;> omega) (by omega) (by omega), Option.bind_some]
    simp only
    rw [p_up hn (by omega) _ false (by omega) (by omega) (by omega), Option.bind_some]
    simp only
    have e2 : (s.Part.toNat : Int) = s.Part := by omega
    have e3 : (s.Budget.toNat : Int) = s.Budget := by omega
    have e4 : wi64 (((d + 1 : Nat) : Int) - 1) = (d : Int) := by rw [wi64_id (by omega) (by omega)]; omega
    have ht : (l.take i).length ≤ i := List.length_take_le i l
    rw [e2, e3, e4, if_pos (capOk32 (by simp <;> omega))]
    exact ih

theorem p_bool {n : Nat} (hn : 20 ≤ n) (b : Bool) (r : List UInt8) (bad : Bool) (hr : r.length < 1000000000000000000) : pack_Reader_Bool.f n ⟨enc (tr b) ++ r, bad⟩ = some (b, ⟨r, bad⟩) := by
  unfold pack_Reader_Bool.f
  rw [p_up hn (by cases b <;> simp [tr]) r bad hr (by cases b <;> simp [tr]) (by omega)]
  cases b <;> rfl

theorem back_p (n : Nat) (hn : 400 ≤ n) (c : T_api_Command) (hc : wf_T_api_Command c) (hm : mayB c = true) : command_Decode.f n (encC c) = some (c, 0) := by
  obtain ⟨w1, w2, w3, w4, w5, w6, _, w7, _, w8⟩ := hc
  have w2 := wf_u64 w2
  have w3 := wf_u64 w3
  have w4 := wf_u64 w4
  have w8 := wf_u64 w8
  have hk := mayB_kind hm
  have z1 := enc_length (wu64 c.Kind).toNat
  have z2 := enc_length c.Session.toNat
  have z3 := enc_length c.Seq.toNat
  have z4 := enc_length c.Saga.toNat
  have z5 := enc_length c.Now.toNat
  have z6 := enc_length (wu64 c.Step).toNat
  have z7 := enc_length (tr c.Back)
  have z8 := enc_length (wu64 c.Try).toNat
  have z9 := enc_length (tr c.Ok)
  have z10 := enc_length c.Steps.length
  obtain ⟨T, hT⟩ : ∃ T, T = (if (c.Kind == 2) = true then enc c.Steps.length ++ encL c.Steps else if (c.Kind == 4) = true then enc (wu64 c.Step).toNat ++ (enc (tr c.Back) ++ (enc (wu64 c.Try).toNat ++ enc (tr c.Ok))) else []) := ⟨_, rfl⟩
  have hTl : T.length ≤ 1000000 := by
    rw [hT]
    by_cases h2 : c.Kind = 2
    · have e2 : (c.Kind == 2) = true := by simpa using h2
      obtain ⟨q1, q2, q3⟩ := chk_iff (mayB_two hm h2).1
      have := encL_length c.Steps
      have := lenL_ok _ q3
      rw [if_pos e2, List.length_append]; omega
    · have e2 : ¬ (c.Kind == 2) = true := by simpa using h2
      rw [if_neg e2]
      split
      · simp only [List.length_append]; omega
      · simp
  have ek : (((wu64 c.Kind).toNat : Nat) : Int) = c.Kind := by rw [wu64_id (by omega) (by omega)]; omega
  have ekn : (wu64 c.Kind).toNat = c.Kind.toNat := by rw [wu64_id (by omega) (by omega)]
  have x2 : (c.Session.toNat : Int) = c.Session := by omega
  have x3 : (c.Seq.toNat : Int) = c.Seq := by omega
  have x4 : (c.Saga.toNat : Int) = c.Saga := by omega
  have x5 : (c.Now.toNat : Int) = c.Now := by omega
  have hf : ∀ l, pack_From.f n l = some ⟨l, false⟩ := fun _ => rfl
  unfold command_Decode.f
  rw [encC, ← hT, hf, Option.bind_some, p_up (by omega) (by omega) _ false (by simp only [List.length_append]; omega) (by omega) (by omega), Option.bind_some]
  simp only
  rw [p_enc (by omega) (by omega) _ false (by simp only [List.length_append]; omega), Option.bind_some]
  simp only
  rw [p_enc (by omega) (by omega) _ false (by simp only [List.length_append]; omega), Option.bind_some]
  simp only
  rw [p_enc (by omega) (by omega) _ false (by simp only [List.length_append]; omega), Option.bind_some]
  simp only
  rw [p_enc (by omega) (by omega) T false (by omega), Option.bind_some]
  simp only [ek, x2, x3, x4, x5]
  have fin : ∀ c' : T_api_Command, c' = c → command_May.f n c' = some true := fun c' e => by
    subst e
    have : c'.Steps.length ≤ 64 := by
      by_cases h2 : c'.Kind = 2
      · exact (chk_iff (mayB_two hm h2).1).2.1
      by_cases h4 : c'.Kind = 4
      · rw [(mayB_four hm h4).1]; simp
      · rw [(mayB_plain hm h2 h4).2.1]; simp
    rw [p_May n c' (by omega), hm]
  by_cases h2 : c.Kind = 2
  · have e2 : (c.Kind == 2) = true := by simpa using h2
    obtain ⟨q0, q1, q2, q3, q4⟩ := mayB_two hm h2
    obtain ⟨g1, g2, g3⟩ := chk_iff q0
    rw [if_pos e2] at hT
    have zz := encL_length c.Steps
    have zz2 := lenL_ok _ g3
    have hr : plan_Read.f n ⟨T, false⟩ = some (c.Steps, ⟨[], false⟩) := by
      unfold plan_Read.f
      rw [hT, p_up (by omega) (by omega) _ false (by omega) (by omega) (by omega), Option.bind_some]
      exact read_back n (by omega) c.Steps g2 g3 c.Steps.length n 0 (by omega) (by omega)
    rw [if_pos e2, hr, Option.bind_some]
    unfold command_Decode.j0
    rw [done_f, Option.bind_some, if_neg (by simp)]
    have ec : (⟨c.Kind, c.Session, c.Seq, c.Saga, c.Steps, 0, false, 0, false, c.Now⟩ : T_api_Command) = c := by
      exact eta_two q1 q2 q3 q4
    simp only [ec]
    rw [fin c rfl, Option.bind_some, if_neg (by simp)]
  have e2 : ¬ (c.Kind == 2) = true := by simpa using h2
  rw [if_neg e2]
  rw [if_neg e2] at hT
  by_cases h4 : c.Kind = 4
  · have e4 : (c.Kind == 4) = true := by simpa using h4
    obtain ⟨q0, q1, q2, q3, q4⟩ := mayB_four hm h4
    rw [if_pos e4] at hT
    have es : (((wu64 c.Step).toNat : Nat) : Int) = c.Step := by rw [wu64_id (by omega) (by omega)]; omega
    have et : (((wu64 c.Try).toNat : Nat) : Int) = c.Try := by rw [wu64_id (by omega) (by omega)]; omega
    have hl := p_bool (n := n) (by omega) c.Ok [] false (by simp)
    rw [List.append_nil] at hl
    rw [if_pos e4, hT, p_up (by omega) (by omega) _ false (by simp only [List.length_append]; omega) (by omega) (by omega), Option.bind_some]
    simp only
    rw [p_bool (by omega) _ _ false (by simp only [List.length_append]; omega), Option.bind_some]
    simp only
    rw [p_up (by omega) (by omega) _ false (by omega) (by omega) (by omega), Option.bind_some]
    simp only
    rw [hl, Option.bind_some]
    simp only [es, et]
    unfold command_Decode.j0
    rw [done_f, Option.bind_some, if_neg (by simp)]
    have ec : (⟨c.Kind, c.Session, c.Seq, c.Saga, [], c.Step, c.Back, c.Try, c.Ok, c.Now⟩ : T_api_Command) = c := by
      exact eta_four q0
    simp only [ec]
    rw [fin c rfl, Option.bind_some, if_neg (by simp)]
  · have e4 : ¬ (c.Kind == 4) = true := by simpa using h4
    obtain ⟨q0, q1, q2, q3, q4, q5⟩ := mayB_plain hm h2 h4
    rw [if_neg e4] at hT
    rw [if_neg e4, hT]
    unfold command_Decode.j0
    rw [done_f, Option.bind_some, if_neg (by simp)]
    have ec : (⟨c.Kind, c.Session, c.Seq, c.Saga, [], 0, false, 0, false, c.Now⟩ : T_api_Command) = c := by
      exact eta_plain q1 q2 q3 q4 q5
    simp only [ec]
    rw [fin c rfl, Option.bind_some, if_neg (by simp)]
end Go.GL
