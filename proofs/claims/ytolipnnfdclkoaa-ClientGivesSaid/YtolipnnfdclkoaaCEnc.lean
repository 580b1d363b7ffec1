/- Commands laid, over the plain functions. -/
import Derived.Test.YtolipnnfdclkoaaCCheck
import Derived.Test.YtolipnnfdclkoaaCPlan
set_option linter.unusedVariables false
set_option linter.unusedSimpArgs false
namespace Go.GL
open Go

theorem ref13_Check_l0 (n : Nat) (l : List T_api_Step) (hl : l.length ≤ 64) : ∀ (k i : Nat) (bad : Bool), i ≤ l.length → l.length - i + 1 < k →
    tontineref13_Check.l0 n l k bad (i : Int) = some (if bad then 44 else if (l.drop i).all stepOk then 0 else 44)
  | 0, i, _, _, h => by omega
  | k + 1, i, bad, hi, hk => by
    unfold tontineref13_Check.l0
    cases bad with
    | true =>
      unfold tontineref13_Check.j1
      by_cases h : i < l.length <;> simp
    | false =>
    by_cases h : i < l.length
    · rw [if_pos (by simpa using h)]
      unfold tontineref13_Check.j1
      rw [if_pos (by rfl), if_pos ⟨by omega, by omega⟩, getD_drop h]
      have ih := fun bad => ref13_Check_l0 n l hl k (i + 1) bad (by omega) (by omega)
      have e : wi64 ((i : Int) + 1) = ((i + 1 : Nat) : Int) := by rw [wi64_id (by omega) (by omega)]; omega
      generalize rdL l (i : Int) = s
      simp only [tontineref13_Check.j2, e, ih, List.all_cons]
      simp only [stepOk]
      by_cases h1 : s.Part < 0
      · simp [h1]; omega
      by_cases h2 : s.Part > 3
      · simp [h1, h2]; omega
      by_cases h3 : (s.Name.length : Int) < 1
      · simp [h1, h2, h3]; omega
      by_cases h4 : (s.Name.length : Int) > 16
      · simp [h1, h2, h3, h4]; omega
      by_cases h5 : s.Budget < 1
      · simp [h1, h2, h3, h4, h5]; omega
      by_cases h6 : s.Budget > 9
      · simp [h1, h2, h3, h4, h5, h6]; omega
      have : (decide (0 ≤ s.Part) && decide (s.Part < 4) && decide (1 ≤ s.Name.length) && decide (s.Name.length ≤ 16) && decide (1 ≤ s.Budget) && decide (s.Budget ≤ 9)) = true := by
        simp only [Bool.and_eq_true, decide_eq_true_eq]; omega
      simp [h1, h2, h3, h4, h5, h6, this]
    · have : i = l.length := by omega
      rw [if_neg (by simpa using h)]
      unfold tontineref13_Check.j1
      subst this; simp

theorem ref13_Check_f (n : Nat) (l : List T_api_Step) (hn : l.length + 2 < n) : tontineref13_Check.f n l = some (if 1 ≤ l.length ∧ l.length ≤ 64 ∧ l.all stepOk = true then 0 else 44) := by
  unfold tontineref13_Check.f tontineref13_Check.j0
  by_cases h0 : l.length = 0
  · have : l = [] := List.length_eq_zero_iff.1 h0
    subst this
    obtain ⟨m, rfl⟩ : ∃ m, n = m + 1 := ⟨n - 1, by omega⟩
    rfl
  have h3 : ((l.length : Int) == 0) = false := by rw [beq_eq_false_iff_ne]; omega
  rw [if_neg (by rw [h3]; simp)]
  by_cases h : l.length ≤ 64
  · have b := ref13_Check_l0 n l h n 0 false (by omega) (by omega)
    rw [List.drop_zero] at b
    rw [decide_eq_false (show ¬ (l.length : Int) > 64 by omega)]
    refine Eq.trans b ?_
    by_cases h4 : l.all stepOk = true
    · rw [if_neg (by simp), if_pos h4, if_pos ⟨by omega, h, h4⟩]
    · rw [if_neg (by simp), if_neg h4, if_neg (by rintro ⟨_, _, h⟩; exact h4 h)]
  · obtain ⟨m, rfl⟩ : ∃ m, n = m + 1 := ⟨n - 1, by omega⟩
    rw [decide_eq_true (show (l.length : Int) > 64 by omega), if_neg (by omega)]
    unfold tontineref13_Check.l0 tontineref13_Check.j1
    simp

def chk (l : List T_api_Step) : Bool := decide (1 ≤ l.length ∧ l.length ≤ 64 ∧ l.all stepOk = true)
theorem p_chk (n : Nat) (l : List T_api_Step) (hn : l.length + 2 < n) : plan_Check.f n l = some (if chk l = true then 0 else 44) := by
  rw [plan_Check_f n l (by omega)]; simp only [chk, decide_eq_true_eq]
theorem r_chk (n : Nat) (l : List T_api_Step) (hn : l.length + 2 < n) : tontineref13_Check.f n l = some (if chk l = true then 0 else 44) := by
  rw [ref13_Check_f n l hn]; simp only [chk, decide_eq_true_eq]

def bareB (c : T_api_Command) : Bool := (c.Step == 0) && (!c.Back) && (c.Try == 0) && (!c.Ok)
def mayB (c : T_api_Command) : Bool :=
  if (c.Kind == 1) || (c.Kind == 3) || (c.Kind == 5) then (c.Steps.length == 0) && bareB c
  else if c.Kind == 2 then chk c.Steps && bareB c
  else if c.Kind == 4 then (c.Steps.length == 0) && decide (0 ≤ c.Step) && decide (c.Step < 64) && decide (0 ≤ c.Try) && decide (c.Try < 9) && (c.Session == 0) && (c.Seq == 0)
  else false

theorem len0 (l : List T_api_Step) : ((l.length : Int) == 0) = (l.length == 0) := by
  rw [Bool.eq_iff_iff, beq_iff_eq, beq_iff_eq]; omega
theorem bare_chain {a b c d : Bool} : (if a = true then (if b = true then (if c = true then some d else some false) else some false) else some false) = some (a && b && c && d) := by
  cases a <;> cases b <;> cases c <;> rfl
theorem one_of (c : T_api_Command) {α : Type} (g : Bool → α) : (if (c.Kind == 1) = true then g (c.Kind == 1) else (if (c.Kind == 3) = true then g (c.Kind == 3) else g (c.Kind == 5))) = g ((c.Kind == 1) || (c.Kind == 3) || (c.Kind == 5)) := by
  cases h1 : (c.Kind == 1) <;> cases h3 : (c.Kind == 3) <;> simp
theorem may4 {a b c d e f g : Bool} : (if a = true then (if b = true then (if c = true then (if d = true then (if e = true then (if f = true then some g else some false) else some false) else some false) else some false) else some false) else some false) = some (a && b && c && d && e && f && g) := by
  cases a <;> cases b <;> cases c <;> cases d <;> cases e <;> cases f <;> rfl
theorem and_chain {a : Bool} {o : Option Bool} {b : Bool} (h : o = some b) : (if a = true then o else some false) = some (a && b) := by
  cases a <;> simp [h]

theorem p_May (n : Nat) (c : T_api_Command) (hn : c.Steps.length + 2 < n) : command_May.f n c = some (mayB c) := by
  unfold command_May.f
  rw [one_of c (command_May.j0 n c)]
  unfold command_May.j0 mayB
  cases hk : ((c.Kind == 1) || (c.Kind == 3) || (c.Kind == 5))
  · simp only [Bool.false_eq_true, if_false, p_chk n c.Steps hn, Option.bind_some, command_May.j2, command_May.j3]
    cases h2 : (c.Kind == 2)
    · simp only [Bool.false_eq_true, if_false]
      cases h4 : (c.Kind == 4)
      · simp
      · simp only [if_true, len0, ge_iff_le]
        rw [may4]
    · simp only [if_true]
      have e : ((if chk c.Steps = true then (0 : Int) else 44) == 0) = chk c.Steps := by cases chk c.Steps <;> rfl
      rw [e, bare_chain, and_chain rfl]
      rfl
  · simp only [if_true, command_May.j1, len0]
    rw [bare_chain, and_chain rfl]
    rfl
theorem r_May (n : Nat) (c : T_api_Command) (hn : c.Steps.length + 2 < n) : tontineref16_May.f n c = some (mayB c) := by
  have hb : tontineref16_bare.f n c = some (bareB c) := by
    unfold tontineref16_bare.f bareB
    rw [bare_chain]
  unfold tontineref16_May.f
  rw [one_of c (tontineref16_May.j0 n c)]
  unfold tontineref16_May.j0 mayB
  cases hk : ((c.Kind == 1) || (c.Kind == 3) || (c.Kind == 5))
  · simp only [Bool.false_eq_true, if_false, r_chk n c.Steps hn, Option.bind_some, tontineref16_May.j1, hb]
    cases h2 : (c.Kind == 2)
    · simp only [Bool.false_eq_true, if_false]
      cases h4 : (c.Kind == 4)
      · simp
      · simp only [if_true, len0, ge_iff_le]
        rw [may4]
        have e1 : decide (c.Step ≤ 63) = decide (c.Step < 64) := by rw [Bool.eq_iff_iff, decide_eq_true_eq, decide_eq_true_eq]; omega
        have e2 : decide (c.Try ≤ 8) = decide (c.Try < 9) := by rw [Bool.eq_iff_iff, decide_eq_true_eq, decide_eq_true_eq]; omega
        rw [e1, e2]
    · simp only [if_true]
      have e : ((if chk c.Steps = true then (0 : Int) else 44) == 0) = chk c.Steps := by cases chk c.Steps <;> rfl
      rw [e, and_chain rfl]
  · simp only [if_true, len0, hb, Option.bind_some]
    rw [and_chain rfl]

def tr (b : Bool) : Nat := if b then 1 else 0
/-- A command, laid. -/
def encC (c : T_api_Command) : List UInt8 :=
  enc (wu64 c.Kind).toNat ++ (enc c.Session.toNat ++ (enc c.Seq.toNat ++ (enc c.Saga.toNat ++ (enc c.Now.toNat ++
    (if (c.Kind == 2) = true then enc c.Steps.length ++ encL c.Steps else if (c.Kind == 4) = true then enc (wu64 c.Step).toNat ++ (enc (tr c.Back) ++ (enc (wu64 c.Try).toNat ++ enc (tr c.Ok))) else [])))))
def outC (c : T_api_Command) : List UInt8 × Int := if ((c.Kind == 2) && !chk c.Steps) = true then ([], 44) else if mayB c = true then (encC c, 0) else ([], 1)

theorem chk_iff {l : List T_api_Step} (h : chk l = true) : 1 ≤ l.length ∧ l.length ≤ 64 ∧ l.all stepOk = true := by simpa [chk] using h
theorem stepOk_iff {s : T_api_Step} (h : stepOk s = true) : 0 ≤ s.Part ∧ s.Part < 4 ∧ 1 ≤ s.Name.length ∧ s.Name.length ≤ 16 ∧ 1 ≤ s.Budget ∧ s.Budget ≤ 9 := by
  simp only [stepOk, Bool.and_eq_true, decide_eq_true_eq] at h
  omega
theorem lenL_ok : ∀ l : List T_api_Step, l.all stepOk = true → lenL l ≤ 43 * l.length
  | [], _ => by simp [lenL]
  | s :: l, h => by
    simp only [List.all_cons, Bool.and_eq_true] at h
    have := lenL_ok l h.2
    have := stepOk_iff h.1
    simp only [lenL, List.map_cons, List.sum_cons, List.length_cons] at *
    omega
theorem w_Bool (n : Nat) (hn : 20 ≤ n) (w : T_pack_Writer) (hw : w.b.length ≤ 1000000000000) (b : Bool) : pack_Writer_Bool.f n w b = some ⟨w.b ++ enc (tr b)⟩ := by
  unfold pack_Writer_Bool.f
  cases b
  · rw [if_neg (by simp), w_Num n hn w hw ⟨by omega, by omega⟩]; rfl
  · rw [if_pos rfl, w_Num n hn w hw ⟨by omega, by omega⟩]; rfl

theorem p_Encode (n : Nat) (c : T_api_Command) (hn : c.Steps.length + 300 < n) (hc : wf_T_api_Command c) : command_Encode.f n c = some (outC c) := by
  obtain ⟨w1, w2, w3, w4, w5, w6, _, w7, _, w8⟩ := hc
  have w2 := wf_u64 w2
  have w3 := wf_u64 w3
  have w4 := wf_u64 w4
  have w8 := wf_u64 w8
  have z1 := enc_length (wu64 c.Kind).toNat
  have z2 := enc_length c.Session.toNat
  have z3 := enc_length c.Seq.toNat
  have z4 := enc_length c.Saga.toNat
  have z5 := enc_length c.Now.toNat
  have z6 := enc_length (wu64 c.Step).toNat
  have z7 := enc_length (tr c.Back)
  have z8 := enc_length (wu64 c.Try).toNat
  have hj : ((c.Kind == 2) && !chk c.Steps) = false → command_Encode.j0 n c false = some (if mayB c = true then (encC c, 0) else ([], 1)) := by
    intro hk
    unfold command_Encode.j0
    rw [if_neg (by simp), p_May n c (by omega), Option.bind_some]
    cases hm : mayB c
    · rfl
    rw [if_neg (by simp), if_pos rfl, w_Num n (by omega) _ (by simp) (wu64_range _), Option.bind_some, w_Num n (by omega) _ (by simp only [List.nil_append]; omega) w2, Option.bind_some,
      w_Num n (by omega) _ (by simp only [List.nil_append, List.length_append]; omega) w3, Option.bind_some, w_Num n (by omega) _ (by simp only [List.nil_append, List.length_append]; omega) w4, Option.bind_some,
      w_Num n (by omega) _ (by simp only [List.nil_append, List.length_append]; omega) w8, Option.bind_some]
    simp only [List.nil_append, encC]
    cases h2 : (c.Kind == 2)
    · simp only [Bool.false_eq_true, if_false]
      cases h4 : (c.Kind == 4)
      · simp only [Bool.false_eq_true, if_false, command_Encode.j1, pack_Writer_Bytes.f, Option.bind_some, List.append_nil, List.append_assoc]
      · simp only [if_true]
        rw [w_Num n (by omega) _ (by simp only [List.length_append]; omega) (wu64_range _), Option.bind_some, w_Bool n (by omega) _ (by simp only [List.length_append]; omega), Option.bind_some,
          w_Num n (by omega) _ (by simp only [List.length_append]; omega) (wu64_range _), Option.bind_some, w_Bool n (by omega) _ (by simp only [List.length_append]; omega), Option.bind_some]
        simp only [command_Encode.j1, pack_Writer_Bytes.f, Option.bind_some, List.append_assoc]
    · rw [h2] at hk
      have hk : chk c.Steps = true := by simpa using hk
      obtain ⟨q1, q2, q3⟩ := chk_iff hk
      have q4 := lenL_ok _ q3
      simp only [if_true]
      rw [plan_Write_f n _ c.Steps (by omega) (by omega) (by simp only [List.length_append]; omega), Option.bind_some]
      simp only [command_Encode.j1, pack_Writer_Bytes.f, Option.bind_some, List.append_assoc]
  unfold command_Encode.f outC
  cases h2 : (c.Kind == 2)
  · simp only [Bool.false_eq_true, if_false, Bool.false_and]
    exact hj (by rw [h2]; rfl)
  · simp only [if_true, p_chk n c.Steps (by omega), Option.bind_some, Bool.true_and]
    cases hk : chk c.Steps
    · rfl
    · exact hj (by rw [h2, hk]; rfl)

theorem r_Encode (n : Nat) (c : T_api_Command) (hn : c.Steps.length + 300 < n) (hc : wf_T_api_Command c) : tontineref16_Encode.f n c = some (outC c) := by
  obtain ⟨w1, w2, w3, w4, w5, w6, _, w7, _, w8⟩ := hc
  have w2 := wf_u64 w2
  have w3 := wf_u64 w3
  have w4 := wf_u64 w4
  have w8 := wf_u64 w8
  have wk := wu64_range c.Kind
  have ws := wu64_range c.Step
  have wt := wu64_range c.Try
  have z1 := enc_length (wu64 c.Kind).toNat
  have z2 := enc_length c.Session.toNat
  have z3 := enc_length c.Seq.toNat
  have z4 := enc_length c.Saga.toNat
  have z5 := enc_length c.Now.toNat
  have z6 := enc_length (wu64 c.Step).toNat
  have z7 := enc_length (tr c.Back)
  have z8 := enc_length (wu64 c.Try).toNat
  have z9 := enc_length (tr c.Ok)
  have ht : ∀ b, tontineref16_truth.f n b = some ((tr b : Nat) : Int) := fun b => by cases b <;> rfl
  have htr : ∀ b, 0 ≤ ((tr b : Nat) : Int) ∧ ((tr b : Nat) : Int) ≤ 18446744073709551615 := fun b => by cases b <;> simp [tr]
  have hj : ((c.Kind == 2) && !chk c.Steps) = false → tontineref16_Encode.j0 n c false = some (if mayB c = true then (encC c, 0) else ([], 1)) := by
    intro hk
    unfold tontineref16_Encode.j0
    rw [if_neg (by simp), r_May n c (by omega), Option.bind_some]
    cases hm : mayB c
    · rfl
    rw [if_neg (by simp), if_pos rfl, nums_f n _ (by simp <;> omega) (by simp) (by intro x hx; simp only [List.mem_cons, List.mem_nil_iff, or_false] at hx; rcases hx with rfl | rfl | rfl | rfl | rfl <;> assumption), Option.bind_some]
    have e5 : encN [wu64 c.Kind, c.Session, c.Seq, c.Saga, c.Now] = enc (wu64 c.Kind).toNat ++ (enc c.Session.toNat ++ (enc c.Seq.toNat ++ (enc c.Saga.toNat ++ enc c.Now.toNat))) := by simp [encN]
    rw [e5]
    simp only [encC]
    cases h2 : (c.Kind == 2)
    · simp only [Bool.false_eq_true, if_false]
      unfold tontineref16_Encode.j1
      cases h4 : (c.Kind == 4)
      · simp only [Bool.false_eq_true, if_false, List.append_nil]
      · simp only [if_true, ht, Option.bind_some]
        rw [nums_f n _ (by simp <;> omega) (by simp) (by
          intro x hx
          simp only [List.mem_cons, List.mem_nil_iff, or_false] at hx
          rcases hx with rfl | rfl | rfl | rfl
          · exact ws
          · exact htr _
          · exact wt
          · exact htr _), Option.bind_some]
        have e4 : encN [wu64 c.Step, ((tr c.Back : Nat) : Int), wu64 c.Try, ((tr c.Ok : Nat) : Int)] = enc (wu64 c.Step).toNat ++ (enc (tr c.Back) ++ (enc (wu64 c.Try).toNat ++ enc (tr c.Ok))) := by simp [encN]
        rw [e4, if_pos (by simp only [i64max, List.length_append]; omega)]
        simp only [List.append_assoc]
    · rw [h2] at hk
      have hk : chk c.Steps = true := by simpa using hk
      obtain ⟨q1, q2, q3⟩ := chk_iff hk
      have q4 := lenL_ok _ q3
      have q5 := encL_length c.Steps
      have q6 := enc_length c.Steps.length
      have h4 : (c.Kind == 4) = false := by
        have : c.Kind = 2 := by simpa using h2
        rw [this]; rfl
      simp only [if_true]
      rw [ref13_Bytes_f n c.Steps (by omega) (by omega) (by omega), Option.bind_some, if_pos (by simp only [i64max, List.length_append]; omega)]
      unfold tontineref16_Encode.j1
      simp only [h4, Bool.false_eq_true, if_false, List.append_assoc]
  unfold tontineref16_Encode.f outC
  cases h2 : (c.Kind == 2)
  · simp only [Bool.false_eq_true, if_false, Bool.false_and]
    exact hj (by rw [h2]; rfl)
  · simp only [if_true, r_chk n c.Steps (by omega), Option.bind_some, Bool.true_and]
    cases hk : chk c.Steps
    · rfl
    · exact hj (by rw [h2, hk]; rfl)
end Go.GL
