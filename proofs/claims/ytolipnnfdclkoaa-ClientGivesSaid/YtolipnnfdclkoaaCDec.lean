/- What is laid is read as it was, by the reference's readers; a reply that is said is heard as it was. -/
import Derived.Test.YtolipnnfdclkoaaCEnc
import Derived.Test.YtolipnnfdclkoaaCBoth
set_option linter.unusedVariables false
set_option linter.unusedSimpArgs false
set_option maxRecDepth 10000
namespace Go.GL
open Go

theorem val_be : ∀ (m x : Nat), x < 256 ^ m → val (be m x) = x
  | 0, x, h => by simp at h; subst h; rfl
  | m + 1, x, h => by
    rw [be_succ, val_snoc, val_be m (x / 256) (by rw [Nat.pow_succ] at h; omega)]
    have : (UInt8.ofNat (x % 256)).toNat = x % 256 := by simp <;> omega
    rw [this]; omega

theorem rd_enc {x : Nat} (hx : x < 18446744073709551616) (r : List UInt8) : rdNum (enc x ++ r) = some (x, r) := by
  have h8 := blen_le 8 x
  have hlt := blen_lt 8 x (by simpa using hx)
  have hge := blen_ge 8 x
  have hc : (UInt8.ofNat (blen 8 x)).toNat = blen 8 x := by simp <;> omega
  have hl := be_length (blen 8 x) x
  show rdNum (UInt8.ofNat (blen 8 x) :: (be (blen 8 x) x ++ r)) = _
  simp only [rdNum, hc]
  have h0 : 0 < blen 8 x → ((be (blen 8 x) x ++ r).getD 0 0).toNat ≠ 0 := by
    intro hp
    have hge := hge hp
    obtain ⟨m, hm⟩ : ∃ m, blen 8 x = m + 1 := ⟨blen 8 x - 1, by omega⟩
    rw [hm] at hge hlt ⊢
    simp only [Nat.add_sub_cancel] at hge
    have hpos : 0 < 256 ^ m := Nat.pow_pos (by omega)
    have q1 : 1 ≤ x / 256 ^ m := (Nat.le_div_iff_mul_le hpos).2 (by omega)
    have q2 : x / 256 ^ m < 256 := (Nat.div_lt_iff_lt_mul hpos).2 (by rw [Nat.pow_succ] at hlt; rw [Nat.mul_comm]; exact hlt)
    show (UInt8.ofNat (x / 256 ^ m % 256)).toNat ≠ 0
    rw [Nat.mod_eq_of_lt q2]
    simp <;> omega
  rw [if_neg (by
    rintro (h | h | ⟨h, h'⟩)
    · omega
    · simp at h; omega
    · exact h0 h h')]
  rw [List.take_append_of_le_length (by omega), List.take_of_length_le (by omega), List.drop_append_of_le_length (by omega), List.drop_of_length_le (by omega), val_be _ _ hlt]
  rfl

theorem capOk32 {m : Nat} (h : m ≤ 1000000000) : capOk 32 m := by unfold capOk; omega
theorem r_enc {n : Nat} (hn : 20 ≤ n) {x : Nat} (hx : x < 18446744073709551616) (r : List UInt8) (bad : Bool) (hr : r.length < 100000000000000000) :
    tontineref03_Reader_Num.f n ⟨enc x ++ r, bad⟩ = some ((x : Int), ⟨r, bad⟩) := by
  have z := enc_length x
  rw [r_Num n hn _ _ (by simp only [List.length_append]; omega), rd_enc hx]
theorem r_up {n : Nat} (hn : 20 ≤ n) {x : Nat} (hx : x < 9223372036854775808) (r : List UInt8) (bad : Bool) (hr : r.length < 100000000000000000) {limit : Int} (hl : (x : Int) ≤ limit) (hm : limit ≤ 1000) :
    tontineref03_Reader_Up.f n ⟨enc x ++ r, bad⟩ limit = some ((x : Int), ⟨r, bad⟩) := by
  unfold tontineref03_Reader_Up.f
  rw [r_enc hn (by omega) r bad hr, Option.bind_some]
  have h2 : ∀ a c, tontineref03_Reader_Up.j0 n (a, ⟨r, bad⟩) c = if c = true then some (0, ⟨[], true⟩) else some (wi64 a, ⟨r, bad⟩) := fun a c => by cases c <;> rfl
  simp only [h2]
  rw [wu64_id (x := limit) (by omega) (by omega)]
  have q1 : ¬ (limit < 0) := by omega
  have q2 : ¬ ((x : Int) > limit) := by omega
  simp only [decide_eq_false q1, decide_eq_false q2, Bool.false_eq_true, if_false, ite_self]
  rw [wi64_id (by omega) (by omega)]
theorem r_text {n : Nat} (hn : 20 ≤ n) (s : List UInt8) (r : List UInt8) (bad : Bool) (hr : s.length + r.length < 10000000000000000) {limit : Int} (hl : (s.length : Int) ≤ limit) (hm : limit ≤ 1000) :
    tontineref03_Reader_Text.f n ⟨encT s ++ r, bad⟩ limit = some (s, ⟨r, bad⟩) := by
  unfold tontineref03_Reader_Text.f
  rw [encT, List.append_assoc, r_up hn (by omega) _ bad (by simp <;> omega) hl hm, Option.bind_some]
  have hd : decide ((s.length : Int) > ((s ++ r).length : Int)) = false := decide_eq_false (by simp <;> omega)
  have hc : (0 : Int) ≤ (s.length : Int) ∧ (s.length : Int) ≤ ((s ++ r).length : Int) := ⟨by omega, by simp <;> omega⟩
  simp only [hd, Bool.false_eq_true, if_false, if_pos hc, Int.toNat_natCast]
  simp
/-- A command that both may say: nothing that its kind doesn't bear. -/
theorem mayB_plain {c : T_api_Command} (h : mayB c = true) (h2 : c.Kind ≠ 2) (h4 : c.Kind ≠ 4) : (c.Kind = 1 ∨ c.Kind = 3 ∨ c.Kind = 5) ∧ c.Steps = [] ∧ c.Step = 0 ∧ c.Back = false ∧ c.Try = 0 ∧ c.Ok = false := by
  unfold mayB at h
  have e2 : (c.Kind == 2) = false := by simpa using h2
  have e4 : (c.Kind == 4) = false := by simpa using h4
  cases hk : ((c.Kind == 1) || (c.Kind == 3) || (c.Kind == 5))
  · simp [hk, e2, e4] at h
  · simp only [hk, if_true, bareB, Bool.and_eq_true, Bool.not_eq_true', beq_iff_eq] at h
    simp only [Bool.or_eq_true, beq_iff_eq] at hk
    obtain ⟨h1, ⟨⟨h3, h5⟩, h6⟩, h7⟩ := h
    exact ⟨by omega, List.length_eq_zero_iff.1 h1, h3, h5, h6, h7⟩
theorem mayB_two {c : T_api_Command} (h : mayB c = true) (h2 : c.Kind = 2) : chk c.Steps = true ∧ c.Step = 0 ∧ c.Back = false ∧ c.Try = 0 ∧ c.Ok = false := by
  unfold mayB at h
  rw [h2] at h
  have e0 : (((2 : Int) == 1) || ((2 : Int) == 3) || ((2 : Int) == 5)) = false := rfl
  have e1 : ((2 : Int) == 2) = true := rfl
  rw [e0, e1] at h
  simp only [Bool.false_eq_true, if_false, if_true, bareB, Bool.and_eq_true, Bool.not_eq_true', beq_iff_eq] at h
  obtain ⟨h1, ⟨⟨h3, h5⟩, h6⟩, h7⟩ := h
  exact ⟨h1, h3, h5, h6, h7⟩
theorem mayB_four {c : T_api_Command} (h : mayB c = true) (h4 : c.Kind = 4) : c.Steps = [] ∧ (0 ≤ c.Step ∧ c.Step < 64) ∧ (0 ≤ c.Try ∧ c.Try < 9) ∧ c.Session = 0 ∧ c.Seq = 0 := by
  unfold mayB at h
  rw [h4] at h
  have e0 : (((4 : Int) == 1) || ((4 : Int) == 3) || ((4 : Int) == 5)) = false := rfl
  have e1 : ((4 : Int) == 2) = false := rfl
  have e2 : ((4 : Int) == 4) = true := rfl
  rw [e0, e1, e2] at h
  simp only [Bool.false_eq_true, if_false, if_true, Bool.and_eq_true, beq_iff_eq, decide_eq_true_eq] at h
  obtain ⟨⟨⟨⟨⟨⟨h1, h3⟩, h5⟩, h6⟩, h7⟩, h8⟩, h9⟩ := h
  exact ⟨List.length_eq_zero_iff.1 h1, ⟨h3, h5⟩, ⟨h6, h7⟩, h8, h9⟩
theorem mayB_kind {c : T_api_Command} (h : mayB c = true) : 1 ≤ c.Kind ∧ c.Kind ≤ 5 := by
  by_cases h2 : c.Kind = 2
  · omega
  by_cases h4 : c.Kind = 4
  · omega
  have := (mayB_plain h h2 h4).1
  omega

theorem read_r (n : Nat) (hn : 20 ≤ n) (l : List T_api_Step) (hl : l.length ≤ 64) (ha : l.all stepOk = true) (r3 : Int × T_tontineref03_Reader) (h3 : r3.1 = (l.length : Int)) : ∀ (d k i : Nat), i + d = l.length → d < k →
    tontineref13_Read.l0 n r3 k (encL (l.drop i)) false (l.take i) (i : Int) = some (l, ⟨[], false⟩)
  | d, 0, i, _, h => by omega
  | 0, k + 1, i, h, hk => by
    have hi : i = l.length := by omega
    subst hi
    unfold tontineref13_Read.l0
    rw [if_neg (by rw [h3]; simp)]
    simp only [List.drop_length, List.take_length]
    rfl
  | d + 1, k + 1, i, h, hk => by
    have hi : i < l.length := by omega
    have hso : stepOk (rdL l (i : Int)) = true := List.all_eq_true.1 ha _ (rdL_mem hi)
    have hdr := getD_drop hi
    have htk : l.take (i + 1) = l.take i ++ [rdL l (i : Int)] := by
      rw [List.take_add_one, List.getElem?_eq_getElem hi]
      simp [rdL, hi]
    have ih := read_r n hn l hl ha r3 h3 d k (i + 1) (by omega) (by omega)
    have hall : (l.drop (i + 1)).all stepOk = true := List.all_eq_true.2 fun x hx => List.all_eq_true.1 ha x (List.mem_of_mem_drop hx)
    have z := encL_length (l.drop (i + 1))
    have z' := lenL_ok _ hall
    have z'' : (l.drop (i + 1)).length ≤ 64 := by rw [List.length_drop]; omega
    rw [htk] at ih
    rw [hdr]
    unfold tontineref13_Read.l0
    rw [if_pos (by rw [h3]; simp <;> omega)]
    generalize rdL l (i : Int) = s at *
    obtain ⟨q1, q2, q3, q4, q5, q6⟩ := stepOk_iff hso
    have e1 : encL (s :: l.drop (i + 1)) = enc s.Part.toNat ++ (encT s.Name ++ (enc s.Budget.toNat ++ encL (l.drop (i + 1)))) := by
      simp only [encL, List.flatMap_cons, encS, List.append_assoc]
      rw [wu64_id q1 (by omega), wu64_id (x := s.Budget) (by omega) (by omega)]
    have z1 := encT_length s.Name
    have z2 := enc_length s.Budget.toNat
    rw [e1, r_up hn (by omega) _ false (by simp <;> omega) (by omega) (by omega), Option.bind_some]
    simp only
    rw [r_text hn s.Name _ false (by simp <;> omega) (by omega) (by omega), Option.bind_some]
    simp only
    rw [r_up hn (by omega) _ false (by omega) (by omega) (by omega), Option.bind_some]
    simp only
    have e2 : (s.Part.toNat : Int) = s.Part := by omega
    have e3 : (s.Budget.toNat : Int) = s.Budget := by omega
    have e4 : wi64 ((i : Int) + 1) = ((i + 1 : Nat) : Int) := by rw [wi64_id (by omega) (by omega)]; omega
    have ht : (l.take i).length ≤ i := List.length_take_le i l
    rw [e2, e3, e4, if_pos (capOk32 (by simp <;> omega))]
    exact ih
theorem may_steps {c : T_api_Command} (hm : mayB c = true) : c.Steps.length ≤ 64 := by
  by_cases h2 : c.Kind = 2
  · exact (chk_iff (mayB_two hm h2).1).2.1
  by_cases h4 : c.Kind = 4
  · rw [(mayB_four hm h4).1]; simp
  · rw [(mayB_plain hm h2 h4).2.1]; simp

theorem back_r (n : Nat) (hn : 400 ≤ n) (c : T_api_Command) (hc : wf_T_api_Command c) (hm : mayB c = true) : tontineref16_Decode.f n (encC c) = some (c, 0) := by
  have hcw := hc
  obtain ⟨w1, w2, w3, w4, w5, w6, _, w7, _, w8⟩ := hc
  have w2 := wf_u64 w2
  have w3 := wf_u64 w3
  have w4 := wf_u64 w4
  have w8 := wf_u64 w8
  have hk := mayB_kind hm
  have z1 := enc_length (wu64 c.Kind).toNat
  have z2 := enc_length c.Session.toNat
  have z3 := enc_length c.Seq.toNat
  have z4 := enc_length c.Saga.toNat
  have z5 := enc_length c.Now.toNat
  have z6 := enc_length (wu64 c.Step).toNat
  have z7 := enc_length (tr c.Back)
  have z8 := enc_length (wu64 c.Try).toNat
  have z9 := enc_length (tr c.Ok)
  have z10 := enc_length c.Steps.length
  obtain ⟨T, hT⟩ : ∃ T, T = (if (c.Kind == 2) = true then enc c.Steps.length ++ encL c.Steps else if (c.Kind == 4) = true then enc (wu64 c.Step).toNat ++ (enc (tr c.Back) ++ (enc (wu64 c.Try).toNat ++ enc (tr c.Ok))) else []) := ⟨_, rfl⟩
  have hTl : T.length ≤ 1000000 := by
    rw [hT]
    by_cases h2 : c.Kind = 2
    · have e2 : (c.Kind == 2) = true := by simpa using h2
      obtain ⟨q1, q2, q3⟩ := chk_iff (mayB_two hm h2).1
      have := encL_length c.Steps
      have := lenL_ok _ q3
      rw [if_pos e2, List.length_append]; omega
    · have e2 : ¬ (c.Kind == 2) = true := by simpa using h2
      rw [if_neg e2]
      split
      · simp only [List.length_append]; omega
      · simp
  have ek : (((wu64 c.Kind).toNat : Nat) : Int) = c.Kind := by rw [wu64_id (by omega) (by omega)]; omega
  have ekn : (wu64 c.Kind).toNat = c.Kind.toNat := by rw [wu64_id (by omega) (by omega)]
  have x2 : (c.Session.toNat : Int) = c.Session := by omega
  have x3 : (c.Seq.toNat : Int) = c.Seq := by omega
  have x4 : (c.Saga.toNat : Int) = c.Saga := by omega
  have x5 : (c.Now.toNat : Int) = c.Now := by omega
  obtain ⟨s, hs⟩ : ∃ s, s = encC c := ⟨_, rfl⟩
  have hs0 := hs.symm
  rw [hs0]
  unfold tontineref16_Decode.f
  have key : s = enc (wu64 c.Kind).toNat ++ (enc c.Session.toNat ++ (enc c.Seq.toNat ++ (enc c.Saga.toNat ++ (enc c.Now.toNat ++ T)))) := by rw [hs, encC, ← hT]
  conv => lhs; rw [show tontineref03_Reader_Up.f n ⟨s, false⟩ 5 = tontineref03_Reader_Up.f n ⟨enc (wu64 c.Kind).toNat ++ (enc c.Session.toNat ++ (enc c.Seq.toNat ++ (enc c.Saga.toNat ++ (enc c.Now.toNat ++ T)))), false⟩ 5 by rw [← key]]
  rw [r_up (by omega) (by omega) _ false (by simp only [List.length_append]; omega) (by omega) (by omega), Option.bind_some]
  simp only
  rw [r_enc (by omega) (by omega) _ false (by simp only [List.length_append]; omega), Option.bind_some]
  simp only
  rw [r_enc (by omega) (by omega) _ false (by simp only [List.length_append]; omega), Option.bind_some]
  simp only
  rw [r_enc (by omega) (by omega) _ false (by simp only [List.length_append]; omega), Option.bind_some]
  simp only
  rw [r_enc (by omega) (by omega) T false (by omega), Option.bind_some]
  simp only [ek, x2, x3, x4, x5]
  have e1 : outC c = (encC c, 0) := by
    unfold outC
    have hk : ((c.Kind == 2) && !chk c.Steps) = false := by
      cases h2 : (c.Kind == 2)
      · rfl
      · rw [(mayB_two hm (by simpa using h2)).1]; rfl
    rw [hk, hm]; rfl
  have hst := may_steps hm
  have hE := r_Encode n c (by omega) hcw
  rw [e1, ← hs] at hE
  have fin : ∀ (A1 A2 A3 A4 A5 : T_tontineref03_Reader) (c' : T_api_Command), c' = c → tontineref16_Decode.j1 n s (c'.Kind, A1) (c'.Session, A2) (c'.Seq, A3) (c'.Saga, A4) (c'.Now, A5) c'.Steps [] false c'.Step c'.Back c'.Try c'.Ok = some (c, 0) := by
    intro A1 A2 A3 A4 A5 c' e
    subst e
    unfold tontineref16_Decode.j1
    simp only
    rw [hE, Option.bind_some, if_neg (by simp), if_neg (by simp), if_neg (by simp)]
    simp only [beq_self_eq_true, Bool.not_true]
    rfl
  by_cases h2 : c.Kind = 2
  · have e2 : (c.Kind == 2) = true := by simpa using h2
    obtain ⟨q0, q1, q2, q3, q4⟩ := mayB_two hm h2
    obtain ⟨g1, g2, g3⟩ := chk_iff q0
    rw [if_pos e2] at hT
    have zz := encL_length c.Steps
    have zz2 := lenL_ok _ g3
    have hr2 : tontineref13_Read.f n ⟨T, false⟩ = some (c.Steps, ⟨[], false⟩) := by
      unfold tontineref13_Read.f
      rw [hT, r_up (by omega) (by omega) _ false (by omega) (by omega) (by omega), Option.bind_some]
      exact read_r n (by omega) c.Steps g2 g3 _ rfl c.Steps.length n 0 (by omega) (by omega)
    rw [if_pos e2, hr2, Option.bind_some]
    unfold tontineref16_Decode.j0
    have e4 : ¬ (c.Kind == 4) = true := by rw [h2]; decide
    rw [if_neg e4]
    have := fin ⟨enc c.Session.toNat ++ (enc c.Seq.toNat ++ (enc c.Saga.toNat ++ (enc c.Now.toNat ++ T))), false⟩ ⟨enc c.Seq.toNat ++ (enc c.Saga.toNat ++ (enc c.Now.toNat ++ T)), false⟩ ⟨enc c.Saga.toNat ++ (enc c.Now.toNat ++ T), false⟩ ⟨enc c.Now.toNat ++ T, false⟩ ⟨T, false⟩ c rfl
    rw [q1, q2, q3, q4] at this
    exact this
  have e2 : ¬ (c.Kind == 2) = true := by simpa using h2
  rw [if_neg e2]
  rw [if_neg e2] at hT
  unfold tontineref16_Decode.j0
  by_cases h4 : c.Kind = 4
  · have e4 : (c.Kind == 4) = true := by simpa using h4
    obtain ⟨q0, q1, q2, q3, q4⟩ := mayB_four hm h4
    rw [if_pos e4] at hT
    have es : (((wu64 c.Step).toNat : Nat) : Int) = c.Step := by rw [wu64_id (by omega) (by omega)]; omega
    have et : (((wu64 c.Try).toNat : Nat) : Int) = c.Try := by rw [wu64_id (by omega) (by omega)]; omega
    have tb : ∀ b : Bool, ((((tr b : Nat) : Int)) == 1) = b := fun b => by cases b <;> rfl
    have hb1 : ∀ b : Bool, tr b ≤ 1 := fun b => by cases b <;> simp [tr]
    have hl := r_up (n := n) (by omega) (x := tr c.Ok) (by have := hb1 c.Ok; omega) [] false (by simp) (limit := 1) (by have := hb1 c.Ok; omega) (by omega)
    rw [List.append_nil] at hl
    rw [if_pos e4, hT, r_up (by omega) (by omega) _ false (by simp only [List.length_append]; omega) (by omega) (by omega), Option.bind_some]
    simp only
    rw [r_up (by omega) (by have := hb1 c.Back; omega) _ false (by simp only [List.length_append]; omega) (by have := hb1 c.Back; omega) (by omega), Option.bind_some]
    simp only
    rw [r_up (by omega) (by omega) _ false (by omega) (by omega) (by omega), Option.bind_some]
    simp only
    rw [hl, Option.bind_some]
    simp only [es, et, tb]
    have := fun A1 A2 A3 A4 A5 => fin A1 A2 A3 A4 A5 c rfl
    rw [q0] at this
    exact this _ _ _ _ _
  · have e4 : ¬ (c.Kind == 4) = true := by simpa using h4
    obtain ⟨q0, q1, q2, q3, q4, q5⟩ := mayB_plain hm h2 h4
    rw [if_neg e4] at hT
    rw [if_neg e4, hT]
    have := fun A1 A2 A3 A4 A5 => fin A1 A2 A3 A4 A5 c rfl
    rw [q1, q2, q3, q4, q5] at this
    exact this _ _ _ _ _


end Go.GL
