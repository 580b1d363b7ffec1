/- The law CommandDecodes, over the plain functions. -/
import Derived.Test.YtfeddlhkiomdaaaLawCommandOne
set_option linter.unusedVariables false
set_option linter.unusedSimpArgs false
namespace Go.GL
open Go

theorem r_enc {n : Nat} (hn : 20 ≤ n) {x : Nat} (hx : x < 18446744073709551616) (r : List UInt8) (bad : Bool) (hr : r.length < 100000000000000000) :
    tontineref03_Reader_Num.f n ⟨enc x ++ r, bad⟩ = some ((x : Int), ⟨r, bad⟩) := by
  have z := enc_length x
  obtain ⟨a, t, b, e1, e2, _⟩ := num_spec hn (enc x ++ r) bad (by simp only [List.length_append]; omega)
  rw [p_enc hn hx r bad (by omega)] at e1
  simp only [Option.some.injEq, Prod.mk.injEq, T_pack_Reader.mk.injEq] at e1
  obtain ⟨rfl, rfl, rfl⟩ := e1
  exact e2
theorem r_up {n : Nat} (hn : 20 ≤ n) {x : Nat} (hx : x < 9223372036854775808) (r : List UInt8) (bad : Bool) (hr : r.length < 100000000000000000) {limit : Int} (hl : (x : Int) ≤ limit) (hm : limit ≤ 1000) :
    tontineref03_Reader_Up.f n ⟨enc x ++ r, bad⟩ limit = some ((x : Int), ⟨r, bad⟩) := by
  have z := enc_length x
  obtain ⟨a, t, b, e1, e2, _⟩ := up_spec hn (enc x ++ r) bad (by simp only [List.length_append]; omega) limit (by omega) hm
  rw [p_up hn hx r bad (by omega) hl (by omega)] at e1
  simp only [Option.some.injEq, Prod.mk.injEq, T_pack_Reader.mk.injEq] at e1
  obtain ⟨rfl, rfl, rfl⟩ := e1
  exact e2

theorem back_r (n : Nat) (hn : 400 ≤ n) (c : T_api_Command) (hc : wf_T_api_Command c) (hm : mayB c = true) : tontineref16_Decode.f n (encC c) = some (c, 0) := by
  have hcw := hc
  obtain ⟨w1, w2, w3, w4, w5, w6, _, w7, _, w8⟩ := hc
  have w2 := wf_u64 w2
  have w3 := wf_u64 w3
  have w4 := wf_u64 w4
  have w8 := wf_u64 w8
  have hk := mayB_kind hm
  have z1 := enc_length (wu64 c.Kind).toNat
  have z2 := enc_length c.Session.toNat
  have z3 := enc_length c.Seq.toNat
  have z4 := enc_length c.Saga.toNat
  have z5 := enc_length c.Now.toNat
  have z6 := enc_length (wu64 c.Step).toNat
  have z7 := enc_length (tr c.Back)
  have z8 := enc_length (wu64 c.Try).toNat
  have z9 := enc_length (tr c.Ok)
  have z10 := enc_length c.Steps.length
  obtain ⟨T, hT⟩ : ∃ T, T = (if (c.Kind == 2) = true then enc c.Steps.length ++ encL c.Steps else if (c.Kind == 4) = true then enc (wu64 c.Step).toNat ++ (enc (tr c.Back) ++ (enc (wu64 c.Try).toNat ++ enc (tr c.Ok))) else []) := ⟨_, rfl⟩
  have hTl : T.length ≤ 1000000 := by
    rw [hT]
    by_cases h2 : c.Kind = 2
    · have e2 : (c.Kind == 2) = true := by simpa using h2
      obtain ⟨q1, q2, q3⟩ := chk_iff (mayB_two hm h2).1
      have := encL_length c.Steps
      have := lenL_ok _ q3
      rw [if_pos e2, List.length_append]; omega
    · have e2 : ¬ (c.Kind == 2) = true := by simpa using h2
      rw [if_neg e2]
      split
      · simp only [List.length_append]; omega
      · simp
  have ek : (((wu64 c.Kind).toNat : Nat) : Int) = c.Kind := by rw [wu64_id (by omega) (by omega)]; omega
  have ekn : (wu64 c.Kind).toNat = c.Kind.toNat := by rw [wu64_id (by omega) (by omega)]
  have x2 : (c.Session.toNat : Int) = c.Session := by omega
  have x3 : (c.Seq.toNat : Int) = c.Seq := by omega
  have x4 : (c.Saga.toNat : Int) = c.Saga := by omega
  have x5 : (c.Now.toNat : Int) = c.Now := by omega
  obtain ⟨s, hs⟩ : ∃ s, s = encC c := ⟨_, rfl⟩
  have hs0 := hs.symm
  rw [hs0]
  unfold tontineref16_Decode.f
  have key : s = enc (wu64 c.Kind).toNat ++ (enc c.Session.toNat ++ (enc c.Seq.toNat ++ (enc c.Saga.toNat ++ (enc c.Now.toNat ++ T)))) := by rw [hs, encC, ← hT]
  conv => lhs; rw [show tontineref03_Reader_Up.f n ⟨s, false⟩ 5 = tontineref03_Reader_Up.f n ⟨enc (wu64 c.Kind).toNat ++ (enc c.Session.toNat ++ (enc c.Seq.toNat ++ (enc c.Saga.toNat ++ (enc c.Now.toNat ++ T)))), false⟩ 5 by rw [← key]]
  rw [r_up (by omega) (by omega) _ false (by simp only [List.length_append]; omega) (by omega) (by omega), Option.bind_some]
  simp only
  rw [r_enc (by omega) (by omega) _ false (by simp only [List.length_append]; omega), Option.bind_some]
  simp only
  rw [r_enc (by omega) (by omega) _ false (by simp only [List.length_append]; omega), Option.bind_some]
  simp only
  rw [r_enc (by omega) (by omega) _ false (by simp only [List.length_append]; omega), Option.bind_some]
  simp only
  rw [r_enc (by omega) (by omega) T false (by omega), Option.bind_some]
  simp only [ek, x2, x3, x4, x5]
  have e1 : outC c = (encC c, 0) := by
    unfold outC
    have hk : ((c.Kind == 2) && !chk c.Steps) = false := by
      cases h2 : (c.Kind == 2)
      · rfl
      · rw [(mayB_two hm (by simpa using h2)).1]; rfl
    rw [hk, hm]; rfl
  have hst := may_steps hm
  have hE := r_Encode n c (by omega) hcw
  rw [e1, ← hs] at hE
  have fin : ∀ (A1 A2 A3 A4 A5 : T_tontineref03_Reader) (c' : T_api_Command), c' = c → tontineref16_Decode.j1 n s (c'.Kind, A1) (c'.Session, A2) (c'.Seq, A3) (c'.Saga, A4) (c'.Now, A5) c'.Steps [] false c'.Step c'.Back c'.Try c'.Ok = some (c, 0) := by
    intro A1 A2 A3 A4 A5 c' e
    subst e
    unfold tontineref16_Decode.j1
    simp only
    rw [hE, Option.bind_some, if_neg (by simp), if_neg (by simp), if_neg (by simp)]
    simp only [beq_self_eq_true, Bool.not_true]
    rfl
  by_cases h2 : c.Kind = 2
  · have e2 : (c.Kind == 2) = true := by simpa using h2
    obtain ⟨q0, q1, q2, q3, q4⟩ := mayB_two hm h2
    obtain ⟨g1, g2, g3⟩ := chk_iff q0
    rw [if_pos e2] at hT
    have zz := encL_length c.Steps
    have zz2 := lenL_ok _ g3
    have hr : plan_Read.f n ⟨T, false⟩ = some (c.Steps, ⟨[], false⟩) := by
      unfold plan_Read.f
      rw [hT, p_up (by omega) (by omega) _ false (by omega) (by omega) (by omega), Option.bind_some]
      exact read_back n (by omega) c.Steps g2 g3 c.Steps.length n 0 (by omega) (by omega)
    have hr2 : tontineref13_Read.f n ⟨T, false⟩ = some (c.Steps, ⟨[], false⟩) := by
      obtain ⟨x, t, b, f1, f2, _⟩ := plan_spec n (by omega) T false (by omega)
      rw [hr] at f1
      simp only [Option.some.injEq, Prod.mk.injEq, T_pack_Reader.mk.injEq] at f1
      obtain ⟨rfl, rfl, rfl⟩ := f1
      exact f2
    rw [if_pos e2, hr2, Option.bind_some]
    unfold tontineref16_Decode.j0
    have e4 : ¬ (c.Kind == 4) = true := by rw [h2]; decide
    rw [if_neg e4]
    have := fin ⟨enc c.Session.toNat ++ (enc c.Seq.toNat ++ (enc c.Saga.toNat ++ (enc c.Now.toNat ++ T))), false⟩ ⟨enc c.Seq.toNat ++ (enc c.Saga.toNat ++ (enc c.Now.toNat ++ T)), false⟩ ⟨enc c.Saga.toNat ++ (enc c.Now.toNat ++ T), false⟩ ⟨enc c.Now.toNat ++ T, false⟩ ⟨T, false⟩ c rfl
    rw [q1, q2, q3, q4] at this
    exact this
  have e2 : ¬ (c.Kind == 2) = true := by simpa using h2
  rw [if_neg e2]
  rw [if_neg e2] at hT
  unfold tontineref16_Decode.j0
  by_cases h4 : c.Kind = 4
  · have e4 : (c.Kind == 4) = true := by simpa using h4
    obtain ⟨q0, q1, q2, q3, q4⟩ := mayB_four hm h4
    rw [if_pos e4] at hT
    have es : (((wu64 c.Step).toNat : Nat) : Int) = c.Step := by rw [wu64_id (by omega) (by omega)]; omega
    have et : (((wu64 c.Try).toNat : Nat) : Int) = c.Try := by rw [wu64_id (by omega) (by omega)]; omega
    have tb : ∀ b : Bool, ((((tr b : Nat) : Int)) == 1) = b := fun b => by cases b <;> rfl
    have hb1 : ∀ b : Bool, tr b ≤ 1 := fun b => by cases b <;> simp [tr]
    have hl := r_up (n := n) (by omega) (x := tr c.Ok) (by have := hb1 c.Ok; omega) [] false (by simp) (limit := 1) (by have := hb1 c.Ok; omega) (by omega)
    rw [List.append_nil] at hl
    rw [if_pos e4, hT, r_up (by omega) (by omega) _ false (by simp only [List.length_append]; omega) (by omega) (by omega), Option.bind_some]
    simp only
    rw [r_up (by omega) (by have := hb1 c.Back; omega) _ false (by simp only [List.length_append]; omega) (by have := hb1 c.Back; omega) (by omega), Option.bind_some]
    simp only
    rw [r_up (by omega) (by omega) _ false (by omega) (by omega) (by omega), Option.bind_some]
    simp only
    rw [hl, Option.bind_some]
    simp only [es, et, tb]
    have := fun A1 A2 A3 A4 A5 => fin A1 A2 A3 A4 A5 c rfl
    rw [q0] at this
    exact this _ _ _ _ _
  · have e4 : ¬ (c.Kind == 4) = true := by simpa using h4
    obtain ⟨q0, q1, q2, q3, q4, q5⟩ := mayB_plain hm h2 h4
    rw [if_neg e4] at hT
    rw [if_neg e4, hT]
    have := fun A1 A2 A3 A4 A5 => fin A1 A2 A3 A4 A5 c rfl
    rw [q1, q2, q3, q4, q5] at this
    exact this _ _ _ _ _


theorem canon_r (n : Nat) (hn : 500 ≤ n) (s : List UInt8) (hs : s.length < 1000000000000000000) :
    tontineref16_Decode.f n s = some (noCmd, 2) ∨ ∃ c, tontineref16_Decode.f n s = some (c, 0) ∧ mayB c = true ∧ wf_T_api_Command c ∧ s = encC c := by
  unfold tontineref16_Decode.f
  obtain ⟨a1, t1, b1, _, e1, l1, r1, c1⟩ := up_spec (n := n) (by omega) s false hs 5 (by omega) (by omega)
  rw [e1, Option.bind_some]
  simp only
  obtain ⟨a2, t2, b2, _, e2, l2, r2, c2⟩ := num_spec (n := n) (by omega) t1 b1 (by omega)
  rw [e2, Option.bind_some]
  simp only
  obtain ⟨a3, t3, b3, _, e3, l3, r3, c3⟩ := num_spec (n := n) (by omega) t2 b2 (by omega)
  rw [e3, Option.bind_some]
  simp only
  obtain ⟨a4, t4, b4, _, e4, l4, r4, c4⟩ := num_spec (n := n) (by omega) t3 b3 (by omega)
  rw [e4, Option.bind_some]
  simp only
  obtain ⟨a5, t5, b5, _, e5, l5, r5, c5⟩ := num_spec (n := n) (by omega) t4 b4 (by omega)
  rw [e5, Option.bind_some]
  simp only
  have fin : ∀ (t : List UInt8) (b : Bool) (sl : List T_api_Step) (sp : Int) (bk : Bool) (ty : Int) (ok : Bool), sl.length ≤ 64 → (∀ x ∈ sl, stepRd x) → (0 ≤ sp ∧ sp ≤ 1000) → (0 ≤ ty ∧ ty ≤ 1000) →
      (tontineref16_Decode.j1 n s (a1, ⟨t1, b1⟩) (a2, ⟨t2, b2⟩) (a3, ⟨t3, b3⟩) (a4, ⟨t4, b4⟩) (a5, ⟨t5, b5⟩) sl t b sp bk ty ok = some (noCmd, 2) ∨
        ∃ c, tontineref16_Decode.j1 n s (a1, ⟨t1, b1⟩) (a2, ⟨t2, b2⟩) (a3, ⟨t3, b3⟩) (a4, ⟨t4, b4⟩) (a5, ⟨t5, b5⟩) sl t b sp bk ty ok = some (c, 0) ∧ mayB c = true ∧ wf_T_api_Command c ∧ s = encC c) := by
    intro t b sl sp bk ty ok hl hw hsp hty
    have wc : wf_T_api_Command ⟨a1, a2, a3, a4, sl, sp, bk, ty, ok, a5⟩ := ⟨wf_i64_of ⟨r1.1, by show a1 ≤ _; omega⟩, wf_u64_of r2, wf_u64_of r3, wf_u64_of r4, wf_steps hl hw, wf_i64_of ⟨hsp.1, by show sp ≤ _; omega⟩, trivial, wf_i64_of ⟨hty.1, by show ty ≤ _; omega⟩, trivial, wf_u64_of r5⟩
    unfold tontineref16_Decode.j1
    simp only
    rw [r_Encode n _ (by show sl.length + 300 < n; omega) wc, Option.bind_some]
    have h34 : ∀ q : Bool, tontineref16_Decode.j2 n (a1, ⟨t1, b1⟩) (a2, ⟨t2, b2⟩) (a3, ⟨t3, b3⟩) (a4, ⟨t4, b4⟩) (a5, ⟨t5, b5⟩) sl sp bk ty ok q = if q = true then some (noCmd, 2) else some (⟨a1, a2, a3, a4, sl, sp, bk, ty, ok, a5⟩, 0) := fun q => by cases q <;> rfl
    simp only [h34]
    cases b
    · by_cases ht : t = []
      · subst ht
        by_cases ho : (outC ⟨a1, a2, a3, a4, sl, sp, bk, ty, ok, a5⟩).2 = 0
        · by_cases hq : (outC ⟨a1, a2, a3, a4, sl, sp, bk, ty, ok, a5⟩).1 = s
          · right
            refine ⟨⟨a1, a2, a3, a4, sl, sp, bk, ty, ok, a5⟩, ?_, ?_, wc, ?_⟩
            · simp [ho, hq]
            · unfold outC at ho
              split at ho
              · simp at ho
              · split at ho
                · assumption
                · simp at ho
            · unfold outC at hq ho
              split at ho
              · simp at ho
              · rename_i k1
                split at ho
                · rename_i k2
                  rw [if_neg k1, if_pos k2] at hq
                  exact hq.symm
                · simp at ho
          · left; simp [ho, hq]
        · left; simp [ho]
      · left
        have h' : (t == ([] : List UInt8)) = false := by rw [beq_eq_false_iff_ne]; exact ht
        simp [h']
    · left; simp
  by_cases h2 : (a1 == 2) = true
  · rw [if_pos h2]
    obtain ⟨l, t, b, _, f1, f2, f3, f4, f5⟩ := plan_spec n (by omega) t5 b5 (by omega)
    rw [f1, Option.bind_some]
    unfold tontineref16_Decode.j0
    have h4 : ¬ (a1 == 4) = true := by
      have : a1 = 2 := by simpa using h2
      rw [this]; decide
    rw [if_neg h4]
    exact fin t b l 0 false 0 false f3 f4 (by omega) (by omega)
  rw [if_neg h2]
  unfold tontineref16_Decode.j0
  by_cases h4 : (a1 == 4) = true
  · rw [if_pos h4]
    obtain ⟨a6, t6, b6, _, e6, l6, r6, c6⟩ := up_spec (n := n) (by omega) t5 b5 (by omega) 63 (by omega) (by omega)
    rw [e6, Option.bind_some]
    simp only
    obtain ⟨a7, t7, b7, _, e7, l7, r7, c7⟩ := up_spec (n := n) (by omega) t6 b6 (by omega) 1 (by omega) (by omega)
    rw [e7, Option.bind_some]
    simp only
    obtain ⟨a8, t8, b8, _, e8, l8, r8, c8⟩ := up_spec (n := n) (by omega) t7 b7 (by omega) 8 (by omega) (by omega)
    rw [e8, Option.bind_some]
    simp only
    obtain ⟨a9, t9, b9, _, e9, l9, r9, c9⟩ := up_spec (n := n) (by omega) t8 b8 (by omega) 1 (by omega) (by omega)
    rw [e9, Option.bind_some]
    exact fin t9 b9 [] a6 (a7 == 1) a8 (a9 == 1) (by simp) (by simp) (by omega) (by omega)
  · rw [if_neg h4]
    exact fin t5 b5 [] 0 false 0 false (by simp) (by simp) (by omega) (by omega)

theorem tontinelaw16_CommandDecodes_law (s : List UInt8) (hs : s.length ≤ reachBytes) : Ev (fun n => tontinelaw16_CommandDecodes.f n s) true := by
  unfold tontinelaw16_CommandDecodes.f
  refine Ev.bind begun16 (Ev.ge 1000 fun n hn => ?_)
  rw [if_neg (by simp)]
  have hr : reachBytes < 1000000000000000000 := by decide
  rcases canon_p n (by omega) s (by omega) with h | ⟨c, h, hm, hw, hc⟩
  · rcases canon_r n (by omega) s (by omega) with h' | ⟨c, h', hm, hw, hc⟩
    · rw [h, Option.bind_some, h', Option.bind_some, if_pos (by simp), same_c n noCmd (by simp) (by simp <;> omega)]
      rfl
    · have := back_p n (by omega) c hw hm
      rw [← hc, h] at this
      simp at this
  · have h' := back_r n (by omega) c hw hm
    have hst := may_steps hm
    rw [← hc] at h'
    rw [h, Option.bind_some, h', Option.bind_some, if_pos (by simp), same_c n c (by omega) (by omega)]
    rfl
end Go.GL
