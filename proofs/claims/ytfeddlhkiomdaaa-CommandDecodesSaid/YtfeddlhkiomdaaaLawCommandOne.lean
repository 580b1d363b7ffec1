/- The law CommandOne, over the plain functions: what is read was laid so. -/
import Derived.Test.YtfeddlhkiomdaaaLawCommandBack
set_option linter.unusedVariables false
set_option linter.unusedSimpArgs false
namespace Go.GL
open Go

theorem wf_i64_of {n : Int} (h : 0 ≤ n ∧ n ≤ 100000) : (Lit.int .i64 n).wf = true := by
  simp [Lit.wf, IntKind.min, IntKind.max, IntKind.bits, IntKind.signed]; omega
theorem wf_u64_of {n : Int} (h : 0 ≤ n ∧ n ≤ 18446744073709551615) : (Lit.int .u64 n).wf = true := by
  simp [Lit.wf, IntKind.min, IntKind.max, IntKind.bits, IntKind.signed]; omega
theorem wf_steps {l : List T_api_Step} (hl : l.length ≤ 64) (h : ∀ x ∈ l, stepRd x) : l.length * 32 ≤ reachBytes ∧ ∀ x ∈ l, wf_T_api_Step x :=
  ⟨by simp only [reachBytes]; omega, fun x hx => by
    obtain ⟨h1, h2, h3⟩ := h x hx
    exact ⟨wf_i64_of ⟨h1.1, by omega⟩, by show x.Name.length ≤ reachBytes; simp only [reachBytes]; omega, wf_i64_of ⟨h3.1, by omega⟩⟩⟩
theorem bool_spec {n : Nat} (hn : 20 ≤ n) (s : List UInt8) (bad : Bool) (hs : s.length < 1000000000000000000) :
    ∃ a t b, pack_Reader_Bool.f n ⟨s, bad⟩ = some (a, ⟨t, b⟩) ∧ t.length ≤ s.length ∧ (b = false → bad = false ∧ s = enc (tr a) ++ t) := by
  unfold pack_Reader_Bool.f
  obtain ⟨a, t, b, e1, _, hl, hr, hc⟩ := up_spec hn s bad hs 1 (by omega) (by omega)
  rw [e1]
  refine ⟨a == 1, t, b, rfl, hl, fun q => ?_⟩
  obtain ⟨q1, q2⟩ := hc q
  refine ⟨q1, ?_⟩
  have : tr (a == 1) = a.toNat := by
    by_cases h : a = 1
    · subst h; rfl
    · have : a = 0 := by omega
      subst this; rfl
  rw [this]; exact q2

theorem canon_p (n : Nat) (hn : 400 ≤ n) (s : List UInt8) (hs : s.length < 1000000000000000000) :
    command_Decode.f n s = some (noCmd, 2) ∨ ∃ c, command_Decode.f n s = some (c, 0) ∧ mayB c = true ∧ wf_T_api_Command c ∧ s = encC c := by
  unfold command_Decode.f
  have hf : ∀ l, pack_From.f n l = some ⟨l, false⟩ := fun _ => rfl
  rw [hf, Option.bind_some]
  obtain ⟨a1, t1, b1, e1, _, l1, r1, c1⟩ := up_spec (n := n) (by omega) s false hs 5 (by omega) (by omega)
  rw [e1, Option.bind_some]
  simp only
  obtain ⟨a2, t2, b2, e2, _, l2, r2, c2⟩ := num_spec (n := n) (by omega) t1 b1 (by omega)
  rw [e2, Option.bind_some]
  simp only
  obtain ⟨a3, t3, b3, e3, _, l3, r3, c3⟩ := num_spec (n := n) (by omega) t2 b2 (by omega)
  rw [e3, Option.bind_some]
  simp only
  obtain ⟨a4, t4, b4, e4, _, l4, r4, c4⟩ := num_spec (n := n) (by omega) t3 b3 (by omega)
  rw [e4, Option.bind_some]
  simp only
  obtain ⟨a5, t5, b5, e5, _, l5, r5, c5⟩ := num_spec (n := n) (by omega) t4 b4 (by omega)
  rw [e5, Option.bind_some]
  simp only
  -- what stands to the end
  have fin : ∀ (t : List UInt8) (b : Bool) (sl : List T_api_Step) (sp : Int) (bk : Bool) (ty : Int) (ok : Bool), sl.length ≤ 64 → (∀ x ∈ sl, stepRd x) → (0 ≤ sp ∧ sp ≤ 1000) → (0 ≤ ty ∧ ty ≤ 1000) →
      (t = [] → b = false → mayB ⟨a1, a2, a3, a4, sl, sp, bk, ty, ok, a5⟩ = true → s = encC ⟨a1, a2, a3, a4, sl, sp, bk, ty, ok, a5⟩) →
      (command_Decode.j0 n (a1, ⟨t1, b1⟩) (a2, ⟨t2, b2⟩) (a3, ⟨t3, b3⟩) (a4, ⟨t4, b4⟩) (a5, ⟨t5, b5⟩) t b sl sp bk ty ok = some (noCmd, 2) ∨
        ∃ c, command_Decode.j0 n (a1, ⟨t1, b1⟩) (a2, ⟨t2, b2⟩) (a3, ⟨t3, b3⟩) (a4, ⟨t4, b4⟩) (a5, ⟨t5, b5⟩) t b sl sp bk ty ok = some (c, 0) ∧ mayB c = true ∧ wf_T_api_Command c ∧ s = encC c) := by
    intro t b sl sp bk ty ok hl hw hsp hty he
    unfold command_Decode.j0
    rw [done_f, Option.bind_some]
    by_cases ht : t = []
    · rw [if_pos ht]
      cases b
      · rw [if_neg (by simp), p_May n _ (by show sl.length + 2 < n; omega), Option.bind_some]
        cases hm : mayB ⟨a1, a2, a3, a4, sl, sp, bk, ty, ok, a5⟩
        · left; rfl
        · right
          refine ⟨_, rfl, hm, ?_, he ht rfl hm⟩
          exact ⟨wf_i64_of ⟨r1.1, by show a1 ≤ _; omega⟩, wf_u64_of r2, wf_u64_of r3, wf_u64_of r4, wf_steps hl hw, wf_i64_of ⟨hsp.1, by show sp ≤ _; omega⟩, trivial, wf_i64_of ⟨hty.1, by show ty ≤ _; omega⟩, trivial, wf_u64_of r5⟩
      · left; rfl
    · rw [if_neg ht]; left; rfl
  have ek : (wu64 a1).toNat = a1.toNat := by rw [wu64_id (by omega) (by omega)]
  have front : b5 = false → s = enc a1.toNat ++ (enc a2.toNat ++ (enc a3.toNat ++ (enc a4.toNat ++ (enc a5.toNat ++ t5)))) := by
    intro q
    obtain ⟨q4, x5⟩ := c5 q
    obtain ⟨q3, x4⟩ := c4 q4
    obtain ⟨q2, x3⟩ := c3 q3
    obtain ⟨q1, x2⟩ := c2 q2
    obtain ⟨_, x1⟩ := c1 q1
    rw [x1, x2, x3, x4, x5]
  by_cases h2 : (a1 == 2) = true
  · rw [if_pos h2]
    obtain ⟨l, t, b, f1, _, f2, f3, f4, f5⟩ := plan_spec n (by omega) t5 b5 (by omega)
    rw [f1, Option.bind_some]
    refine fin t b l 0 false 0 false f3 f4 (by omega) (by omega) fun ht hb _ => ?_
    obtain ⟨q1, q2⟩ := f5 hb
    rw [front q1, q2, ht, encC]
    simp only [ek, h2, if_true, List.append_nil]
  rw [if_neg h2]
  by_cases h4 : (a1 == 4) = true
  · rw [if_pos h4]
    obtain ⟨a6, t6, b6, e6, _, l6, r6, c6⟩ := up_spec (n := n) (by omega) t5 b5 (by omega) 64 (by omega) (by omega)
    rw [e6, Option.bind_some]
    simp only
    obtain ⟨a7, t7, b7, e7, l7, c7⟩ := bool_spec (n := n) (by omega) t6 b6 (by omega)
    rw [e7, Option.bind_some]
    simp only
    obtain ⟨a8, t8, b8, e8, _, l8, r8, c8⟩ := up_spec (n := n) (by omega) t7 b7 (by omega) 9 (by omega) (by omega)
    rw [e8, Option.bind_some]
    simp only
    obtain ⟨a9, t9, b9, e9, l9, c9⟩ := bool_spec (n := n) (by omega) t8 b8 (by omega)
    rw [e9, Option.bind_some]
    refine fin t9 b9 [] a6 a7 a8 a9 (by simp) (by simp) (by omega) (by omega) fun ht hb _ => ?_
    obtain ⟨q8, x9⟩ := c9 hb
    obtain ⟨q7, x8⟩ := c8 q8
    obtain ⟨q6, x7⟩ := c7 q7
    obtain ⟨q5, x6⟩ := c6 q6
    have es : (wu64 a6).toNat = a6.toNat := by rw [wu64_id (by omega) (by omega)]
    have et : (wu64 a8).toNat = a8.toNat := by rw [wu64_id (by omega) (by omega)]
    rw [front q5, x6, x7, x8, x9, ht, encC]
    simp only [ek, es, et, h4, if_true, List.append_nil]
    rw [if_neg h2]
  · rw [if_neg h4]
    refine fin t5 b5 [] 0 false 0 false (by simp) (by simp) (by omega) (by omega) fun ht hb _ => ?_
    rw [front hb, ht, encC]
    simp only [ek]
    rw [if_neg h2, if_neg h4]

theorem tontinelaw16_CommandOne_law (s : List UInt8) (hs : s.length ≤ reachBytes) : Ev (fun n => tontinelaw16_CommandOne.f n s) true := by
  unfold tontinelaw16_CommandOne.f
  refine Ev.bind begun16 (Ev.ge 1000 fun n hn => ?_)
  rw [if_neg (by simp)]
  have hr : reachBytes < 1000000000000000000 := by decide
  rcases canon_p n (by omega) s (by omega) with h | ⟨c, h, hm, hw, hc⟩
  · rw [h, Option.bind_some, if_pos (by simp), if_pos (by simp), same_c n noCmd (by simp) (by simp <;> omega)]
    rfl
  · have hst := may_steps hm
    have e1 : outC c = (encC c, 0) := by
      unfold outC
      have hk : ((c.Kind == 2) && !chk c.Steps) = false := by
        cases h2 : (c.Kind == 2)
        · rfl
        · rw [(mayB_two hm (by simpa using h2)).1]; rfl
      rw [hk, hm]; rfl
    rw [h, Option.bind_some, if_neg (by simp), p_Encode n c (by omega) hw, Option.bind_some, e1, if_pos (by simp), if_pos (by rw [hc]; simp), p_May n c (by omega), hm]
    rfl
end Go.GL
