/- The law LetterDecodes, over the plain functions. -/
import Derived.Test.YtciohdgjlcaokaaDec4
set_option linter.unusedVariables false
set_option linter.unusedSimpArgs false
namespace Go.GL
open Go

section
variable (n : Nat) (s0 : List UInt8) (r4 r6 r7 r8 r9 r10 r11 r12 r13 : Int × T_tontineref03_Reader)
/-- What stands behind the entries, for the reference. -/
def tailR (a : List T_api_Entry) (t : List UInt8) (b : Bool) : Option (T_api_Letter × Int) :=
  ((tontineref03_Reader_Text.f n (⟨t, b⟩ : T_tontineref03_Reader) 65536).bind fun r_35 => ((tontineref11_Encode.f n (⟨r4.1, r6.1, r7.1, r8.1, r9.1, r10.1, r11.1, (r12.1 == 1), a, r_35.1⟩ : T_api_Letter)).bind fun r_36 => (if r_35.2.Bad then (tontineref11_Decode.j0 n r4 r6 r7 r8 r9 r10 r11 r12 a r_35 true) else (if (!(r_35.2.S_ == ([] : List UInt8))) then (tontineref11_Decode.j0 n r4 r6 r7 r8 r9 r10 r11 r12 a r_35 true) else (if (r_36.2 != 0) then (tontineref11_Decode.j0 n r4 r6 r7 r8 r9 r10 r11 r12 a r_35 true) else (tontineref11_Decode.j0 n r4 r6 r7 r8 r9 r10 r11 r12 a r_35 (!(r_36.1 == s0))))))))

/-- Both read the same entries. -/
theorem ents_r (hn : 20 ≤ n) (N : Nat) (hN : N ≤ 8) (h13 : r13.1 = (N : Int)) (p5 p6 p7 p8 p9 p10 p11 : Int × T_pack_Reader) (p12 : Bool × T_pack_Reader) : ∀ (d k : Nat) (s : List UInt8) (bad : Bool) (l : List T_api_Entry), d ≤ N → d < k → s.length < 1000000000000000000 → l.length + d ≤ 8 →  (∀ x ∈ l, entRd x) →
    ∃ a t b, letter_Decode.l0 n p5 p6 p7 p8 p9 p10 p11 p12 k s bad l (d : Int) = tailP n p5 p6 p7 p8 p9 p10 p11 p12 a t b ∧ tontineref11_Decode.l0 n s0 r4 r6 r7 r8 r9 r10 r11 r12 r13 k s bad l ((N : Int) - d) = tailR n s0 r4 r6 r7 r8 r9 r10 r11 r12 a t b ∧ t.length ≤ s.length ∧ a.length ≤ 8 ∧ (∀ x ∈ a, entRd x)
  | d, 0, s, bad, l, _, h, _, _, _ => by omega
  | 0, k + 1, s, bad, l, hd, hk, hs, hl, hw => by
    unfold letter_Decode.l0 tontineref11_Decode.l0
    rw [if_neg (by simp), if_neg (by rw [h13]; simp)]
    exact ⟨l, s, bad, rfl, rfl, Nat.le_refl _, by omega, hw⟩
  | d + 1, k + 1, s, bad, l, hd, hk, hs, hl, hw => by
    unfold letter_Decode.l0 tontineref11_Decode.l0
    rw [if_pos (by simp <;> omega), if_pos (by rw [h13]; simp <;> omega)]
    obtain ⟨a1, t1, b1, e1, e1', l1, q1, c1⟩ := num_spec hn s bad hs
    rw [e1, e1', Option.bind_some, Option.bind_some]
    simp only
    obtain ⟨a2, t2, b2, e2, e2', l2, q2, c2⟩ := num_spec hn t1 b1 (by omega)
    rw [e2, e2', Option.bind_some, Option.bind_some]
    simp only
    obtain ⟨a3, t3, b3, e3, e3', l3, q3, c3⟩ := up_spec hn t2 b2 (by omega) 2 (by omega) (by omega)
    rw [e3, e3', Option.bind_some, Option.bind_some]
    simp only
    obtain ⟨a4, t4, b4, e4, e4', l4, q4, c4⟩ := text_spec hn t3 b3 (by omega) 65536 (by omega) (by omega)
    rw [e4, e4', Option.bind_some, Option.bind_some]
    simp only
    have c : capOk 40 (l ++ [(⟨a1, a2, a3, a4⟩ : T_api_Entry)]).length := capOk40 (by simp <;> omega)
    have w1 : wi64 (((d + 1 : Nat) : Int) - 1) = (d : Int) := by rw [wi64_id (by omega) (by omega)]; omega
    have w2 : wi64 ((N : Int) - ((d + 1 : Nat) : Int) + 1) = (N : Int) - (d : Int) := by rw [wi64_id (by omega) (by omega)]; omega
    have hsr : entRd ⟨a1, a2, a3, a4⟩ := ⟨q1, q2, q3, by show a4.length ≤ 65536; omega⟩
    rw [if_pos c, if_pos c, w1, w2]
    obtain ⟨a, t, b, f1, f2, f3, f4, f5⟩ := ents_r hn N hN h13 p5 p6 p7 p8 p9 p10 p11 p12 d k t4 b4 (l ++ [(⟨a1, a2, a3, a4⟩ : T_api_Entry)]) (by omega) (by omega) (by omega) (by simp <;> omega) (by
      intro x hx
      rcases List.mem_append.1 hx with hx | hx
      · exact hw x hx
      · rw [List.mem_singleton] at hx; subst hx; exact hsr)
    exact ⟨a, t, b, f1, f2, by omega, f4, f5⟩
end

/-- The reference answers as letter does. -/
theorem alike (n : Nat) (hn : 400 ≤ n) (s : List UInt8) (hs : s.length < 1000000000000000000) : tontineref11_Decode.f n s = letter_Decode.f n s := by
  have hcan := canon_p n hn s hs
  have hback := fun x hx hm => back_p n hn x hx hm
  unfold letter_Decode.f at hcan hback ⊢
  unfold tontineref11_Decode.f
  have hf : ∀ l, pack_From.f n l = some ⟨l, false⟩ := fun _ => rfl
  simp only [hf, Option.bind_some] at hcan hback ⊢
  obtain ⟨a1, t1, b1, e1, e1', l1, r1, c1⟩ := up_spec (n := n) (by omega) s false hs 9 (by omega) (by omega)
  rw [e1] at hcan ⊢
  rw [e1']
  simp only [Option.bind_some] at hcan ⊢
  obtain ⟨a2, t2, b2, e2, e2', l2, r2, c2⟩ := up_spec (n := n) (by omega) t1 b1 (by omega) 255 (by omega) (by omega)
  rw [e2] at hcan ⊢
  rw [e2']
  simp only [Option.bind_some] at hcan ⊢
  obtain ⟨a3, t3, b3, e3, e3', l3, r3, c3⟩ := up_spec (n := n) (by omega) t2 b2 (by omega) 255 (by omega) (by omega)
  rw [e3] at hcan ⊢
  rw [e3']
  simp only [Option.bind_some] at hcan ⊢
  obtain ⟨a4, t4, b4, e4, e4', l4, r4, c4⟩ := num_spec (n := n) (by omega) t3 b3 (by omega)
  rw [e4] at hcan ⊢
  rw [e4']
  simp only [Option.bind_some] at hcan ⊢
  obtain ⟨a5, t5, b5, e5, e5', l5, r5, c5⟩ := num_spec (n := n) (by omega) t4 b4 (by omega)
  rw [e5] at hcan ⊢
  rw [e5']
  simp only [Option.bind_some] at hcan ⊢
  obtain ⟨a6, t6, b6, e6, e6', l6, r6, c6⟩ := num_spec (n := n) (by omega) t5 b5 (by omega)
  rw [e6] at hcan ⊢
  rw [e6']
  simp only [Option.bind_some] at hcan ⊢
  obtain ⟨a7, t7, b7, e7, e7', l7, r7, c7⟩ := num_spec (n := n) (by omega) t6 b6 (by omega)
  rw [e7] at hcan ⊢
  rw [e7']
  simp only [Option.bind_some] at hcan ⊢
  obtain ⟨a8, t8, b8, e8, e8', l8, r8, c8⟩ := up_spec (n := n) (by omega) t7 b7 (by omega) 1 (by omega) (by omega)
  have eb : pack_Reader_Bool.f n ⟨t7, b7⟩ = some ((a8 == 1), ⟨t8, b8⟩) := by unfold pack_Reader_Bool.f; rw [e8]; rfl
  rw [eb] at hcan ⊢
  rw [e8']
  simp only [Option.bind_some] at hcan ⊢
  obtain ⟨a9, t9, b9, e9, e9', l9, r9, c9⟩ := up_spec (n := n) (by omega) t8 b8 (by omega) 8 (by omega) (by omega)
  rw [e9] at hcan ⊢
  rw [e9']
  simp only [Option.bind_some] at hcan ⊢
  obtain ⟨N, rfl⟩ : ∃ N : Nat, a9 = (N : Int) := ⟨a9.toNat, by omega⟩
  obtain ⟨a, t, b, f1, f2, f3, f4, f5⟩ := ents_r n s (a1, ⟨t1, b1⟩) (a2, ⟨t2, b2⟩) (a3, ⟨t3, b3⟩) (a4, ⟨t4, b4⟩) (a5, ⟨t5, b5⟩) (a6, ⟨t6, b6⟩) (a7, ⟨t7, b7⟩) (a8, ⟨t8, b8⟩) ((N : Int), ⟨t9, b9⟩) (by omega) N (by omega) rfl
    (a1, ⟨t1, b1⟩) (a2, ⟨t2, b2⟩) (a3, ⟨t3, b3⟩) (a4, ⟨t4, b4⟩) (a5, ⟨t5, b5⟩) (a6, ⟨t6, b6⟩) (a7, ⟨t7, b7⟩) ((a8 == 1), ⟨t8, b8⟩) N n t9 b9 [] (by omega) (by omega) (by omega) (by simp <;> omega) (by simp)
  rw [show ((N : Int) - (N : Int)) = 0 by omega] at f2
  rw [f1] at hcan ⊢
  rw [f2]
  unfold tailP at hcan ⊢
  unfold tailR
  obtain ⟨x, u, c, g1, g1', g2, g3, g4⟩ := text_spec (n := n) (by omega) t b (by omega) 65536 (by omega) (by omega)
  rw [g1] at hcan ⊢
  rw [g1']
  simp only [Option.bind_some, done_f] at hcan ⊢
  have wx : wf_T_api_Letter ⟨a1, a2, a3, a4, a5, a6, a7, (a8 == 1), a, x⟩ := ⟨wf_i64_of ⟨r1.1, by show a1 ≤ _; omega⟩, wf_i64_of ⟨r2.1, by show a2 ≤ _; omega⟩, wf_i64_of ⟨r3.1, by show a3 ≤ _; omega⟩, wf_u64_of r4, wf_u64_of r5, wf_u64_of r6, wf_u64_of r7, trivial,
            ⟨by show a.length * 40 ≤ reachBytes; simp only [reachBytes]; omega, fun y hy => wf_entRd (f5 y hy)⟩, by show x.length ≤ reachBytes; simp only [reachBytes]; omega⟩
  rw [r_Encode n _ (by omega) wx, Option.bind_some]
  have hj : ∀ q, tontineref11_Decode.j0 n (a1, ⟨t1, b1⟩) (a2, ⟨t2, b2⟩) (a3, ⟨t3, b3⟩) (a4, ⟨t4, b4⟩) (a5, ⟨t5, b5⟩) (a6, ⟨t6, b6⟩) (a7, ⟨t7, b7⟩) (a8, ⟨t8, b8⟩) a (x, ⟨u, c⟩) q = if q = true then some (noX, 2) else some (⟨a1, a2, a3, a4, a5, a6, a7, (a8 == 1), a, x⟩, 0) := fun q => by cases q <;> rfl
  simp only [hj]
  rw [p_May n _ (by omega)] at hcan ⊢
  cases c
  · by_cases hu : u = []
    · subst hu
      simp only [if_true, Bool.not_false, Bool.not_true, Bool.false_eq_true, if_false, Option.bind_some] at hcan ⊢
      cases hm : mayB ⟨a1, a2, a3, a4, a5, a6, a7, (a8 == 1), a, x⟩
      · have : outX ⟨a1, a2, a3, a4, a5, a6, a7, (a8 == 1), a, x⟩ = ([], 1) := by unfold outX; rw [hm]; rfl
        rw [this]; simp
      · rw [mayB_out hm]
        rw [hm] at hcan
        rcases hcan with hcan | ⟨z, hcan, _, _, hz⟩
        · simp at hcan
        · simp only [Bool.not_true, Bool.false_eq_true, if_false, Option.some.injEq, Prod.mk.injEq, and_true] at hcan
          rw [hcan, ← hz]; simp
    · have hu' : (u == ([] : List UInt8)) = false := by rw [beq_eq_false_iff_ne]; exact hu
      simp [hu, hu']
  · by_cases hu : u = [] <;> simp [hu]

theorem tontinelaw11_LetterDecodes_law (s : List UInt8) (hs : s.length ≤ reachBytes) : Ev (fun n => tontinelaw11_LetterDecodes.f n s) true := by
  unfold tontinelaw11_LetterDecodes.f
  refine Ev.bind begun11 (Ev.ge 1000 fun n hn => ?_)
  rw [if_neg (by simp)]
  have hr : reachBytes < 1000000000000000000 := by decide
  by_cases hl : (s.length : Int) > 100000
  · rw [if_pos (by simpa using hl)]
  rw [if_neg (by simpa using hl), alike n (by omega) s (by omega)]
  rcases canon_p n (by omega) s (by omega) with h | ⟨x, h, hm, hw, hc⟩
  · rw [h, Option.bind_some, Option.bind_some, if_pos (by simp), same_x n noX (by simp) (by simp <;> omega)]
    rfl
  · have k7 := (headOk_iff.1 (mayB_iff hm).1).2.2.2.2.2.2.1
    rw [h, Option.bind_some, Option.bind_some, if_pos (by simp), same_x n x (by omega) (by omega)]
    rfl
end Go.GL
