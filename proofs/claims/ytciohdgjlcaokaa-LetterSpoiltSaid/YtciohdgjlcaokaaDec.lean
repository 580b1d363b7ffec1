/- Letters read: what is read was laid so, over the plain functions. -/
import Derived.Test.YtciohdgjlcaokaaSpec
set_option linter.unusedVariables false
set_option linter.unusedSimpArgs false
namespace Go.GL
open Go

abbrev noX : T_api_Letter := ⟨0, 0, 0, 0, 0, 0, 0, false, [], []⟩
/-- An entry that was read. -/
def entRd (e : T_api_Entry) : Prop := (0 ≤ e.Term ∧ e.Term ≤ 18446744073709551615) ∧ (0 ≤ e.Index ∧ e.Index ≤ 18446744073709551615) ∧ (0 ≤ e.Kind ∧ e.Kind ≤ 2) ∧ e.Data.length ≤ 65536
theorem wf_entRd {e : T_api_Entry} (h : entRd e) : wf_T_api_Entry e :=
  ⟨wf_u64_of h.1, wf_u64_of h.2.1, wf_i64_of ⟨h.2.2.1.1, by have := h.2.2.1.2; omega⟩, by have := h.2.2.2; show e.Data.length ≤ reachBytes; simp only [reachBytes]; omega⟩
theorem encE_rd {e : T_api_Entry} (h : entRd e) : encE e = enc e.Term.toNat ++ (enc e.Index.toNat ++ (enc e.Kind.toNat ++ encT e.Data)) := by
  obtain ⟨_, _, h3, _⟩ := h
  rw [encE, wu64_id (by omega) (by omega)]

section
variable (n : Nat) (r5 r6 r7 r8 r9 r10 r11 : Int × T_pack_Reader) (r12 : Bool × T_pack_Reader)
/-- What stands behind the entries. -/
def tailP (a : List T_api_Entry) (t : List UInt8) (b : Bool) : Option (T_api_Letter × Int) :=
  ((pack_Reader_Text.f n (⟨t, b⟩ : T_pack_Reader) 65536).bind fun r_36 => ((pack_Reader_Done.f n r_36.2).bind fun r_37 => (if (!r_37) then (some ((⟨0, 0, 0, 0, 0, 0, 0, false, [], []⟩ : T_api_Letter), 2)) else ((letter_May.f n (⟨r5.1, r6.1, r7.1, r8.1, r9.1, r10.1, r11.1, r12.1, a, r_36.1⟩ : T_api_Letter)).bind fun r_39 => (if (!r_39) then (some ((⟨0, 0, 0, 0, 0, 0, 0, false, [], []⟩ : T_api_Letter), 2)) else (some ((⟨r5.1, r6.1, r7.1, r8.1, r9.1, r10.1, r11.1, r12.1, a, r_36.1⟩ : T_api_Letter), 0)))))))

theorem ents_p (hn : 20 ≤ n) : ∀ (d k : Nat) (s : List UInt8) (bad : Bool) (l : List T_api_Entry), d < k → s.length < 1000000000000000000 → l.length + d ≤ 8 → (∀ x ∈ l, entRd x) →
    ∃ a t b, letter_Decode.l0 n r5 r6 r7 r8 r9 r10 r11 r12 k s bad l (d : Int) = tailP n r5 r6 r7 r8 r9 r10 r11 r12 a t b ∧ t.length ≤ s.length ∧ a.length ≤ 8 ∧ (∀ x ∈ a, entRd x) ∧ (b = false → bad = false ∧ ∃ l', a = l ++ l' ∧ l'.length = d ∧ s = l'.flatMap encE ++ t)
  | d, 0, s, bad, l, h, _, _, _ => by omega
  | 0, k + 1, s, bad, l, hk, hs, hl, hw => by
    unfold letter_Decode.l0
    rw [if_neg (by simp)]
    exact ⟨l, s, bad, rfl, Nat.le_refl _, by omega, hw, fun q => ⟨q, [], by simp, rfl, by simp⟩⟩
  | d + 1, k + 1, s, bad, l, hk, hs, hl, hw => by
    unfold letter_Decode.l0
    rw [if_pos (by simp <;> omega)]
    obtain ⟨a1, t1, b1, e1, _, l1, q1, c1⟩ := num_spec hn s bad hs
    rw [e1, Option.bind_some]
    simp only
    obtain ⟨a2, t2, b2, e2, _, l2, q2, c2⟩ := num_spec hn t1 b1 (by omega)
    rw [e2, Option.bind_some]
    simp only
    obtain ⟨a3, t3, b3, e3, _, l3, q3, c3⟩ := up_spec hn t2 b2 (by omega) 2 (by omega) (by omega)
    rw [e3, Option.bind_some]
    simp only
    obtain ⟨a4, t4, b4, e4, _, l4, q4, c4⟩ := text_spec hn t3 b3 (by omega) 65536 (by omega) (by omega)
    rw [e4, Option.bind_some]
    simp only
    have c : capOk 40 (l ++ [(⟨a1, a2, a3, a4⟩ : T_api_Entry)]).length := capOk40 (by simp <;> omega)
    have w1 : wi64 (((d + 1 : Nat) : Int) - 1) = (d : Int) := by rw [wi64_id (by omega) (by omega)]; omega
    have hsr : entRd ⟨a1, a2, a3, a4⟩ := ⟨q1, q2, q3, by show a4.length ≤ 65536; omega⟩
    rw [if_pos c, w1]
    obtain ⟨a, t, b, f1, f3, f4, f5, f6⟩ := ents_p hn d k t4 b4 (l ++ [(⟨a1, a2, a3, a4⟩ : T_api_Entry)]) (by omega) (by omega) (by simp <;> omega) (by
      intro x hx
      rcases List.mem_append.1 hx with hx | hx
      · exact hw x hx
      · rw [List.mem_singleton] at hx; subst hx; exact hsr)
    refine ⟨a, t, b, f1, by omega, f4, f5, fun q => ?_⟩
    obtain ⟨g1, l', g2, g3, g4⟩ := f6 q
    obtain ⟨g5, g6⟩ := c4 g1
    obtain ⟨g7, g8⟩ := c3 g5
    obtain ⟨g9, g10⟩ := c2 g7
    obtain ⟨g11, g12⟩ := c1 g9
    refine ⟨g11, ⟨a1, a2, a3, a4⟩ :: l', by rw [g2]; simp, by simp [g3], ?_⟩
    rw [g12, g10, g8, g6, g4]
    simp only [List.flatMap_cons, encE_rd hsr, List.append_assoc]
end

theorem canon_p (n : Nat) (hn : 400 ≤ n) (s : List UInt8) (hs : s.length < 1000000000000000000) :
    letter_Decode.f n s = some (noX, 2) ∨ ∃ x, letter_Decode.f n s = some (x, 0) ∧ mayB x = true ∧ wf_T_api_Letter x ∧ s = encX x := by
  unfold letter_Decode.f
  have hf : ∀ l, pack_From.f n l = some ⟨l, false⟩ := fun _ => rfl
  rw [hf, Option.bind_some]
  obtain ⟨a1, t1, b1, e1, _, l1, r1, c1⟩ := up_spec (n := n) (by omega) s false hs 9 (by omega) (by omega)
  rw [e1, Option.bind_some]
  simp only
  obtain ⟨a2, t2, b2, e2, _, l2, r2, c2⟩ := up_spec (n := n) (by omega) t1 b1 (by omega) 255 (by omega) (by omega)
  rw [e2, Option.bind_some]
  simp only
  obtain ⟨a3, t3, b3, e3, _, l3, r3, c3⟩ := up_spec (n := n) (by omega) t2 b2 (by omega) 255 (by omega) (by omega)
  rw [e3, Option.bind_some]
  simp only
  obtain ⟨a4, t4, b4, e4, _, l4, r4, c4⟩ := num_spec (n := n) (by omega) t3 b3 (by omega)
  rw [e4, Option.bind_some]
  simp only
  obtain ⟨a5, t5, b5, e5, _, l5, r5, c5⟩ := num_spec (n := n) (by omega) t4 b4 (by omega)
  rw [e5, Option.bind_some]
  simp only
  obtain ⟨a6, t6, b6, e6, _, l6, r6, c6⟩ := num_spec (n := n) (by omega) t5 b5 (by omega)
  rw [e6, Option.bind_some]
  simp only
  obtain ⟨a7, t7, b7, e7, _, l7, r7, c7⟩ := num_spec (n := n) (by omega) t6 b6 (by omega)
  rw [e7, Option.bind_some]
  simp only
  obtain ⟨a8, t8, b8, e8, l8, c8⟩ := bool_spec (n := n) (by omega) t7 b7 (by omega)
  rw [e8, Option.bind_some]
  simp only
  obtain ⟨a9, t9, b9, e9, _, l9, r9, c9⟩ := up_spec (n := n) (by omega) t8 b8 (by omega) 8 (by omega) (by omega)
  rw [e9, Option.bind_some]
  simp only
  obtain ⟨N, rfl⟩ : ∃ N : Nat, a9 = (N : Int) := ⟨a9.toNat, by omega⟩
  obtain ⟨a, t, b, f1, f3, f4, f5, f6⟩ := ents_p n (a1, ⟨t1, b1⟩) (a2, ⟨t2, b2⟩) (a3, ⟨t3, b3⟩) (a4, ⟨t4, b4⟩) (a5, ⟨t5, b5⟩) (a6, ⟨t6, b6⟩) (a7, ⟨t7, b7⟩) (a8, ⟨t8, b8⟩) (by omega) N n t9 b9 [] (by omega) (by omega) (by simp <;> omega) (by simp)
  rw [f1]
  unfold tailP
  obtain ⟨x, u, c, g1, _, g2, g3, g4⟩ := text_spec (n := n) (by omega) t b (by omega) 65536 (by omega) (by omega)
  rw [g1, Option.bind_some]
  simp only
  rw [done_f, Option.bind_some]
  by_cases hu : u = []
  · rw [if_pos hu]
    cases c
    · rw [if_neg (by simp), p_May n _ (by omega), Option.bind_some]
      cases hm : mayB ⟨a1, a2, a3, a4, a5, a6, a7, a8, a, x⟩
      · left; rfl
      · right
        refine ⟨_, rfl, hm, ?_, ?_⟩
        · exact ⟨wf_i64_of ⟨r1.1, by show a1 ≤ _; omega⟩, wf_i64_of ⟨r2.1, by show a2 ≤ _; omega⟩, wf_i64_of ⟨r3.1, by show a3 ≤ _; omega⟩, wf_u64_of r4, wf_u64_of r5, wf_u64_of r6, wf_u64_of r7, trivial,
            ⟨by show a.length * 40 ≤ reachBytes; simp only [reachBytes]; omega, fun y hy => wf_entRd (f5 y hy)⟩, by show x.length ≤ reachBytes; simp only [reachBytes]; omega⟩
        · obtain ⟨h10, y10⟩ := g4 rfl
          obtain ⟨h9, l', y1, y2, y3⟩ := f6 h10
          obtain ⟨h8, x9⟩ := c9 h9
          obtain ⟨h7, x8⟩ := c8 h8
          obtain ⟨h6, x7⟩ := c7 h7
          obtain ⟨h5, x6⟩ := c6 h6
          obtain ⟨h4, x5⟩ := c5 h5
          obtain ⟨h3, x4⟩ := c4 h4
          obtain ⟨h2, x3⟩ := c3 h3
          obtain ⟨h1, x2⟩ := c2 h2
          obtain ⟨_, x1⟩ := c1 h1
          rw [List.nil_append] at y1
          subst y1
          rw [x1, x2, x3, x4, x5, x6, x7, x8, x9, y3, y10, hu]
          have k1 : (wu64 a1).toNat = a1.toNat := by rw [wu64_id (by omega) (by omega)]
          have k2 : (wu64 a2).toNat = a2.toNat := by rw [wu64_id (by omega) (by omega)]
          have k3 : (wu64 a3).toNat = a3.toNat := by rw [wu64_id (by omega) (by omega)]
          have k9 : (wu64 (a.length : Int)).toNat = N := by rw [wu64_id (by omega) (by omega)]; omega
          simp only [encX, headN, encN, List.flatMap_cons, List.flatMap_nil, List.append_nil, k1, k2, k3, k9, Int.toNat_natCast, List.append_assoc]
    · left; rfl
  · rw [if_neg hu]; left; rfl

theorem mayB_out {x : T_api_Letter} (h : mayB x = true) : outX x = (encX x, 0) := by unfold outX; rw [if_pos h]
theorem tontinelaw11_LetterOne_law (s : List UInt8) (hs : s.length ≤ reachBytes) : Ev (fun n => tontinelaw11_LetterOne.f n s) true := by
  unfold tontinelaw11_LetterOne.f
  refine Ev.bind begun11 (Ev.ge 1000 fun n hn => ?_)
  rw [if_neg (by simp)]
  have hr : reachBytes < 1000000000000000000 := by decide
  rcases canon_p n (by omega) s (by omega) with h | ⟨x, h, hm, hw, hc⟩
  · rw [h, Option.bind_some, if_pos (by simp), if_pos (by simp), same_x n noX (by simp) (by simp <;> omega)]
    rfl
  · rw [h, Option.bind_some, if_neg (by simp), p_Encode n x (by omega) hw, Option.bind_some, mayB_out hm, if_pos (by simp), if_pos (by rw [hc]; simp), p_May n x (by omega), hm]
    rfl
end Go.GL
