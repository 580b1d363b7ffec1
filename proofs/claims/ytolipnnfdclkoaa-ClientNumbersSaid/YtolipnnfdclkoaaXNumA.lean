/- What a client does, call by call, with the numbers of its session. -/
import Derived.Test.YtolipnnfdclkoaaXCDec
import Derived.Test.YtolipnnfdclkoaaXCli
set_option linter.unusedVariables false
set_option linter.unusedSimpArgs false
set_option maxRecDepth 10000
namespace Go.GL
open Go
abbrev UM := List (T_tontinelaw21_one × List UInt8)
structure PN (c : T_client_Client) (u : UM) (last i : Int) : Prop where
  ci : CI c
  id : c.id = 0
  ses : 0 ≤ c.session ∧ c.session ≤ last ∧ last ≤ i
  seq : 0 ≤ c.seq ∧ c.seq ≤ i
  u1 : ∀ s q, (getA (⟨s, q⟩ : T_tontinelaw21_one) u).isSome = true → 0 < s ∧ s ≤ last ∧ (s = c.session → q ≤ c.seq ∨ (c.busy = true ∧ c.now.Kind ≠ 1 ∧ q = c.seq + 1))
  u2 : c.session ≠ 0 → 1 ≤ c.seq → (getA (⟨c.session, c.seq⟩ : T_tontinelaw21_one) u).isSome = true
  now : c.busy = true → c.now.Now = 0
  reg : c.busy = true → c.now.Kind = 1 → c.now.Seq = 0
  com : c.busy = true → c.now.Kind ≠ 1 → c.session ≠ 0 ∧ c.now.Session = c.session ∧ c.now.Seq = c.seq + 1 ∧ (getA (⟨c.session, c.seq + 1⟩ : T_tontinelaw21_one) u = none ∨ getA (⟨c.session, c.seq + 1⟩ : T_tontinelaw21_one) u = some c.data)
def IN (c : T_client_Client) (u : UM) (last i : Int) : Prop := PN c u last i ∧ (c.busy = true → c.now.Kind ≠ 1 → getA (⟨c.session, c.seq + 1⟩ : T_tontinelaw21_one) u = some c.data)
theorem PN.more {c : T_client_Client} {u : UM} {last i last' i' : Int} (h : PN c u last i) (h1 : last ≤ last') (h2 : i ≤ i') (h3 : last' ≤ i') : PN c u last' i' :=
  ⟨h.ci, h.id, ⟨h.ses.1, by have := h.ses; omega, h3⟩, ⟨h.seq.1, by have := h.seq; omega⟩, fun s q e => by have := h.u1 s q e; exact ⟨this.1, by omega, this.2.2⟩, h.u2, h.now, h.reg, h.com⟩
theorem IN.more {c : T_client_Client} {u : UM} {last i last' i' : Int} (h : IN c u last i) (h1 : last ≤ last') (h2 : i ≤ i') (h3 : last' ≤ i') : IN c u last' i' := ⟨h.1.more h1 h2 h3, h.2⟩
theorem IN.to {c : T_client_Client} {u : UM} {last i : Int} (h : IN c u last i) (t : Int) (ht : 0 ≤ t ∧ t ≤ 6) : IN (⟨c.id, c.session, c.seq, c.call, c.busy, c.now, c.data, t⟩ : T_client_Client) u last i :=
  ⟨⟨⟨h.1.ci.id, h.1.ci.ses, h.1.ci.seq, ht, h.1.ci.data, h.1.ci.wf, h.1.ci.st⟩, h.1.id, h.1.ses, h.1.seq, h.1.u1, h.1.u2, h.1.now, h.1.reg, h.1.com⟩, h.2⟩
theorem num_Call (n : Nat) (c : T_client_Client) (u : UM) (last i : Int) (hi : i ≤ 1000000000000000) (h : IN c u last i) (x : T_api_Command) (hx : wf_T_api_Command x) (hn : x.Steps.length + 400 < n) :
    ∃ L e c', client_Client_Call.f n c x = some (L, e, c') ∧ ((e ≠ 0 ∧ IN c' u last i) ∨ (e = 0 ∧ L.Data = c'.data ∧ c'.busy = true ∧ PN c' u last i)) := by
  obtain ⟨x1, x2, x3, x4, x5, x6, x7, x8, x9, x10⟩ := hx
  have hs := h.1.ses
  have hq := h.1.seq
  have same : ∀ e : Int, e ≠ 0 → ∃ L e' c', (some (noL, e, c) : Option (T_api_Letter × Int × T_client_Client)) = some (L, e', c') ∧ ((e' ≠ 0 ∧ IN c' u last i) ∨ (e' = 0 ∧ L.Data = c'.data ∧ c'.busy = true ∧ PN c' u last i)) := fun e he => ⟨_, _, _, rfl, Or.inl ⟨he, h⟩⟩
  unfold client_Client_Call.f
  by_cases hb : c.busy = true
  · rw [if_pos hb]; exact same 31 (by omega)
  rw [if_neg hb]
  have hj : ∀ a b, (0 ≤ a ∧ a ≤ 18446744073709551615) → (0 ≤ b ∧ b ≤ 18446744073709551615) → x.Kind ≠ 4 → (x.Kind = 1 → b = 0) → (x.Kind ≠ 1 → c.session ≠ 0 ∧ a = c.session ∧ b = c.seq + 1) → ∃ L e c', client_Client_Call.j1 n c x a b = some (L, e, c') ∧ ((e ≠ 0 ∧ IN c' u last i) ∨ (e = 0 ∧ L.Data = c'.data ∧ c'.busy = true ∧ PN c' u last i)) := by
    intro a b ha hb' h4 k1 k2
    have hw : wf_T_api_Command ⟨x.Kind, a, b, x.Saga, x.Steps, x.Step, x.Back, x.Try, x.Ok, 0⟩ := ⟨x1, wf_u64_of ha, wf_u64_of hb', x4, x5, x6, x7, x8, x9, wf_u64_of (n := 0) (by omega)⟩
    have e1 := p_Encode n ⟨x.Kind, a, b, x.Saga, x.Steps, x.Step, x.Back, x.Try, x.Ok, 0⟩ (by show x.Steps.length + 300 < n; omega) hw
    unfold client_Client_Call.j1
    rw [if_neg (by rw [beq_iff_eq]; exact h4), e1, Option.bind_some]
    generalize ho : outC ⟨x.Kind, a, b, x.Saga, x.Steps, x.Step, x.Back, x.Try, x.Ok, 0⟩ = o
    obtain ⟨D, er⟩ := o
    by_cases her : er = 0
    · subst her
      have hc' : CI (⟨c.id, c.session, c.seq, wu64 (c.call + 1), true, ⟨x.Kind, a, b, x.Saga, x.Steps, x.Step, x.Back, x.Try, x.Ok, 0⟩, D, c.to_⟩ : T_client_Client) := ⟨h.1.ci.id, h.1.ci.ses, h.1.ci.seq, h.1.ci.to_, fun _ => ho, hw, out_len ho⟩
      refine ⟨letC (⟨c.id, c.session, c.seq, wu64 (c.call + 1), true, ⟨x.Kind, a, b, x.Saga, x.Steps, x.Step, x.Back, x.Try, x.Ok, 0⟩, D, c.to_⟩ : T_client_Client), 0, _, ?_, Or.inr ⟨rfl, rfl, rfl, hc', h.1.id, h.1.ses, h.1.seq, ?_, h.1.u2, fun _ => rfl, fun _ k => k1 k, ?_⟩⟩
      · rw [if_neg (by simp)]; rfl
      · intro s q e
        obtain ⟨g1, g2, g3⟩ := h.1.u1 s q e
        refine ⟨g1, g2, fun hs' => ?_⟩
        rcases g3 hs' with g | ⟨g, _⟩
        · exact Or.inl g
        · exact absurd g hb
      · intro _ k
        obtain ⟨r1, r2, r3⟩ := k2 k
        refine ⟨r1, r2, r3, Or.inl ?_⟩
        show getA (⟨c.session, c.seq + 1⟩ : T_tontinelaw21_one) u = none
        cases hg : getA (⟨c.session, c.seq + 1⟩ : T_tontinelaw21_one) u with
        | none => rfl
        | some v =>
          obtain ⟨g1, g2, g3⟩ := h.1.u1 c.session (c.seq + 1) (by rw [hg]; rfl)
          rcases g3 rfl with g | ⟨g, _⟩
          · omega
          · exact absurd g hb
    · have hb2 : (er != 0) = true := by rw [bne_iff_ne]; exact her
      refine ⟨noL, er, c, ?_, Or.inl ⟨her, h⟩⟩
      simp only; rw [hb2]; rfl
  unfold client_Client_Call.j0
  by_cases h1 : x.Kind = 1
  · have k1 : (x.Kind != 1) = false := by rw [h1]; rfl
    simp only [k1]
    exact hj 0 0 (by omega) (by omega) (by omega) (fun _ => rfl) (fun k => absurd h1 k)
  · have k1 : (x.Kind != 1) = true := by rw [bne_iff_ne]; exact h1
    simp only [k1]
    by_cases hs0 : c.session = 0
    · have k2 : (c.session == 0) = true := by rw [beq_iff_eq]; exact hs0
      simp only [k2]
      exact same 40 (by omega)
    · have k2 : (c.session == 0) = false := by rw [beq_eq_false_iff_ne]; exact hs0
      simp only [k2]
      by_cases h4 : x.Kind = 4
      · have k4 : (x.Kind == 4) = true := by rw [beq_iff_eq]; exact h4
        unfold client_Client_Call.j1
        simp only [k4]
        exact same 1 (by omega)
      · have w : wu64 (c.seq + 1) = c.seq + 1 := wu64_id (by omega) (by omega)
        exact hj c.session (wu64 (c.seq + 1)) h.1.ci.ses (wu64_in _) h4 (fun k => absurd k h1) (fun _ => ⟨hs0, rfl, w⟩)
theorem num_Again (n : Nat) (c : T_client_Client) (u : UM) (last i : Int) (h : IN c u last i) :
    ∃ L e c', client_Client_Again.f n c = some (L, e, c') ∧ ((e ≠ 0 ∧ IN c' u last i) ∨ (e = 0 ∧ L.Data = c'.data ∧ c'.busy = true ∧ PN c' u last i)) := by
  have hto := h.1.ci.to_
  unfold client_Client_Again.f
  by_cases hb : c.busy = true
  · have hb2 : (!c.busy) = false := by rw [hb]; rfl
    rw [hb2, if_neg (by simp)]
    have w : wi64 (c.to_ + 1) = c.to_ + 1 := wi64_id (by omega) (by omega)
    have ht : 0 ≤ (wi64 (c.to_ + 1)).tmod 7 ∧ (wi64 (c.to_ + 1)).tmod 7 ≤ 6 := by
      rw [w, Int.tmod_eq_emod_of_nonneg (by omega)]; omega
    exact ⟨letC (⟨c.id, c.session, c.seq, c.call, c.busy, c.now, c.data, (wi64 (c.to_ + 1)).tmod 7⟩ : T_client_Client), 0, _, rfl, Or.inr ⟨rfl, rfl, hb, (h.to _ ht).1⟩⟩
  · have hb2 : (!c.busy) = true := by simpa using hb
    rw [hb2, if_pos rfl]
    exact ⟨noL, 1, c, rfl, Or.inl ⟨by omega, h⟩⟩
theorem num_Give (n : Nat) (c : T_client_Client) (u : UM) (last i : Int) (h : IN c u last i) :
    ∃ e c', client_Client_Give.f n c = some (e, c') ∧ IN c' u last i := by
  unfold client_Client_Give.f
  by_cases hb : (!c.busy) = true
  · rw [if_pos hb]
    exact ⟨1, c, rfl, h⟩
  · rw [if_neg hb]
    have hs := h.1.ses
    have hq := h.1.seq
    refine ⟨0, ⟨c.id, 0, 0, c.call, false, c.now, c.data, c.to_⟩, rfl, ⟨⟨h.1.ci.id, by simp, by simp, h.1.ci.to_, (fun hh => by cases hh), h.1.ci.wf, h.1.ci.st⟩, h.1.id, ⟨by simp, by simp only; omega, by omega⟩, ⟨by simp, by simp only; omega⟩, ?_, fun hh => absurd rfl hh, (fun hh => by cases hh), (fun hh => by cases hh), (fun hh => by cases hh)⟩, (fun hh => by cases hh)⟩
    intro s q e
    obtain ⟨g1, g2, g3⟩ := h.1.u1 s q e
    exact ⟨g1, g2, fun hs' => by simp only at hs'; omega⟩
theorem num_Hear (n : Nat) (hn : 400 ≤ n) (c : T_client_Client) (u : UM) (last i : Int) (hi : i ≤ 1000000000000000) (h : IN c u last i) (x : T_api_Letter) (hx : 0 ≤ x.Commit ∧ x.Commit ≤ 18446744073709551615) (hd : x.Data.length < 1000000000000000000)
    (last' : Int) (hl : last ≤ last') (hl' : last' ≤ i + 1) (hy : ∀ y, x.Kind = 9 → tontineref16_Said.f n x.Data = some (y, 0) → y.Err = 0 → y.Num = last' ∧ last < last') :
    ∃ T b L b' c', client_Client_Hear.f n c x = some (T, b, L, b', c') ∧ ((b' = false ∧ IN c' u last' (i + 1)) ∨ (b' = true ∧ L.Data = c'.data ∧ c'.busy = true ∧ PN c' u last' (i + 1))) := by
  have hto := h.1.ci.to_
  have hs := h.1.ses
  have hq := h.1.seq
  have hm : IN c u last' (i + 1) := h.more hl (by omega) hl'
  obtain ⟨⟨y, er⟩, s1, s2, hnum⟩ := said_ok n (by omega) x.Data hd
  have none2 : ∃ T b L b' c', (some (noT, false, noL, false, c) : Option (T_api_Told × Bool × T_api_Letter × Bool × T_client_Client)) = some (T, b, L, b', c') ∧ ((b' = false ∧ IN c' u last' (i + 1)) ∨ (b' = true ∧ L.Data = c'.data ∧ c'.busy = true ∧ PN c' u last' (i + 1))) := ⟨_, _, _, _, c, rfl, Or.inl ⟨rfl, hm⟩⟩
  have p0 : client_Client_Hear.j0 n c x true = some (noT, false, noL, false, c) := rfl
  unfold client_Client_Hear.f
  by_cases hb : (!c.busy) = true
  · rw [if_pos hb, p0]; exact none2
  rw [if_neg hb]
  have hbusy : c.busy = true := by simpa using hb
  by_cases hk : (x.Kind != 9) = true
  · rw [if_pos hk, p0]; exact none2
  rw [if_neg hk]
  have hk9 : x.Kind = 9 := by simpa using hk
  by_cases ht : (x.To != wi64 (200 + c.id)) = true
  · rw [if_pos ht, p0]; exact none2
  rw [if_neg ht]
  by_cases hix : (x.Index != c.call) = true
  · rw [hix, p0]; exact none2
  have hi2 : (x.Index != c.call) = false := by simpa using hix
  rw [hi2]
  have pj : client_Client_Hear.j0 n c x false = (if (er != 0) = true then some (noT, false, noL, false, c) else if (y.Err == 30) = true then client_Client_Hear.j1 n c x (y, er) true else client_Client_Hear.j1 n c x (y, er) (y.Err == 31)) := by
    unfold client_Client_Hear.j0
    rw [if_neg (by simp), s1]
    rfl
  rw [pj]
  by_cases he : (er != 0) = true
  · rw [if_pos he]; exact none2
  rw [if_neg he]
  have he0 : er = 0 := by simpa using he
  subst he0
  have again : ∃ T b L b' c', client_Client_Hear.j1 n c x (y, 0) true = some (T, b, L, b', c') ∧ ((b' = false ∧ IN c' u last' (i + 1)) ∨ (b' = true ∧ L.Data = c'.data ∧ c'.busy = true ∧ PN c' u last' (i + 1))) := by
    have pf : client_Client_Hear.j2 n c x false = some (noT, false, noL, false, c) := rfl
    unfold client_Client_Hear.j1
    rw [if_pos rfl]
    by_cases c1 : x.Commit ≥ 1
    · rw [if_pos (show decide (x.Commit ≥ 1) = true from decide_eq_true c1)]
      by_cases c7 : x.Commit ≤ 7
      · rw [if_pos (show decide (x.Commit ≤ 7) = true from decide_eq_true c7)]
        have w1 : wi64 (wu64 (x.Commit - 1)) = x.Commit - 1 := by rw [wu64_id (by omega) (by omega), wi64_id (by omega) (by omega)]
        rw [w1]
        by_cases q : x.Commit - 1 = c.to_
        · have q1 : (x.Commit - 1 != c.to_) = false := by rw [bne_eq_false_iff_eq]; exact q
          rw [q1, pf]
          exact none2
        · have q1 : (x.Commit - 1 != c.to_) = true := by rw [bne_iff_ne]; exact q
          rw [q1]
          unfold client_Client_Hear.j2
          rw [if_pos rfl, w1]
          exact ⟨noT, false, letC (⟨c.id, c.session, c.seq, c.call, c.busy, c.now, c.data, x.Commit - 1⟩ : T_client_Client), true, _, rfl, Or.inr ⟨rfl, rfl, hbusy, (hm.to _ ⟨by omega, by omega⟩).1⟩⟩
      · rw [if_neg (show ¬ decide (x.Commit ≤ 7) = true by rw [decide_eq_true_eq]; exact c7), pf]
        exact none2
    · rw [if_neg (show ¬ decide (x.Commit ≥ 1) = true by rw [decide_eq_true_eq]; exact c1), pf]
      exact none2
  by_cases h30 : (y.Err == 30) = true
  · rw [if_pos h30]; exact again
  rw [if_neg h30]
  by_cases h31 : (y.Err == 31) = true
  · rw [h31]; exact again
  have h31' : (y.Err == 31) = false := by simpa using h31
  rw [h31']
  have fin : ∀ a b, (0 ≤ a ∧ a ≤ last') → (0 ≤ b ∧ b ≤ i + 1) → (∀ s q, (getA (⟨s, q⟩ : T_tontinelaw21_one) u).isSome = true → s = a → q ≤ b) → (a ≠ 0 → 1 ≤ b → (getA (⟨a, b⟩ : T_tontinelaw21_one) u).isSome = true) → ∃ T bb L b' c', client_Client_Hear.j3 n c (y, 0) a b = some (T, bb, L, b', c') ∧ ((b' = false ∧ IN c' u last' (i + 1)) ∨ (b' = true ∧ L.Data = c'.data ∧ c'.busy = true ∧ PN c' u last' (i + 1))) := by
    intro a b ha hb2 v1 v2
    refine ⟨⟨c.id, c.now, y⟩, true, noL, false, ⟨c.id, a, b, c.call, false, c.now, c.data, c.to_⟩, rfl, Or.inl ⟨rfl, ⟨⟨h.1.ci.id, ⟨ha.1, by simp only; omega⟩, ⟨hb2.1, by simp only; omega⟩, h.1.ci.to_, (fun hh => by cases hh), h.1.ci.wf, h.1.ci.st⟩, h.1.id, ⟨ha.1, ha.2, hl'⟩, hb2, ?_, v2, (fun hh => by cases hh), (fun hh => by cases hh), (fun hh => by cases hh)⟩, (fun hh => by cases hh)⟩⟩
    intro s q e
    obtain ⟨g1, g2, g3⟩ := h.1.u1 s q e
    exact ⟨g1, by omega, fun hs' => Or.inl (v1 s q e hs')⟩
  unfold client_Client_Hear.j1
  rw [if_neg (show ¬ (false = true) by simp)]
  by_cases k1 : (c.now.Kind == 1) = true
  · rw [if_pos k1]
    have k1' : c.now.Kind = 1 := by simpa using k1
    by_cases e0 : (y.Err == 0) = true
    · rw [if_pos e0]
      obtain ⟨y1, y2⟩ := hy y hk9 s2 (by simpa using e0)
      have y1 : (y, (0 : Int)).1.Num = last' := y1
      rw [y1]
      exact fin last' 0 (by omega) (by omega) (fun s q e hs' => by have := h.1.u1 s q e; omega) (fun _ h => by omega)
    · rw [if_neg e0]
      refine fin c.session c.seq (by omega) (by omega) (fun s q e hs' => ?_) h.1.u2
      rcases (h.1.u1 s q e).2.2 hs' with g | ⟨_, g, _⟩
      · exact g
      · exact absurd k1' g
  · rw [if_neg k1]
    have k1' : c.now.Kind ≠ 1 := by simpa using k1
    by_cases e4 : (y.Err == 40) = true
    · rw [if_pos e4]
      exact fin 0 0 (by omega) (by omega) (fun s q e hs' => by have := h.1.u1 s q e; omega) (fun hh => absurd rfl hh)
    · rw [if_neg e4]
      have w : wu64 (c.seq + 1) = c.seq + 1 := wu64_id (by omega) (by omega)
      rw [w]
      refine fin c.session (c.seq + 1) (by omega) (by omega) (fun s q e hs' => ?_) (fun _ _ => ?_)
      · rcases (h.1.u1 s q e).2.2 hs' with g | ⟨_, _, g⟩
        · omega
        · omega
      · rw [h.2 hbusy k1']; rfl
end Go.GL
