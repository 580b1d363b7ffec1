/- The law ClientNumbers, over the plain functions. -/
import Derived.Test.YtolipnnfdclkoaaXNumA
set_option linter.unusedVariables false
set_option linter.unusedSimpArgs false
set_option maxRecDepth 10000
namespace Go.GL
open Go
def wf_T_api_Entry (x : T_api_Entry) : Prop := (fun n => (Lit.int .u64 n).wf = true) x.Term ∧ (fun n => (Lit.int .u64 n).wf = true) x.Index ∧ (fun n => (Lit.int .i64 n).wf = true) x.Kind ∧ (fun l => l.length ≤ reachBytes) x.Data
def ms_T_api_Entry (x : T_api_Entry) : Nat := (fun _ => 1) x.Term + (fun _ => 1) x.Index + (fun _ => 1) x.Kind + (fun l => l.length + 1) x.Data
def wf_T_api_Letter (x : T_api_Letter) : Prop := (fun n => (Lit.int .i64 n).wf = true) x.Kind ∧ (fun n => (Lit.int .i64 n).wf = true) x.From ∧ (fun n => (Lit.int .i64 n).wf = true) x.To ∧ (fun n => (Lit.int .u64 n).wf = true) x.Term ∧ (fun n => (Lit.int .u64 n).wf = true) x.Index ∧ (fun n => (Lit.int .u64 n).wf = true) x.Prev ∧ (fun n => (Lit.int .u64 n).wf = true) x.Commit ∧ (fun _ => True) x.Ok ∧ (fun xs => xs.length * 40 ≤ reachBytes ∧ ∀ x ∈ xs, wf_T_api_Entry x) x.Entries ∧ (fun l => l.length ≤ reachBytes) x.Data
def ms_T_api_Letter (x : T_api_Letter) : Nat := (fun _ => 1) x.Kind + (fun _ => 1) x.From + (fun _ => 1) x.To + (fun _ => 1) x.Term + (fun _ => 1) x.Index + (fun _ => 1) x.Prev + (fun _ => 1) x.Commit + (fun _ => 1) x.Ok + (fun xs => (xs.map ms_T_api_Entry).sum + 1) x.Entries + (fun l => l.length + 1) x.Data
def wf_T_tontinelaw21_Call (x : T_tontinelaw21_Call) : Prop := (fun n => (Lit.int .i64 n).wf = true) x.Kind ∧ wf_T_api_Command x.Command ∧ wf_T_api_Letter x.Letter
def ms_T_tontinelaw21_Call (x : T_tontinelaw21_Call) : Nat := (fun _ => 1) x.Kind + ms_T_api_Command x.Command + ms_T_api_Letter x.Letter
theorem light_l0 (n : Nat) (cs : List T_tontinelaw21_Call) (hc : cs.length ≤ 1000000000000000) : ∀ (j k i : Nat) (a : Int), i + j = cs.length → j < k → ∃ b, tontinelaw21_light.l0 n cs k a (i : Int) = some b
  | j, 0, i, _, _, h => by omega
  | 0, k + 1, i, a, hi, _ => by
    unfold tontinelaw21_light.l0
    rw [if_neg (by rw [decide_eq_true_eq]; omega)]
    exact ⟨_, rfl⟩
  | j + 1, k + 1, i, a, hi, hk => by
    unfold tontinelaw21_light.l0
    rw [if_pos (by rw [decide_eq_true_eq]; omega), if_pos ⟨by omega, by omega⟩, wi64_id (x := (i : Int) + 1) (by omega) (by omega), show ((i : Int) + 1) = ((i + 1 : Nat) : Int) by omega]
    exact light_l0 n cs hc j k (i + 1) _ (by omega) (by omega)
theorem get_put (k a : T_tontinelaw21_one) (v : List UInt8) : ∀ u : UM, getA a (putA k v u) = if a = k then some v else getA a u
  | [] => by
    unfold putA getA getA
    rfl
  | (b, w) :: u => by
    unfold putA
    by_cases h : k = b
    · rw [if_pos h]
      subst h
      unfold getA
      by_cases h2 : a = k
      · rw [if_pos h2, if_pos h2]
      · rw [if_neg h2, if_neg h2, if_neg h2]
    · rw [if_neg h]
      unfold getA
      by_cases h3 : a = b
      · have : a ≠ k := fun q => h (q ▸ h3)
        rw [if_pos h3, if_neg this, if_pos h3]
      · rw [if_neg h3, if_neg h3]
        exact get_put k a v u
abbrev LN := Int → Int → Int → Int → Bool → Int → Int → Int → Int → (List T_api_Step) → Int → Bool → Int → Bool → Int → (List UInt8) → Int → UM → Int → Int → Option Bool
def atN (L : LN) (c : T_client_Client) (u : UM) (last x : Int) : Option Bool := L c.id c.session c.seq c.call c.busy c.now.Kind c.now.Session c.now.Seq c.now.Saga c.now.Steps c.now.Step c.now.Back c.now.Try c.now.Ok c.now.Now c.data c.to_ u last x
theorem sent (n : Nat) (hn : 400 ≤ n) (L : LN) (c : T_client_Client) (u : UM) (last i x : Int) (hi : i ≤ 1000000000000000) (h : PN c u last i) (hb : c.busy = true) (l1 l2 l3 l4 l5 l6 l7 : Int) (l8 : Bool) (l9 : List T_api_Entry) (D : List UInt8) (hD : D = c.data) :
    ∃ u', IN c u' last i ∧ tontinelaw21_ClientNumbers.j2 n L u x c.id c.session c.seq c.call c.busy c.now.Kind c.now.Session c.now.Seq c.now.Saga c.now.Steps c.now.Step c.now.Back c.now.Try c.now.Ok c.now.Now c.data c.to_ last l1 l2 l3 l4 l5 l6 l7 l8 l9 D 0 = atN L c u' last (wi64 (x + 1)) := by
  subst hD
  have hs := h.ses
  have hq := h.seq
  have ho := h.ci.data hb
  have hm : mayB c.now = true ∧ encC c.now = c.data := by
    unfold outC at ho
    split at ho
    · simp at ho
    · split at ho
      · rename_i h2; exact ⟨h2, (Prod.mk.inj ho).1⟩
      · simp at ho
  have hd := back_r n hn c.now h.ci.wf hm.1
  rw [hm.2] at hd
  have hnow := h.now hb
  unfold tontinelaw21_ClientNumbers.j2
  rw [if_neg (by simp), hd, Option.bind_some, if_neg (by simp), if_neg (by simp [hnow])]
  by_cases hk : c.now.Kind = 1
  · have hr := h.reg hb hk
    refine ⟨u, ⟨h, fun _ k => absurd hk k⟩, ?_⟩
    unfold tontinelaw21_ClientNumbers.j3
    rw [if_neg (by simp [hk, hr]), if_pos (by simp [hr])]
    rfl
  · obtain ⟨r0, r1, r2, r3⟩ := h.com hb hk
    have e0 : (c.now.Kind == 1) = false := by rw [beq_eq_false_iff_ne]; exact hk
    have e1 : (c.now.Seq == 0) = false := by rw [beq_eq_false_iff_ne]; omega
    have w : wu64 (c.seq + 1 - 1) = c.seq := by rw [wu64_id (by omega) (by omega)]; omega
    have hne : ∀ s q, ¬ ((⟨s, q⟩ : T_tontinelaw21_one) = ⟨c.session, c.seq + 1⟩) ↔ ¬ (s = c.session ∧ q = c.seq + 1) := fun s q => by rw [T_tontinelaw21_one.mk.injEq]
    have hp : IN c (putA ⟨c.session, c.seq + 1⟩ c.data u) last i := by
      refine ⟨⟨h.ci, h.id, h.ses, h.seq, ?_, ?_, h.now, h.reg, fun _ _ => ⟨r0, r1, r2, Or.inr ?_⟩⟩, fun _ _ => ?_⟩
      · intro s q e
        rw [get_put] at e
        by_cases hh : s = c.session ∧ q = c.seq + 1
        · exact ⟨by omega, by omega, fun _ => Or.inr ⟨hb, hk, hh.2⟩⟩
        · rw [if_neg ((hne s q).2 hh)] at e
          exact h.u1 s q e
      · intro q1 q2
        rw [get_put]
        split
        · rfl
        · exact h.u2 q1 q2
      · rw [get_put, if_pos rfl]
      · rw [get_put, if_pos rfl]
    refine ⟨_, hp, ?_⟩
    have h4 : tontinelaw21_ClientNumbers.j4 n L u x c.id c.session c.seq c.call c.busy c.now.Kind c.now.Session c.now.Seq c.now.Saga c.now.Steps c.now.Step c.now.Back c.now.Try c.now.Ok c.now.Now c.data c.to_ last c.data (c.now, 0) false = atN L c (putA ⟨c.session, c.seq + 1⟩ c.data u) last (wi64 (x + 1)) := by
      unfold tontinelaw21_ClientNumbers.j4
      rw [if_neg (by simp)]
      have f1 : (c.now, (0 : Int)).1.Session = c.session := r1
      have f2 : (c.now, (0 : Int)).1.Seq = c.seq + 1 := r2
      rw [f1, f2, w]
      by_cases h1 : 1 ≤ c.seq
      · have : (getA (⟨c.session, c.seq⟩ : T_tontinelaw21_one) (putA ⟨c.session, c.seq + 1⟩ c.data u)).isSome = true := hp.1.u2 r0 h1
        rw [this, if_neg (by simp)]
        unfold atN
        rw [r1, r2]
      · split
        · rw [if_neg (by rw [decide_eq_true_eq]; omega)]
          unfold atN
          rw [r1, r2]
        · unfold atN
          rw [r1, r2]
    unfold tontinelaw21_ClientNumbers.j3
    have f1 : (c.now, (0 : Int)).1.Session = c.session := r1
    have f2 : (c.now, (0 : Int)).1.Seq = c.seq + 1 := r2
    have f3 : (c.now, (0 : Int)).1.Kind = c.now.Kind := rfl
    have e1' : (c.seq + 1 == 0) = false := by rw [← r2]; exact e1
    rw [f1, f2, f3, e0, e1']
    simp only [beq_self_eq_true, Bool.not_true, Bool.false_eq_true, if_false]
    rw [r1, r2] at h4
    rcases r3 with r3 | r3
    · rw [r3]
      simp only [Option.isSome_none, Bool.false_eq_true, if_false]
      exact h4
    · rw [r3]
      simp only [Option.isSome_some, if_true, Option.getD_some, beq_self_eq_true, Bool.not_true]
      exact h4
theorem skip (n : Nat) (L : LN) (c : T_client_Client) (u : UM) (last x : Int) (l1 l2 l3 l4 l5 l6 l7 : Int) (l8 : Bool) (l9 : List T_api_Entry) (d : List UInt8) (e : Int) (he : e ≠ 0) :
    tontinelaw21_ClientNumbers.j2 n L u x c.id c.session c.seq c.call c.busy c.now.Kind c.now.Session c.now.Seq c.now.Saga c.now.Steps c.now.Step c.now.Back c.now.Try c.now.Ok c.now.Now c.data c.to_ last l1 l2 l3 l4 l5 l6 l7 l8 l9 d e = atN L c u last (wi64 (x + 1)) := by
  unfold tontinelaw21_ClientNumbers.j2
  rw [if_pos (by rw [bne_iff_ne]; exact he)]
  rfl
theorem said_rng (n : Nat) (hn : 20 ≤ n) (s : List UInt8) (hs : s.length < 1000000000000000000) : ∃ r, tontineref16_Said.f n s = some r ∧ 0 ≤ r.1.Extra ∧ r.1.Extra ≤ 18446744073709551615 := by
  unfold tontineref16_Said.f
  obtain ⟨a1, t1, b1, e1, e1', l1⟩ := both_Up hn s false hs 52
  rw [e1', Option.bind_some]
  obtain ⟨a2, t2, b2, e2, e2', l2, u0, u1⟩ := num_ok hn t1 b1 (by omega)
  rw [e2', Option.bind_some]
  obtain ⟨a3, t3, b3, e3, e3', l3, v0, v1⟩ := num_ok hn t2 b2 (by omega)
  rw [e3', Option.bind_some]
  simp only
  cases b3
  · rw [if_neg (by simp)]
    split
    · exact ⟨_, rfl, by simp, by simp⟩
    · exact ⟨_, rfl, v0, v1⟩
  · rw [if_pos rfl]
    exact ⟨_, rfl, by simp, by simp⟩
theorem ans_said (n : Nat) (hn : 200 ≤ n) (a b : Int) (ha : 0 ≤ a ∧ a ≤ 18446744073709551615) (hb : 0 ≤ b ∧ b ≤ 18446744073709551615) :
    ∃ D, tontineref16_Answer.f n (⟨0, a, b⟩ : T_api_Reply) = some D ∧ D.length ≤ 30 ∧ tontineref16_Said.f n D = some (⟨0, a, b⟩, 0) := by
  have w0 : wu64 (if (0 : Int) > 0 then 0 else 0) = 0 := by rw [if_neg (by omega)]; rfl
  have z1 := enc_length 0
  have z2 := enc_length a.toNat
  have z3 := enc_length b.toNat
  refine ⟨enc 0 ++ (enc a.toNat ++ enc b.toNat), ?_, by simp only [List.length_append]; omega, ?_⟩
  · unfold tontineref16_Answer.f
    simp only
    rw [w0, nums_f n _ (by simp <;> omega) (by simp) (by intro x hx; simp only [List.mem_cons, List.mem_nil_iff, or_false] at hx; rcases hx with rfl | rfl | rfl <;> omega), Option.bind_some]
    simp [encN]
  · unfold tontineref16_Said.f
    have g3 := r_enc (n := n) (by omega) (x := b.toNat) (by omega) [] false (by simp)
    rw [List.append_nil] at g3
    rw [r_up (by omega) (by omega) _ false (by simp only [List.length_append]; omega) (by omega) (by omega), Option.bind_some]
    simp only
    rw [r_enc (by omega) (by omega) _ false (by omega), Option.bind_some]
    simp only
    rw [g3, Option.bind_some]
    have x2 : (a.toNat : Int) = a := by omega
    have x3 : (b.toNat : Int) = b := by omega
    simp only [x2, x3]
    rfl
theorem hear5 (n : Nat) (hn : 400 ≤ n) (L : LN) (cs : List T_tontinelaw21_Call) (c : T_client_Client) (u : UM) (last i x : Int) (hi : i ≤ 100000000000000) (h : IN c u last i)
    (hx : 0 ≤ (rdL cs x).Letter.Commit ∧ (rdL cs x).Letter.Commit ≤ 18446744073709551615) (D : List UInt8) (hd : D.length < 1000000000000000000) (last' : Int) (hl : last ≤ last') (hl' : last' ≤ i + 1)
    (hy : ∀ y, (rdL cs x).Letter.Kind = 9 → tontineref16_Said.f n D = some (y, 0) → y.Err = 0 → y.Num = last' ∧ last < last') :
    ∃ c' u', IN c' u' last' (i + 1) ∧ tontinelaw21_ClientNumbers.j5 n L cs c.id c.session c.seq c.call c.busy c.now.Kind c.now.Session c.now.Seq c.now.Saga c.now.Steps c.now.Step c.now.Back c.now.Try c.now.Ok c.now.Now c.data c.to_ u x last' D = atN L c' u' last' (wi64 (x + 1)) := by
  obtain ⟨T, b, l, b', c', e1, e2⟩ := num_Hear n hn c u last i (by omega) h (⟨(rdL cs x).Letter.Kind, (rdL cs x).Letter.From, (rdL cs x).Letter.To, (rdL cs x).Letter.Term, (rdL cs x).Letter.Index, (rdL cs x).Letter.Prev, (rdL cs x).Letter.Commit, (rdL cs x).Letter.Ok, (rdL cs x).Letter.Entries, D⟩ : T_api_Letter) hx hd last' hl hl' hy
  unfold tontinelaw21_ClientNumbers.j5
  have e1 : client_Client_Hear.f n (⟨c.id, c.session, c.seq, c.call, c.busy, (⟨c.now.Kind, c.now.Session, c.now.Seq, c.now.Saga, c.now.Steps, c.now.Step, c.now.Back, c.now.Try, c.now.Ok, c.now.Now⟩ : T_api_Command), c.data, c.to_⟩ : T_client_Client) (⟨(rdL cs x).Letter.Kind, (rdL cs x).Letter.From, (rdL cs x).Letter.To, (rdL cs x).Letter.Term, (rdL cs x).Letter.Index, (rdL cs x).Letter.Prev, (rdL cs x).Letter.Commit, (rdL cs x).Letter.Ok, (rdL cs x).Letter.Entries, D⟩ : T_api_Letter) = some (T, b, l, b', c') := e1
  rw [e1, Option.bind_some]
  simp only
  rcases e2 with ⟨rfl, h'⟩ | ⟨rfl, hD, hb, h'⟩
  · rw [if_neg (by simp)]
    exact ⟨c', u, h', skip n L c' u last' x _ _ _ _ _ _ _ _ _ _ 1 (by omega)⟩
  · rw [if_pos rfl]
    obtain ⟨u', g1, g2⟩ := sent n hn L c' u last' (i + 1) x (by omega) h' hb l.Kind l.From l.To l.Term l.Index l.Prev l.Commit l.Ok l.Entries l.Data hD
    exact ⟨c', u', g1, g2⟩
theorem nums_l1 (n : Nat) (cs : List T_tontinelaw21_Call) (hc : ∀ x ∈ cs, wf_T_tontinelaw21_Call x) (hl : cs.length ≤ 10000000000000) (hn : ∀ x ∈ cs, x.Command.Steps.length + 400 < n) (hn0 : 400 ≤ n) : ∀ (j k i : Nat) (c : T_client_Client) (u : UM) (last : Int), IN c u last i → i + j = cs.length → j < k →
    atN (tontinelaw21_ClientNumbers.l1 n cs k) c u last (i : Int) = some true
  | j, 0, i, _, _, _, _, _, h => by omega
  | 0, k + 1, i, c, u, last, h, hi, _ => by
    unfold atN tontinelaw21_ClientNumbers.l1
    rw [if_neg (by rw [decide_eq_true_eq]; omega)]
  | j + 1, k + 1, i, c, u, last, h, hi, hk => by
    have hm : rdL cs (i : Int) ∈ cs := rdL_mem (by omega)
    have hw := hc _ hm
    have w1 : wi64 ((i : Int) + 1) = ((i + 1 : Nat) : Int) := by rw [wi64_id (by omega) (by omega)]; omega
    have hcast : ((i + 1 : Nat) : Int) = (i : Int) + 1 := by omega
    have ih := fun c' u' last' (h' : IN c' u' last' ((i : Int) + 1)) => nums_l1 n cs hc hl hn hn0 j k (i + 1) c' u' last' (hcast ▸ h') (by omega) (by omega)
    have hs := h.1.ses
    have hmr : ∀ {c' u'}, IN c' u' last (i : Int) → IN c' u' last ((i : Int) + 1) := fun h' => h'.more (by omega) (by omega) (by omega)
    unfold atN tontinelaw21_ClientNumbers.l1
    rw [if_pos (by rw [decide_eq_true_eq]; omega), if_pos ⟨by omega, by omega⟩]
    split
    · obtain ⟨L, e, c', e1, e2⟩ := num_Call n c u last i (by omega) h (rdL cs (i : Int)).Command hw.2.1 (hn _ hm)
      have e1 : client_Client_Call.f n (⟨c.id, c.session, c.seq, c.call, c.busy, (⟨c.now.Kind, c.now.Session, c.now.Seq, c.now.Saga, c.now.Steps, c.now.Step, c.now.Back, c.now.Try, c.now.Ok, c.now.Now⟩ : T_api_Command), c.data, c.to_⟩ : T_client_Client) (⟨(rdL cs (i : Int)).Command.Kind, (rdL cs (i : Int)).Command.Session, (rdL cs (i : Int)).Command.Seq, (rdL cs (i : Int)).Command.Saga, (rdL cs (i : Int)).Command.Steps, (rdL cs (i : Int)).Command.Step, (rdL cs (i : Int)).Command.Back, (rdL cs (i : Int)).Command.Try, (rdL cs (i : Int)).Command.Ok, (rdL cs (i : Int)).Command.Now⟩ : T_api_Command) = some (L, e, c') := e1
      rw [e1, Option.bind_some]
      rcases e2 with ⟨he, h'⟩ | ⟨rfl, hD, hb, h'⟩
      · refine (skip n _ c' u last _ _ _ _ _ _ _ _ _ _ _ e he).trans ?_
        rw [w1]
        exact ih c' u last (hmr h')
      · obtain ⟨u', g1, g2⟩ := sent n hn0 (tontinelaw21_ClientNumbers.l1 n cs k) c' u last i (i : Int) (by omega) h' hb L.Kind L.From L.To L.Term L.Index L.Prev L.Commit L.Ok L.Entries L.Data hD
        refine g2.trans ?_
        rw [w1]
        exact ih c' u' last (hmr g1)
    split
    · obtain ⟨L, e, c', e1, e2⟩ := num_Again n c u last i h
      have e1 : client_Client_Again.f n (⟨c.id, c.session, c.seq, c.call, c.busy, (⟨c.now.Kind, c.now.Session, c.now.Seq, c.now.Saga, c.now.Steps, c.now.Step, c.now.Back, c.now.Try, c.now.Ok, c.now.Now⟩ : T_api_Command), c.data, c.to_⟩ : T_client_Client) = some (L, e, c') := e1
      rw [e1, Option.bind_some]
      rcases e2 with ⟨he, h'⟩ | ⟨rfl, hD, hb, h'⟩
      · refine (skip n _ c' u last _ _ _ _ _ _ _ _ _ _ _ e he).trans ?_
        rw [w1]
        exact ih c' u last (hmr h')
      · obtain ⟨u', g1, g2⟩ := sent n hn0 (tontinelaw21_ClientNumbers.l1 n cs k) c' u last i (i : Int) (by omega) h' hb L.Kind L.From L.To L.Term L.Index L.Prev L.Commit L.Ok L.Entries L.Data hD
        refine g2.trans ?_
        rw [w1]
        exact ih c' u' last (hmr g1)
    split
    · have hx := wf_u64 hw.2.2.2.2.2.2.2.2.1
      have hd : (rdL cs (i : Int)).Letter.Data.length < 1000000000000000000 := by have := hw.2.2.2.2.2.2.2.2.2.2.2; unfold reachBytes at this; omega
      have go : ∀ (D : List UInt8) (last' : Int), D.length < 1000000000000000000 → last ≤ last' → last' ≤ (i : Int) + 1 → (∀ y, (rdL cs (i : Int)).Letter.Kind = 9 → tontineref16_Said.f n D = some (y, 0) → y.Err = 0 → y.Num = last' ∧ last < last') → tontinelaw21_ClientNumbers.j5 n (tontinelaw21_ClientNumbers.l1 n cs k) cs c.id c.session c.seq c.call c.busy c.now.Kind c.now.Session c.now.Seq c.now.Saga c.now.Steps c.now.Step c.now.Back c.now.Try c.now.Ok c.now.Now c.data c.to_ u (i : Int) last' D = some true := by
        intro D last' hD a b hy
        obtain ⟨c', u', g1, g2⟩ := hear5 n hn0 (tontinelaw21_ClientNumbers.l1 n cs k) cs c u last i (i : Int) (by omega) h hx D hD last' a b hy
        rw [g2, w1]
        exact ih c' u' last' g1
      split
      · rename_i h9
        have h9 : (rdL cs (i : Int)).Letter.Kind = 9 := by simpa using h9
        obtain ⟨⟨y, er⟩, s2, v0, v1⟩ := said_rng n (by omega) (rdL cs (i : Int)).Letter.Data hd
        rw [s2, Option.bind_some]
        simp only
        by_cases he : (er == 0) = true
        · rw [if_pos he]
          have he : er = 0 := by simpa using he
          subst he
          unfold tontinelaw21_ClientNumbers.j6
          by_cases e0 : (y.Err == 0) = true
          · rw [if_pos e0]
            have e0 : y.Err = 0 := by simpa using e0
            have w : wu64 (last + 1) = last + 1 := wu64_id (by omega) (by omega)
            obtain ⟨D, d1, d2, d3⟩ := ans_said n (by omega) (last + 1) y.Extra (by omega) ⟨v0, v1⟩
            rw [w, e0, d1, Option.bind_some]
            refine go D (last + 1) (by omega) (by omega) (by omega) (fun y' _ q1 q2 => ?_)
            rw [d3] at q1
            have := (Prod.mk.inj (Option.some.inj q1)).1
            subst this
            exact ⟨rfl, by omega⟩
          · rw [if_neg e0]
            refine go _ last hd (by omega) (by omega) (fun y' _ q1 q2 => ?_)
            rw [s2] at q1
            have := (Prod.mk.inj (Option.some.inj q1)).1
            subst this
            exact absurd (by simpa using q2) e0
        · rw [if_neg he]
          unfold tontinelaw21_ClientNumbers.j6
          rw [if_neg (by simp)]
          refine go _ last hd (by omega) (by omega) (fun y' _ q1 q2 => ?_)
          rw [s2] at q1
          have := (Prod.mk.inj (Option.some.inj q1)).2
          exact absurd (by rw [this]; rfl) he
      · rename_i h9
        exact go _ last hd (by omega) (by omega) (fun y' q _ _ => absurd (by rw [q]; rfl) h9)
    · obtain ⟨e, c', e1, h'⟩ := num_Give n c u last i h
      have e1 : client_Client_Give.f n (⟨c.id, c.session, c.seq, c.call, c.busy, (⟨c.now.Kind, c.now.Session, c.now.Seq, c.now.Saga, c.now.Steps, c.now.Step, c.now.Back, c.now.Try, c.now.Ok, c.now.Now⟩ : T_api_Command), c.data, c.to_⟩ : T_client_Client) = some (e, c') := e1
      rw [e1, Option.bind_some]
      refine (skip n _ c' u last _ _ _ _ _ _ _ _ _ _ _ 1 (by omega)).trans ?_
      rw [w1]
      exact ih c' u last (hmr h')
theorem le_sum : ∀ (l : List Nat) (x : Nat), x ∈ l → x ≤ l.sum
  | [], x, h => by cases h
  | y :: l, x, h => by
    simp only [List.sum_cons]
    rcases List.mem_cons.1 h with h | h
    · omega
    · have := le_sum l x h; omega
theorem tontinelaw21_ClientNumbers_law (cs : List T_tontinelaw21_Call) (h2 : cs.length * 208 ≤ reachBytes ∧ ∀ x ∈ cs, wf_T_tontinelaw21_Call x) : Ev (fun n => tontinelaw21_ClientNumbers.f n cs) true := by
  refine Ev.ge (3000 + cs.length + (cs.map fun x => x.Command.Steps.length).sum) fun n hn => ?_
  have hl : cs.length ≤ 10000000000000 := by have := h2.1; unfold reachBytes at this; omega
  unfold tontinelaw21_ClientNumbers.f
  rw [begun21 n (by omega), Option.bind_some, if_neg (by simp)]
  obtain ⟨b, hb⟩ := light_l0 n cs (by omega) cs.length n 0 (cs.length : Int) (by omega) (by omega)
  have hb : tontinelaw21_light.f n cs = some b := hb
  rw [hb, Option.bind_some]
  cases b
  · rfl
  rw [if_neg (by simp)]
  have hnew : client_New.f n 0 = some (some (⟨0, 0, 0, 0, false, ⟨0, 0, 0, 0, [], 0, false, 0, false, 0⟩, [], 0⟩ : T_client_Client), 0) := rfl
  rw [hnew, Option.bind_some]
  have hi : CI (⟨0, 0, 0, 0, false, ⟨0, 0, 0, 0, [], 0, false, 0, false, 0⟩, [], 0⟩ : T_client_Client) := ⟨by simp, by simp, by simp, by simp, (fun hh => by cases hh), ⟨by rfl, by rfl, by rfl, by rfl, ⟨by simp, by simp⟩, by rfl, trivial, by rfl, trivial, by rfl⟩, by simp⟩
  refine nums_l1 n cs h2.2 hl (fun x hx => by have := le_sum _ _ (List.mem_map_of_mem (f := fun x : T_tontinelaw21_Call => x.Command.Steps.length) hx); omega) (by omega) cs.length n 0 (⟨0, 0, 0, 0, false, ⟨0, 0, 0, 0, [], 0, false, 0, false, 0⟩, [], 0⟩ : T_client_Client) [] 0 ?_ (by omega) (by omega)
  refine ⟨⟨hi, rfl, by simp, by simp, ?_, fun hh => absurd rfl hh, (fun hh => by cases hh), (fun hh => by cases hh), (fun hh => by cases hh)⟩, (fun hh => by cases hh)⟩
  intro s q e
  simp [getA] at e
end Go.GL
