/- Clients: the program's and the reference's answer alike, call by call. No condition but the bounds named. -/
import Derived.Test.YtolipnnfdclkoaaCEnc
import Derived.Test.YtolipnnfdclkoaaCBoth
set_option linter.unusedVariables false
set_option linter.unusedSimpArgs false
set_option maxRecDepth 10000
namespace Go.GL
open Go
theorem wf_u64_of {n : Int} (h : 0 ≤ n ∧ n ≤ 18446744073709551615) : (Lit.int .u64 n).wf = true := by
  simp [Lit.wf, IntKind.min, IntKind.max, IntKind.bits, IntKind.signed]; omega
theorem wu64_in (x : Int) : 0 ≤ wu64 x ∧ wu64 x ≤ 18446744073709551615 := wu64_range x
/-- The reference's client. -/
def refC (c : T_client_Client) : T_tontineref21_Client := ⟨c.id, c.session, c.seq, c.call, c.busy, c.now, c.to_⟩
/-- What holds of every client. -/
structure CI (c : T_client_Client) : Prop where
  id : 0 ≤ c.id ∧ c.id < 4
  ses : 0 ≤ c.session ∧ c.session ≤ 18446744073709551615
  seq : 0 ≤ c.seq ∧ c.seq ≤ 18446744073709551615
  to_ : 0 ≤ c.to_ ∧ c.to_ ≤ 6
  data : c.busy = true → outC c.now = (c.data, 0)
  wf : wf_T_api_Command c.now
  st : c.now.Steps.length ≤ 64
theorem out_len {c : T_api_Command} {D : List UInt8} (h : outC c = (D, 0)) : c.Steps.length ≤ 64 := by
  unfold outC at h
  split at h
  · simp at h
  · rename_i h1
    split at h
    · rename_i h2
      unfold mayB at h2
      split at h2
      · simp only [Bool.and_eq_true, beq_iff_eq] at h2; omega
      · split at h2
        · simp only [Bool.and_eq_true] at h2; exact (chk_iff h2.1).2.1
        · split at h2
          · simp only [Bool.and_eq_true, beq_iff_eq] at h2; omega
          · cases h2
    · simp at h
def letC (c : T_client_Client) : T_api_Letter := ⟨8, wi64 (200 + c.id), c.to_, 0, c.call, 0, 0, false, [], c.data⟩
def noL : T_api_Letter := ⟨0, 0, 0, 0, 0, 0, 0, false, [], []⟩
theorem p_letter (n : Nat) (c : T_client_Client) : client_Client_letter.f n c = some (letC c) := rfl
theorem r_letter (n : Nat) (c : T_client_Client) (hs : c.now.Steps.length + 300 < n) (hw : wf_T_api_Command c.now) (h : outC c.now = (c.data, 0)) : tontineref21_Client_letter.f n (refC c) = some (letC c) := by
  unfold tontineref21_Client_letter.f
  have e : tontineref16_Encode.f n ⟨(refC c).Now.Kind, (refC c).Now.Session, (refC c).Now.Seq, (refC c).Now.Saga, (refC c).Now.Steps, (refC c).Now.Step, (refC c).Now.Back, (refC c).Now.Try, (refC c).Now.Ok, (refC c).Now.Now⟩ = some (outC c.now) := r_Encode n c.now hs hw
  rw [e, Option.bind_some, h]
  rfl
/-- What a call of a command comes to, for both. -/
theorem both_Call (n : Nat) (c : T_client_Client) (h : CI c) (x : T_api_Command) (hx : wf_T_api_Command x) (hn : x.Steps.length + 400 < n) :
    ∃ L e c', CI c' ∧ L.Entries = [] ∧ client_Client_Call.f n c x = some (L, e, c') ∧ tontineref21_Client_Call.f n (refC c) x = some (L, e, refC c') := by
  obtain ⟨x1, x2, x3, x4, x5, x6, x7, x8, x9, x10⟩ := hx
  have hj : ∀ a b, (0 ≤ a ∧ a ≤ 18446744073709551615) → (0 ≤ b ∧ b ≤ 18446744073709551615) → x.Kind ≠ 4 → ∃ L e c', CI c' ∧ L.Entries = [] ∧ client_Client_Call.j1 n c x a b = some (L, e, c') ∧ tontineref21_Client_Call.j1 n (refC c) x a b = some (L, e, refC c') := by
    intro a b ha hb h4
    have hw : wf_T_api_Command ⟨x.Kind, a, b, x.Saga, x.Steps, x.Step, x.Back, x.Try, x.Ok, 0⟩ := ⟨x1, wf_u64_of ha, wf_u64_of hb, x4, x5, x6, x7, x8, x9, wf_u64_of (n := 0) (by omega)⟩
    have e1 := p_Encode n ⟨x.Kind, a, b, x.Saga, x.Steps, x.Step, x.Back, x.Try, x.Ok, 0⟩ (by show x.Steps.length + 300 < n; omega) hw
    have e2 := r_Encode n ⟨x.Kind, a, b, x.Saga, x.Steps, x.Step, x.Back, x.Try, x.Ok, 0⟩ (by show x.Steps.length + 300 < n; omega) hw
    unfold client_Client_Call.j1 tontineref21_Client_Call.j1
    rw [if_neg (by rw [beq_iff_eq]; exact h4), e1, e2, Option.bind_some, Option.bind_some]
    generalize ho : outC ⟨x.Kind, a, b, x.Saga, x.Steps, x.Step, x.Back, x.Try, x.Ok, 0⟩ = o
    obtain ⟨D, er⟩ := o
    by_cases her : er = 0
    · subst her
      have hc' : CI (⟨c.id, c.session, c.seq, wu64 (c.call + 1), true, ⟨x.Kind, a, b, x.Saga, x.Steps, x.Step, x.Back, x.Try, x.Ok, 0⟩, D, c.to_⟩ : T_client_Client) := ⟨h.id, h.ses, h.seq, h.to_, fun _ => ho, hw, out_len ho⟩
      have el := r_letter n (⟨c.id, c.session, c.seq, wu64 (c.call + 1), true, ⟨x.Kind, a, b, x.Saga, x.Steps, x.Step, x.Back, x.Try, x.Ok, 0⟩, D, c.to_⟩ : T_client_Client) (by show x.Steps.length + 300 < n; omega) hw ho
      have el : tontineref21_Client_letter.f n (⟨(refC c).Id, (refC c).Session, (refC c).Last, wu64 ((refC c).Calls + 1), true, (⟨x.Kind, a, b, x.Saga, x.Steps, x.Step, x.Back, x.Try, x.Ok, 0⟩ : T_api_Command), (refC c).To⟩ : T_tontineref21_Client) = some (letC (⟨c.id, c.session, c.seq, wu64 (c.call + 1), true, ⟨x.Kind, a, b, x.Saga, x.Steps, x.Step, x.Back, x.Try, x.Ok, 0⟩, D, c.to_⟩ : T_client_Client)) := el
      refine ⟨letC (⟨c.id, c.session, c.seq, wu64 (c.call + 1), true, ⟨x.Kind, a, b, x.Saga, x.Steps, x.Step, x.Back, x.Try, x.Ok, 0⟩, D, c.to_⟩ : T_client_Client), 0, _, hc', rfl, ?_, ?_⟩
      · rw [if_neg (by simp)]; rfl
      · rw [if_neg (by simp), el]; rfl
    · have hb : (er != 0) = true := by rw [bne_iff_ne]; exact her
      refine ⟨noL, er, c, h, rfl, ?_, ?_⟩
      · simp only; rw [hb]; rfl
      · simp only; rw [hb]; rfl
  have same : ∀ e : Int, ∃ L e' c', CI c' ∧ L.Entries = [] ∧ (some (noL, e, c) : Option (T_api_Letter × Int × T_client_Client)) = some (L, e', c') ∧ (some (noL, e, refC c) : Option (T_api_Letter × Int × T_tontineref21_Client)) = some (L, e', refC c') := fun e => ⟨_, _, c, h, rfl, rfl, rfl⟩
  unfold client_Client_Call.f tontineref21_Client_Call.f
  have eb : (refC c).Busy = c.busy := rfl
  rw [eb]
  by_cases hb : c.busy = true
  · rw [if_pos hb, if_pos hb]
    exact same 31
  rw [if_neg hb, if_neg hb]
  unfold client_Client_Call.j0 tontineref21_Client_Call.j0
  by_cases h1 : x.Kind = 1
  · have k1 : (x.Kind != 1) = false := by rw [h1]; rfl
    have k4 : (x.Kind == 4) = false := by rw [h1]; rfl
    simp only [k1, k4]
    exact hj 0 0 (by omega) (by omega) (by omega)
  · have k1 : (x.Kind != 1) = true := by rw [bne_iff_ne]; exact h1
    have es : (refC c).Session = c.session := rfl
    simp only [k1, es]
    by_cases hs : c.session = 0
    · have k2 : (c.session == 0) = true := by rw [beq_iff_eq]; exact hs
      simp only [k2]
      exact same 40
    · have k2 : (c.session == 0) = false := by rw [beq_eq_false_iff_ne]; exact hs
      simp only [k2]
      by_cases h4 : x.Kind = 4
      · have k4 : (x.Kind == 4) = true := by rw [beq_iff_eq]; exact h4
        unfold client_Client_Call.j1
        simp only [k4]
        exact same 1
      · have k4 : (x.Kind == 4) = false := by rw [beq_eq_false_iff_ne]; exact h4
        simp only [k4]
        exact hj c.session (wu64 (c.seq + 1)) h.ses (wu64_in _) h4
theorem both_Again (n : Nat) (hn : 400 ≤ n) (c : T_client_Client) (h : CI c) :
    ∃ L e c', CI c' ∧ L.Entries = [] ∧ client_Client_Again.f n c = some (L, e, c') ∧ tontineref21_Client_Again.f n (refC c) = some (L, e, refC c') := by
  have hto := h.to_
  unfold client_Client_Again.f tontineref21_Client_Again.f
  have eb : (refC c).Busy = c.busy := rfl
  have et : (refC c).To = c.to_ := rfl
  rw [eb, et]
  by_cases hb : c.busy = true
  · have hb2 : (!c.busy) = false := by rw [hb]; rfl
    have w : wi64 (c.to_ + 1) = c.to_ + 1 := wi64_id (by omega) (by omega)
    rw [hb2, if_neg (by simp), if_neg (by simp), w]
    have hst := h.st
    by_cases h7 : c.to_ + 1 = 7
    · have k : (c.to_ + 1 == 7) = true := by rw [beq_iff_eq]; exact h7
      have hm : (c.to_ + 1).tmod 7 = 0 := by rw [h7]; rfl
      have hc' : CI (⟨c.id, c.session, c.seq, c.call, c.busy, c.now, c.data, 0⟩ : T_client_Client) := ⟨h.id, h.ses, h.seq, by simp, h.data, h.wf, h.st⟩
      have el := r_letter n (⟨c.id, c.session, c.seq, c.call, c.busy, c.now, c.data, 0⟩ : T_client_Client) (by show c.now.Steps.length + 300 < n; omega) h.wf (h.data hb)
      rw [hm, k, if_pos rfl]
      refine ⟨letC (⟨c.id, c.session, c.seq, c.call, c.busy, c.now, c.data, 0⟩ : T_client_Client), 0, _, hc', rfl, rfl, ?_⟩
      have el : tontineref21_Client_letter.f n (⟨(refC c).Id, (refC c).Session, (refC c).Last, (refC c).Calls, c.busy, (⟨(refC c).Now.Kind, (refC c).Now.Session, (refC c).Now.Seq, (refC c).Now.Saga, (refC c).Now.Steps, (refC c).Now.Step, (refC c).Now.Back, (refC c).Now.Try, (refC c).Now.Ok, (refC c).Now.Now⟩ : T_api_Command), 0⟩ : T_tontineref21_Client) = _ := el
      rw [el]
      rfl
    · have k : (c.to_ + 1 == 7) = false := by rw [beq_eq_false_iff_ne]; exact h7
      have hm : (c.to_ + 1).tmod 7 = c.to_ + 1 := Int.tmod_eq_of_lt (by omega) (by omega)
      have hc' : CI (⟨c.id, c.session, c.seq, c.call, c.busy, c.now, c.data, c.to_ + 1⟩ : T_client_Client) := ⟨h.id, h.ses, h.seq, by simp only; omega, h.data, h.wf, h.st⟩
      have el := r_letter n (⟨c.id, c.session, c.seq, c.call, c.busy, c.now, c.data, c.to_ + 1⟩ : T_client_Client) (by show c.now.Steps.length + 300 < n; omega) h.wf (h.data hb)
      rw [hm, k, if_neg (by simp)]
      refine ⟨letC (⟨c.id, c.session, c.seq, c.call, c.busy, c.now, c.data, c.to_ + 1⟩ : T_client_Client), 0, _, hc', rfl, rfl, ?_⟩
      have el : tontineref21_Client_letter.f n (⟨(refC c).Id, (refC c).Session, (refC c).Last, (refC c).Calls, c.busy, (⟨(refC c).Now.Kind, (refC c).Now.Session, (refC c).Now.Seq, (refC c).Now.Saga, (refC c).Now.Steps, (refC c).Now.Step, (refC c).Now.Back, (refC c).Now.Try, (refC c).Now.Ok, (refC c).Now.Now⟩ : T_api_Command), c.to_ + 1⟩ : T_tontineref21_Client) = _ := el
      rw [el]
      rfl
  · have hb2 : (!c.busy) = true := by simpa using hb
    rw [hb2, if_pos rfl, if_pos rfl]
    exact ⟨noL, 1, c, h, rfl, rfl, rfl⟩
theorem both_Give (n : Nat) (c : T_client_Client) (h : CI c) :
    ∃ e c', CI c' ∧ client_Client_Give.f n c = some (e, c') ∧ tontineref21_Client_Give.f n (refC c) = some (e, refC c') := by
  unfold client_Client_Give.f tontineref21_Client_Give.f
  have eb : (refC c).Busy = c.busy := rfl
  rw [eb]
  by_cases hb : (!c.busy) = true
  · rw [if_pos hb, if_pos hb]
    exact ⟨1, c, h, rfl, rfl⟩
  · rw [if_neg hb, if_neg hb]
    exact ⟨0, ⟨c.id, 0, 0, c.call, false, c.now, c.data, c.to_⟩, ⟨h.id, by simp, by simp, h.to_, (fun hh => by cases hh), h.wf, h.st⟩, rfl, rfl⟩
def noT : T_api_Told := ⟨0, ⟨0, 0, 0, 0, [], 0, false, 0, false, 0⟩, ⟨0, 0, 0⟩⟩
theorem both_Hear (n : Nat) (hn : 400 ≤ n) (c : T_client_Client) (h : CI c) (x : T_api_Letter) (hx : 0 ≤ x.Commit ∧ x.Commit ≤ 18446744073709551615) (hd : x.Data.length < 1000000000000000000) :
    ∃ T b L b' c', CI c' ∧ L.Entries = [] ∧ T.Command.Steps.length ≤ 64 ∧ client_Client_Hear.f n c x = some (T, b, L, b', c') ∧ tontineref21_Client_Hear.f n (refC c) x = some (T, b, L, b', refC c') := by
  have hto := h.to_
  have hst := h.st
  obtain ⟨⟨y, er⟩, s1, s2, hnum⟩ := said_ok n (by omega) x.Data hd
  have none2 : ∃ T b L b' c', CI c' ∧ L.Entries = [] ∧ T.Command.Steps.length ≤ 64 ∧ (some (noT, false, noL, false, c) : Option (T_api_Told × Bool × T_api_Letter × Bool × T_client_Client)) = some (T, b, L, b', c') ∧ (some (noT, false, noL, false, refC c) : Option (T_api_Told × Bool × T_api_Letter × Bool × T_tontineref21_Client)) = some (T, b, L, b', refC c') := ⟨_, _, _, _, c, h, rfl, by simp [noT], rfl, rfl⟩
  have p0 : client_Client_Hear.j0 n c x true = some (noT, false, noL, false, c) := rfl
  have r0 : tontineref21_Client_Hear.j0 n (refC c) x (y, er) true = some (noT, false, noL, false, refC c) := rfl
  unfold client_Client_Hear.f tontineref21_Client_Hear.f
  rw [s2, Option.bind_some]
  have eb : (refC c).Busy = c.busy := rfl
  have ei : (refC c).Id = c.id := rfl
  have ec : (refC c).Calls = c.call := rfl
  rw [eb, ei, ec]
  by_cases hb : (!c.busy) = true
  · rw [if_pos hb, if_pos hb, p0, r0]; exact none2
  rw [if_neg hb, if_neg hb]
  have hbusy : c.busy = true := by simpa using hb
  by_cases hk : (x.Kind != 9) = true
  · rw [if_pos hk, if_pos hk, p0, r0]; exact none2
  rw [if_neg hk, if_neg hk]
  by_cases ht : (x.To != wi64 (200 + c.id)) = true
  · rw [if_pos ht, if_pos ht, p0, r0]; exact none2
  rw [if_neg ht, if_neg ht]
  by_cases hi : (x.Index != c.call) = true
  · rw [if_pos hi, hi, p0, r0]; exact none2
  rw [if_neg hi]
  have hi2 : (x.Index != c.call) = false := by simpa using hi
  rw [hi2]
  have pj : client_Client_Hear.j0 n c x false = (if (er != 0) = true then some (noT, false, noL, false, c) else if (y.Err == 30) = true then client_Client_Hear.j1 n c x (y, er) true else client_Client_Hear.j1 n c x (y, er) (y.Err == 31)) := by
    unfold client_Client_Hear.j0
    rw [if_neg (by simp), s1]
    rfl
  rw [pj]
  have rj : tontineref21_Client_Hear.j0 n (refC c) x (y, er) ((y, er).2 != 0) = (if (er != 0) = true then some (noT, false, noL, false, refC c) else if (y.Err == 30) = true then tontineref21_Client_Hear.j1 n (refC c) x (y, er) true else tontineref21_Client_Hear.j1 n (refC c) x (y, er) (y.Err == 31)) := rfl
  rw [rj]
  by_cases he : (er != 0) = true
  · rw [if_pos he, if_pos he]; exact none2
  rw [if_neg he, if_neg he]
  have again : ∃ T b L b' c', CI c' ∧ L.Entries = [] ∧ T.Command.Steps.length ≤ 64 ∧ client_Client_Hear.j1 n c x (y, er) true = some (T, b, L, b', c') ∧ tontineref21_Client_Hear.j1 n (refC c) x (y, er) true = some (T, b, L, b', refC c') := by
    have pf : client_Client_Hear.j2 n c x false = some (noT, false, noL, false, c) := rfl
    have rt : tontineref21_Client_Hear.j2 n (refC c) x true = some (noT, false, noL, false, refC c) := rfl
    unfold client_Client_Hear.j1 tontineref21_Client_Hear.j1
    rw [if_pos rfl, if_pos rfl]
    by_cases c1 : x.Commit ≥ 1
    · rw [if_pos (show decide (x.Commit ≥ 1) = true from decide_eq_true c1), if_neg (show ¬ decide (x.Commit < 1) = true by rw [decide_eq_true_eq]; omega)]
      by_cases c7 : x.Commit ≤ 7
      · rw [if_pos (show decide (x.Commit ≤ 7) = true from decide_eq_true c7), if_neg (show ¬ decide (x.Commit > 7) = true by rw [decide_eq_true_eq]; omega)]
        have w1 : wi64 (wu64 (x.Commit - 1)) = x.Commit - 1 := by rw [wu64_id (by omega) (by omega), wi64_id (by omega) (by omega)]
        have w2 : wi64 x.Commit = x.Commit := wi64_id (by omega) (by omega)
        have et : (refC c).To = c.to_ := rfl
        have w3 : wi64 (c.to_ + 1) = c.to_ + 1 := wi64_id (by omega) (by omega)
        have w4 : wi64 (x.Commit - 1) = x.Commit - 1 := wi64_id (by omega) (by omega)
        rw [w1, w2, et, w3]
        by_cases q : x.Commit - 1 = c.to_
        · have q1 : (x.Commit - 1 != c.to_) = false := by rw [bne_eq_false_iff_eq]; exact q
          have q2 : (x.Commit == c.to_ + 1) = true := by rw [beq_iff_eq]; omega
          rw [q1, q2, pf, rt]
          exact none2
        · have q1 : (x.Commit - 1 != c.to_) = true := by rw [bne_iff_ne]; exact q
          have q2 : (x.Commit == c.to_ + 1) = false := by rw [beq_eq_false_iff_ne]; omega
          rw [q1, q2]
          unfold client_Client_Hear.j2 tontineref21_Client_Hear.j2
          rw [if_pos rfl, if_neg (by simp), w1, w2, w4]
          have hc' : CI (⟨c.id, c.session, c.seq, c.call, c.busy, c.now, c.data, x.Commit - 1⟩ : T_client_Client) := ⟨h.id, h.ses, h.seq, by simp only; omega, h.data, h.wf, h.st⟩
          have el := r_letter n (⟨c.id, c.session, c.seq, c.call, c.busy, c.now, c.data, x.Commit - 1⟩ : T_client_Client) (by show c.now.Steps.length + 300 < n; omega) h.wf (h.data hbusy)
          refine ⟨noT, false, letC (⟨c.id, c.session, c.seq, c.call, c.busy, c.now, c.data, x.Commit - 1⟩ : T_client_Client), true, _, hc', rfl, by simp [noT], rfl, ?_⟩
          have el : tontineref21_Client_letter.f n (⟨(refC c).Id, (refC c).Session, (refC c).Last, (refC c).Calls, (refC c).Busy, (⟨(refC c).Now.Kind, (refC c).Now.Session, (refC c).Now.Seq, (refC c).Now.Saga, (refC c).Now.Steps, (refC c).Now.Step, (refC c).Now.Back, (refC c).Now.Try, (refC c).Now.Ok, (refC c).Now.Now⟩ : T_api_Command), x.Commit - 1⟩ : T_tontineref21_Client) = _ := el
          rw [el]
          rfl
      · rw [if_neg (show ¬ decide (x.Commit ≤ 7) = true by rw [decide_eq_true_eq]; exact c7), if_pos (show decide (x.Commit > 7) = true by rw [decide_eq_true_eq]; omega), pf, rt]
        exact none2
    · rw [if_neg (show ¬ decide (x.Commit ≥ 1) = true by rw [decide_eq_true_eq]; exact c1), if_pos (show decide (x.Commit < 1) = true by rw [decide_eq_true_eq]; omega), pf, rt]
      exact none2
  by_cases h30 : (y.Err == 30) = true
  · rw [if_pos h30, if_pos h30]; exact again
  rw [if_neg h30, if_neg h30]
  by_cases h31 : (y.Err == 31) = true
  · rw [h31]; exact again
  have h31' : (y.Err == 31) = false := by simpa using h31
  rw [h31']
  have fin : ∀ a b, (0 ≤ a ∧ a ≤ 18446744073709551615) → (0 ≤ b ∧ b ≤ 18446744073709551615) → ∃ T bb L b' c', CI c' ∧ L.Entries = [] ∧ T.Command.Steps.length ≤ 64 ∧ client_Client_Hear.j3 n c (y, er) a b = some (T, bb, L, b', c') ∧ tontineref21_Client_Hear.j3 n (refC c) (y, er) a b = some (T, bb, L, b', refC c') := by
    intro a b ha hb
    exact ⟨⟨c.id, c.now, y⟩, true, noL, false, ⟨c.id, a, b, c.call, false, c.now, c.data, c.to_⟩, ⟨h.id, ha, hb, h.to_, (fun hh => by cases hh), h.wf, h.st⟩, rfl, hst, rfl, rfl⟩
  unfold client_Client_Hear.j1 tontineref21_Client_Hear.j1
  have ek : (refC c).Now.Kind = c.now.Kind := rfl
  have es : (refC c).Session = c.session := rfl
  have el : (refC c).Last = c.seq := rfl
  rw [if_neg (show ¬ (false = true) by simp), if_neg (show ¬ (false = true) by simp), ek, es, el]
  by_cases k1 : (c.now.Kind == 1) = true
  · rw [if_pos k1, if_pos k1]
    by_cases e0 : (y.Err == 0) = true
    · rw [if_pos e0, if_pos e0]
      exact fin y.Num 0 hnum (by omega)
    · rw [if_neg e0, if_neg e0]
      exact fin c.session c.seq h.ses h.seq
  · rw [if_neg k1, if_neg k1]
    by_cases e4 : (y.Err == 40) = true
    · rw [if_pos e4, if_pos e4]
      exact fin 0 0 (by omega) (by omega)
    · rw [if_neg e4, if_neg e4]
      exact fin c.session (wu64 (c.seq + 1)) h.ses (wu64_in _)
end Go.GL
