/- The law ClientRuns, over the plain functions. -/
import Derived.Test.YtolipnnfdclkoaaXCli
set_option linter.unusedVariables false
set_option linter.unusedSimpArgs false
set_option maxRecDepth 10000
namespace Go.GL
open Go
def wf_T_api_Entry (x : T_api_Entry) : Prop := (fun n => (Lit.int .u64 n).wf = true) x.Term ∧ (fun n => (Lit.int .u64 n).wf = true) x.Index ∧ (fun n => (Lit.int .i64 n).wf = true) x.Kind ∧ (fun l => l.length ≤ reachBytes) x.Data
def ms_T_api_Entry (x : T_api_Entry) : Nat := (fun _ => 1) x.Term + (fun _ => 1) x.Index + (fun _ => 1) x.Kind + (fun l => l.length + 1) x.Data
def wf_T_api_Letter (x : T_api_Letter) : Prop := (fun n => (Lit.int .i64 n).wf = true) x.Kind ∧ (fun n => (Lit.int .i64 n).wf = true) x.From ∧ (fun n => (Lit.int .i64 n).wf = true) x.To ∧ (fun n => (Lit.int .u64 n).wf = true) x.Term ∧ (fun n => (Lit.int .u64 n).wf = true) x.Index ∧ (fun n => (Lit.int .u64 n).wf = true) x.Prev ∧ (fun n => (Lit.int .u64 n).wf = true) x.Commit ∧ (fun _ => True) x.Ok ∧ (fun xs => xs.length * 40 ≤ reachBytes ∧ ∀ x ∈ xs, wf_T_api_Entry x) x.Entries ∧ (fun l => l.length ≤ reachBytes) x.Data
def ms_T_api_Letter (x : T_api_Letter) : Nat := (fun _ => 1) x.Kind + (fun _ => 1) x.From + (fun _ => 1) x.To + (fun _ => 1) x.Term + (fun _ => 1) x.Index + (fun _ => 1) x.Prev + (fun _ => 1) x.Commit + (fun _ => 1) x.Ok + (fun xs => (xs.map ms_T_api_Entry).sum + 1) x.Entries + (fun l => l.length + 1) x.Data
def wf_T_tontinelaw21_Call (x : T_tontinelaw21_Call) : Prop := (fun n => (Lit.int .i64 n).wf = true) x.Kind ∧ wf_T_api_Command x.Command ∧ wf_T_api_Letter x.Letter
def ms_T_tontinelaw21_Call (x : T_tontinelaw21_Call) : Nat := (fun _ => 1) x.Kind + ms_T_api_Command x.Command + ms_T_api_Letter x.Letter
theorem same10 (n : Nat) (hn : 0 < n) (L : T_api_Letter) (h : L.Entries = []) : tontineref10_Same.f n L L = some true := by
  obtain ⟨m, rfl⟩ : ∃ m, n = m + 1 := ⟨n - 1, by omega⟩
  unfold tontineref10_Same.f tontineref07_Same.f
  rw [h]
  simp [tontineref07_Same.l0]
theorem same13_l0 (n : Nat) (l : List T_api_Step) (hl : l.length ≤ 1000) : ∀ (j k i : Nat), i + j = l.length → j < k → tontineref13_Same.l0 n l l k (i : Int) = some true
  | j, 0, i, _, h => by omega
  | 0, k + 1, i, hi, _ => by
    unfold tontineref13_Same.l0
    rw [if_neg (by rw [decide_eq_true_eq]; omega)]
  | j + 1, k + 1, i, hi, hk => by
    unfold tontineref13_Same.l0
    rw [if_pos (by rw [decide_eq_true_eq]; omega), if_pos ⟨by omega, by omega⟩, if_pos ⟨by omega, by omega⟩, if_neg (by simp), wi64_id (by omega) (by omega), show ((i : Int) + 1) = ((i + 1 : Nat) : Int) by omega]
    exact same13_l0 n l hl j k (i + 1) (by omega) (by omega)
theorem same21 (n : Nat) (hn : 100 ≤ n) (T : T_api_Told) (h : T.Command.Steps.length ≤ 64) : tontineref21_Same.f n T T = some true := by
  have e : tontineref13_Same.l0 n T.Command.Steps T.Command.Steps n 0 = some true := same13_l0 n T.Command.Steps (by omega) T.Command.Steps.length n 0 (by omega) (by omega)
  unfold tontineref21_Same.f tontineref16_Same.f tontineref13_Same.f
  simp [e]
theorem light_l0 (n : Nat) (cs : List T_tontinelaw21_Call) (hc : cs.length ≤ 1000000000000000) : ∀ (j k i : Nat) (a : Int), i + j = cs.length → j < k → ∃ b, tontinelaw21_light.l0 n cs k a (i : Int) = some b
  | j, 0, i, _, _, h => by omega
  | 0, k + 1, i, a, hi, _ => by
    unfold tontinelaw21_light.l0
    rw [if_neg (by rw [decide_eq_true_eq]; omega)]
    exact ⟨_, rfl⟩
  | j + 1, k + 1, i, a, hi, hk => by
    unfold tontinelaw21_light.l0
    rw [if_pos (by rw [decide_eq_true_eq]; omega), if_pos ⟨by omega, by omega⟩, wi64_id (x := (i : Int) + 1) (by omega) (by omega), show ((i : Int) + 1) = ((i + 1 : Nat) : Int) by omega]
    exact light_l0 n cs hc j k (i + 1) _ (by omega) (by omega)
abbrev LT := Int → Int → Int → Int → Bool → Int → Int → Int → Int → (List T_api_Step) → Int → Bool → Int → Bool → Int → (List UInt8) → Int → Int → Int → Int → Int → Bool → Int → Int → Int → Int → (List T_api_Step) → Int → Bool → Int → Bool → Int → Int → Int → Option Bool
def at_ (L : LT) (c : T_client_Client) (x : Int) : Option Bool := L c.id c.session c.seq c.call c.busy c.now.Kind c.now.Session c.now.Seq c.now.Saga c.now.Steps c.now.Step c.now.Back c.now.Try c.now.Ok c.now.Now c.data c.to_ c.id c.session c.seq c.call c.busy c.now.Kind c.now.Session c.now.Seq c.now.Saga c.now.Steps c.now.Step c.now.Back c.now.Try c.now.Ok c.now.Now c.to_ x
theorem j4_ok (n : Nat) (L : LT) (x : Int) (c : T_client_Client) : tontinelaw21_ClientRuns.j4 n L x c.id c.session c.seq c.call c.busy c.now.Kind c.now.Session c.now.Seq c.now.Saga c.now.Steps c.now.Step c.now.Back c.now.Try c.now.Ok c.now.Now c.data c.to_ c.id c.session c.seq c.call c.busy c.now.Kind c.now.Session c.now.Seq c.now.Saga c.now.Steps c.now.Step c.now.Back c.now.Try c.now.Ok c.now.Now c.to_ = at_ L c (wi64 (x + 1)) := by
  unfold tontinelaw21_ClientRuns.j4 client_Client_Status.f tontinelaw21_ClientRuns.j5
  rw [Option.bind_some]
  simp [at_]
theorem runs_l1 (n : Nat) (cs : List T_tontinelaw21_Call) (hc : ∀ x ∈ cs, wf_T_tontinelaw21_Call x) (hl : cs.length ≤ 1000000000000000) (hn : ∀ x ∈ cs, x.Command.Steps.length + 400 < n) (hn0 : 400 ≤ n) : ∀ (j k i : Nat) (c : T_client_Client), CI c → i + j = cs.length → j < k →
    at_ (tontinelaw21_ClientRuns.l1 n cs k) c (i : Int) = some true
  | j, 0, i, _, _, _, h => by omega
  | 0, k + 1, i, c, h, hi, _ => by
    unfold at_ tontinelaw21_ClientRuns.l1
    rw [if_neg (by rw [decide_eq_true_eq]; omega)]
  | j + 1, k + 1, i, c, h, hi, hk => by
    have hm : rdL cs (i : Int) ∈ cs := rdL_mem (by omega)
    have hw := hc _ hm
    have w1 : wi64 ((i : Int) + 1) = ((i + 1 : Nat) : Int) := by rw [wi64_id (by omega) (by omega)]; omega
    have ih := fun c' (h' : CI c') => runs_l1 n cs hc hl hn hn0 j k (i + 1) c' h' (by omega) (by omega)
    unfold at_ tontinelaw21_ClientRuns.l1
    rw [if_pos (by rw [decide_eq_true_eq]; omega), if_pos ⟨by omega, by omega⟩]
    split
    · obtain ⟨L, e, c', h', hL, e1, e2⟩ := both_Call n c h (rdL cs (i : Int)).Command hw.2.1 (hn _ hm)
      have e1 : client_Client_Call.f n (⟨c.id, c.session, c.seq, c.call, c.busy, (⟨c.now.Kind, c.now.Session, c.now.Seq, c.now.Saga, c.now.Steps, c.now.Step, c.now.Back, c.now.Try, c.now.Ok, c.now.Now⟩ : T_api_Command), c.data, c.to_⟩ : T_client_Client) (⟨(rdL cs (i : Int)).Command.Kind, (rdL cs (i : Int)).Command.Session, (rdL cs (i : Int)).Command.Seq, (rdL cs (i : Int)).Command.Saga, (rdL cs (i : Int)).Command.Steps, (rdL cs (i : Int)).Command.Step, (rdL cs (i : Int)).Command.Back, (rdL cs (i : Int)).Command.Try, (rdL cs (i : Int)).Command.Ok, (rdL cs (i : Int)).Command.Now⟩ : T_api_Command) = some (L, e, c') := e1
      have e2 : tontineref21_Client_Call.f n (⟨c.id, c.session, c.seq, c.call, c.busy, (⟨c.now.Kind, c.now.Session, c.now.Seq, c.now.Saga, c.now.Steps, c.now.Step, c.now.Back, c.now.Try, c.now.Ok, c.now.Now⟩ : T_api_Command), c.to_⟩ : T_tontineref21_Client) (⟨(rdL cs (i : Int)).Command.Kind, (rdL cs (i : Int)).Command.Session, (rdL cs (i : Int)).Command.Seq, (rdL cs (i : Int)).Command.Saga, (rdL cs (i : Int)).Command.Steps, (rdL cs (i : Int)).Command.Step, (rdL cs (i : Int)).Command.Back, (rdL cs (i : Int)).Command.Try, (rdL cs (i : Int)).Command.Ok, (rdL cs (i : Int)).Command.Now⟩ : T_api_Command) = some (L, e, refC c') := e2
      rw [e1, Option.bind_some, e2, Option.bind_some, same10 n (by omega) L hL, Option.bind_some, if_neg (by simp)]
      unfold tontinelaw21_ClientRuns.j6
      rw [if_neg (by simp)]
      refine (j4_ok n _ _ c').trans ?_
      rw [w1]
      exact ih c' h'
    split
    · obtain ⟨L, e, c', h', hL, e1, e2⟩ := both_Again n hn0 c h
      have e1 : client_Client_Again.f n (⟨c.id, c.session, c.seq, c.call, c.busy, (⟨c.now.Kind, c.now.Session, c.now.Seq, c.now.Saga, c.now.Steps, c.now.Step, c.now.Back, c.now.Try, c.now.Ok, c.now.Now⟩ : T_api_Command), c.data, c.to_⟩ : T_client_Client) = some (L, e, c') := e1
      have e2 : tontineref21_Client_Again.f n (⟨c.id, c.session, c.seq, c.call, c.busy, (⟨c.now.Kind, c.now.Session, c.now.Seq, c.now.Saga, c.now.Steps, c.now.Step, c.now.Back, c.now.Try, c.now.Ok, c.now.Now⟩ : T_api_Command), c.to_⟩ : T_tontineref21_Client) = some (L, e, refC c') := e2
      rw [e1, Option.bind_some, e2, Option.bind_some, same10 n (by omega) L hL, Option.bind_some, if_neg (by simp)]
      unfold tontinelaw21_ClientRuns.j7
      rw [if_neg (by simp)]
      refine (j4_ok n _ _ c').trans ?_
      rw [w1]
      exact ih c' h'
    split
    · obtain ⟨T, b, L, b', c', h', hL, hT, e1, e2⟩ := both_Hear n hn0 c h (rdL cs (i : Int)).Letter (wf_u64 hw.2.2.2.2.2.2.2.2.1) (by have := hw.2.2.2.2.2.2.2.2.2.2.2; unfold reachBytes at this; omega)
      have e1 : client_Client_Hear.f n (⟨c.id, c.session, c.seq, c.call, c.busy, (⟨c.now.Kind, c.now.Session, c.now.Seq, c.now.Saga, c.now.Steps, c.now.Step, c.now.Back, c.now.Try, c.now.Ok, c.now.Now⟩ : T_api_Command), c.data, c.to_⟩ : T_client_Client) (⟨(rdL cs (i : Int)).Letter.Kind, (rdL cs (i : Int)).Letter.From, (rdL cs (i : Int)).Letter.To, (rdL cs (i : Int)).Letter.Term, (rdL cs (i : Int)).Letter.Index, (rdL cs (i : Int)).Letter.Prev, (rdL cs (i : Int)).Letter.Commit, (rdL cs (i : Int)).Letter.Ok, (rdL cs (i : Int)).Letter.Entries, (rdL cs (i : Int)).Letter.Data⟩ : T_api_Letter) = some (T, b, L, b', c') := e1
      have e2 : tontineref21_Client_Hear.f n (⟨c.id, c.session, c.seq, c.call, c.busy, (⟨c.now.Kind, c.now.Session, c.now.Seq, c.now.Saga, c.now.Steps, c.now.Step, c.now.Back, c.now.Try, c.now.Ok, c.now.Now⟩ : T_api_Command), c.to_⟩ : T_tontineref21_Client) (⟨(rdL cs (i : Int)).Letter.Kind, (rdL cs (i : Int)).Letter.From, (rdL cs (i : Int)).Letter.To, (rdL cs (i : Int)).Letter.Term, (rdL cs (i : Int)).Letter.Index, (rdL cs (i : Int)).Letter.Prev, (rdL cs (i : Int)).Letter.Commit, (rdL cs (i : Int)).Letter.Ok, (rdL cs (i : Int)).Letter.Entries, (rdL cs (i : Int)).Letter.Data⟩ : T_api_Letter) = some (T, b, L, b', refC c') := e2
      have e3 : tontineref21_Same.f n (⟨T.Client, (⟨T.Command.Kind, T.Command.Session, T.Command.Seq, T.Command.Saga, T.Command.Steps, T.Command.Step, T.Command.Back, T.Command.Try, T.Command.Ok, T.Command.Now⟩ : T_api_Command), (⟨T.Reply.Err, T.Reply.Num, T.Reply.Extra⟩ : T_api_Reply)⟩ : T_api_Told) (⟨T.Client, (⟨T.Command.Kind, T.Command.Session, T.Command.Seq, T.Command.Saga, T.Command.Steps, T.Command.Step, T.Command.Back, T.Command.Try, T.Command.Ok, T.Command.Now⟩ : T_api_Command), (⟨T.Reply.Err, T.Reply.Num, T.Reply.Extra⟩ : T_api_Reply)⟩ : T_api_Told) = some true := same21 n (by omega) T hT
      rw [e1, Option.bind_some, e2, Option.bind_some]
      refine (congrArg (fun o => Option.bind o _) e3).trans ?_
      rw [Option.bind_some, if_neg (by simp), if_neg (by simp), if_neg (by simp), same10 n (by omega) L hL, Option.bind_some]
      unfold tontinelaw21_ClientRuns.j8
      rw [if_neg (by simp)]
      refine (j4_ok n _ _ c').trans ?_
      rw [w1]
      exact ih c' h'
    · obtain ⟨e, c', h', e1, e2⟩ := both_Give n c h
      have e1 : client_Client_Give.f n (⟨c.id, c.session, c.seq, c.call, c.busy, (⟨c.now.Kind, c.now.Session, c.now.Seq, c.now.Saga, c.now.Steps, c.now.Step, c.now.Back, c.now.Try, c.now.Ok, c.now.Now⟩ : T_api_Command), c.data, c.to_⟩ : T_client_Client) = some (e, c') := e1
      have e2 : tontineref21_Client_Give.f n (⟨c.id, c.session, c.seq, c.call, c.busy, (⟨c.now.Kind, c.now.Session, c.now.Seq, c.now.Saga, c.now.Steps, c.now.Step, c.now.Back, c.now.Try, c.now.Ok, c.now.Now⟩ : T_api_Command), c.to_⟩ : T_tontineref21_Client) = some (e, refC c') := e2
      rw [e1, Option.bind_some, e2, Option.bind_some, if_neg (by simp)]
      refine (j4_ok n _ _ c').trans ?_
      rw [w1]
      exact ih c' h'
theorem le_sum : ∀ (l : List Nat) (x : Nat), x ∈ l → x ≤ l.sum
  | [], x, h => by cases h
  | y :: l, x, h => by
    simp only [List.sum_cons]
    rcases List.mem_cons.1 h with h | h
    · omega
    · have := le_sum l x h; omega
theorem tontinelaw21_ClientRuns_law (id : Int) (cs : List T_tontinelaw21_Call) (h1 : (Lit.int .i64 id).wf = true) (h2 : cs.length * 208 ≤ reachBytes ∧ ∀ x ∈ cs, wf_T_tontinelaw21_Call x) : Ev (fun n => tontinelaw21_ClientRuns.f n id cs) true := by
  refine Ev.ge (3000 + cs.length + (cs.map fun x => x.Command.Steps.length).sum) fun n hn => ?_
  have hl : cs.length ≤ 1000000000000000 := by have := h2.1; unfold reachBytes at this; omega
  unfold tontinelaw21_ClientRuns.f
  rw [begun21 n (by omega), Option.bind_some, if_neg (by simp)]
  obtain ⟨b, hb⟩ := light_l0 n cs hl cs.length n 0 (cs.length : Int) (by omega) (by omega)
  have hb : tontinelaw21_light.f n cs = some b := hb
  rw [hb, Option.bind_some]
  cases b
  · rfl
  rw [if_neg (by simp)]
  unfold client_New.f
  by_cases hneg : id < 0
  · rw [if_pos (show decide (id < 0) = true from decide_eq_true hneg), Option.bind_some]
    simp only
    rw [if_pos (show decide (id < 0) = true from decide_eq_true hneg)]
    rfl
  · rw [if_neg (show ¬ decide (id < 0) = true by rw [decide_eq_true_eq]; exact hneg)]
    by_cases h4 : id ≥ 4
    · rw [if_pos (show decide (id ≥ 4) = true from decide_eq_true h4), Option.bind_some]
      simp only
      rw [if_neg (show ¬ decide (id < 0) = true by rw [decide_eq_true_eq]; exact hneg), decide_eq_true h4]
      rfl
    · rw [if_neg (show ¬ decide (id ≥ 4) = true by rw [decide_eq_true_eq]; exact h4), Option.bind_some]
      simp only
      rw [if_neg (show ¬ decide (id < 0) = true by rw [decide_eq_true_eq]; exact hneg), decide_eq_false h4]
      unfold tontinelaw21_ClientRuns.j2
      rw [if_neg (by simp)]
      have hi : CI (⟨id, 0, 0, 0, false, ⟨0, 0, 0, 0, [], 0, false, 0, false, 0⟩, [], 0⟩ : T_client_Client) := ⟨by simp only; omega, by simp, by simp, by simp, (fun hh => by cases hh), ⟨by rfl, by rfl, by rfl, by rfl, ⟨by simp, by simp⟩, by rfl, trivial, by rfl, trivial, by rfl⟩, by simp⟩
      exact runs_l1 n cs h2.2 hl (fun x hx => by have := le_sum _ _ (List.mem_map_of_mem (f := fun x : T_tontinelaw21_Call => x.Command.Steps.length) hx); omega) (by omega) cs.length n 0 _ hi (by omega) (by omega)
end Go.GL
