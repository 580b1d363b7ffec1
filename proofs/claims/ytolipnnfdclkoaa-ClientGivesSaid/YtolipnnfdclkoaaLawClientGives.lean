/- The law ClientGives, over the plain functions. -/
import Derived.Test.YtolipnnfdclkoaaCDec
import Derived.Test.YtolipnnfdclkoaaCli
set_option linter.unusedVariables false
set_option linter.unusedSimpArgs false
set_option maxRecDepth 10000
namespace Go.GL
open Go
/-- An answer of none's error is said as it was. -/
theorem ans_said (n : Nat) (hn : 200 ≤ n) (a b : Int) (ha : 0 ≤ a ∧ a ≤ 18446744073709551615) (hb : 0 ≤ b ∧ b ≤ 18446744073709551615) :
    ∃ D, tontineref16_Answer.f n (⟨0, a, b⟩ : T_api_Reply) = some D ∧ D.length ≤ 30 ∧ tontineref16_Said.f n D = some (⟨0, a, b⟩, 0) := by
  have w0 : wu64 (if (0 : Int) > 0 then 0 else 0) = 0 := by rw [if_neg (by omega)]; rfl
  have z1 := enc_length 0
  have z2 := enc_length a.toNat
  have z3 := enc_length b.toNat
  refine ⟨enc 0 ++ (enc a.toNat ++ enc b.toNat), ?_, by simp only [List.length_append]; omega, ?_⟩
  · unfold tontineref16_Answer.f
    simp only
    rw [w0, nums_f n _ (by simp <;> omega) (by simp) (by intro x hx; simp only [List.mem_cons, List.mem_nil_iff, or_false] at hx; rcases hx with rfl | rfl | rfl <;> omega), Option.bind_some]
    simp [encN]
  · unfold tontineref16_Said.f
    have g3 := r_enc (n := n) (by omega) (x := b.toNat) (by omega) [] false (by simp)
    rw [List.append_nil] at g3
    rw [r_up (by omega) (by omega) _ false (by simp only [List.length_append]; omega) (by omega) (by omega), Option.bind_some]
    simp only
    rw [r_enc (by omega) (by omega) _ false (by omega), Option.bind_some]
    simp only
    rw [g3, Option.bind_some]
    have x2 : (a.toNat : Int) = a := by omega
    have x3 : (b.toNat : Int) = b := by omega
    simp only [x2, x3]
    rfl
theorem ans_any (n : Nat) (hn : 200 ≤ n) (y : T_api_Reply) (hy : wf_T_api_Reply y) : ∃ D, tontineref16_Answer.f n y = some D := by
  obtain ⟨w1, w2, w3⟩ := hy
  have w1 := wf_i64 w1
  have w2 := wf_u64 w2
  have w3 := wf_u64 w3
  have k := wu64_in (if y.Err > 0 then y.Err else 0)
  unfold tontineref16_Answer.f
  have := nums_f n [wu64 (if y.Err > 0 then y.Err else 0), y.Num, y.Extra] (by simp <;> omega) (by simp) (by intro x hx; simp only [List.mem_cons, List.mem_nil_iff, or_false] at hx; rcases hx with rfl | rfl | rfl <;> omega)
  first
    | exact ⟨_, by rw [this, Option.bind_some]⟩
    | (refine ⟨encN [wu64 (if y.Err > 0 then y.Err else 0), y.Num, y.Extra], ?_⟩; simpa using this)
theorem modG (x : Int) (p : Nat) (hp : 0 < p) (hp2 : p ≤ 1000000) : ∃ y : Nat, (wi64 ((x.tmod (p : Int)) + (p : Int))).tmod (p : Int) = (y : Int) ∧ y < p := by
  have h1 : x.tmod (p : Int) < (p : Int) := Int.tmod_lt_of_pos x (by omega)
  have h2 : (-x).tmod (p : Int) < (p : Int) := Int.tmod_lt_of_pos (-x) (by omega)
  rw [Int.neg_tmod] at h2
  rw [wi64_id (by omega) (by omega)]
  have h3 : 0 ≤ (x.tmod (p : Int) + (p : Int)).tmod (p : Int) := Int.tmod_nonneg _ (by omega)
  have h4 : (x.tmod (p : Int) + (p : Int)).tmod (p : Int) < (p : Int) := Int.tmod_lt_of_pos _ (by omega)
  exact ⟨((x.tmod (p : Int) + (p : Int)).tmod (p : Int)).toNat, by omega, by omega⟩
def cmd (k s q a : Int) : T_api_Command := ⟨k, s, q, a, [], 0, false, 0, false, 0⟩
def cli (id s q call : Int) (busy : Bool) (now : T_api_Command) (d : List UInt8) : T_client_Client := ⟨id, s, q, call, busy, now, d, 0⟩
theorem wf_cmd (k s q a : Int) (hk : k = 1 ∨ k = 5) (hs : 0 ≤ s ∧ s ≤ 18446744073709551615) (hq : 0 ≤ q ∧ q ≤ 18446744073709551615) (ha : 0 ≤ a ∧ a ≤ 18446744073709551615) : wf_T_api_Command (cmd k s q a) := by
  refine ⟨?_, wf_u64_of hs, wf_u64_of hq, wf_u64_of ha, ⟨by simp [cmd], by intro x hx; simp [cmd] at hx⟩, rfl, trivial, rfl, trivial, rfl⟩
  rcases hk with rfl | rfl <;> rfl
theorem may_cmd (k s q a : Int) (hk : k = 1 ∨ k = 5) : mayB (cmd k s q a) = true := by
  rcases hk with rfl | rfl <;> rfl
theorem out_cmd (k s q a : Int) (hk : k = 1 ∨ k = 5) : outC (cmd k s q a) = (encC (cmd k s q a), 0) := by
  unfold outC
  rw [if_neg (by rcases hk with rfl | rfl <;> simp [cmd]), if_pos (may_cmd k s q a hk)]
theorem call_c (n : Nat) (hn : 400 ≤ n) (id s q call : Int) (now : T_api_Command) (d : List UInt8) (k a s' q' : Int) (hk : k = 1 ∧ s' = 0 ∧ q' = 0 ∨ k = 5 ∧ s ≠ 0 ∧ s' = s ∧ q' = wu64 (q + 1)) (hs : 0 ≤ s' ∧ s' ≤ 18446744073709551615) (hq : 0 ≤ q' ∧ q' ≤ 18446744073709551615) (ha : 0 ≤ a ∧ a ≤ 18446744073709551615) :
    client_Client_Call.f n (cli id s q call false now d) (cmd k 0 0 a) = some (letC (cli id s q (wu64 (call + 1)) true (cmd k s' q' a) (encC (cmd k s' q' a))), 0, cli id s q (wu64 (call + 1)) true (cmd k s' q' a) (encC (cmd k s' q' a))) := by
  have hk' : k = 1 ∨ k = 5 := by rcases hk with h | h <;> simp [h.1]
  have e1 := p_Encode n (cmd k s' q' a) (by show 0 + 300 < n; omega) (wf_cmd k s' q' a hk' hs hq ha)
  rw [out_cmd k s' q' a hk'] at e1
  have e2 : command_Encode.f n (⟨k, s', q', a, [], 0, false, 0, false, 0⟩ : T_api_Command) = some (encC (cmd k s' q' a), 0) := e1
  have hj : client_Client_Call.j1 n (cli id s q call false now d) (cmd k 0 0 a) s' q' = some (letC (cli id s q (wu64 (call + 1)) true (cmd k s' q' a) (encC (cmd k s' q' a))), 0, cli id s q (wu64 (call + 1)) true (cmd k s' q' a) (encC (cmd k s' q' a))) := by
    unfold client_Client_Call.j1
    have h4 : ((cmd k 0 0 a).Kind == 4) = false := by rcases hk' with rfl | rfl <;> rfl
    rw [h4, if_neg (by simp)]
    show ((command_Encode.f n (⟨k, s', q', a, [], 0, false, 0, false, 0⟩ : T_api_Command)).bind _) = _
    rw [e2]
    rfl
  rcases hk with ⟨rfl, rfl, rfl⟩ | ⟨rfl, h0, rfl, rfl⟩
  · exact hj
  · have hb : (s' == 0) = false := by rw [beq_eq_false_iff_ne]; exact h0
    unfold client_Client_Call.f
    rw [if_neg (by simp [cli]), if_pos (by rfl)]
    show client_Client_Call.j0 n (cli id s' q call false now d) (cmd 5 0 0 a) (s' == 0) = _
    rw [hb]
    exact hj
theorem say_c (n : Nat) (index : Int) (y : T_api_Reply) (me : Int) (D : List UInt8) (h : tontineref16_Answer.f n y = some D) : tontinelaw21_ClientGives_1.f n index y me = some ⟨9, 0, me, 0, index, 0, 0, false, [], D⟩ := by
  unfold tontinelaw21_ClientGives_1.f
  rw [h]; rfl
theorem hear_c (n : Nat) (hn : 400 ≤ n) (id s q call k s1 q1 a : Int) (d D : List UInt8) (num : Int) (hd : command_Said.f n D = some (⟨0, num, 0⟩, 0)) (hid : 0 ≤ id ∧ id < 4) (hk : k = 1 ∨ k = 5) :
    ∃ T, client_Client_Hear.f n (cli id s q call true (cmd k s1 q1 a) d) ⟨9, 0, 200 + id, 0, call, 0, 0, false, [], D⟩ = some (T, true, noL, false, cli id (if k = 1 then num else s) (if k = 1 then 0 else wu64 (q + 1)) call false (cmd k s1 q1 a) d) := by
  have w : wi64 (200 + id) = 200 + id := wi64_id (by omega) (by omega)
  unfold client_Client_Hear.f
  have ei : (cli id s q call true (cmd k s1 q1 a) d).id = id := rfl
  have ec : (cli id s q call true (cmd k s1 q1 a) d).call = call := rfl
  rw [ei, ec, w, if_neg (by simp [cli]), if_neg (by simp), if_neg (by simp)]
  have hb : ((⟨9, 0, 200 + id, 0, call, 0, 0, false, [], D⟩ : T_api_Letter).Index != call) = false := by simp
  rw [hb]
  unfold client_Client_Hear.j0
  rw [if_neg (by simp)]
  show ∃ T, ((command_Said.f n D).bind _) = _
  rw [hd, Option.bind_some]
  rcases hk with rfl | rfl
  · exact ⟨_, rfl⟩
  · exact ⟨_, rfl⟩
theorem hear_n (n : Nat) (id s q call : Int) (now : T_api_Command) (d : List UInt8) (x : T_api_Letter) : ∃ T, client_Client_Hear.f n (cli id s q call false now d) x = some (T, false, noL, false, cli id s q call false now d) := ⟨_, rfl⟩
abbrev LG := Int → Int → Int → Int → Bool → Int → Int → Int → Int → (List T_api_Step) → Int → Bool → Int → Bool → Int → (List UInt8) → Int → Int → Option Bool
def atG (L : LG) (c : T_client_Client) (x : Int) : Option Bool := L c.id c.session c.seq c.call c.busy c.now.Kind c.now.Session c.now.Seq c.now.Saga c.now.Steps c.now.Step c.now.Back c.now.Try c.now.Ok c.now.Now c.data c.to_ x
theorem gives_l0 (n : Nat) (hn : 400 ≤ n) (id0 seq0 : Int) (y : T_api_Reply) (hy : wf_T_api_Reply y) (id : Int) (hid : 0 ≤ id ∧ id < 4) (hide : (wi64 ((id0.tmod 4) + 4)).tmod 4 = id) (N : Nat) (hN : 1 ≤ N ∧ N ≤ 20) (hNe : wu64 (wu64 ((wi64 ((seq0.tmod 20) + 20)).tmod 20) + 1) = (N : Int)) :
    ∀ (j k i : Nat) (c : T_client_Client), i + j = N → j < k → ((i < N ∧ ∃ now d, c = cli id 5 (i : Int) ((i : Int) + 1) false now d) ∨ (i = N ∧ ∃ now d, c = cli id 5 ((N : Int) - 1) ((N : Int) + 1) true now d)) →
    atG (tontinelaw21_ClientGives.l0 n id0 seq0 y k) c (i : Int) = some true
  | j, 0, i, c, _, h, _ => by omega
  | j, k + 1, i, c, hi, hk, hc => by
    have w200 : wi64 (200 + id) = 200 + id := wi64_id (by omega) (by omega)
    unfold atG tontinelaw21_ClientGives.l0
    rw [hNe, hide, w200]
    rcases hc with ⟨hlt, now, d, rfl⟩ | ⟨rfl, now, d, rfl⟩
    · rw [if_pos (by rw [decide_eq_true_eq]; omega)]
      have w1 : wu64 ((i : Int) + 1) = (i : Int) + 1 := wu64_id (by omega) (by omega)
      have w2 : wu64 ((i : Int) + 2) = (i : Int) + 2 := wu64_id (by omega) (by omega)
      have w3 : wu64 ((i : Int) + 1 + 1) = (i : Int) + 2 := by rw [wu64_id (by omega) (by omega)]; omega
      have e1 := call_c n hn id 5 (i : Int) ((i : Int) + 1) now d 5 (i : Int) 5 ((i : Int) + 1) (.inr ⟨rfl, by omega, rfl, w1.symm⟩) (by omega) (by omega) (by omega)
      rw [w3] at e1
      have e1' : client_Client_Call.f n (⟨(cli id 5 (i : Int) ((i : Int) + 1) false now d).id, (cli id 5 (i : Int) ((i : Int) + 1) false now d).session, (cli id 5 (i : Int) ((i : Int) + 1) false now d).seq, (cli id 5 (i : Int) ((i : Int) + 1) false now d).call, (cli id 5 (i : Int) ((i : Int) + 1) false now d).busy, (⟨(cli id 5 (i : Int) ((i : Int) + 1) false now d).now.Kind, (cli id 5 (i : Int) ((i : Int) + 1) false now d).now.Session, (cli id 5 (i : Int) ((i : Int) + 1) false now d).now.Seq, (cli id 5 (i : Int) ((i : Int) + 1) false now d).now.Saga, (cli id 5 (i : Int) ((i : Int) + 1) false now d).now.Steps, (cli id 5 (i : Int) ((i : Int) + 1) false now d).now.Step, (cli id 5 (i : Int) ((i : Int) + 1) false now d).now.Back, (cli id 5 (i : Int) ((i : Int) + 1) false now d).now.Try, (cli id 5 (i : Int) ((i : Int) + 1) false now d).now.Ok, (cli id 5 (i : Int) ((i : Int) + 1) false now d).now.Now⟩ : T_api_Command), (cli id 5 (i : Int) ((i : Int) + 1) false now d).data, (cli id 5 (i : Int) ((i : Int) + 1) false now d).to_⟩ : T_client_Client) (⟨5, 0, 0, (i : Int), [], 0, false, 0, false, 0⟩ : T_api_Command) = _ := e1
      rw [e1', Option.bind_some]
      have hd : tontineref16_Decode.f n (letC (cli id 5 (i : Int) ((i : Int) + 2) true (cmd 5 5 ((i : Int) + 1) (i : Int)) (encC (cmd 5 5 ((i : Int) + 1) (i : Int))))).Data = some (cmd 5 5 ((i : Int) + 1) (i : Int), 0) :=
        back_r n hn _ (wf_cmd 5 5 _ _ (.inr rfl) (by omega) (by omega) (by omega)) (may_cmd 5 _ _ _ (.inr rfl))
      rw [hd, Option.bind_some, if_neg (by simp)]
      unfold tontinelaw21_ClientGives.j1
      rw [if_neg (by simp [cmd])]
      unfold tontinelaw21_ClientGives.j2
      rw [w1, if_neg (by simp [cmd])]
      unfold tontinelaw21_ClientGives.j0
      rw [w2, if_neg (by simp [letC, cli]), w1, hNe, hide, w200]
      by_cases hlast : i + 1 < N
      · rw [if_pos (by rw [decide_eq_true_eq]; omega)]
        obtain ⟨D, d1, _, d3⟩ := ans_said n (by omega) 0 0 (by omega) (by omega)
        rw [say_c n _ _ _ D d1, Option.bind_some]
        obtain ⟨r, s1, s2, _⟩ := said_ok n (by omega) D (by omega)
        rw [d3] at s2
        cases s2
        obtain ⟨T, h1⟩ := hear_c n hn id 5 (i : Int) ((i : Int) + 2) 5 5 ((i : Int) + 1) (i : Int) (encC (cmd 5 5 ((i : Int) + 1) (i : Int))) D 0 s1 hid (.inr rfl)
        rw [if_neg (by omega), if_neg (by omega), w1] at h1
        have h1' : client_Client_Hear.f n _ (⟨9, 0, 200 + id, 0, (i : Int) + 2, 0, 0, false, [], D⟩ : T_api_Letter) = _ := h1
        refine Eq.trans (congrArg (fun o => Option.bind o _) h1') ?_
        have ih := gives_l0 n hn id0 seq0 y hy id hid hide N hN hNe (j - 1) k (i + 1) (cli id 5 ((i : Int) + 1) ((i : Int) + 2) false (cmd 5 5 ((i : Int) + 1) (i : Int)) (encC (cmd 5 5 ((i : Int) + 1) (i : Int)))) (by omega) (by omega) (.inl ⟨hlast, _, _, by
          have : (((i + 1 : Nat) : Int)) = (i : Int) + 1 := by omega
          rw [this]; rfl⟩)
        have hc1 : (((i + 1 : Nat) : Int)) = (i : Int) + 1 := by omega
        rw [hc1] at ih
        exact ih
      · rw [if_neg (by rw [decide_eq_true_eq]; omega)]
        have ih := gives_l0 n hn id0 seq0 y hy id hid hide N hN hNe (j - 1) k (i + 1) (cli id 5 (i : Int) ((i : Int) + 2) true (cmd 5 5 ((i : Int) + 1) (i : Int)) (encC (cmd 5 5 ((i : Int) + 1) (i : Int)))) (by omega) (by omega) (.inr ⟨by omega, _, _, by
          have h1 : (N : Int) - 1 = (i : Int) := by omega
          have h2 : (N : Int) + 1 = (i : Int) + 2 := by omega
          rw [h1, h2]⟩)
        have hc1 : (((i + 1 : Nat) : Int)) = (i : Int) + 1 := by omega
        rw [hc1] at ih
        exact ih
    · rw [if_neg (by rw [decide_eq_true_eq]; omega)]
      have eg : client_Client_Give.f n (cli id 5 ((i : Int) - 1) ((i : Int) + 1) true now d) = some (0, cli id 0 0 ((i : Int) + 1) false now d) := rfl
      refine Eq.trans (congrArg (fun o => Option.bind o _) eg) ?_
      rw [Option.bind_some]
      obtain ⟨D, hD⟩ := ans_any n (by omega) y hy
      rw [say_c n _ _ _ D hD, Option.bind_some]
      obtain ⟨T, h1⟩ := hear_n n id 0 0 ((i : Int) + 1) now d (⟨9, 0, 200 + id, 0, wu64 ((i : Int) + 1), 0, 0, false, [], D⟩ : T_api_Letter)
      refine Eq.trans (congrArg (fun o => Option.bind o _) h1) ?_
      rfl
theorem tontinelaw21_ClientGives_law (id seq : Int) (y : T_api_Reply) (h1 : (Lit.int .i64 id).wf = true) (h2 : (Lit.int .i64 seq).wf = true) (h3 : wf_T_api_Reply y) : Ev (fun n => tontinelaw21_ClientGives.f n id seq y) true := by
  obtain ⟨a, ha, ha4⟩ := modG id 4 (by omega) (by omega)
  obtain ⟨b, hb, hb20⟩ := modG seq 20 (by omega) (by omega)
  have ha : (wi64 ((id.tmod 4) + 4)).tmod 4 = (a : Int) := ha
  have hb : (wi64 ((seq.tmod 20) + 20)).tmod 20 = (b : Int) := hb
  unfold tontinelaw21_ClientGives.f
  refine Ev.bind (Ev.ge 40 begun21) (Ev.ge 1000 fun n hn => ?_)
  rw [if_neg (by simp), ha]
  have en : client_New.f n (a : Int) = some (some (cli (a : Int) 0 0 0 false (⟨0, 0, 0, 0, [], 0, false, 0, false, 0⟩) []), 0) := by
    unfold client_New.f
    rw [if_neg (by rw [decide_eq_true_eq]; omega), if_neg (by rw [decide_eq_true_eq]; omega)]
    rfl
  rw [en, Option.bind_some]
  have w200 : wi64 (200 + (a : Int)) = 200 + (a : Int) := wi64_id (by omega) (by omega)
  have e1 := call_c n (by omega) (a : Int) 0 0 0 (⟨0, 0, 0, 0, [], 0, false, 0, false, 0⟩) [] 1 0 0 0 (.inl ⟨rfl, rfl, rfl⟩) (by omega) (by omega) (by omega)
  have w1 : wu64 (0 + 1) = 1 := rfl
  rw [w1] at e1
  refine Eq.trans (congrArg (fun o => Option.bind o _) e1) ?_
  rw [Option.bind_some]
  obtain ⟨D, d1, d2, d3⟩ := ans_said n (by omega) 5 0 (by omega) (by omega)
  rw [say_c n _ _ _ D d1, Option.bind_some, w200]
  obtain ⟨r, s1, s2, _⟩ := said_ok n (by omega) D (by omega)
  rw [d3] at s2
  cases s2
  obtain ⟨T, e2⟩ := hear_c n (by omega) (a : Int) 0 0 1 1 0 0 0 (encC (cmd 1 0 0 0)) D 5 s1 (by omega) (.inl rfl)
  rw [if_pos rfl, if_pos rfl] at e2
  refine Eq.trans (congrArg (fun o => Option.bind o _) e2) ?_
  have wb : wu64 (wu64 ((wi64 ((seq.tmod 20) + 20)).tmod 20) + 1) = ((b + 1 : Nat) : Int) := by
    rw [hb, wu64_id (x := (b : Int)) (by omega) (by omega), wu64_id (by omega) (by omega)]; omega
  exact gives_l0 n (by omega) id seq y h3 (a : Int) (by omega) ha (b + 1) (by omega) wb (b + 1) n 0 (cli (a : Int) 5 0 1 false (cmd 1 0 0 0) (encC (cmd 1 0 0 0))) (by omega) (by omega) (.inl ⟨by omega, _, _, rfl⟩)
end Go.GL
