/- The law SagaBytes, over the plain functions: the arguments being small. -/
import Derived.Test.YtfeddlhkiomdaaaLawSagaSteps
import Derived.Test.YtfeddlhkiomdaaaDec2
set_option linter.unusedVariables false
set_option linter.unusedSimpArgs false
set_option maxRecDepth 10000
namespace Go.GL
open Go
theorem lenL_le : ∀ l : List T_api_Step, lenL l ≤ 27 * (l.map ms_T_api_Step).sum
  | [] => by simp [lenL]
  | s :: l => by
    have := lenL_le l
    simp only [lenL, ms_T_api_Step, List.map_cons, List.sum_cons] at *
    omega
theorem len_le : ∀ l : List T_api_Step, l.length ≤ (l.map ms_T_api_Step).sum
  | [] => by simp
  | s :: l => by
    have := len_le l
    simp only [ms_T_api_Step, List.map_cons, List.sum_cons, List.length_cons] at *
    omega
theorem read_back2 (n : Nat) (hn : 20 ≤ n) (l : List T_api_Step) (hl : l.length ≤ 64) (ha : l.all stepOk = true) (t : List UInt8) (htl : t.length ≤ 1000) : ∀ (d k i : Nat), i + d = l.length → d < k →
    plan_Read.l0 n k (encL (l.drop i) ++ t) false (l.take i) (d : Int) = some (l, ⟨t, false⟩)
  | d, 0, i, _, h => by omega
  | 0, k + 1, i, h, hk => by
    have hi : i = l.length := by omega
    subst hi
    unfold plan_Read.l0
    rw [if_neg (by simp)]
    simp only [List.drop_length, List.take_length]
    rfl
  | d + 1, k + 1, i, h, hk => by
    have hi : i < l.length := by omega
    have hso : stepOk (rdL l (i : Int)) = true := List.all_eq_true.1 ha _ (rdL_mem hi)
    have hdr := getD_drop hi
    have htk : l.take (i + 1) = l.take i ++ [rdL l (i : Int)] := by
      rw [List.take_add_one, List.getElem?_eq_getElem hi]
      simp [rdL, hi]
    have ih := read_back2 n hn l hl ha t htl d k (i + 1) (by omega) (by omega)
    have hall : (l.drop (i + 1)).all stepOk = true := List.all_eq_true.2 fun x hx => List.all_eq_true.1 ha x (List.mem_of_mem_drop hx)
    have z := encL_length (l.drop (i + 1))
    have z' := lenL_ok _ hall
    have z'' : (l.drop (i + 1)).length ≤ 64 := by rw [List.length_drop]; omega
    rw [htk] at ih
    rw [hdr]
    unfold plan_Read.l0
    rw [if_pos (by simp <;> omega)]
    generalize rdL l (i : Int) = s at *
    obtain ⟨q1, q2, q3, q4, q5, q6⟩ := stepOk_iff hso
    have e1 : encL (s :: l.drop (i + 1)) ++ t = enc s.Part.toNat ++ (encT s.Name ++ (enc s.Budget.toNat ++ (encL (l.drop (i + 1)) ++ t))) := by
      simp only [encL, List.flatMap_cons, encS, List.append_assoc]
      rw [wu64_id q1 (by omega), wu64_id (x := s.Budget) (by omega) (by omega)]
    have z1 := encT_length s.Name
    have z2 := enc_length s.Budget.toNat
    rw [e1, p_up hn (by omega) _ false (by simp <;> omega) (by omega) (by omega), Option.bind_some]
    simp only
    rw [p_text hn s.Name _ false (by simp <;> omega) (by omega) (by omega), Option.bind_some]
    simp only
    rw [p_up hn (by omega) _ false (by simp <;> omega) (by omega) (by omega), Option.bind_some]
    simp only
    have e2 : (s.Part.toNat : Int) = s.Part := by omega
    have e3 : (s.Budget.toNat : Int) = s.Budget := by omega
    have e4 : wi64 (((d + 1 : Nat) : Int) - 1) = (d : Int) := by rw [wi64_id (by omega) (by omega)]; omega
    have ht : (l.take i).length ≤ i := List.length_take_le i l
    rw [e2, e3, e4, if_pos (capOk32 (by simp <;> omega))]
    exact ih

def encSt (s : T_api_Saga) : List UInt8 := enc (wu64 s.State).toNat ++ (enc (wu64 s.Cursor).toNat ++ enc (wu64 s.Failed).toNat)
def encSaga (s : T_api_Saga) : List UInt8 := enc s.Steps.length ++ (encL s.Steps ++ encSt s)
theorem f_Write (n : Nat) (s : T_api_Saga) (hn : 20 + s.Steps.length ≤ n) (hl : s.Steps.length ≤ 1000000) (hf : 9 + lenL s.Steps ≤ 1000000000) : saga_Write.f n ⟨[]⟩ s = some ⟨encSaga s⟩ := by
  unfold saga_Write.f
  have z0 := encL_length s.Steps
  have z1 := enc_length s.Steps.length
  have z2 := enc_length (wu64 s.State).toNat
  have z3 := enc_length (wu64 s.Cursor).toNat
  rw [plan_Write_f n ⟨[]⟩ s.Steps hn hl (by simp <;> omega), Option.bind_some, w_Num n (by omega) _ (by simp <;> omega) (wu64_range _), Option.bind_some, w_Num n (by omega) _ (by simp <;> omega) (wu64_range _), Option.bind_some, w_Num n (by omega) _ (by simp <;> omega) (wu64_range _)]
  simp [encSaga, encSt]
theorem r_Bytes (n : Nat) (s : T_api_Saga) (hn : 20 + s.Steps.length ≤ n) (hl : s.Steps.length ≤ 1000000) (hf : 9 + lenL s.Steps ≤ 1000000000) : tontineref14_Bytes.f n s = some (encSaga s) := by
  unfold tontineref14_Bytes.f
  have z0 := encL_length s.Steps
  have z1 := enc_length s.Steps.length
  have z2 := enc_length (wu64 s.State).toNat
  have z3 := enc_length (wu64 s.Cursor).toNat
  have z4 := enc_length (wu64 s.Failed).toNat
  rw [ref13_Bytes_f n s.Steps hn hl hf, Option.bind_some, ref_Num n (by omega) (wu64_range _), Option.bind_some, if_pos (by unfold i64max; simp <;> omega), ref_Num n (by omega) (wu64_range _), Option.bind_some, if_pos (by unfold i64max; simp <;> omega), ref_Num n (by omega) (wu64_range _), Option.bind_some, if_pos (by unfold i64max; simp <;> omega)]
  simp [encSaga, encSt]
theorem saga_rd (n : Nat) (hn : 300 ≤ n) (s : List UInt8) (hs : s.length < 1000000000000000000) :
    ∃ g ok t b, saga_Read.f n ⟨s, false⟩ = some (g, ok, ⟨t, b⟩) ∧ tontineref14_Read.f n ⟨s, false⟩ = some (g, ok, ⟨t, b⟩) ∧ g.Steps.length ≤ 64 := by
  unfold saga_Read.f tontineref14_Read.f
  obtain ⟨l, t0, b0, e1, e2, h1, h2, _, _⟩ := plan_spec n (by omega) s false hs
  rw [e1, e2]
  simp only [Option.bind_some]
  obtain ⟨a1, t1, b1, f1, f1', g1, _, _⟩ := up_spec (n := n) (by omega) t0 b0 (by omega) 5 (by omega) (by omega)
  rw [f1, f1']
  simp only [Option.bind_some]
  obtain ⟨a2, t2, b2, f2, f2', g2, _, _⟩ := up_spec (n := n) (by omega) t1 b1 (by omega) 64 (by omega) (by omega)
  rw [f2, f2']
  simp only [Option.bind_some]
  obtain ⟨a3, t3, b3, f3, f3', g3, _, _⟩ := up_spec (n := n) (by omega) t2 b2 (by omega) 9 (by omega) (by omega)
  rw [f3, f3']
  have hleft : pack_Reader_Left.f n (⟨t3, b3⟩ : T_pack_Reader) = some ((t3.length : Int), !b3) := rfl
  simp only [Option.bind_some, hleft]
  cases b3 with
  | true => exact ⟨_, _, _, _, rfl, rfl, by simp⟩
  | false =>
    simp only [Bool.not_false, Bool.not_true, Bool.false_eq_true, if_false]
    rw [f_Sound n ⟨l, a1, a2, a3⟩ (by show l.length < n; omega), r_Sound n ⟨l, a1, a2, a3⟩ (by show l.length + 80 < n; omega)]
    simp only [Option.bind_some]
    by_cases hq : soundP ⟨l, a1, a2, a3⟩
    · rw [decide_eq_true hq]
      exact ⟨_, _, _, _, rfl, rfl, h2⟩
    · rw [decide_eq_false hq]
      exact ⟨_, _, _, _, rfl, rfl, by simp⟩
theorem saga_back_rd (n : Nat) (hn : 300 ≤ n) (s : T_api_Saga) (hs : soundP s) : saga_Read.f n ⟨encSaga s, false⟩ = some (s, true, ⟨[], false⟩) := by
  unfold saga_Read.f
  have hL := len_ok hs
  have h1 := hs.1.1
  have hst := hs.2.2
  have hF := hs.2.1
  have hr : (1 ≤ s.State ∧ s.State ≤ 5) ∧ (0 ≤ s.Cursor ∧ s.Cursor ≤ 64) ∧ s.Failed ≤ 9 := by
    rcases hst with h | h | h | h | h
    · have := h.2.1.1; have := h.2.1.2; omega
    · have := h.2.1.1; have := h.2.1.2; have := bud_pos hs.1 h.2.1; omega
    · omega
    · omega
    · have := h.2.1.1; have := h.2.1.2; have := bud_pos hs.1 h.2.1; omega
  obtain ⟨hr1, hr2, hr3⟩ := hr
  have z0 := encL_length s.Steps
  have zz := lenL_ok _ hs.1.2.2
  have z2 := enc_length (wu64 s.State).toNat
  have z3 := enc_length (wu64 s.Cursor).toNat
  have z4 := enc_length (wu64 s.Failed).toNat
  have hlen : (encSt s).length ≤ 27 := by simp only [encSt, List.length_append]; omega
  have e1 : (((wu64 s.State).toNat : Nat) : Int) = s.State := by rw [wu64_id (by omega) (by omega)]; omega
  have e2 : (((wu64 s.Cursor).toNat : Nat) : Int) = s.Cursor := by rw [wu64_id (by omega) (by omega)]; omega
  have e3 : (((wu64 s.Failed).toNat : Nat) : Int) = s.Failed := by rw [wu64_id (by omega) (by omega)]; omega
  have hpr : plan_Read.f n ⟨encSaga s, false⟩ = some (s.Steps, ⟨encSt s, false⟩) := by
    unfold plan_Read.f encSaga
    rw [p_up (by omega) (by omega) _ false (by simp <;> omega) (by omega) (by omega), Option.bind_some]
    have := read_back2 n (by omega) s.Steps hL hs.1.2.2 (encSt s) (by omega) s.Steps.length n 0 (by omega) (by omega)
    simpa using this
  rw [hpr, Option.bind_some]
  simp only [encSt]
  rw [p_up (by omega) (by omega) _ false (by simp <;> omega) (by omega) (by omega), Option.bind_some]
  simp only
  rw [p_up (by omega) (by omega) _ false (by omega) (by omega) (by omega), Option.bind_some]
  simp only
  have h3 := p_up (n := n) (by omega) (x := (wu64 s.Failed).toNat) (by omega) [] false (by simp) (limit := 9) (by omega) (by omega)
  rw [List.append_nil] at h3
  have hleft : pack_Reader_Left.f n (⟨[], false⟩ : T_pack_Reader) = some (0, true) := rfl
  rw [h3, Option.bind_some]
  simp only
  rw [hleft, Option.bind_some, if_neg (by simp), e1, e2, e3]
  have ee : (⟨s.Steps, s.State, s.Cursor, s.Failed⟩ : T_api_Saga) = s := rfl
  rw [ee, f_Sound n s (by omega), Option.bind_some, decide_eq_true hs, if_neg (by simp)]

theorem bytes_l0 (n : Nat) (hn : 2000 ≤ n) (s : T_api_Saga) (b w : List UInt8) (hb : b.length < 1000000000000000000) (hw : w = encSaga s) (hwl : w.length < 1000000000000000000) (hsl : s.Steps.length ≤ 500) :
    ∀ (j k i : Nat), i + j = 2 → j < k → tontinelaw14_SagaBytes.l0 n s b ⟨w⟩ w k (i : Int) = some true
  | j, 0, i, _, h => by omega
  | 0, k + 1, i, hi, _ => by
    unfold tontinelaw14_SagaBytes.l0
    have hby : pack_Writer_Bytes.f n (⟨w⟩ : T_pack_Writer) = some w := rfl
    have hfr : pack_From.f n w = some ⟨w, false⟩ := rfl
    rw [if_neg (by simp; omega), hby, Option.bind_some, hfr, Option.bind_some]
    by_cases hs : soundP s
    · rw [hw, saga_back_rd n (by omega) s hs, Option.bind_some, f_Sound n s (by omega), Option.bind_some, decide_eq_true hs, if_neg (by simp), if_pos rfl, same_s n s (by omega) (by omega), Option.bind_some, if_pos rfl]
      rfl
    · obtain ⟨g, ok, t, bb, e1, _, _⟩ := saga_rd n (by omega) w hwl
      rw [e1, Option.bind_some, f_Sound n s (by omega), Option.bind_some, decide_eq_false hs, if_pos (by simp)]
  | j + 1, k + 1, i, hi, hk => by
    unfold tontinelaw14_SagaBytes.l0
    have hx : (rdL [b, w] (i : Int)).length < 1000000000000000000 := by
      have : i = 0 ∨ i = 1 := by omega
      rcases this with rfl | rfl
      · exact hb
      · exact hwl
    generalize rdL [b, w] (i : Int) = x at *
    have hfr : pack_From.f n x = some ⟨x, false⟩ := rfl
    obtain ⟨g, ok, t, bb, e1, e2, hg⟩ := saga_rd n (by omega) x hx
    have hleft : pack_Reader_Left.f n (⟨t, bb⟩ : T_pack_Reader) = some ((t.length : Int), !bb) := rfl
    rw [if_pos (by simp; omega), if_pos ⟨by omega, by simp; omega⟩, hfr, Option.bind_some, e1, Option.bind_some, e2, Option.bind_some]
    simp only
    rw [hleft, Option.bind_some, if_neg (by simp), same_s n g (by omega) (by omega), Option.bind_some, if_neg (by simp)]
    unfold tontinelaw14_SagaBytes.j0
    rw [if_neg (by simp), wi64_id (by omega) (by omega), show ((i : Int) + 1) = ((i + 1 : Nat) : Int) by omega]
    exact bytes_l0 n hn s b w hb hw hwl hsl j k (i + 1) (by omega) (by omega)
theorem tontinelaw14_SagaBytes_law (s : T_api_Saga) (b : List UInt8) (hs : wf_T_api_Saga s) (hb : b.length ≤ reachBytes) (hsm : ms_T_api_Saga s + (fun l : List UInt8 => l.length + 1) b ≤ 1048576) : Ev (fun n => tontinelaw14_SagaBytes.f n s b) true := by
  have h1 := lenL_le s.Steps
  have h2 := len_le s.Steps
  have h0 := encL_length s.Steps
  unfold ms_T_api_Saga at hsm
  simp only at hsm
  clear hb
  refine Ev.ge 3000000 fun n hn => ?_
  unfold tontinelaw14_SagaBytes.f
  rw [begun14 n (by omega), Option.bind_some, if_neg (by simp)]
  by_cases h5 : (s.Steps.length : Int) > 500
  · rw [if_pos (by simpa using h5)]
  · have z1 := enc_length s.Steps.length
    have z2 := enc_length (wu64 s.State).toNat
    have z3 := enc_length (wu64 s.Cursor).toNat
    have z4 := enc_length (wu64 s.Failed).toNat
    have hby : pack_Writer_Bytes.f n (⟨encSaga s⟩ : T_pack_Writer) = some (encSaga s) := rfl
    rw [if_neg (by simpa using h5), f_Write n s (by omega) (by omega) (by omega), Option.bind_some, hby, Option.bind_some, r_Bytes n s (by omega) (by omega) (by omega), Option.bind_some, if_neg (by simp), Option.bind_some]
    exact bytes_l0 n (by omega) s b _ (by omega) rfl (by simp only [encSaga, encSt, List.length_append]; omega) (by omega) 2 n 0 (by omega) (by omega)
end Go.GL
