/- Sessions: what the plain functions compute. No condition but the bounds named. -/
import Derived.Test.YtciohdgjlcaokaaOBegun
set_option linter.unusedVariables false
set_option linter.unusedSimpArgs false
set_option maxRecDepth 10000
namespace Go.GL
open Go
/-- Adding a session. -/
def regM (t : T_session_Table) : Int × Int × T_session_Table :=
  if 16 ≤ t.rows.length ∨ t.next = 18446744073709551615 then (0, 11, t) else (t.next, 0, ⟨t.now, t.next + 1, t.rows ++ [⟨t.next, t.now, 0, ⟨0, 0, 0⟩⟩]⟩)
theorem f_Reg (n : Nat) (t : T_session_Table) (h : 0 ≤ t.next) (h2 : t.next ≤ 18446744073709551615) : session_Table_Register.f n t = some (regM t) := by
  unfold session_Table_Register.f session_Table_Register.j0 regM
  by_cases h1 : 16 ≤ t.rows.length
  · rw [if_pos (by rw [decide_eq_true_eq]; omega), if_pos rfl, if_pos (.inl h1)]
  · rw [if_neg (by rw [decide_eq_true_eq]; omega)]
    by_cases h3 : t.next = 18446744073709551615
    · rw [if_pos (by rw [h3]; rfl), if_pos (.inr h3)]
    · have c : capOk 48 (t.rows ++ [(⟨t.next, t.now, 0, ⟨0, 0, 0⟩⟩ : T_session_Row)]).length := by simp only [List.length_append, List.length_cons, List.length_nil]; unfold capOk; omega
      rw [if_neg (by rw [beq_iff_eq]; exact h3), if_pos c, if_neg (by omega), wu64_id (x := t.next + 1) (by omega) (by omega), show t.next + 1 - 1 = t.next by omega, wu64_id h h2]
/-- Where an id stands in a list of ids; -1: nowhere. -/
def findI (id : Int) : List Int → Nat → Int
  | [], _ => -1
  | x :: l, i => if x = id then (i : Int) else findI id l (i + 1)
theorem findI_lt (id : Int) : ∀ (l : List Int) (i : Nat), findI id l i < 0 ∨ ∃ k : Nat, findI id l i = (k : Int) ∧ i ≤ k ∧ k < i + l.length
  | [], i => .inl (by simp [findI])
  | x :: l, i => by
    unfold findI
    split
    · exact .inr ⟨i, rfl, Nat.le_refl _, by simp⟩
    · rcases findI_lt id l (i + 1) with h | ⟨k, h, h1, h2⟩
      · exact .inl h
      · exact .inr ⟨k, h, by omega, by simp; omega⟩
def ids (t : T_session_Table) : List Int := t.rows.map (·.Id)
def find (t : T_session_Table) (id : Int) : Int := findI id (ids t) 0
theorem find_lt (t : T_session_Table) (id : Int) : find t id < 0 ∨ ∃ k : Nat, find t id = (k : Int) ∧ k < t.rows.length := by
  rcases findI_lt id (ids t) 0 with h | ⟨k, h, _, h2⟩
  · exact .inl h
  · exact .inr ⟨k, h, by simpa [ids] using h2⟩
theorem find_l0 (n : Nat) (t : T_session_Table) (id : Int) (ht : t.rows.length ≤ 1000) : ∀ (j k i : Nat), i + j = t.rows.length → j < k → session_Table_find.l0 n t id k (i : Int) = some (findI id ((t.rows.drop i).map (·.Id)) i)
  | j, 0, i, _, h => by omega
  | 0, k + 1, i, hi, _ => by
    unfold session_Table_find.l0
    rw [if_neg (by rw [decide_eq_true_eq]; omega), List.drop_of_length_le (by omega)]
    rfl
  | j + 1, k + 1, i, hi, hk => by
    unfold session_Table_find.l0
    rw [if_pos (by rw [decide_eq_true_eq]; omega), if_pos ⟨by omega, by omega⟩, getD_drop (by omega), List.map_cons]
    unfold findI
    by_cases h : (rdL t.rows (i : Int)).Id = id
    · rw [if_pos (by rw [beq_iff_eq]; exact h), if_pos h]
    · rw [if_neg (by rw [beq_iff_eq]; exact h), if_neg h, wi64_id (by omega) (by omega), show ((i : Int) + 1) = ((i + 1 : Nat) : Int) by omega]
      exact find_l0 n t id ht j k (i + 1) (by omega) (by omega)
theorem f_find (n : Nat) (t : T_session_Table) (id : Int) (ht : t.rows.length ≤ 1000) (hn : 2000 ≤ n) : session_Table_find.f n t id = some (find t id) :=
  find_l0 n t id ht t.rows.length n 0 (by omega) (by omega)
theorem rdL_set {α : Type} [Inhabited α] {l : List α} {k : Nat} (x : α) (h : k < l.length) : rdL (l.set k x) (k : Int) = x := by
  simp [rdL, h]
/-- Beginning a command. -/
def beginM (t : T_session_Table) (id seq : Int) : T_api_Reply × Bool × T_session_Table :=
  if find t id < 0 then (⟨40, 0, 0⟩, false, t) else
    let e := rdL t.rows (find t id)
    let t' : T_session_Table := ⟨t.now, t.next, t.rows.set (find t id).toNat ⟨e.Id, t.now, e.Seq, e.Reply⟩⟩
    if seq = e.Seq ∧ seq > 0 then (e.Reply, false, t') else if seq ≠ wu64 (e.Seq + 1) ∨ seq = 0 then (⟨41, 0, 0⟩, false, t') else (⟨0, 0, 0⟩, true, t')
theorem f_Begin (n : Nat) (t : T_session_Table) (id seq : Int) (ht : t.rows.length ≤ 1000) (hn : 2000 ≤ n) : session_Table_Begin.f n t id seq = some (beginM t id seq) := by
  unfold session_Table_Begin.f beginM
  rw [f_find n t id ht hn, Option.bind_some]
  rcases find_lt t id with h | ⟨k, hk, hl⟩
  · rw [if_pos (by simpa using h), if_pos h]
  · rw [hk, if_neg (by simp), if_neg (show ¬ ((k : Int) < 0) by omega), if_pos ⟨by omega, by omega⟩]
    unfold session_Table_Begin.j0
    simp only [Int.toNat_natCast, rdL_set _ hl, List.length_set, if_pos hl]
    by_cases h1 : seq = (rdL t.rows (k : Int)).Seq
    · rw [if_pos (by rw [beq_iff_eq]; exact h1)]
      by_cases h2 : seq > 0
      · rw [if_pos (by simpa using h2), if_pos ⟨h1, h2⟩]
      · rw [if_neg (by simpa using h2), if_neg (show ¬ (seq = (rdL t.rows (k : Int)).Seq ∧ seq > 0) from fun h => h2 h.2)]
        by_cases h3 : seq ≠ wu64 ((rdL t.rows (k : Int)).Seq + 1)
        · rw [if_pos (by simpa using h3), if_pos (.inl h3)]
        · rw [if_neg (by simpa using h3)]
          by_cases h4 : seq = 0
          · rw [if_pos (by simpa using h4), if_pos (.inr h4)]
          · rw [if_neg (by simpa using h4), if_neg (show ¬ (seq ≠ wu64 ((rdL t.rows (k : Int)).Seq + 1) ∨ seq = 0) from fun h => h.elim h3 h4)]
    · rw [if_neg (by rw [beq_iff_eq]; exact h1), if_neg (by simp), if_neg (show ¬ (seq = (rdL t.rows (k : Int)).Seq ∧ seq > 0) from fun h => h1 h.1)]
      by_cases h3 : seq ≠ wu64 ((rdL t.rows (k : Int)).Seq + 1)
      · rw [if_pos (by simpa using h3), if_pos (.inl h3)]
      · rw [if_neg (by simpa using h3)]
        by_cases h4 : seq = 0
        · rw [if_pos (by simpa using h4), if_pos (.inr h4)]
        · rw [if_neg (by simpa using h4), if_neg (show ¬ (seq ≠ wu64 ((rdL t.rows (k : Int)).Seq + 1) ∨ seq = 0) from fun h => h.elim h3 h4)]
/-- Ending a command. -/
def endM (t : T_session_Table) (id seq : Int) (y : T_api_Reply) : Bool × T_session_Table :=
  if find t id < 0 ∨ seq = 0 ∨ seq ≠ wu64 ((rdL t.rows (find t id)).Seq + 1) then (false, t) else
    (true, ⟨t.now, t.next, t.rows.set (find t id).toNat ⟨(rdL t.rows (find t id)).Id, (rdL t.rows (find t id)).Used, seq, y⟩⟩)
theorem f_End (n : Nat) (t : T_session_Table) (id seq : Int) (y : T_api_Reply) (ht : t.rows.length ≤ 1000) (hn : 2000 ≤ n) : session_Table_End.f n t id seq y = some (endM t id seq y) := by
  unfold session_Table_End.f session_Table_End.j0 endM
  rw [f_find n t id ht hn, Option.bind_some]
  rcases find_lt t id with h | ⟨k, hk, hl⟩
  · rw [if_pos (by simpa using h), if_pos rfl, if_pos (.inl h)]
  · rw [hk, if_neg (by simp)]
    by_cases h1 : seq = 0
    · rw [if_pos (by simpa using h1), if_pos rfl, if_pos (.inr (.inl h1))]
    · rw [if_neg (by simpa using h1), if_pos ⟨by omega, by omega⟩]
      by_cases h3 : seq ≠ wu64 ((rdL t.rows (k : Int)).Seq + 1)
      · rw [if_pos (by simpa using h3), if_pos (.inr (.inr h3))]
      · rw [if_neg (by simpa using h3), if_pos ⟨by omega, by omega⟩, if_neg (show ¬ ((k : Int) < 0 ∨ seq = 0 ∨ seq ≠ wu64 ((rdL t.rows (k : Int)).Seq + 1)) from fun h => h.elim (fun h => by omega) (fun h => h.elim h1 h3))]
        simp only [Int.toNat_natCast, rdL_set _ hl, List.length_set, List.set_set]
        rw [if_pos ⟨by omega, by omega⟩]
/-- The clock: who was not used for long is dropped. -/
def keepR (now : Int) (r : T_session_Row) : Bool := decide (wu64 (now - r.Used) ≤ 1000)
def clockM (t : T_session_Table) (now : Int) : T_session_Table := if now ≤ t.now then t else ⟨now, t.next, t.rows.filter (keepR now)⟩
theorem clock_l0 (n : Nat) (t : T_session_Table) (now : Int) (ht : t.rows.length ≤ 1000) : ∀ (j k i : Nat) (acc : List T_session_Row), i + j = t.rows.length → j < k → acc.length ≤ i →
    session_Table_Clock.l0 n t now k acc (i : Int) = some ⟨now, t.next, acc ++ (t.rows.drop i).filter (keepR now)⟩
  | j, 0, i, _, _, h, _ => by omega
  | 0, k + 1, i, acc, hi, _, _ => by
    unfold session_Table_Clock.l0
    rw [if_neg (by rw [decide_eq_true_eq]; omega), List.drop_of_length_le (by omega)]
    simp
  | j + 1, k + 1, i, acc, hi, hk, ha => by
    unfold session_Table_Clock.l0
    rw [if_pos (by rw [decide_eq_true_eq]; omega), if_pos ⟨by omega, by omega⟩, getD_drop (by omega), List.filter_cons, wi64_id (by omega) (by omega), show ((i : Int) + 1) = ((i + 1 : Nat) : Int) by omega]
    by_cases h : keepR now (rdL t.rows (i : Int)) = true
    · have c : capOk 48 (acc ++ [rdL t.rows (i : Int)]).length := by simp only [List.length_append, List.length_cons, List.length_nil]; unfold capOk; omega
      rw [if_pos (show decide (wu64 (now - (rdL t.rows (i : Int)).Used) ≤ 1000) = true from h), if_pos h]
      refine (if_pos c).trans ((clock_l0 n t now ht j k (i + 1) (acc ++ [rdL t.rows (i : Int)]) (by omega) (by omega) (by simp; omega)).trans ?_)
      simp
    · rw [if_neg (show ¬ decide (wu64 (now - (rdL t.rows (i : Int)).Used) ≤ 1000) = true from h), if_neg h]
      exact clock_l0 n t now ht j k (i + 1) acc (by omega) (by omega) (by omega)
theorem f_Clock (n : Nat) (t : T_session_Table) (now : Int) (ht : t.rows.length ≤ 1000) (hn : 2000 ≤ n) : session_Table_Clock.f n t now = some (clockM t now) := by
  unfold session_Table_Clock.f clockM
  by_cases h : now ≤ t.now
  · rw [if_pos (by simpa using h), if_pos h]
  · rw [if_neg (by simpa using h), if_neg h]
    exact clock_l0 n t now ht t.rows.length n 0 [] (by omega) (by omega) (by simp)
end Go.GL
