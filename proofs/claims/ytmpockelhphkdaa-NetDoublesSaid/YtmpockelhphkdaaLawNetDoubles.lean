/- The law NetDoubles, over the plain functions. -/
import Derived.Test.YtmpockelhphkdaaNet
set_option linter.unusedVariables false
set_option linter.unusedSimpArgs false
set_option maxRecDepth 10000
namespace Go.GL
open Go
def wf_T_api_Entry (x : T_api_Entry) : Prop := (fun n => (Lit.int .u64 n).wf = true) x.Term ∧ (fun n => (Lit.int .u64 n).wf = true) x.Index ∧ (fun n => (Lit.int .i64 n).wf = true) x.Kind ∧ (fun l => l.length ≤ reachBytes) x.Data
def ms_T_api_Entry (x : T_api_Entry) : Nat := (fun _ => 1) x.Term + (fun _ => 1) x.Index + (fun _ => 1) x.Kind + (fun l => l.length + 1) x.Data
def wf_T_api_Letter (x : T_api_Letter) : Prop := (fun n => (Lit.int .i64 n).wf = true) x.Kind ∧ (fun n => (Lit.int .i64 n).wf = true) x.From ∧ (fun n => (Lit.int .i64 n).wf = true) x.To ∧ (fun n => (Lit.int .u64 n).wf = true) x.Term ∧ (fun n => (Lit.int .u64 n).wf = true) x.Index ∧ (fun n => (Lit.int .u64 n).wf = true) x.Prev ∧ (fun n => (Lit.int .u64 n).wf = true) x.Commit ∧ (fun _ => True) x.Ok ∧ (fun xs => xs.length * 40 ≤ reachBytes ∧ ∀ x ∈ xs, wf_T_api_Entry x) x.Entries ∧ (fun l => l.length ≤ reachBytes) x.Data
def ms_T_api_Letter (x : T_api_Letter) : Nat := (fun _ => 1) x.Kind + (fun _ => 1) x.From + (fun _ => 1) x.To + (fun _ => 1) x.Term + (fun _ => 1) x.Index + (fun _ => 1) x.Prev + (fun _ => 1) x.Commit + (fun _ => 1) x.Ok + (fun xs => (xs.map ms_T_api_Entry).sum + 1) x.Entries + (fun l => l.length + 1) x.Data
/-- The net that holds c letters x, after d lost. -/
def reps (x : T_api_Letter) (c : Nat) (d : Int) : T_net_Net := ⟨List.replicate c x, d⟩
theorem reps_rd (x : T_api_Letter) (c k : Nat) (h : k < c) : rdL (List.replicate c x) (k : Int) = x := by
  simp [rdL, h]
theorem reps_take (n : Nat) (x : T_api_Letter) (c : Nat) (d i : Int) (h : 0 < c) (h2 : c ≤ 256) : net_Net_Take.f n ⟨List.replicate c x, d⟩ i = some (x, true, ⟨List.replicate (c - 1) x, d⟩) := by
  obtain ⟨k, hp, hk, _⟩ := f_place n ⟨List.replicate c x, d⟩ i (by simpa using h) (by simpa using h2)
  have hk2 : k < c := by simpa using hk
  rw [take_of n ⟨List.replicate c x, d⟩ i k hp hk (by simpa using h2)]
  have e : List.take k (List.replicate c x) ++ List.drop (k + 1) (List.replicate c x) = List.replicate (c - 1) x := by
    rw [List.take_replicate, List.drop_replicate, List.replicate_append_replicate]
    congr 1
    omega
  simp only
  rw [e, reps_rd x c k hk2]
theorem reps_send (n : Nat) (x : T_api_Letter) (c : Nat) (d : Int) (hx : x.Entries.length ≤ 1000) (h2 : c < 256) : net_Net_Send.f n ⟨List.replicate c x, d⟩ x = some (true, ⟨List.replicate (c + 1) x, d⟩) := by
  rw [f_Send n _ x (by omega) (by simp; omega)]
  unfold sendM
  rw [if_neg (by simp; omega)]
  show some (true, (⟨List.replicate c x ++ [x], d⟩ : T_net_Net)) = _
  rw [← List.replicate_succ']
theorem reps_full (n : Nat) (x : T_api_Letter) (d : Int) (hx : x.Entries.length ≤ 1000) : net_Net_Send.f n ⟨List.replicate 256 x, d⟩ x = some (false, ⟨List.replicate 256 x, wi64 (d + 1)⟩) := by
  rw [f_Send n _ x (by omega) (by simp)]
  unfold sendM
  rw [if_pos (by simp)]
theorem reps_double (n : Nat) (x : T_api_Letter) (c : Nat) (d i : Int) (h : 0 < c) (h2 : c ≤ 256) (hx : x.Entries.length ≤ 1000) : net_Net_Double.f n ⟨List.replicate c x, d⟩ i = if c = 256 then some (false, ⟨List.replicate 256 x, wi64 (d + 1)⟩) else some (true, ⟨List.replicate (c + 1) x, d⟩) := by
  obtain ⟨k, hp, hk, _⟩ := f_place n ⟨List.replicate c x, d⟩ i (by simpa using h) (by simpa using h2)
  have hk2 : k < c := by simpa using hk
  unfold net_Net_Double.f
  rw [hp, Option.bind_some, if_neg (by simp), if_pos ⟨by omega, by simp; omega⟩]
  simp only
  rw [reps_rd x c k hk2]
  by_cases h3 : c = 256
  · subst h3
    rw [reps_full n x d hx, Option.bind_some, if_pos rfl]
  · rw [reps_send n x c d hx (by omega), Option.bind_some, if_neg h3]
theorem dbl_l1 (n : Nat) (x : T_api_Letter) (n4 : Int) (r : Int × Int) (R : Nat) (hR : r.1 = (R : Int)) (hR2 : R ≤ 256) (hx : x.Entries.length ≤ 1000) (hn : 2000 ≤ n) (d : Int) :
    ∀ (j k i : Nat), i + j = R → j < k → tontinelaw10_NetDoubles.l1 n x n4 r k (List.replicate j x) d (i : Int) = some true
  | j, 0, i, _, h => by omega
  | 0, k + 1, i, hi, _ => by
    unfold tontinelaw10_NetDoubles.l1
    rw [if_neg (by rw [hR]; simp; omega)]
  | j + 1, k + 1, i, hi, hk => by
    unfold tontinelaw10_NetDoubles.l1
    rw [if_pos (by rw [hR]; simp; omega), reps_take n x (j + 1) d _ (by omega) (by omega), Option.bind_some, if_neg (by simp), same_x n x (by omega) (by omega), Option.bind_some, if_neg (by simp), wi64_id (by omega) (by omega), show ((i : Int) + 1) = ((i + 1 : Nat) : Int) by omega]
    exact dbl_l1 n x n4 r R hR hR2 hx hn d j k (i + 1) (by omega) (by omega)
theorem dbl_l0 (n : Nat) (x : T_api_Letter) (n4 : Int) (N : Nat) (hN : (wi64 ((n4.tmod 300) + 300)).tmod 300 = (N : Int)) (hN2 : N < 300) (hx : x.Entries.length ≤ 1000) (hn : 2000 ≤ n) :
    ∀ (j k i : Nat), i + j = N → j < k → tontinelaw10_NetDoubles.l0 n x n4 k (List.replicate (min (i + 1) 256) x) ((i + 1 - 256 : Nat) : Int) (i : Int) = some true
  | j, 0, i, _, h => by omega
  | 0, k + 1, i, hi, _ => by
    unfold tontinelaw10_NetDoubles.l0
    simp only [hN]
    have hi : i = N := by omega
    subst hi
    have w1 : wi64 ((i : Int) + 1) = ((i + 1 : Nat) : Int) := by rw [wi64_id (by omega) (by omega)]; omega
    rw [if_neg (by simp), w1]
    unfold net_Net_Count.f
    rw [Option.bind_some]
    simp only [List.length_replicate]
    have e1 : ((((min (i + 1) 256 : Nat) : Int)) != (if (256 : Int) < ((i + 1 : Nat) : Int) then 256 else ((i + 1 : Nat) : Int))) = false := by
      rw [bne_eq_false_iff_eq]
      split <;> omega
    have e2 : ((wi64 (((min (i + 1) 256 : Nat) : Int) + ((i + 1 - 256 : Nat) : Int))) != ((i + 1 : Nat) : Int)) = false := by
      rw [bne_eq_false_iff_eq, wi64_id (by omega) (by omega)]
      omega
    rw [e1, if_neg (by simp), e2]
    unfold tontinelaw10_NetDoubles.j0
    rw [if_neg (by simp)]
    exact dbl_l1 n x n4 _ (min (i + 1) 256) rfl (by omega) hx hn _ (min (i + 1) 256) n 0 (by omega) (by omega)
  | j + 1, k + 1, i, hi, hk => by
    have ih := dbl_l0 n x n4 N hN hN2 hx hn j k (i + 1) (by omega) (by omega)
    unfold tontinelaw10_NetDoubles.l0
    simp only [hN]
    have w1 : wi64 ((i : Int) + 1) = ((i + 1 : Nat) : Int) := by rw [wi64_id (by omega) (by omega)]; omega
    rw [if_pos (by simp; omega), w1, reps_double n x (min (i + 1) 256) _ _ (by omega) (by omega) hx]
    by_cases h : min (i + 1) 256 = 256
    · rw [if_pos h, Option.bind_some]
      have e1 : (!(false == decide (((i + 1 : Nat) : Int) < 256))) = false := by
        have : decide (((i + 1 : Nat) : Int) < 256) = false := by simp; omega
        rw [this]; rfl
      simp only
      rw [e1, if_neg (by simp), wi64_id (by omega) (by omega)]
      rw [show min (i + 1 + 1) 256 = 256 by omega, show ((i + 1 + 1 - 256 : Nat) : Int) = ((i + 1 - 256 : Nat) : Int) + 1 by omega] at ih
      exact ih
    · rw [if_neg h, Option.bind_some]
      have e1 : (!(true == decide (((i + 1 : Nat) : Int) < 256))) = false := by
        have : decide (((i + 1 : Nat) : Int) < 256) = true := by simp; omega
        rw [this]; rfl
      simp only
      rw [e1, if_neg (by simp)]
      rw [show min (i + 1 + 1) 256 = min (i + 1) 256 + 1 by omega, show (i + 1 + 1 - 256 : Nat) = (i + 1 - 256 : Nat) by omega] at ih
      exact ih
theorem tontinelaw10_NetDoubles_law (x : T_api_Letter) (n1 : Int) (h1 : wf_T_api_Letter x) (h2 : (Lit.int .i64 n1).wf = true) : Ev (fun n => tontinelaw10_NetDoubles.f n x n1) true := by
  refine Ev.ge 2000 fun n hn => ?_
  unfold tontinelaw10_NetDoubles.f
  rw [begun10 n (by omega), Option.bind_some, if_neg (by simp)]
  by_cases hx : (x.Entries.length : Int) > 50
  · rw [if_pos (by simpa using hx)]
  · obtain ⟨M, hM, hM2⟩ := modN n1 300 (by omega) (by omega)
    rw [if_neg (by simpa using hx)]
    have := reps_send n x 0 0 (by omega) (by omega)
    unfold net_New.f
    rw [Option.bind_some]
    show (Option.bind (net_Net_Send.f n ⟨[], 0⟩ x) _) = _
    rw [show ([] : List T_api_Letter) = List.replicate 0 x by rfl, this, Option.bind_some]
    exact dbl_l0 n x n1 M hM hM2 (by omega) hn M n 0 (by omega) (by omega)
end Go.GL
