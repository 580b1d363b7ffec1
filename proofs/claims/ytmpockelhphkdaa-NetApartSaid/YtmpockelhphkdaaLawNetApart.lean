/- The law NetApart, over the plain functions. -/
import Derived.Test.YtmpockelhphkdaaNet
set_option linter.unusedVariables false
set_option linter.unusedSimpArgs false
set_option maxRecDepth 10000
namespace Go.GL
open Go
def wf_T_api_Entry (x : T_api_Entry) : Prop := (fun n => (Lit.int .u64 n).wf = true) x.Term ∧ (fun n => (Lit.int .u64 n).wf = true) x.Index ∧ (fun n => (Lit.int .i64 n).wf = true) x.Kind ∧ (fun l => l.length ≤ reachBytes) x.Data
def ms_T_api_Entry (x : T_api_Entry) : Nat := (fun _ => 1) x.Term + (fun _ => 1) x.Index + (fun _ => 1) x.Kind + (fun l => l.length + 1) x.Data
def wf_T_api_Letter (x : T_api_Letter) : Prop := (fun n => (Lit.int .i64 n).wf = true) x.Kind ∧ (fun n => (Lit.int .i64 n).wf = true) x.From ∧ (fun n => (Lit.int .i64 n).wf = true) x.To ∧ (fun n => (Lit.int .u64 n).wf = true) x.Term ∧ (fun n => (Lit.int .u64 n).wf = true) x.Index ∧ (fun n => (Lit.int .u64 n).wf = true) x.Prev ∧ (fun n => (Lit.int .u64 n).wf = true) x.Commit ∧ (fun _ => True) x.Ok ∧ (fun xs => xs.length * 40 ≤ reachBytes ∧ ∀ x ∈ xs, wf_T_api_Entry x) x.Entries ∧ (fun l => l.length ≤ reachBytes) x.Data
def ms_T_api_Letter (x : T_api_Letter) : Nat := (fun _ => 1) x.Kind + (fun _ => 1) x.From + (fun _ => 1) x.To + (fun _ => 1) x.Term + (fun _ => 1) x.Index + (fun _ => 1) x.Prev + (fun _ => 1) x.Commit + (fun _ => 1) x.Ok + (fun xs => (xs.map ms_T_api_Entry).sum + 1) x.Entries + (fun l => l.length + 1) x.Data
/-- An entry's slice that memory can hold. -/
def fits (x : T_api_Letter) : Prop := x.Entries.length * 40 ≤ 140737488351232
theorem f_copied2 (n : Nat) (x : T_api_Letter) (h : fits x) : net_copied.f n x = some x := by
  unfold net_copied.f
  have h : x.Entries.length * 40 ≤ 140737488351232 := h
  have c : capOk 40 (([] : List T_api_Entry) ++ x.Entries).length := by rw [List.nil_append]; unfold capOk; omega
  rw [if_pos c]
  rfl
theorem f_Send2 (n : Nat) (m : T_net_Net) (x : T_api_Letter) (h : fits x) (hm : m.l.length ≤ 256) : net_Net_Send.f n m x = some (sendM m x) := by
  unfold net_Net_Send.f sendM
  by_cases h1 : m.l.length = 256
  · rw [if_pos (by simp; omega), if_pos h1]
  · have c : capOk 104 (m.l ++ [x]).length := by simp only [List.length_append, List.length_cons, List.length_nil]; unfold capOk; omega
    rw [if_neg (by simp; omega), if_neg h1, f_copied2 n x h, Option.bind_some, if_pos c]
theorem f_copied_vo (n : Nat) (x : T_api_Letter) (h : fits x) : net_copied_vo.f n x = some x := f_copied2 n x h
theorem f_Send_vp (n : Nat) (m : T_net_Net) (x : T_api_Letter) (h : fits x) (hm : m.l.length ≤ 256) : net_Net_Send_vp.f n m x = some (sendM m x) := f_Send2 n m x h hm
theorem all_l0 (n : Nat) (m : T_net_Net) (hm : m.l.length ≤ 256) (he : ∀ y ∈ m.l, fits y) : ∀ (j k i : Nat), i + j = m.l.length → j < k → net_Net_All_vo.l0 n m k (m.l.take i) (i : Int) = some m.l
  | j, 0, i, _, h => by omega
  | 0, k + 1, i, hi, _ => by
    unfold net_Net_All_vo.l0
    rw [if_neg (by simp; omega), List.take_of_length_le (by omega)]
  | j + 1, k + 1, i, hi, hk => by
    have hlt : i < m.l.length := by omega
    have er : rdL m.l (i : Int) = m.l[i] := by simp [rdL, hlt]
    have es : m.l.take (i + 1) = m.l.take i ++ [m.l[i]] := by rw [List.take_add_one, List.getElem?_eq_getElem hlt]; rfl
    unfold net_Net_All_vo.l0
    have c : capOk 104 (m.l.take i ++ [m.l[i]]).length := by simp only [List.length_append, List.length_take, List.length_cons, List.length_nil]; unfold capOk; omega
    have := he _ (List.getElem_mem hlt)
    rw [if_pos (by simp; omega), if_pos ⟨by omega, by omega⟩, er, f_copied_vo n _ this, Option.bind_some, if_pos c, wi64_id (by omega) (by omega), show ((i : Int) + 1) = ((i + 1 : Nat) : Int) by omega, ← es]
    exact all_l0 n m hm he j k (i + 1) (by omega) (by omega)
theorem f_All (n : Nat) (hn : 1000 ≤ n) (m : T_net_Net) (hm : m.l.length ≤ 256) (he : ∀ y ∈ m.l, fits y) : net_Net_All_vo.f n m = some m.l := by
  have := all_l0 n m hm he m.l.length n 0 (by omega) (by omega)
  rw [List.take_zero] at this
  exact this
/-- The end: what was sent comes back as it was. -/
def endO (n : Nat) (x more : T_api_Letter) (r : Bool × T_net_Net) : Option Bool :=
  (net_Net_Send.f n r.2 more).bind fun r_71 => (net_Net_Take.f n r_71.2 0).bind fun r_74 => (net_Net_Take.f n r_74.2.2 0).bind fun r_80 =>
    (tontineref10_Same.f n r_74.1 x).bind fun r_86 => if r_86 then ((tontineref10_Same.f n r_80.1 x).bind fun r_88 => (some r_88)) else some false
theorem ap_l2 (n : Nat) (L1 : Int → Option Bool) (ls : List T_api_Letter) (p : Nat) (hp : p < 1000) : ∀ (j k i : Nat) (f : List T_api_Entry), f.length = (rdL ls (p : Int)).Entries.length → f.length ≤ 100000 → i + j = f.length → j < k →
    tontinelaw10_NetApart.l2 n L1 ls (p : Int) k f (i : Int) = L1 ((p + 1 : Nat) : Int)
  | j, 0, i, f, _, _, _, h => by omega
  | 0, k + 1, i, f, hf, h1, hi, _ => by
    have w : wi64 ((p : Int) + 1) = ((p + 1 : Nat) : Int) := by rw [wi64_id (by omega) (by omega)]; omega
    unfold tontinelaw10_NetApart.l2
    rw [if_neg (by simp; omega), w, if_pos (by omega)]
  | j + 1, k + 1, i, f, hf, h1, hi, hk => by
    have w : wi64 ((i : Int) + 1) = ((i + 1 : Nat) : Int) := by rw [wi64_id (by omega) (by omega)]; omega
    unfold tontinelaw10_NetApart.l2
    rw [if_pos (by simp; omega), if_pos ⟨by omega, by omega⟩, if_pos ⟨by omega, by omega⟩, w]
    exact ap_l2 n L1 ls p hp j k (i + 1) _ (by rw [List.length_set]; exact hf) (by rw [List.length_set]; exact h1) (by rw [List.length_set]; omega) (by omega)
theorem ap_l1 (n : Nat) (x more : T_api_Letter) (r : Bool × T_net_Net) (ls : List T_api_Letter) (hl : ls.length ≤ 256) (he : ∀ y ∈ ls, y.Entries.length ≤ 1000) (hn : 2000 ≤ n) : ∀ (j k p : Nat), p + j = ls.length → j < k →
    tontinelaw10_NetApart.l1 n x more r ls k (p : Int) = endO n x more r
  | j, 0, p, _, h => by omega
  | 0, k + 1, p, hp, _ => by
    unfold tontinelaw10_NetApart.l1
    rw [if_neg (by simp; omega)]
    rfl
  | j + 1, k + 1, p, hp, hk => by
    have hy := he _ (rdL_mem (l := ls) (i := p) (by omega))
    unfold tontinelaw10_NetApart.l1
    rw [if_pos (by simp; omega), if_pos ⟨by omega, by omega⟩]
    have := ap_l2 n (tontinelaw10_NetApart.l1 n x more r ls k) ls p (by omega) (rdL ls (p : Int)).Entries.length n 0 _ rfl (by omega) (by omega) (by omega)
    rw [show ((0 : Nat) : Int) = 0 by rfl] at this
    rw [this]
    exact ap_l1 n x more r ls hl he hn j k (p + 1) (by omega) (by omega)
theorem ap_l0 (n : Nat) (x more : T_api_Letter) (r : Bool × T_net_Net) : ∀ (j k i : Nat) (f : List T_api_Entry), f.length = x.Entries.length → f.length ≤ 100000 → i + j = f.length → j < k →
    tontinelaw10_NetApart.l0 n x more r k f (i : Int) = (net_Net_All_vo.f n r.2).bind fun ls => tontinelaw10_NetApart.l1 n x more r ls n 0
  | j, 0, i, f, _, _, _, h => by omega
  | 0, k + 1, i, f, hf, h1, hi, _ => by
    unfold tontinelaw10_NetApart.l0
    rw [if_neg (by simp; omega)]
  | j + 1, k + 1, i, f, hf, h1, hi, hk => by
    have w : wi64 ((i : Int) + 1) = ((i + 1 : Nat) : Int) := by rw [wi64_id (by omega) (by omega)]; omega
    unfold tontinelaw10_NetApart.l0
    rw [if_pos (by simp; omega), if_pos ⟨by omega, by omega⟩, w]
    exact ap_l0 n x more r j k (i + 1) _ (by rw [List.length_set]; exact hf) (by rw [List.length_set]; exact h1) (by rw [List.length_set]; omega) (by omega)
theorem f_take0 (n : Nat) (y : T_api_Letter) (l : List T_api_Letter) (d : Int) (hl : l.length < 256) : net_Net_Take.f n (⟨y :: l, d⟩ : T_net_Net) 0 = some (y, true, ⟨l, d⟩) := by
  obtain ⟨k, hp, hk, h1, _⟩ := f_place n (⟨y :: l, d⟩ : T_net_Net) 0 (by simp) (by simp; omega)
  have : (k : Int) = 0 := h1 (by omega) (by simp)
  obtain rfl : k = 0 := by omega
  rw [take_of n _ 0 0 hp hk (by simp; omega)]
  rfl
theorem ap_end (n : Nat) (hn : 2000 ≤ n) (x more : T_api_Letter) (hx : x.Entries.length ≤ 100) (hm : fits more) : endO n x more (true, ⟨[x, x], 0⟩) = some true := by
  unfold endO
  rw [f_Send2 n _ more hm (by simp), Option.bind_some]
  have e : (sendM (⟨[x, x], 0⟩ : T_net_Net) more).2 = ⟨[x, x, more], 0⟩ := rfl
  rw [e, f_take0 n x _ 0 (by simp), Option.bind_some]
  show ((net_Net_Take.f n (⟨[x, more], 0⟩ : T_net_Net) 0).bind fun r_80 => (tontineref10_Same.f n x x).bind fun r_86 => if r_86 then ((tontineref10_Same.f n r_80.1 x).bind fun r_88 => (some r_88)) else some false) = some true
  rw [f_take0 n x _ 0 (by simp), Option.bind_some, same_x n x (by omega) (by omega), Option.bind_some, if_pos rfl]
  rfl
theorem tontinelaw10_NetApart_law (x more : T_api_Letter) (hx : wf_T_api_Letter x) (hm : wf_T_api_Letter more) : Ev (fun n => tontinelaw10_NetApart.f n x more) true := by
  have hr : reachBytes = 140737488351232 := by decide
  unfold tontinelaw10_NetApart.f
  refine Ev.bind (Ev.ge 40 begun10) (Ev.ge 3000 fun n hn => ?_)
  rw [if_neg (by simp)]
  by_cases h : (x.Entries.length : Int) > 100
  · rw [if_pos (by simpa using h)]
  rw [if_neg (by simpa using h)]
  have hx100 : x.Entries.length ≤ 100 := by omega
  have hfx : fits x := by unfold fits; omega
  have hfm : fits more := by have := hm.2.2.2.2.2.2.2.2.1; rw [hr] at this; exact this.1
  show tontinelaw10_NetApart.j0 n x more false = some true
  have e0 : (⟨x.Kind, x.From, x.To, x.Term, x.Index, x.Prev, x.Commit, x.Ok, ([] : List T_api_Entry) ++ x.Entries, x.Data⟩ : T_api_Letter) = x := rfl
  have e1 : net_New.f n = some (⟨[], 0⟩ : T_net_Net) := rfl
  have c : capOk 40 (([] : List T_api_Entry) ++ x.Entries).length := by rw [List.nil_append]; unfold capOk; omega
  have e2 : net_Net_Send_vp.f n (⟨[], 0⟩ : T_net_Net) x = some (true, ⟨[x], 0⟩) := f_Send_vp n _ x hfx (by simp)
  have e3 : net_Net_Double.f n (⟨[x], 0⟩ : T_net_Net) 0 = some (true, ⟨[x, x], 0⟩) := by
    obtain ⟨k, hp, hk, h1, _⟩ := f_place n (⟨[x], 0⟩ : T_net_Net) 0 (by simp) (by simp)
    obtain rfl : k = 0 := by have : k < 1 := hk; omega
    unfold net_Net_Double.f
    rw [hp, Option.bind_some, if_neg (by simp), if_pos ⟨by simp, by simp⟩, f_Send2 n _ _ (by exact hfx) (by simp)]
    rfl
  unfold tontinelaw10_NetApart.j0
  rw [if_neg (by simp), e1, Option.bind_some, if_pos c, if_pos c, e0, e2, Option.bind_some, e3, Option.bind_some]
  have hl0 := ap_l0 n x more (true, ⟨[x, x], 0⟩) x.Entries.length n 0 ([] ++ x.Entries) rfl (by rw [List.nil_append]; omega) (by simp) (by omega)
  rw [show ((0 : Nat) : Int) = 0 by rfl] at hl0
  rw [hl0, f_All n (by omega) _ (by simp) (by intro y hy; simp at hy; rw [hy]; exact hfx), Option.bind_some]
  have hl1 := ap_l1 n x more (true, ⟨[x, x], 0⟩) [x, x] (by simp) (by intro y hy; simp at hy; rw [hy]; omega) (by omega) 2 n 0 rfl (by omega)
  rw [show ((0 : Nat) : Int) = 0 by rfl] at hl1
  show tontinelaw10_NetApart.l1 n x more (true, ⟨[x, x], 0⟩) [x, x] n 0 = some true
  rw [hl1]
  exact ap_end n (by omega) x more hx100 hfm
end Go.GL
