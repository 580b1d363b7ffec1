/- The law PackReads, over the plain functions. -/
import Derived.Test.YtcpcdnjpdblhoaaBoth
set_option linter.unusedVariables false
set_option linter.unusedSimpArgs false
namespace Go.GL
open Go

theorem packReads_j0 {n : Nat} (s : List UInt8) (bad : Bool) (L0 : List UInt8 → Bool → List UInt8 → Bool → Int → Option Bool) (i : Nat) (hi : i ≤ 200) : tontinelaw03_PackReads.j0 n L0 (i : Int) s bad s bad = L0 s bad s bad ((i + 1 : Nat) : Int) := by
  have e : wi64 ((i : Int) + 1) = ((i + 1 : Nat) : Int) := by rw [wi64_id (by omega) (by omega)]; omega
  have hl : pack_Reader_Left.f n (⟨s, bad⟩ : T_pack_Reader) = some ((s.length : Int), !bad) := rfl
  have hd : pack_Reader_Done.f n (⟨s, bad⟩ : T_pack_Reader) = some (if ((s.length : Int) == 0) = true then !bad else false) := by
    unfold pack_Reader_Done.f
    rw [hl]
    simp only [Option.bind_some]
    split <;> rfl
  have hj : tontinelaw03_PackReads.j1 n L0 (i : Int) s bad s bad false = L0 s bad s bad ((i + 1 : Nat) : Int) := by
    unfold tontinelaw03_PackReads.j1
    rw [if_neg (by simp), e]
  unfold tontinelaw03_PackReads.j0
  rw [hl]
  simp only [Option.bind_some]
  rw [if_neg (by simp), if_neg (by cases bad <;> simp), hd]
  simp only [Option.bind_some]
  cases bad <;> cases hq : ((s.length : Int) == 0) <;> simpa using hj
theorem packReads_l0 {n : Nat} (hn : 20 ≤ n) (l : List T_tontinelaw03_Thing) : ∀ (k i : Nat) (s : List UInt8) (bad : Bool), i ≤ 200 → i ≤ l.length → 200 - i < k → s.length < 1000000000000000000 →
    tontinelaw03_PackReads.l0 n l k s bad s bad (i : Int) = some true
  | 0, i, s, bad, _, _, hk, _ => by omega
  | k + 1, i, s, bad, h2, hi, hk, hf => by
    unfold tontinelaw03_PackReads.l0
    by_cases h : i < l.length
    · rw [if_pos (by simp <;> omega), if_pos ⟨by omega, by omega⟩]
      by_cases h3 : i = 200
      · rw [if_pos (by simp [h3])]
      rw [if_neg (by simp <;> omega)]
      have ih := fun t b (hg : t.length ≤ s.length) => (packReads_j0 (n := n) t b (tontinelaw03_PackReads.l0 n l k) i (by omega)).trans (packReads_l0 hn l k (i + 1) t b (by omega) (by omega) (by omega) (by omega))
      generalize rdL l (i : Int) = x
      have hwi := wi64_range x.Num
      have key : ∀ {α : Type} [BEq α] [LawfulBEq α] {p : Option (α × T_pack_Reader)} {r : Option (α × T_tontineref03_Reader)}, both p r s.length →
          (p.bind fun a => r.bind fun b => if (a.1 != b.1) = true then some false else tontinelaw03_PackReads.j0 n (tontinelaw03_PackReads.l0 n l k) (i : Int) a.2.s a.2.bad b.2.S_ b.2.Bad) = some true := by
        rintro α _ _ p r ⟨a, t, b, rfl, rfl, hl⟩
        simp only [Option.bind_some]
        rw [if_neg (by simp)]
        exact ih t b hl
      by_cases k0 : (x.Kind == 0) = true
      · rw [if_pos k0]; exact key (both_Num hn s bad hf)
      rw [if_neg k0]
      by_cases k1 : (x.Kind == 1) = true
      · rw [if_pos k1]; exact key (both_Int hn s bad hf)
      rw [if_neg k1]
      by_cases k2 : (x.Kind == 2) = true
      · rw [if_pos k2]
        obtain ⟨a, t, b, e1, e2, hl⟩ := both_Up hn s bad hf 1
        have e3 : pack_Reader_Bool.f n ⟨s, bad⟩ = some ((a == 1), ⟨t, b⟩) := by unfold pack_Reader_Bool.f; rw [e1]; rfl
        rw [e3, e2]
        simp only [Option.bind_some]
        rw [if_neg (by simp)]
        exact ih t b hl
      rw [if_neg k2]
      by_cases k3 : (x.Kind == 3) = true
      · rw [if_pos k3]
        have := key (both_Text hn s bad hf (wi64 x.Num) hwi.2)
        exact this
      rw [if_neg k3]
      exact key (both_Up hn s bad hf (wi64 x.Num))
    · rw [if_neg (by simp <;> omega)]

theorem tontinelaw03_PackReads_law (s : List UInt8) (l : List T_tontinelaw03_Thing) (h1 : s.length ≤ reachBytes) (h : l.length * 32 ≤ reachBytes ∧ ∀ x ∈ l, wf_T_tontinelaw03_Thing x) : Ev (fun n => tontinelaw03_PackReads.f n s l) true := by
  unfold tontinelaw03_PackReads.f
  refine Ev.bind begun03 (Ev.ge 300 fun n hn => ?_)
  rw [if_neg (by simp)]
  have hr : reachBytes < 1000000000000000000 := by decide
  exact packReads_l0 (by omega) l n 0 s false (by omega) (by omega) (by omega) (by omega)
end Go.GL
