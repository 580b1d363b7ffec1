/- The law PackLays, over the plain functions. -/
import Derived.Test.YtcpcdnjpdblhoaaWf
set_option linter.unusedVariables false
set_option linter.unusedSimpArgs false
namespace Go.GL
open Go

theorem packLays_l0 (n : Nat) (hn : 20 ≤ n) (l : List T_tontinelaw03_Thing) (hw : ∀ x ∈ l, wf_T_tontinelaw03_Thing x) : ∀ (k i : Nat) (f : List UInt8), i ≤ 200 → i ≤ l.length → 200 - i < k → f.length ≤ i * 2000 →
    tontinelaw03_PackLays.l0 n l k f f (i : Int) = some true
  | 0, i, f, _, _, hk, _ => by omega
  | k + 1, i, f, h2, hi, hk, hf => by
    have hb : pack_Writer_Bytes.f n (⟨f⟩ : T_pack_Writer) = some f := rfl
    unfold tontinelaw03_PackLays.l0
    by_cases h : i < l.length
    · rw [if_pos (by simp <;> omega), if_pos ⟨by omega, by omega⟩]
      have hx := hw _ (rdL_mem h)
      have ht : ∀ L0, tontinelaw03_PackLays.j0 n L0 l f f (i : Int) true = some true := fun L0 => by
        unfold tontinelaw03_PackLays.j0
        rw [if_pos rfl, hb, Option.bind_some]; simp
      by_cases h3 : i = 200
      · rw [if_pos (by simp [h3]), ht]
      rw [if_neg (by simp <;> omega)]
      have ih := fun g (hg : g.length ≤ (i + 1) * 2000) => packLays_l0 n hn l hw k (i + 1) g (by omega) (by omega) (by omega) hg
      have e : wi64 ((i : Int) + 1) = ((i + 1 : Nat) : Int) := by rw [wi64_id (by omega) (by omega)]; omega
      generalize hs : rdL l (i : Int) = s at hx
      by_cases h4 : (s.Text.length : Int) > 1000
      · rw [decide_eq_true h4, ht]
      rw [decide_eq_false h4]
      obtain ⟨w1, w2, w3⟩ := hx
      have w2 := wf_u64 w2
      have hwb : (⟨f⟩ : T_pack_Writer).b.length ≤ 1000000000000 := by show f.length ≤ _; omega
      have hwi := wi64_range s.Num
      have z1 := enc_length s.Num.toNat
      have z2 := enc_length (zz (wi64 s.Num)).toNat
      have z3 := encT_length s.Text
      unfold tontinelaw03_PackLays.j0
      simp only [hs]
      rw [if_neg (by simp)]
      by_cases k0 : (s.Kind == 0) = true
      · rw [if_pos k0, w_Num n hn _ hwb w2, Option.bind_some, ref_Num n hn w2, Option.bind_some, if_pos (by simp only [i64max]; omega), e]
        exact ih _ (by simp <;> omega)
      rw [if_neg k0]
      by_cases k1 : (s.Kind == 1) = true
      · rw [if_pos k1, p_Int n hn _ hwb hwi, Option.bind_some, ref_Int n hn hwi, Option.bind_some, if_pos (by simp only [i64max]; omega), e]
        exact ih _ (by simp <;> omega)
      rw [if_neg k1]
      by_cases k2 : (s.Kind == 2) = true
      · obtain ⟨m, hm⟩ : ∃ m : Nat, s.Num = (m : Int) := ⟨s.Num.toNat, by omega⟩
        have hand : bAnd .u64 s.Num 1 = ((m % 2 : Nat) : Int) := by rw [hm]; exact bAnd_one m (by omega)
        have z4 := enc_length (m % 2)
        have hbit : (if ((((m % 2 : Nat) : Int)) == 1) = true then 1 else 0) = m % 2 := by
          by_cases q : m % 2 = 1
          · rw [q]; rfl
          · have : m % 2 = 0 := by omega
            rw [this]; rfl
        rw [if_pos k2, hand, p_Bool n hn _ hwb, Option.bind_some, ref_Num n hn ⟨by omega, by omega⟩, Option.bind_some, if_pos (by simp only [i64max, Int.toNat_natCast]; omega), e, hbit]
        exact ih _ (by simp <;> omega)
      rw [if_neg k2, w_Text n hn _ hwb (by omega), Option.bind_some, ref_Text n hn (by omega), Option.bind_some, if_pos (by simp only [i64max]; omega), e]
      exact ih _ (by simp <;> omega)
    · rw [if_neg (by simp <;> omega), hb, Option.bind_some]; simp

theorem tontinelaw03_PackLays_law (l : List T_tontinelaw03_Thing) (h : l.length * 32 ≤ reachBytes ∧ ∀ x ∈ l, wf_T_tontinelaw03_Thing x) : Ev (fun n => tontinelaw03_PackLays.f n l) true := by
  unfold tontinelaw03_PackLays.f
  refine Ev.bind begun03 (Ev.ge 300 fun n hn => ?_)
  rw [if_neg (by simp)]
  exact packLays_l0 n (by omega) l h.2 n 0 [] (by omega) (by omega) (by omega) (by simp)
end Go.GL
