/- The law PackLimits, over the plain functions. -/
import Derived.Test.YtcpcdnjpdblhoaaRound
set_option linter.unusedVariables false
set_option linter.unusedSimpArgs false
namespace Go.GL
open Go

theorem shR_1 (y : Nat) : shR .u64 (y : Int) 1 = ((y / 2 : Nat) : Int) := by
  show (y : Int).fdiv (2 ^ 1) = _
  rw [Int.fdiv_eq_ediv_of_nonneg _ (by decide)]
  simp

theorem packLimits_j0 (n : Nat) (hn : 20 ≤ n) (m : Nat) (hm : m < 18446744073709551616) (s : List UInt8) (hs : s.length ≤ 10000) (less : Bool) :
    tontinelaw03_PackLimits.j0 n (m : Int) s less (if less then ((m / 2 : Nat) : Int) - 1 else ((m / 2 : Nat) : Int)) (if less then (s.length : Int) - 1 else (s.length : Int)) = some true := by
  have z := enc_length (m / 2)
  have z2 := encT_length s
  have z3 := enc_length 7
  have hb : ∀ l, pack_Writer_Bytes.f n (⟨l⟩ : T_pack_Writer) = some l := fun _ => rfl
  have hf : ∀ l, pack_From.f n l = some ⟨l, false⟩ := fun _ => rfl
  have hl : ∀ (l : List UInt8) b, pack_Reader_Left.f n (⟨l, b⟩ : T_pack_Reader) = some ((l.length : Int), !b) := fun _ _ => rfl
  have h0 : ∀ b, pack_Reader_Num.f n ⟨[], b⟩ = some (0, ⟨[], true⟩) := fun b => by rw [p_Num n hn [] b (by simp)]; rfl
  have h7 : (7 : Int).toNat = 7 := rfl
  have d7 : ∀ b, pack_Reader_Num.f n ⟨enc 7, b⟩ = some (7, ⟨[], b⟩) := fun b => by
    have := p_enc hn (x := 7) (by omega) [] b (by simp)
    rw [List.append_nil] at this; exact this
  unfold tontinelaw03_PackLimits.j0
  rw [shR_1, w_Num n hn _ (by simp) ⟨by omega, by omega⟩, Option.bind_some, w_Num n hn _ (by simp only [List.nil_append, Int.toNat_natCast]; omega) ⟨by omega, by omega⟩, Option.bind_some, hb, Option.bind_some, hf, Option.bind_some,
    w_Text n hn _ (by simp) (by omega), Option.bind_some, w_Num n hn _ (by simp <;> omega) ⟨by omega, by omega⟩, Option.bind_some, hb, Option.bind_some, hf, Option.bind_some]
  simp only [List.nil_append, Int.toNat_natCast, h7]
  cases less
  · simp only [Bool.false_eq_true, if_false]
    rw [p_up hn (by omega) (enc 7) false (by omega) (Int.le_refl _) (by omega), Option.bind_some, p_text hn s (enc 7) false (by omega) (Int.le_refl _) (by omega), Option.bind_some]
    simp only [hl, Option.bind_some]
    rw [wi64_id (by omega) (by omega)]
    simp only [d7, Option.bind_some]
    simp only [pack_Reader_Done.f, hl, Option.bind_some]
    simp
  · simp only [if_true]
    rw [p_up_past hn (by omega) (enc 7) false (by omega) (by omega), Option.bind_some, p_text_past hn s (enc 7) false (by omega) (by omega), Option.bind_some]
    simp only [hl, Option.bind_some]
    simp only [h0, Option.bind_some, tontinelaw03_PackLimits.j1]
    simp

theorem tontinelaw03_PackLimits_law (x : Int) (s : List UInt8) (less : Bool) (hx : (Lit.int .u64 x).wf = true) (_ : s.length ≤ reachBytes) (_ : True) : Ev (fun n => tontinelaw03_PackLimits.f n x s less) true := by
  unfold tontinelaw03_PackLimits.f
  refine Ev.bind begun03 (Ev.ge 300 fun n hn => ?_)
  rw [if_neg (by simp)]
  have hx := wf_u64 hx
  obtain ⟨m, rfl⟩ : ∃ m : Nat, x = (m : Int) := ⟨x.toNat, by omega⟩
  by_cases h : (s.length : Int) > 10000
  · rw [if_pos (by simpa using h)]
  rw [if_neg (by simpa using h), shR_1, wi64_id (x := ((m / 2 : Nat) : Int)) (by omega) (by omega), wi64_id (x := ((m / 2 : Nat) : Int) - 1) (by omega) (by omega), wi64_id (x := (s.length : Int) - 1) (by omega) (by omega)]
  have := packLimits_j0 n (by omega) m (by omega) s (by omega) less
  cases less
  · exact this
  · exact this
end Go.GL
