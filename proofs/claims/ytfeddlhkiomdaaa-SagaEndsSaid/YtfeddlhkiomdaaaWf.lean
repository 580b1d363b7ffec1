/- What an argument that came in is, by type. -/
import Derived.Test.YtfeddlhkiomdaaaPlainRead
set_option linter.unusedVariables false
set_option linter.unusedSimpArgs false
namespace Go.GL
open Go

def wf_T_api_Step (x : T_api_Step) : Prop := (fun n => (Lit.int .i64 n).wf = true) x.Part ∧ (fun l => l.length ≤ reachBytes) x.Name ∧ (fun n => (Lit.int .i64 n).wf = true) x.Budget
def ms_T_api_Step (x : T_api_Step) : Nat := (fun _ => 1) x.Part + (fun l => l.length + 1) x.Name + (fun _ => 1) x.Budget
theorem wi64_range (x : Int) : -9223372036854775808 ≤ wi64 x ∧ wi64 x ≤ 9223372036854775807 := by
  simp only [wi64, IntKind.wrap, IntKind.bits, IntKind.signed]
  simp
  split <;> omega
theorem wu64_range (x : Int) : 0 ≤ wu64 x ∧ wu64 x ≤ 18446744073709551615 := by
  simp only [wu64, IntKind.wrap, IntKind.bits, IntKind.signed]
  simp
  omega
theorem rdL_mem {α : Type} [Inhabited α] {l : List α} {i : Nat} (h : i < l.length) : rdL l (i : Int) ∈ l := by
  have : rdL l (i : Int) = l[i] := by simp [rdL, h]
  rw [this]; exact List.getElem_mem h
theorem zz_range {x : Int} (h1 : -9223372036854775808 ≤ x) (h2 : x ≤ 9223372036854775807) : 0 ≤ zz x ∧ zz x ≤ 18446744073709551615 := by
  unfold zz; split <;> omega

theorem p_Bool (n : Nat) (hn : 20 ≤ n) (w : T_pack_Writer) (hw : w.b.length ≤ 1000000000000) (b : Bool) :
    pack_Writer_Bool.f n w b = some ⟨w.b ++ enc (if b then 1 else 0)⟩ := by
  unfold pack_Writer_Bool.f
  cases b
  · rw [if_neg (by simp), w_Num n hn w hw ⟨by omega, by omega⟩]; rfl
  · rw [if_pos rfl, w_Num n hn w hw ⟨by omega, by omega⟩]; rfl

theorem encT_length (s : List UInt8) : (encT s).length ≤ 9 + s.length := by
  have := enc_length s.length
  simp [encT]; omega

def wf_T_api_Command (x : T_api_Command) : Prop := (fun n => (Lit.int .i64 n).wf = true) x.Kind ∧ (fun n => (Lit.int .u64 n).wf = true) x.Session ∧ (fun n => (Lit.int .u64 n).wf = true) x.Seq ∧ (fun n => (Lit.int .u64 n).wf = true) x.Saga ∧ (fun xs => xs.length * 32 ≤ reachBytes ∧ ∀ x ∈ xs, wf_T_api_Step x) x.Steps ∧ (fun n => (Lit.int .i64 n).wf = true) x.Step ∧ (fun _ => True) x.Back ∧ (fun n => (Lit.int .i64 n).wf = true) x.Try ∧ (fun _ => True) x.Ok ∧ (fun n => (Lit.int .u64 n).wf = true) x.Now
def ms_T_api_Command (x : T_api_Command) : Nat := (fun _ => 1) x.Kind + (fun _ => 1) x.Session + (fun _ => 1) x.Seq + (fun _ => 1) x.Saga + (fun xs => (xs.map ms_T_api_Step).sum + 1) x.Steps + (fun _ => 1) x.Step + (fun _ => 1) x.Back + (fun _ => 1) x.Try + (fun _ => 1) x.Ok + (fun _ => 1) x.Now
def wf_T_api_Reply (x : T_api_Reply) : Prop := (fun n => (Lit.int .i64 n).wf = true) x.Err ∧ (fun n => (Lit.int .u64 n).wf = true) x.Num ∧ (fun n => (Lit.int .u64 n).wf = true) x.Extra
def ms_T_api_Reply (x : T_api_Reply) : Nat := (fun _ => 1) x.Err + (fun _ => 1) x.Num + (fun _ => 1) x.Extra
theorem begun16 : Ev (fun n => tontinelaw16_begun.f n) true :=
  Ev.ge 30 fun n hn => by
    obtain ⟨m, rfl⟩ : ∃ m, n = m + 30 := ⟨n - 30, by omega⟩
    rfl

/-- Numbers, laid one behind the other. -/
def encN (l : List Int) : List UInt8 := l.flatMap fun x => enc x.toNat
theorem nums_l0 (n : Nat) (hn : 20 ≤ n) (l : List Int) (hl : l.length ≤ 1000) (hw : ∀ x ∈ l, 0 ≤ x ∧ x ≤ 18446744073709551615) : ∀ (k i : Nat) (f : List UInt8), i ≤ l.length → l.length - i < k → f.length ≤ i * 9 →
    tontineref16_nums.l0 n l k f (i : Int) = some (f ++ encN (l.drop i))
  | 0, i, f, _, hk, _ => by omega
  | k + 1, i, f, hi, hk, hf => by
    unfold tontineref16_nums.l0
    by_cases h : i < l.length
    · rw [if_pos (by simp <;> omega), if_pos ⟨by omega, by omega⟩]
      have e : wi64 ((i : Int) + 1) = ((i + 1 : Nat) : Int) := by rw [wi64_id (by omega) (by omega)]; omega
      have hx := hw _ (rdL_mem h)
      rw [getD_drop h]
      have ih := fun g hg => nums_l0 n hn l hl hw k (i + 1) g (by omega) (by omega) hg
      generalize rdL l (i : Int) = s at *
      have z1 := enc_length s.toNat
      rw [ref_Num n hn hx, Option.bind_some, if_pos (by simp only [i64max]; omega), e, ih _ (by simp <;> omega)]
      simp [encN]
    · have : i = l.length := by omega
      rw [if_neg (by simp <;> omega)]
      subst this; simp [encN]
theorem nums_f (n : Nat) (l : List Int) (hn : 20 + l.length ≤ n) (hl : l.length ≤ 1000) (hw : ∀ x ∈ l, 0 ≤ x ∧ x ≤ 18446744073709551615) : tontineref16_nums.f n l = some (encN l) := by
  unfold tontineref16_nums.f
  exact nums_l0 n (by omega) l hl hw n 0 [] (by omega) (by omega) (by simp)
end Go.GL
