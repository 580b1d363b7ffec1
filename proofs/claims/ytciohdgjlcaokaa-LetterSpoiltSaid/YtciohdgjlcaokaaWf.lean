/- What an argument that came in is, by type. -/
import Derived.Test.YtciohdgjlcaokaaPlainRead
set_option linter.unusedVariables false
set_option linter.unusedSimpArgs false
namespace Go.GL
open Go

theorem wi64_range (x : Int) : -9223372036854775808 ≤ wi64 x ∧ wi64 x ≤ 9223372036854775807 := by
  simp only [wi64, IntKind.wrap, IntKind.bits, IntKind.signed]
  simp
  split <;> omega
theorem wu64_range (x : Int) : 0 ≤ wu64 x ∧ wu64 x ≤ 18446744073709551615 := by
  simp only [wu64, IntKind.wrap, IntKind.bits, IntKind.signed]
  simp
  omega
theorem rdL_mem {α : Type} [Inhabited α] {l : List α} {i : Nat} (h : i < l.length) : rdL l (i : Int) ∈ l := by
  have : rdL l (i : Int) = l[i] := by simp [rdL, h]
  rw [this]; exact List.getElem_mem h
theorem zz_range {x : Int} (h1 : -9223372036854775808 ≤ x) (h2 : x ≤ 9223372036854775807) : 0 ≤ zz x ∧ zz x ≤ 18446744073709551615 := by
  unfold zz; split <;> omega

theorem p_Bool (n : Nat) (hn : 20 ≤ n) (w : T_pack_Writer) (hw : w.b.length ≤ 1000000000000) (b : Bool) :
    pack_Writer_Bool.f n w b = some ⟨w.b ++ enc (if b then 1 else 0)⟩ := by
  unfold pack_Writer_Bool.f
  cases b
  · rw [if_neg (by simp), w_Num n hn w hw ⟨by omega, by omega⟩]; rfl
  · rw [if_pos rfl, w_Num n hn w hw ⟨by omega, by omega⟩]; rfl

theorem encT_length (s : List UInt8) : (encT s).length ≤ 9 + s.length := by
  have := enc_length s.length
  simp [encT]; omega

def wf_T_api_Entry (x : T_api_Entry) : Prop := (fun n => (Lit.int .u64 n).wf = true) x.Term ∧ (fun n => (Lit.int .u64 n).wf = true) x.Index ∧ (fun n => (Lit.int .i64 n).wf = true) x.Kind ∧ (fun l => l.length ≤ reachBytes) x.Data
def ms_T_api_Entry (x : T_api_Entry) : Nat := (fun _ => 1) x.Term + (fun _ => 1) x.Index + (fun _ => 1) x.Kind + (fun l => l.length + 1) x.Data
def wf_T_api_Letter (x : T_api_Letter) : Prop := (fun n => (Lit.int .i64 n).wf = true) x.Kind ∧ (fun n => (Lit.int .i64 n).wf = true) x.From ∧ (fun n => (Lit.int .i64 n).wf = true) x.To ∧ (fun n => (Lit.int .u64 n).wf = true) x.Term ∧ (fun n => (Lit.int .u64 n).wf = true) x.Index ∧ (fun n => (Lit.int .u64 n).wf = true) x.Prev ∧ (fun n => (Lit.int .u64 n).wf = true) x.Commit ∧ (fun _ => True) x.Ok ∧ (fun xs => xs.length * 40 ≤ reachBytes ∧ ∀ x ∈ xs, wf_T_api_Entry x) x.Entries ∧ (fun l => l.length ≤ reachBytes) x.Data
def ms_T_api_Letter (x : T_api_Letter) : Nat := (fun _ => 1) x.Kind + (fun _ => 1) x.From + (fun _ => 1) x.To + (fun _ => 1) x.Term + (fun _ => 1) x.Index + (fun _ => 1) x.Prev + (fun _ => 1) x.Commit + (fun _ => 1) x.Ok + (fun xs => (xs.map ms_T_api_Entry).sum + 1) x.Entries + (fun l => l.length + 1) x.Data
theorem begun11 : Ev (fun n => tontinelaw11_begun.f n) true :=
  Ev.ge 30 fun n hn => by
    obtain ⟨m, rfl⟩ : ∃ m, n = m + 30 := ⟨n - 30, by omega⟩
    rfl
theorem wf_i64_of {n : Int} (h : 0 ≤ n ∧ n ≤ 100000) : (Lit.int .i64 n).wf = true := by
  simp [Lit.wf, IntKind.min, IntKind.max, IntKind.bits, IntKind.signed]; omega
theorem wf_u64_of {n : Int} (h : 0 ≤ n ∧ n ≤ 18446744073709551615) : (Lit.int .u64 n).wf = true := by
  simp [Lit.wf, IntKind.min, IntKind.max, IntKind.bits, IntKind.signed]; omega
end Go.GL
