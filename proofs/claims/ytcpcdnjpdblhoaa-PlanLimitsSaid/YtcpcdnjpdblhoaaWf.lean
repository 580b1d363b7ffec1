/- What an argument that came in is, by type. -/
import Derived.Test.YtcpcdnjpdblhoaaPlainRead
set_option linter.unusedVariables false
set_option linter.unusedSimpArgs false
namespace Go.GL
open Go

def wf_T_api_Step (x : T_api_Step) : Prop := (fun n => (Lit.int .i64 n).wf = true) x.Part ∧ (fun l => l.length ≤ reachBytes) x.Name ∧ (fun n => (Lit.int .i64 n).wf = true) x.Budget
def ms_T_api_Step (x : T_api_Step) : Nat := (fun _ => 1) x.Part + (fun l => l.length + 1) x.Name + (fun _ => 1) x.Budget
def wf_T_tontinelaw03_Thing (x : T_tontinelaw03_Thing) : Prop := (fun n => (Lit.int .i64 n).wf = true) x.Kind ∧ (fun n => (Lit.int .u64 n).wf = true) x.Num ∧ (fun l => l.length ≤ reachBytes) x.Text
def ms_T_tontinelaw03_Thing (x : T_tontinelaw03_Thing) : Nat := (fun _ => 1) x.Kind + (fun _ => 1) x.Num + (fun l => l.length + 1) x.Text

theorem wi64_range (x : Int) : -9223372036854775808 ≤ wi64 x ∧ wi64 x ≤ 9223372036854775807 := by
  simp only [wi64, IntKind.wrap, IntKind.bits, IntKind.signed]
  simp
  split <;> omega
theorem wu64_range (x : Int) : 0 ≤ wu64 x ∧ wu64 x ≤ 18446744073709551615 := by
  simp only [wu64, IntKind.wrap, IntKind.bits, IntKind.signed]
  simp
  omega
theorem rdL_mem {α : Type} [Inhabited α] {l : List α} {i : Nat} (h : i < l.length) : rdL l (i : Int) ∈ l := by
  have : rdL l (i : Int) = l[i] := by simp [rdL, h]
  rw [this]; exact List.getElem_mem h
theorem zz_range {x : Int} (h1 : -9223372036854775808 ≤ x) (h2 : x ≤ 9223372036854775807) : 0 ≤ zz x ∧ zz x ≤ 18446744073709551615 := by
  unfold zz; split <;> omega

theorem p_Int (n : Nat) (hn : 20 ≤ n) (w : T_pack_Writer) (hw : w.b.length ≤ 1000000000000) {x : Int} (h : -9223372036854775808 ≤ x ∧ x ≤ 9223372036854775807) :
    pack_Writer_Int.f n w x = some ⟨w.b ++ enc (zz x).toNat⟩ := by
  unfold pack_Writer_Int.f
  rw [zz_w h.1 h.2, w_Num n hn w hw (zz_range h.1 h.2)]
  rfl
theorem ref_Int (n : Nat) (hn : 20 ≤ n) {x : Int} (h : -9223372036854775808 ≤ x ∧ x ≤ 9223372036854775807) : tontineref03_Int.f n x = some (enc (zz x).toNat) := by
  unfold tontineref03_Int.f
  have hz := zz_range h.1 h.2
  by_cases h0 : 0 ≤ x
  · have e : wu64 (2 * wu64 x) = zz x := by rw [wu64_id (x := x) (by omega) (by omega), wu64_id (by omega) (by omega), zz, if_pos h0]
    rw [if_pos (by simp <;> omega), e, ref_Num n hn hz]
    rfl
  · have e : wu64 (wu64 (2 * wu64 (wi64 (0 - wi64 (x + 1)))) + 1) = zz x := by
      rw [wi64_id (x := x + 1) (by omega) (by omega), wi64_id (by omega) (by omega), wu64_id (x := 0 - (x + 1)) (by omega) (by omega), wu64_id (x := 2 * _) (by omega) (by omega), wu64_id (by omega) (by omega), zz, if_neg h0]
      omega
    rw [if_neg (by simp <;> omega), e, ref_Num n hn hz]
    rfl
theorem p_Bool (n : Nat) (hn : 20 ≤ n) (w : T_pack_Writer) (hw : w.b.length ≤ 1000000000000) (b : Bool) :
    pack_Writer_Bool.f n w b = some ⟨w.b ++ enc (if b then 1 else 0)⟩ := by
  unfold pack_Writer_Bool.f
  cases b
  · rw [if_neg (by simp), w_Num n hn w hw ⟨by omega, by omega⟩]; rfl
  · rw [if_pos rfl, w_Num n hn w hw ⟨by omega, by omega⟩]; rfl

theorem encT_length (s : List UInt8) : (encT s).length ≤ 9 + s.length := by
  have := enc_length s.length
  simp [encT]; omega
end Go.GL
