import Derived.Test.YtolipnnfdclkoaaXG12
/-! Walks by symbolic states: arrays of numbers, conversions taken first. -/
set_option linter.unusedVariables false
set_option linter.unusedSimpArgs false
namespace Go.GL
open Go
section
variable {P : Program} {t : TypeId} {k : IntKind} {L L' : List Int} {n : Nat} {iv : Int}
end
def Opn.slice {α : Type} (K : Kd α) (xs : List α) : Opn (Kd.slice K) xs where
  ε := Option Addr × Nat
  cells := fun e => [.slice e.1 xs.length e.2]
  newB := fun e => [Rd 0 K e.1 e.2 xs]
  ok := fun w S cs ⟨A, c, h, hr⟩ => ⟨⟨A, c⟩, h, fun f hf => by
    simp only [List.mem_cons, List.mem_nil_iff, or_false] at hf
    subst hf; exact hr⟩
section
variable {ρ : Type} {C : Cx ρ} {env env' : Env} {H H' H0 : List Bx} {B B' B0 : List Fct} {k : List Item} {o : Option ρ} {ops : Array Oper} {rest : List Nat} {i : Nat} {G : Env → List Bx → List Fct → Option ρ → Prop} {fin : List Nat}
theorem run_slc {α : Type} {P : Program} {env : Env} {lf : List Value} (he0 : EnvOk env lf) {t e : TypeId} {lo hi : Option Operand} {K : Kd α} {A : Option Addr} {c : Nat} {xs : List α} (he : elemTy P t = some e) (hsz : tySize P e = some K.sz) (hle : xs.length ≤ c)
    {l h : Int} (hl : bnd env 0 lo = some l) (hh : bnd env (xs.length : Int) hi = some h) (h0 : 0 ≤ l) (h1 : l ≤ h) (h2 : h ≤ (xs.length : Int)) (w : World) :
    (Instr.sliceAt t (.slice A xs.length c) (lo.map (Act.eval ⟨⟨lf⟩, []⟩)) (hi.map (Act.eval ⟨⟨lf⟩, []⟩)) none).run P w = .ok (.slice (if c = l.toNat then A else A.map fun a => a.add (l.toNat * K.sz)) ((xs.take h.toNat).drop l.toNat).length (c - l.toNat)) w := by
  obtain ⟨inf, hi', hs⟩ := tySize_ok hsz
  have hlen : ((xs.take h.toNat).drop l.toNat).length = h.toNat - l.toNat := by simp; omega
  have eh : ∀ y, hi = some y → ∃ kk, Act.eval ⟨⟨lf⟩, []⟩ y = .int kk h := by
    intro y hy; subst hy
    simp only [bnd] at hh
    split at hh
    · rename_i kk m hm; cases hh; exact ⟨kk, evalE_ok he0 hm⟩
    · cases hh
  have el : ∀ y, lo = some y → ∃ kk, Act.eval ⟨⟨lf⟩, []⟩ y = .int kk l := by
    intro y hy; subst hy
    simp only [bnd] at hl
    split at hl
    · rename_i kk m hm; cases hl; exact ⟨kk, evalE_ok he0 hm⟩
    · cases hl
  have hb : (Instr.sliceBounds true xs.length c (lo.map (Act.eval ⟨⟨lf⟩, []⟩)) (hi.map (Act.eval ⟨⟨lf⟩, []⟩)) none).run P w = .ok (l.toNat, h.toNat, c) w := by
    have hc : h ≤ (c : Int) := by omega
    have h00 : 0 ≤ h := by omega
    have hlh : l ≤ (h.toNat : Int) := by omega
    cases hi with
    | none =>
      simp only [bnd] at hh; cases hh
      cases lo with
      | none => simp only [bnd] at hl; cases hl; simp [Instr.sliceBounds]
      | some y => obtain ⟨kk, hk⟩ := el y rfl; simp [Instr.sliceBounds, Instr.sliceBound, hk, asIntOf, h0, h1]
    | some z =>
      obtain ⟨kz, hkz⟩ := eh z rfl
      have hm : max h 0 = h := by omega
      have hnl : ¬ h < l := by omega
      cases lo with
      | none => simp only [bnd] at hl; cases hl; simp [Instr.sliceBounds, Instr.sliceBound, hkz, asIntOf, hc, h00]
      | some y => obtain ⟨kk, hk⟩ := el y rfl; simp [Instr.sliceBounds, Instr.sliceBound, hk, hkz, asIntOf, h0, h1, hc, h00, hlh, hm, hnl]
  simp [Instr.sliceAt, Instr.slice, run_underlying (elemTy_ok he), hb, sizeOf, typeInfo, hi', hs, hlen]
theorem GoF.have' {fuel : Nat} {listed : List Bool} (f : Fct) (h : ∀ w S, HOk H w S → BOk B w S → f.ok w S) (g : GoF C ops fin H0 B0 k fuel listed env H (f :: B) o) : GoF C ops fin H0 B0 k fuel listed env H B o :=
  fun r hr l w S hs => g r hr l w S ⟨hs.wf, hs.ext, hs.len, hs.env, hs.hs, fun x hx => by
    cases hx with
    | head => exact h w S hs.hs hs.bs
    | tail _ hf => exact hs.bs x hf⟩
theorem GoF.slc1 {fuel : Nat} {listed : List Bool} {hk bk : List Nat} {α : Type} {t : TypeId} {x : Operand} {lo hi : Option Operand} {d : Option Tmp} {ty e : TypeId} (hc : canTake ops fin listed i = true) (hop : opAt ops i env = some (.slice t x lo hi none, d, ty))
    (hH : picks H hk = some H0) (hB : picks B bk = some B0)
    {K : Kd α} {A : Option Addr} {c n : Nat} {xs : List α} (hx : evalE env x = some (.slice A n c)) (he : elemTy C.P t = some e) (hsz : tySize C.P e = some K.sz)
    {j : Nat} {f : Fct} (hf : B[j]? = some f) (hrd : Reads f K A c xs) (hn : n = xs.length)
    {l h : Int} (hl : bnd env 0 lo = some l) (hh : bnd env (xs.length : Int) hi = some h) (h0 : 0 ≤ l) (h1 : l ≤ h) (h2 : h ≤ (xs.length : Int))
    (env' : Option Addr → Nat → Env) (hput : ∀ A' c', putE C.n env d (.slice A' ((xs.take h.toNat).drop l.toNat).length c') = some (env' A' c'))
    (g : ∀ A' c', GoF C ops fin H0 B0 k fuel (listed.set i true) (env' A' c') H (Rd f.t K A' c' ((xs.take h.toNat).drop l.toNat) :: B) o) : GoF C ops fin H0 B0 k (fuel + 1) listed env H B o := by
  intro r hr l0 w0 S0 hs0
  have hle : xs.length ≤ c := (hrd w0 S0 (hs0.bs f (List.mem_of_getElem? hf))).le
  refine GoF.take1 hc hop hH hB (v := .slice (if c = l.toNat then A else A.map fun a => a.add (l.toNat * K.sz)) ((xs.take h.toNat).drop l.toNat).length (c - l.toNat)) (fun lf hlf w S _ hb q hq _ => ?_) (hput _ _) ?_ r hr l0 w0 S0 hs0
  · subst hn
    have := run_slc (P := C.P) hlf (lo := lo) (hi := hi) he hsz (A := A) hle hl hh h0 h1 h2 w
    simp only [execOp, hq, Option.map_none, evalE_ok hlf hx]
    simp [this]
  · refine GoF.have' (Rd f.t K _ _ _) (fun w S _ hb => ?_) (g _ _)
    have hrow := hrd w S (hb f (List.mem_of_getElem? hf))
    have hle := hrow.le
    exact hrow.slice (lo := l.toNat) (hi := h.toNat) (m := c) (by omega) (by omega) (by omega)
end
end Go.GL
