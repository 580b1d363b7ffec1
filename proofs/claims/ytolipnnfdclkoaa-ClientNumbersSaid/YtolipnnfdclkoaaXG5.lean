import Derived.Test.YtolipnnfdclkoaaXG4
/-! Walks by symbolic states: rules on rows, new blocks. -/
set_option linter.unusedVariables false
set_option linter.unusedSimpArgs false
namespace Go.GL
open Go
section
variable {ρ : Type} {C : Cx ρ} {env env' : Env} {H H' : List Bx} {B B' : List Fct} {k : List Item} {o : Option ρ} {ops : Array Oper} {rest : List Nat} {i : Nat} {G : Env → List Bx → List Fct → Option ρ → Prop}
theorem RowIn.ex1 {α : Type} {K : Kd α} {w : World} {T R : Nat → Prop} {A : Option Addr} {c : Nat} {xs : List α} (h : RowIn K w T R A c xs) (hx : 0 < xs.length) (hz : K.sz ≠ 0) :
    ∃ b off cells ty fz vs, A = some ⟨b, off, none⟩ ∧ T b ∧ w.heap[b]? = some (.cells cells ty fz) ∧ Elems K w R xs vs ∧ ∀ j u, vs[j]? = some u → cells[off + j]? = some u := by
  obtain ⟨vs, hel, hcs⟩ := h.ex
  have hlen := hel.length
  have hpos : 0 < xs.length * K.sz := Nat.mul_pos hx (by omega)
  rcases hcs with rfl | ⟨b, off, cells, ty', fz, hA, hT, hb, hcell⟩
  · simp at hlen; omega
  · exact ⟨b, off, cells, ty', fz, vs, hA, hT, hb, hel, hcell⟩
theorem GoO.fldE {α : Type} {t : TypeId} {x : Operand} {fi : Nat} {d : Option Tmp} {ty : TypeId} (hop : opAt ops i env = some (.fieldAddr t x fi, d, ty))
    {K : Kd α} {A : Option Addr} {c off n : Nat} {xs : List α} {iN : Nat} (hx : evalE env x = some (elemP A iN K.sz off)) (hfo : fieldOff C.P t fi = some n)
    {j : Nat} {f : Fct} (hf : B[j]? = some f) (hrd : Reads f K A c xs) (h1 : iN < xs.length) (hz : K.sz ≠ 0)
    (hput : putE C.n env d (elemP A iN K.sz (off + n)) = some env') (g : G env' H B o) : OpTo C ops i env H B o G := by
  refine GoO.op hop fun l w S hsat r hr => ⟨_, w, .inl fun q hq _ => ?_, env', H, B, S, hput, fun l' h2 h1 => ⟨hsat.wf, hsat.ext, h2, h1, hsat.hs, hsat.bs⟩, g⟩
  obtain ⟨b, of, cells, ty', fz, vs, hA, hT, hb, hel, hcell⟩ := (hrd w S (hsat.bs f (List.mem_of_getElem? hf))).ex1 (by omega) hz
  subst hA
  have hxx := evalE_ok hsat.env hx
  have hv : elemP (some ⟨b, of, none⟩) iN K.sz off = .pointer (some ⟨b, of + (iN * K.sz + off), none⟩) := by simp [elemP, Addr.add_none]
  have hv' : elemP (some ⟨b, of, none⟩) iN K.sz (off + n) = .pointer (some ⟨b, of + (iN * K.sz + (off + n)), none⟩) := by simp [elemP, Addr.add_none]
  rw [hv] at hxx
  rw [hv']
  have := fieldOff_ok hfo ⟨b, of + (iN * K.sz + off), none⟩ w
  rw [Addr.add_none] at this
  simp [execOp, hq, hxx, this, Nat.add_assoc]
theorem GoO.ldE {α ε : Type} [Inhabited α] {t : TypeId} {x : Operand} {d : Option Tmp} {ty : TypeId} (hop : opAt ops i env = some (.load t x, d, ty))
    {K : Kd α} {A : Option Addr} {c off : Nat} {xs : List α} {iN : Nat} (hx : evalE env x = some (elemP A iN K.sz off))
    {j : Nat} {f : Fct} (hf : B[j]? = some f) (hrd : Reads f K A c xs) (h1 : iN < xs.length) (hz : K.sz ≠ 0)
    (cells : ε → List Value) (newB : ε → List Fct) (hopen : ∀ w S cs, K.rel w (S 0) (xs.getD iN default) cs → ∃ e, cs = cells e ∧ BOk (newB e) w S)
    (v : ε → Value) (hv : ∀ e, loadBx C.P t (cells e) off = some (v e)) (env' : ε → Env)
    (hput : ∀ e, putE C.n env d (v e) = some (env' e)) (g : ∀ e, G (env' e) H (newB e ++ B) o) : OpTo C ops i env H B o G := by
  refine GoO.op hop fun l w S hsat r hr => ?_
  obtain ⟨b, of, cs, ty', fz, vs, hA, hT, hb, hel, hcell⟩ := (hrd w S (hsat.bs f (List.mem_of_getElem? hf))).ex1 (by omega) hz
  obtain ⟨ec, hrel, hec⟩ := hel.get h1
  obtain ⟨e, he, hB⟩ := hopen w S ec hrel
  refine ⟨v e, w, .inl fun q hq _ => ?_, env' e, H, newB e ++ B, S, hput e, fun l' h2 h1 => ⟨hsat.wf, hsat.ext, h2, h1, hsat.hs, fun y hy => (List.mem_append.1 hy).elim (hB y) (hsat.bs y)⟩, g e⟩
  subst hA
  have hxx := evalE_ok hsat.env hx
  have hvv : elemP (some ⟨b, of, none⟩) iN K.sz off = .pointer (some ⟨b, of + (iN * K.sz + off), none⟩) := by simp [elemP, Addr.add_none]
  rw [hvv] at hxx
  have hcells : ∀ m u, (cells e)[m]? = some u → cs[of + iN * K.sz + m]? = some u := by
    intro m u hm
    rw [← he, hec, List.getElem?_take] at hm
    split at hm
    · rw [List.getElem?_drop] at hm
      have := hcell _ _ hm
      rwa [← Nat.add_assoc] at this
    · cases hm
  have hlv := hv e
  have : (Instr.loadAt t (.pointer (some ⟨b, of + (iN * K.sz + off), none⟩))).run C.P w = .ok (v e) w := by
    unfold loadBx at hlv
    split at hlv
    · rename_i n ha
      split at hlv
      · rename_i hle
        rw [← Option.some.inj hlv]
        have hle := Nat.le_of_ble_eq_true hle
        obtain ⟨h1, h2⟩ := aggSize_ok ha w
        have hl : (((cells e).drop off).take n).length = n := by simp; omega
        have hlc := run_loadCells_list (P := C.P) w ⟨b, of + (iN * K.sz + off), none⟩ (((cells e).drop off).take n) (fun j u hu => by
          rw [Addr.add_none]
          rw [List.getElem?_take] at hu
          split at hu
          · rw [List.getElem?_drop] at hu
            have := hcells _ _ hu
            simp only [World.cell?, hb]
            rw [show of + (iN * K.sz + off) + j = of + iN * K.sz + (off + j) by omega]
            simpa using this
          · cases hu)
        rw [hl] at hlc
        simp [Instr.loadAt, Instr.sureAddr, loadVar, h1, h2, hlc]
      · cases hlv
    · rename_i n ha
      obtain ⟨h1, h2⟩ := aggSize_ok ha w
      have := hcells _ _ hlv
      have hc : w.cell? ⟨b, of + (iN * K.sz + off), none⟩ = some (v e) := by
        simp only [World.cell?, hb]
        rw [← Nat.add_assoc]
        simpa using this
      simp [Instr.loadAt, Instr.sureAddr, loadVar, h1, hc]
    · cases hlv
  simp [execOp, hq, hxx, this]
end
end Go.GL
