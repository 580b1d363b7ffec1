import Derived.Test.YtmpockelhphkdaaG17
/-! Walks by symbolic states: elements with slices of their own, loaded while orders are open. -/
set_option linter.unusedSimpArgs false
set_option linter.unusedVariables false
namespace Go.GL
open Go

/-- The cells of one element of a row are these. -/
def Q.ce (A : Option Addr) (off : Nat) (cs : List Value) : Q where
  p := fun w T R => ∃ b o cells ty fz, A = some ⟨b, o, none⟩ ∧ T b ∧ w.heap[b]? = some (.cells cells ty fz) ∧ ∀ (j : Nat) (u : Value), cs[j]? = some u → cells[o + off + j]? = some u
  st := fun hT _ ⟨b, o, cells, ty, fz, h1, h2, h3, h4⟩ => by
    obtain ⟨e, t⟩ := hT _ h2 (Array.getElem?_eq_some_iff.1 h3).1
    exact ⟨b, o, cells, ty, fz, h1, t, e ▸ h3, h4⟩
abbrev Ce (t : Nat) (A : Option Addr) (off : Nat) (cs : List Value) : Fct := ⟨t, Q.ce A off cs⟩

/-- The kind of an array of numbers, as an element. -/
abbrev Kd.arr (k : IntKind) (n : Nat) : Kd (List Int) := .flat n (fun x => (List.range n).map fun (i : Nat) => .int k (rdL x (i : Int))) (fun _ => by simp) (fun _ => by
  have h : ∀ l : List Nat, ∀ x : List Int, allOne (l.map fun (i : Nat) => Value.int k (rdL x (i : Int))) = true := by
    intro l x
    induction l with
    | nil => rfl
    | cons a l ih => exact ih
  exact h _ _)

section
variable {ρ : Type} {C : Cx ρ} {env env' : Env} {H H' H0 : List Bx} {B B' B0 : List Fct} {k : List Item} {o : Option ρ} {ops : Array Oper} {i : Nat} {fin : List Nat}

/-- An element of a row is laid open. -/
theorem GoF.opn {fuel : Nat} {listed : List Bool} {α : Type} [Inhabited α] {K : Kd α} {A : Option Addr} {c : Nat} {xs : List α} {iN : Nat} {j tg : Nat} {f : Fct} (ht : f.t = tg) (hf : B[j]? = some f) (hrd : Reads f K A c xs) (h1 : iN < xs.length) (hz : K.sz ≠ 0)
    (op : Opn K (xs.getD iN default)) (g : ∀ e, GoF C ops fin H0 B0 k fuel listed env H (Ce tg A (iN * K.sz) (op.cells e) :: op.newB e ++ B) o) : GoF C ops fin H0 B0 k fuel listed env H B o := by
  intro r hr l w S hs
  subst ht
  obtain ⟨b, of, cs, ty', fz, vs, hA, hT, hb, hel, hcell⟩ := (hrd w S (hs.bs f (List.mem_of_getElem? hf))).ex1 (by omega) hz
  obtain ⟨ec, hrel, hec⟩ := hel.get h1
  obtain ⟨e, he, hB⟩ := op.ok w S ec hrel
  refine g e r hr l w S ⟨hs.wf, hs.ext, hs.len, hs.env, hs.hs, fun y hy => ?_⟩
  cases hy with
  | tail _ hy => exact (List.mem_append.1 hy).elim (hB y) (hs.bs y)
  | head =>
    refine ⟨b, of, cs, ty', fz, hA, hT, hb, fun m u hm => ?_⟩
    rw [← he, hec, List.getElem?_take] at hm
    split at hm
    · rw [List.getElem?_drop] at hm
      have := hcell _ _ hm
      rwa [← Nat.add_assoc] at this
    · cases hm

theorem run_ldC {P : Program} {t : TypeId} {w : World} {T R : Nat → Prop} {A : Option Addr} {p off n : Nat} {cs : List Value} (h : (Q.ce A p cs).p w T R) (hn : n = p + off) {v : Value} (hv : loadBx P t cs off = some v) :
    (Instr.loadAt t (elemP A 0 0 n)).run P w = .ok v w := by
  obtain ⟨b, of, cells, ty, fz, hA, hT, hb, hcell⟩ := h
  subst hA; subst hn
  have hvv : elemP (some ⟨b, of, none⟩) 0 0 (p + off) = .pointer (some ⟨b, of + (p + off), none⟩) := by simp [elemP, Addr.add_none]
  rw [hvv]
  unfold loadBx at hv
  split at hv
  · rename_i n ha
    split at hv
    · rename_i hle
      rw [← Option.some.inj hv]
      have hle := Nat.le_of_ble_eq_true hle
      obtain ⟨h1, h2⟩ := aggSize_ok ha w
      have hl : ((cs.drop off).take n).length = n := by simp; omega
      have hlc := run_loadCells_list (P := P) w ⟨b, of + (p + off), none⟩ ((cs.drop off).take n) (fun j u hu => by
        rw [Addr.add_none]
        rw [List.getElem?_take] at hu
        split at hu
        · rw [List.getElem?_drop] at hu
          have := hcell _ _ hu
          simp only [World.cell?, hb]
          rw [show of + (p + off) + j = of + p + (off + j) by omega]
          simpa using this
        · cases hu)
      rw [hl] at hlc
      simp [Instr.loadAt, Instr.sureAddr, loadVar, h1, h2, hlc]
    · cases hv
  · rename_i n ha
    obtain ⟨h1, h2⟩ := aggSize_ok ha w
    have := hcell _ _ hv
    have hc : w.cell? ⟨b, of + (p + off), none⟩ = some v := by
      simp only [World.cell?, hb]
      rw [← Nat.add_assoc]
      simpa using this
    simp [Instr.loadAt, Instr.sureAddr, loadVar, h1, hc]
  · cases hv

/-- A load of an element that lies open, or of a part of it, taken first. -/
theorem GoF.ldC {fuel : Nat} {listed : List Bool} {hk bk : List Nat} {t : TypeId} {x : Operand} {d : Option Tmp} {ty : TypeId} (hc : canTake ops fin listed i = true) (hop : opAt ops i env = some (.load t x, d, ty))
    (hH : picks H hk = some H0) (hB : picks B bk = some B0) {A : Option Addr} {iN sz off tg : Nat} {cs : List Value} (hx : evalE env x = some (elemP A iN sz off))
    {j : Nat} (hf : B0[j]? = some (Ce tg A (iN * sz) cs)) {v : Value} (hv : loadBx C.P t cs off = some v)
    (hput : putE C.n env d v = some env') (g : GoF C ops fin H0 B0 k fuel (listed.set i true) env' H B o) : GoF C ops fin H0 B0 k (fuel + 1) listed env H B o := by
  refine GoF.take1 hc hop hH hB (fun l hl w S _ hb q hq _ => ?_) hput g
  have hce := hb _ (List.mem_of_getElem? hf)
  have := run_ldC (P := C.P) (t := t) hce rfl hv
  have hxx := evalE_ok hl hx
  have e : elemP A iN sz off = elemP A 0 0 (iN * sz + off) := by simp [elemP]
  rw [e] at hxx
  simp [execOp, hq, hxx, this]

/-- m[k], v, ok := m[k], taken first. -/
theorem GoF.mapLk1 {fuel : Nat} {listed : List Bool} {hk bk : List Nat} {kt : TypeId} {κ ν : Type} [DecidableEq κ] {t vt : TypeId} {x y : Operand} {ok : Bool} {d : Option Tmp} {ty : TypeId} (hc : canTake ops fin listed i = true) (hop : opAt ops i env = some (.lookup t x y ok, d, ty))
    (hH : picks H hk = some H0) (hB : picks B bk = some B0) (hu : C.P.underlying t = some (.map kt vt))
    {K : Ky C.P kt κ} {ev : ν → Value} {A : Option Addr} {c tg : Nat} {l : List (κ × ν)} {key : κ} (hx : evalE env x = some (.map (mA A))) (hy : evalE env y = some (K.enc key))
    {j : Nat} (hf : B0[j]? = some (Mp tg K ev A c l)) (z : ν) (hz : ∀ w, (zeroValue vt).run C.P w = .ok (ev z) w)
    (hput : putE C.n env d (if ok = true then .tuple #[ev ((getA key l).getD z), .bool (getA key l).isSome] else ev ((getA key l).getD z)) = some env') (g : GoF C ops fin H0 B0 k fuel (listed.set i true) env' H B o) : GoF C ops fin H0 B0 k (fuel + 1) listed env H B o := by
  refine GoF.take1 hc hop hH hB (fun lc hl w S _ hb q hq _ => ?_) hput g
  obtain ⟨b, hA, hT, es, ck, hbb, hes, hbrn⟩ := hb _ (List.mem_of_getElem? hf)
  subst hA
  have hx : evalE env x = some (.map (some b)) := hx
  have hxx := evalE_ok hl hx
  have hyy := evalE_ok hl hy
  have hfk := findKey_ok K ev key w l es.toList hes
  have hg := fnd_get ev key l 0
  cases hfd : fnd ev key l 0 with
  | none =>
    rw [hfd] at hfk hg
    have hga : getA key l = none := by
      cases hga : getA key l with
      | none => rfl
      | some b => rw [hga] at hg; simp at hg
    simp [execOp, hq, hxx, hyy, Instr.lookup, run_underlying hu, run_getO hbb, K.chk, hfk, hz, hga]
  | some p =>
    rw [hfd] at hfk hg
    obtain ⟨ix, vv⟩ := p
    cases hga : getA key l with
    | none => rw [hga] at hg; simp at hg
    | some b =>
      rw [hga] at hg
      simp at hg
      simp [execOp, hq, hxx, hyy, Instr.lookup, run_underlying hu, run_getO hbb, K.chk, hfk, hg]
end
end Go.GL
