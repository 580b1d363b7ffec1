import Derived.Test.YtmpockelhphkdaaG4
/-! Walks by symbolic states: rules on rows, new blocks. -/
set_option linter.unusedVariables false
set_option linter.unusedSimpArgs false
namespace Go.GL
open Go

section
variable {ρ : Type} {C : Cx ρ} {env env' : Env} {H H' : List Bx} {B B' : List Fct} {k : List Item} {o : Option ρ} {ops : Array Oper} {rest : List Nat} {i : Nat} {G : Env → List Bx → List Fct → Option ρ → Prop}

theorem RowIn.ex1 {α : Type} {K : Kd α} {w : World} {T R : Nat → Prop} {A : Option Addr} {c : Nat} {xs : List α} (h : RowIn K w T R A c xs) (hx : 0 < xs.length) (hz : K.sz ≠ 0) :
    ∃ b off cells ty fz vs, A = some ⟨b, off, none⟩ ∧ T b ∧ w.heap[b]? = some (.cells cells ty fz) ∧ Elems K w R xs vs ∧ ∀ j u, vs[j]? = some u → cells[off + j]? = some u := by
  obtain ⟨vs, hel, hcs⟩ := h.ex
  have hlen := hel.length
  have hpos : 0 < xs.length * K.sz := Nat.mul_pos hx (by omega)
  rcases hcs with rfl | ⟨b, off, cells, ty', fz, hA, hT, hb, hcell⟩
  · simp at hlen; omega
  · exact ⟨b, off, cells, ty', fz, vs, hA, hT, hb, hel, hcell⟩

/-- &xs[i].f -/
theorem GoO.fldE {α : Type} {t : TypeId} {x : Operand} {fi : Nat} {d : Option Tmp} {ty : TypeId} (hop : opAt ops i env = some (.fieldAddr t x fi, d, ty))
    {K : Kd α} {A : Option Addr} {c off n : Nat} {xs : List α} {iN : Nat} (hx : evalE env x = some (elemP A iN K.sz off)) (hfo : fieldOff C.P t fi = some n)
    {j : Nat} {f : Fct} (hf : B[j]? = some f) (hrd : Reads f K A c xs) (h1 : iN < xs.length) (hz : K.sz ≠ 0)
    (hput : putE C.n env d (elemP A iN K.sz (off + n)) = some env') (g : G env' H B o) : OpTo C ops i env H B o G := by
  refine GoO.op hop fun l w S hsat r hr => ⟨_, w, .inl fun q hq _ => ?_, env', H, B, S, hput, fun l' h2 h1 => ⟨hsat.wf, hsat.ext, h2, h1, hsat.hs, hsat.bs⟩, g⟩
  obtain ⟨b, of, cells, ty', fz, vs, hA, hT, hb, hel, hcell⟩ := (hrd w S (hsat.bs f (List.mem_of_getElem? hf))).ex1 (by omega) hz
  subst hA
  have hxx := evalE_ok hsat.env hx
  have hv : elemP (some ⟨b, of, none⟩) iN K.sz off = .pointer (some ⟨b, of + (iN * K.sz + off), none⟩) := by simp [elemP, Addr.add_none]
  have hv' : elemP (some ⟨b, of, none⟩) iN K.sz (off + n) = .pointer (some ⟨b, of + (iN * K.sz + (off + n)), none⟩) := by simp [elemP, Addr.add_none]
  rw [hv] at hxx
  rw [hv']
  have := fieldOff_ok hfo ⟨b, of + (iN * K.sz + off), none⟩ w
  rw [Addr.add_none] at this
  simp [execOp, hq, hxx, this, Nat.add_assoc]

/-- A place in a row is no nil pointer. -/
theorem GoO.nilE {α : Type} {x : Operand} {d : Option Tmp} {ty : TypeId} (hop : opAt ops i env = some (.nilCheck x, d, ty))
    {K : Kd α} {A : Option Addr} {c off : Nat} {xs : List α} {iN : Nat} (hx : evalE env x = some (elemP A iN K.sz off))
    {j : Nat} {f : Fct} (hf : B[j]? = some f) (hrd : Reads f K A c xs) (h1 : iN < xs.length) (hz : K.sz ≠ 0)
    (hput : putE C.n env d (elemP A iN K.sz off) = some env') (g : G env' H B o) : OpTo C ops i env H B o G := by
  refine GoO.op hop fun l w S hsat r hr => ⟨_, w, .inl fun q hq _ => ?_, env', H, B, S, hput, fun l' h2 h1 => ⟨hsat.wf, hsat.ext, h2, h1, hsat.hs, hsat.bs⟩, g⟩
  obtain ⟨b, of, cells, ty', fz, vs, hA, hT, hb, hel, hcell⟩ := (hrd w S (hsat.bs f (List.mem_of_getElem? hf))).ex1 (by omega) hz
  subst hA
  have hxx := evalE_ok hsat.env hx
  have hv : elemP (some ⟨b, of, none⟩) iN K.sz off = .pointer (some ⟨b, of + (iN * K.sz + off), none⟩) := by simp [elemP, Addr.add_none]
  rw [hv] at hxx ⊢
  simp [execOp, hq, hxx]

/-- xs[i], or a part of it: what it is made of is laid open by 'hopen'. -/
theorem GoO.ldE {α ε : Type} [Inhabited α] {t : TypeId} {x : Operand} {d : Option Tmp} {ty : TypeId} (hop : opAt ops i env = some (.load t x, d, ty))
    {K : Kd α} {A : Option Addr} {c off : Nat} {xs : List α} {iN : Nat} (hx : evalE env x = some (elemP A iN K.sz off))
    {j : Nat} {f : Fct} (hf : B[j]? = some f) (hrd : Reads f K A c xs) (h1 : iN < xs.length) (hz : K.sz ≠ 0)
    (cells : ε → List Value) (newB : ε → List Fct) (hopen : ∀ w S cs, K.rel w (S 0) (xs.getD iN default) cs → ∃ e, cs = cells e ∧ BOk (newB e) w S)
    (v : ε → Value) (hv : ∀ e, loadBx C.P t (cells e) off = some (v e)) (env' : ε → Env)
    (hput : ∀ e, putE C.n env d (v e) = some (env' e)) (g : ∀ e, G (env' e) H (newB e ++ B) o) : OpTo C ops i env H B o G := by
  refine GoO.op hop fun l w S hsat r hr => ?_
  obtain ⟨b, of, cs, ty', fz, vs, hA, hT, hb, hel, hcell⟩ := (hrd w S (hsat.bs f (List.mem_of_getElem? hf))).ex1 (by omega) hz
  obtain ⟨ec, hrel, hec⟩ := hel.get h1
  obtain ⟨e, he, hB⟩ := hopen w S ec hrel
  refine ⟨v e, w, .inl fun q hq _ => ?_, env' e, H, newB e ++ B, S, hput e, fun l' h2 h1 => ⟨hsat.wf, hsat.ext, h2, h1, hsat.hs, fun y hy => (List.mem_append.1 hy).elim (hB y) (hsat.bs y)⟩, g e⟩
  subst hA
  have hxx := evalE_ok hsat.env hx
  have hvv : elemP (some ⟨b, of, none⟩) iN K.sz off = .pointer (some ⟨b, of + (iN * K.sz + off), none⟩) := by simp [elemP, Addr.add_none]
  rw [hvv] at hxx
  have hcells : ∀ m u, (cells e)[m]? = some u → cs[of + iN * K.sz + m]? = some u := by
    intro m u hm
    rw [← he, hec, List.getElem?_take] at hm
    split at hm
    · rw [List.getElem?_drop] at hm
      have := hcell _ _ hm
      rwa [← Nat.add_assoc] at this
    · cases hm
  have hlv := hv e
  have : (Instr.loadAt t (.pointer (some ⟨b, of + (iN * K.sz + off), none⟩))).run C.P w = .ok (v e) w := by
    unfold loadBx at hlv
    split at hlv
    · rename_i n ha
      split at hlv
      · rename_i hle
        rw [← Option.some.inj hlv]
        have hle := Nat.le_of_ble_eq_true hle
        obtain ⟨h1, h2⟩ := aggSize_ok ha w
        have hl : (((cells e).drop off).take n).length = n := by simp; omega
        have hlc := run_loadCells_list (P := C.P) w ⟨b, of + (iN * K.sz + off), none⟩ (((cells e).drop off).take n) (fun j u hu => by
          rw [Addr.add_none]
          rw [List.getElem?_take] at hu
          split at hu
          · rw [List.getElem?_drop] at hu
            have := hcells _ _ hu
            simp only [World.cell?, hb]
            rw [show of + (iN * K.sz + off) + j = of + iN * K.sz + (off + j) by omega]
            simpa using this
          · cases hu)
        rw [hl] at hlc
        simp [Instr.loadAt, Instr.sureAddr, loadVar, h1, h2, hlc]
      · cases hlv
    · rename_i n ha
      obtain ⟨h1, h2⟩ := aggSize_ok ha w
      have := hcells _ _ hlv
      have hc : w.cell? ⟨b, of + (iN * K.sz + off), none⟩ = some (v e) := by
        simp only [World.cell?, hb]
        rw [← Nat.add_assoc]
        simpa using this
      simp [Instr.loadAt, Instr.sureAddr, loadVar, h1, hc]
    · cases hlv
  simp [execOp, hq, hxx, this]

theorem loadBx_part {P : Program} {t : TypeId} {cs : List Value} {off : Nat} {v : Value} (h : loadBx P t cs off = some v) : True := trivial

/-- xs[i].f = v, in a row of one's own. -/
theorem GoO.stE {α : Type} [Inhabited α] {t : TypeId} {x y : Operand} {d : Option Tmp} {ty : TypeId} (hop : opAt ops i env = some (.store t x y, d, ty))
    {K : Kd α} {A : Option Addr} {c off tg : Nat} {xs : List α} {iN : Nat} (hx : evalE env x = some (elemP A iN K.sz off)) {v : Value} (hy : evalE env y = some v)
    {j : Nat} (hf : B[j]? = some (Ow tg K A c xs)) (h1 : iN < xs.length) (hz : K.sz ≠ 0)
    (hm : mineB C.M C.np tg = true) (hH : noTag tg (H.map (·.t)) = true) (hB : noTag tg ((B.eraseIdx j).map (·.t)) = true)
    (x' : α) (hst : ∀ w S cs, BOk B w S → K.rel w (S 0) (xs.getD iN default) cs → ∃ cs', storeBx C.P t cs off v = some cs' ∧ K.rel w (S 0) x' cs')
    (hput : putE C.n env d undef = some env') (g : G env' H (B.set j (Ow tg K A c (xs.set iN x'))) o) : OpTo C ops i env H B o G := by
  refine GoO.op hop fun l w S hsat r hr => ?_
  have hrow : RowOwn K w (S tg) (S 0) A c xs := hsat.bs _ (List.mem_of_getElem? hf)
  rcases hrow with ⟨_, _, hx0⟩ | ⟨b, cells, tb, vs, hA, hT, hb, hle, hcap, hel, htake⟩
  · subst hx0; simp at h1
  subst hA
  obtain ⟨ec, hrel, hec⟩ := hel.get h1
  obtain ⟨cs', hsb, hrel'⟩ := hst w S ec hsat.bs hrel
  have hlen := hel.length
  have hecl := K.len hrel
  have hin : iN * K.sz + K.sz ≤ xs.length * K.sz := by
    have : (iN + 1) * K.sz ≤ xs.length * K.sz := Nat.mul_le_mul_right _ h1
    rwa [Nat.add_mul, Nat.one_mul] at this
  have hcs2 : xs.length * K.sz ≤ cells.size := Nat.le_trans (Nat.mul_le_mul_right _ hle) hcap
  have hxx := evalE_ok hsat.env hx
  have hvv : elemP (some ⟨b, 0, none⟩) iN K.sz off = .pointer (some ⟨b, iN * K.sz + off, none⟩) := by simp [elemP, Addr.add_none]
  rw [hvv] at hxx
  -- the store, seen in the whole block
  unfold storeBx at hsb
  split at hsb
  · rename_i n ha
    split at hsb
    · rename_i q1 q2 q3; cases hsb
      have q1 : v.cells.toList.length = n := Nat.eq_of_beq_eq_true q1
      have q2 : off + n ≤ ec.length := Nat.le_of_ble_eq_true q2
      obtain ⟨_, hs⟩ := aggSize_ok ha w
      have hst := run_storeCells_at C.P b (iN * K.sz + off) tb v.cells.toList 0 cells w hb (by omega) (allOne_ok q3)
      have q1' : v.cells.size = n := by simpa using q1
      let w' := w.setRow b (cells.toList.take (iN * K.sz + off + 0) ++ v.cells.toList ++ cells.toList.drop (iN * K.sz + off + 0 + v.cells.toList.length)).toArray
      have honly : Only w w' b := ⟨by simp [w'], fun k _ hk => setRow_other w b k _ hk, rfl, rfl, rfl⟩
      obtain ⟨hmine, h0⟩ := mineB_ok hsat.wf hm
      refine ⟨undef, w', .inr ⟨fun q hq _ => ?_, rfl⟩, env', H, _, S, hput, fun l' h2 h1' => ⟨hsat.wf, honly.ext hsat.ext hT (hmine.lt hsat.ext hT), h2, h1', ?_, ?_⟩, g⟩
      · simp [execOp, hq, hxx, evalE_ok hsat.env hy, Instr.storeAt, Instr.sureAddr, storeVar, hs, q1', hst, w']
      · intro z hzz
        exact honly.bx hsat.ext.good hT (noTag_ok hH z.t (List.mem_map.2 ⟨z, hzz, rfl⟩)) (hsat.hs z hzz)
      · intro z hzz
        obtain ⟨m, hmz⟩ := List.mem_iff_getElem?.1 hzz
        by_cases hjm : j = m
        · subst hjm
          have hlt : j < B.length := (List.getElem?_eq_some_iff.1 hf).1
          rw [List.getElem?_set_self hlt] at hmz
          cases hmz
          have hR : ∀ bb, S 0 bb → bb < w.heap.size → w'.heap[bb]? = w.heap[bb]? ∧ S 0 bb := fun bb hbb hl =>
            ⟨honly.same bb hl fun e => by subst e; exact h0 (hsat.ext.good.dj _ _ _ hT hbb), hbb⟩
          have hel' := (hel.set h1 hrel').st hR
          refine .inr ⟨b, _, tb, _, rfl, hT, setRow_heap w b cells _ tb _ hb, by simpa using hle, ?_, hel', ?_⟩
          · simp only [List.size_toArray, List.length_append, List.length_take, List.length_drop, Array.length_toList]
            have : (iN * K.sz + off + 0) ≤ cells.size := by omega
            rw [Nat.min_eq_left this]
            simp at q1
            omega
          · simp only [List.length_set, Nat.add_zero]
            rw [← htake] at hec ⊢
            apply List.ext_getElem?
            intro p
            have hcl : cells.toList.length = cells.size := Array.length_toList
            rw [hec]
            simp only [patch, List.getElem?_take, List.getElem?_append, List.length_append, List.length_take, List.length_drop, List.getElem?_drop, hcl, q1]
            by_cases p1 : p < xs.length * K.sz
            · by_cases p2 : p < iN * K.sz + off
              · by_cases p3 : p < iN * K.sz
                · simp only [p1, p2, p3, if_true]
                  grind
                · grind
              · grind
            · grind
        · rw [List.getElem?_set_ne hjm] at hmz
          have : z ∈ B.eraseIdx j := (List.mem_eraseIdx_iff_getElem?).2 ⟨m, fun e => hjm e.symm, hmz⟩
          exact honly.fct hsat.ext.good hT (noTag_ok hB z.t (List.mem_map.2 ⟨z, this, rfl⟩)) h0 (hsat.bs z (List.mem_of_getElem? hmz))
    · cases hsb
  · cases hsb

end
end Go.GL
