import Derived.Test.YtmpockelhphkdaaG14
import Derived.Laws.IdiomCopy
/-! Walks by symbolic states: bytes of one's own that a conversion made (their block is frozen behind them). -/
set_option linter.unusedSimpArgs false
set_option linter.unusedVariables false
namespace Go.GL
open Go

def u8v (b : UInt8) : Value := .int .u8 (b.toNat : Int)
/-- Bytes of one's own; what lies behind them may be frozen. -/
def ObOwn (w : World) (T : Nat → Prop) (A : Option Addr) (c : Nat) (xs : List UInt8) : Prop :=
  ∃ b cells ty fz, A = some ⟨b, 0, none⟩ ∧ T b ∧ w.heap[b]? = some (.cells cells ty fz) ∧ xs.length ≤ c ∧ xs.length ≤ fz.1 ∧ ∀ (i : Nat) (x : UInt8), xs[i]? = some x → cells[i]? = some (u8v x)
def Q.ob (A : Option Addr) (c : Nat) (xs : List UInt8) : Q where
  p := fun w T R => ObOwn w T A c xs
  st := fun hT _ ⟨b, cells, ty, fz, h1, h2, h3, h4, h5, h6⟩ => by
    have hb := (Array.getElem?_eq_some_iff.1 h3).1
    obtain ⟨e, t⟩ := hT _ h2 hb
    exact ⟨b, cells, ty, fz, h1, t, e ▸ h3, h4, h5, h6⟩
abbrev Ob (t : Nat) (A : Option Addr) (c : Nat) (xs : List UInt8) : Fct := ⟨t, Q.ob A c xs⟩
theorem Reads.ob {t : Nat} {A : Option Addr} {c : Nat} {xs : List UInt8} : Reads (Ob t A c xs) Kd.u8 A c xs := by
  rintro w S ⟨b, cells, ty, fz, h1, h2, h3, h4, h5, h6⟩
  refine ⟨h4, _, elems_u8 _ _ xs, .inr ⟨b, 0, cells, ty, fz, h1, h2, h3, fun j u hj => ?_⟩⟩
  rw [Nat.zero_add]
  rw [List.getElem?_map] at hj
  cases hx : xs[j]? with
  | none => rw [hx] at hj; cases hj
  | some x => rw [hx] at hj; cases hj; exact h6 j x hx
section
variable {ρ : Type} {C : Cx ρ} {env env' : Env} {H H' : List Bx} {B B' : List Fct} {k : List Item} {o : Option ρ} {ops : Array Oper} {rest : List Nat} {i : Nat} {G : Env → List Bx → List Fct → Option ρ → Prop}
theorem GoO.toBytesO {src dst : TypeId} {x : Operand} {d : Option Tmp} {ty e : TypeId} {u : TypeDesc} (hop : opAt ops i env = some (.convert src dst x, d, ty))
    {s : List UInt8} (hx : evalE env x = some (.string ⟨⟨s⟩⟩)) (hs : C.P.underlying src = some u) (he : elemTy C.P dst = some e) (hu : C.P.underlying e = some (.int .u8)) (tg : Nat)
    (env' : Option Addr → Nat → Env) (hput : ∀ A' c', putE C.n env d (.slice A' s.length c') = some (env' A' c'))
    (g : ∀ A' c', G (env' A' c') H (Ob tg A' c' s :: B) o) : OpTo C ops i env H B o G := by
  refine GoO.op hop fun lf w S hsat r hr => ?_
  have hrun := Lib.run_convert_string_bytes (P := C.P) w src dst e ⟨⟨s⟩⟩ hs (elemTy_ok he) hu
  let x' : Obj := .cells (Lib.bytesCells w e ⟨⟨s⟩⟩) e ((Lib.bytesCells w e ⟨⟨s⟩⟩).size, (Lib.bytesCells w e ⟨⟨s⟩⟩).size + 1)
  have ha : Alloc w (Lib.bytesWorld w e ⟨⟨s⟩⟩) x' := by
    refine ⟨?_, by simp [Lib.bytesWorld, World.freeze, World.alloc, World.drew, -World.alloc_eq, -World.drew_eq], by simp [Lib.bytesWorld, World.freeze, World.alloc, World.drew, -World.alloc_eq, -World.drew_eq], by simp [Lib.bytesWorld, World.freeze, World.alloc, World.drew, -World.alloc_eq, -World.drew_eq]⟩
    apply Array.ext_getElem?
    intro j
    by_cases h1 : j < w.heap.size
    · rw [Lib.bytesWorld_at_old w e _ j h1, Array.getElem?_push, if_neg (by omega)]
    · by_cases h2 : j = w.heap.size
      · subst h2; rw [Lib.bytesWorld_at_new, Array.getElem?_push, if_pos rfl]
      · rw [Array.getElem?_eq_none (by rw [Lib.bytesWorld_size]; omega), Array.getElem?_eq_none (by simp; omega)]
  have hcell : ∀ (j : Nat) (b : UInt8), s[j]? = some b → (Lib.bytesCells w e ⟨⟨s⟩⟩)[j]? = some (u8v b) := by
    intro j b hj
    simp only [Lib.bytesCells]
    have hlt := (List.getElem?_eq_some_iff.1 hj).1
    rw [Array.getElem?_append, if_pos (by simpa using hlt)]
    simp [hj, u8v]
  have hsize : s.length ≤ (Lib.bytesCells w e ⟨⟨s⟩⟩).size := by
    simp [Lib.bytesCells]
  refine ⟨_, Lib.bytesWorld w e ⟨⟨s⟩⟩, .inl fun q hq _ => ?_, env' (some ⟨w.heap.size, 0, none⟩) _, H, _, addS S tg w.heap.size, hput _ (grownCap w s.length 0 e), fun l' h2 h1' => ?_, g _ _⟩
  · have hsz : (ByteArray.mk (Array.mk s)).size = s.length := rfl
    simp [execOp, hq, evalE_ok hsat.env hx, hrun, hsz]
  · have := hsat.alloc ha tg h1' h2
    refine ⟨this.wf, this.ext, h2, h1', this.hs, fun yy hyy => ?_⟩
    cases hyy with
    | tail _ hyy => exact this.bs yy hyy
    | head => exact ⟨w.heap.size, _, e, _, rfl, .inr ⟨rfl, rfl⟩, ha.new, grownCap_ge w s.length 0 e, hsize, hcell⟩
/-- b[i] = v, in bytes of one's own that a conversion made. -/
theorem GoO.stOb {t : TypeId} {x y : Operand} {d : Option Tmp} {ty : TypeId} (hop : opAt ops i env = some (.store t x y, d, ty))
    {A : Option Addr} {c tg : Nat} {xs : List UInt8} {iN : Nat} (hx : evalE env x = some (elemP A iN 1 0)) {x' : UInt8} {v : Value} (hv : v = u8v x') (hy : evalE env y = some v)
    {j : Nat} (hf : B[j]? = some (Ob tg A c xs)) (h1 : iN < xs.length) (ha : aggSize C.P t = some (false, 1))
    (hm : mineB C.M C.np tg = true) (hH : noTag tg (H.map (·.t)) = true) (hB : noTag tg ((B.eraseIdx j).map (·.t)) = true)
    (hput : putE C.n env d undef = some env') (g : G env' H (B.set j (Ob tg A c (xs.set iN x'))) o) : OpTo C ops i env H B o G := by
  refine GoO.op hop fun l w S hsat r hr => ?_
  obtain ⟨b, cells, tb, fz, hA, hT, hb, hle, hfz, hcell⟩ : ObOwn w (S tg) A c xs := hsat.bs _ (List.mem_of_getElem? hf)
  subst hA
  have hxx := evalE_ok hsat.env hx
  have hvv : elemP (some ⟨b, 0, none⟩) iN 1 0 = .pointer (some ⟨b, iN, none⟩) := by simp [elemP, Addr.add_none]
  rw [hvv] at hxx
  obtain ⟨_, hs⟩ := aggSize_ok ha w
  have hci : cells[iN]? = some (u8v xs[iN]) := hcell iN _ (List.getElem?_eq_getElem h1)
  have hc : w.cell? ⟨b, iN, none⟩ = some (u8v xs[iN]) := by simp [World.cell?, hb, hci]
  have hfr : w.frozen? ⟨b, iN, none⟩ = false := by
    simp only [World.frozen?, hb]
    obtain ⟨lo, hi⟩ := fz
    have : ¬ (lo ≤ iN) := by simp at hfz; omega
    simp [this]
  have hst : (store (⟨b, iN, none⟩ : Addr) v).run C.P w = .ok () (w.setCell ⟨b, iN, none⟩ v) := by
    rw [run_store C.P w _ v _ (by subst hv; rfl)]
    simp [hc, hfr]
  let w' := w.setCell ⟨b, iN, none⟩ v
  have hvc : v.cells = #[v] := by subst hv; rfl
  have hstc : (storeCells (⟨b, iN, none⟩ : Addr) [v]).run C.P w = .ok () w' := by
    simp [storeCells, Addr.add_none, hst, w']
  have hb' : w'.heap[b]? = some (.cells (cells.setIfInBounds iN v) tb fz) := by
    simp [w', World.setCell, Array.getElem?_modify, hb]
  have honly : Only w w' b := ⟨by simp [w', World.setCell], fun k _ hk => heap_setCell_other w _ k _ hk, rfl, rfl, rfl⟩
  obtain ⟨hmine, h0⟩ := mineB_ok hsat.wf hm
  refine ⟨undef, w', .inr ⟨fun q hq _ => ?_, rfl⟩, env', H, _, S, hput, fun l' h2 h1' => ⟨hsat.wf, honly.ext hsat.ext hT (hmine.lt hsat.ext hT), h2, h1', ?_, ?_⟩, g⟩
  · simp [execOp, hq, hxx, evalE_ok hsat.env hy, Instr.storeAt, Instr.sureAddr, storeVar, hs, hvc, hstc]
  · intro z hzz
    exact honly.bx hsat.ext.good hT (noTag_ok hH z.t (List.mem_map.2 ⟨z, hzz, rfl⟩)) (hsat.hs z hzz)
  · intro z hzz
    obtain ⟨m, hmz⟩ := List.mem_iff_getElem?.1 hzz
    by_cases hjm : j = m
    · subst hjm
      have hlt : j < B.length := (List.getElem?_eq_some_iff.1 hf).1
      rw [List.getElem?_set_self hlt] at hmz
      cases hmz
      refine ⟨b, _, tb, fz, rfl, hT, hb', by simpa using hle, by simpa using hfz, fun k u hk => ?_⟩
      by_cases hki : iN = k
      · subst hki
        rw [List.getElem?_set_self h1] at hk
        cases hk
        have : iN < cells.size := (Array.getElem?_eq_some_iff.1 hci).1
        rw [Array.getElem?_setIfInBounds_self_of_lt this, hv]
      · rw [List.getElem?_set_ne hki] at hk
        rw [Array.getElem?_setIfInBounds_ne hki]
        exact hcell k u hk
    · rw [List.getElem?_set_ne hjm] at hmz
      have : z ∈ B.eraseIdx j := (List.mem_eraseIdx_iff_getElem?).2 ⟨m, fun e => hjm e.symm, hmz⟩
      exact honly.fct hsat.ext.good hT (noTag_ok hB z.t (List.mem_map.2 ⟨z, this, rfl⟩)) h0 (hsat.bs z (List.mem_of_getElem? hmz))
end
end Go.GL
