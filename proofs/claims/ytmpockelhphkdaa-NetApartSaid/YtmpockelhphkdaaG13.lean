import Derived.Test.YtmpockelhphkdaaG12
/-! Walks by symbolic states: arrays of numbers, conversions taken first. -/
set_option linter.unusedVariables false
set_option linter.unusedSimpArgs false
namespace Go.GL
open Go

theorem u8cell2 (y : Int) : Value.int .u8 (IntKind.u8.wrap y) = .int .u8 ((u8of (IntKind.u8.wrap y)).toNat : Int) := by
  rw [u8of_toNat]
  congr 1
  have h := wrap_u8_range y
  generalize IntKind.u8.wrap y = z at h
  simp only [IntKind.wrap, IntKind.bits, IntKind.signed, Bool.false_and, Bool.false_eq_true, if_false]
  exact (Int.emod_eq_of_lt h.1 h.2).symm

/-- An array's cells. -/
def arrV (k : IntKind) (L : List Int) : List Value := L.map (Value.int k)

def arrTy (P : Program) (t : TypeId) : Option (Nat × TypeId) := match P.underlying t with | some (.array n e) => some (n, e) | _ => none
theorem arrTy_ok {P : Program} {t e : TypeId} {n : Nat} (h : arrTy P t = some (n, e)) : P.underlying t = some (.array n e) := by
  unfold arrTy at h; split at h
  · cases h; assumption
  · cases h

section
variable {P : Program} {t : TypeId} {k : IntKind} {L L' : List Int} {n : Nat} {iv : Int}

theorem arrV_get (h0 : 0 ≤ iv) (h1 : iv < (L.length : Int)) : (arrV k L)[iv.toNat]? = some (.int k (rdL L iv)) := by
  have hl : iv.toNat < L.length := by omega
  simp [arrV, rdL, hl]

theorem allOne_arrV : ∀ (L : List Int), allOne (arrV k L) = true
  | [] => rfl
  | x :: r => by
    have := allOne_arrV r
    simp only [arrV, List.map_cons] at this ⊢
    exact this

theorem loadBx_arr (ha : aggSize P t = some (true, n)) (hl : L.length = n) : loadBx P t (arrV k L) 0 = some (.agg ⟨arrV k L⟩) := by
  have hlen : (arrV k L).length = n := by simp [arrV, hl]
  unfold loadBx
  rw [ha]
  have : Nat.ble (0 + n) (arrV k L).length = true := by rw [hlen]; simp
  simp only [this, List.drop_zero]
  rw [← hlen, List.take_length]

theorem loadBx_elt (ha : aggSize P t = some (false, 1)) (h0 : 0 ≤ iv) (h1 : iv < (L.length : Int)) : loadBx P t (arrV k L) iv.toNat = some (.int k (rdL L iv)) := by
  unfold loadBx
  rw [ha]
  exact arrV_get h0 h1

theorem storeBx_arr (ha : aggSize P t = some (true, n)) (hl : L.length = n) (hl' : L'.length = n) : storeBx P t (arrV k L) 0 (.agg ⟨arrV k L'⟩) = some (arrV k L') := by
  have hlen : (arrV k L).length = n := by simp [arrV, hl]
  have hlen' : (arrV k L').length = n := by simp [arrV, hl']
  unfold storeBx
  rw [ha]
  have h1 : Nat.beq (Value.agg ⟨arrV k L'⟩).cells.toList.length n = true := by
    show Nat.beq (arrV k L').length n = true
    rw [hlen']; simp
  have h2 : Nat.ble (0 + n) (arrV k L).length = true := by rw [hlen]; simp
  have h3 : allOne (Value.agg ⟨arrV k L'⟩).cells.toList = true := allOne_arrV L'
  simp only [h1, h2, h3]
  show some (patch (arrV k L) 0 (arrV k L')) = _
  simp only [patch, List.take_zero, List.nil_append, Nat.zero_add, hlen']
  rw [← hlen, List.drop_length, List.append_nil]

theorem storeBx_elt (ha : aggSize P t = some (false, 1)) (h0 : 0 ≤ iv) (h1 : iv < (L.length : Int)) (x : Int) : storeBx P t (arrV k L) iv.toNat (.int k x) = some (arrV k (L.set iv.toNat x)) := by
  have hlen : (arrV k L).length = L.length := by simp [arrV]
  have hlt : iv.toNat < L.length := by omega
  unfold storeBx
  rw [ha]
  have h2 : Nat.ble (iv.toNat + 1) (arrV k L).length = true := by rw [hlen, Nat.ble_eq]; exact hlt
  have h1' : Nat.beq (Value.int k x).cells.toList.length 1 = true := rfl
  have h3 : allOne (Value.int k x).cells.toList = true := rfl
  simp only [h1', h2, h3]
  show some (patch (arrV k L) iv.toNat [.int k x]) = _
  congr 1
  simp only [patch, List.length_singleton]
  rw [arrV, arrV, List.map_set]
  have hlm : iv.toNat < (L.map (Value.int k)).length := by simpa using hlt
  rw [List.set_eq_take_append_cons_drop, if_pos hlm]
  simp
end

/-- A slice among the elements, laid open. -/
def Opn.slice {α : Type} (K : Kd α) (xs : List α) : Opn (Kd.slice K) xs where
  ε := Option Addr × Nat
  cells := fun e => [.slice e.1 xs.length e.2]
  newB := fun e => [Rd 0 K e.1 e.2 xs]
  ok := fun w S cs ⟨A, c, h, hr⟩ => ⟨⟨A, c⟩, h, fun f hf => by
    simp only [List.mem_cons, List.mem_nil_iff, or_false] at hf
    subst hf; exact hr⟩

section
variable {ρ : Type} {C : Cx ρ} {env env' : Env} {H H' H0 : List Bx} {B B' B0 : List Fct} {k : List Item} {o : Option ρ} {ops : Array Oper} {rest : List Nat} {i : Nat} {G : Env → List Bx → List Fct → Option ρ → Prop} {fin : List Nat}

/-- A load from a known block, what comes of it being shown by hand. -/
theorem GoO.ldB {t : TypeId} {x : Operand} {d : Option Tmp} {ty : TypeId} (hop : opAt ops i env = some (.load t x, d, ty))
    {b off tg : Nat} {cs : List Value} {v : Value} (hx : evalE env x = some (.pointer (some ⟨b, off, none⟩)))
    {j : Nat} (hf : H[j]? = some ⟨tg, b, cs⟩) (hv : loadBx C.P t cs off = some v)
    (hput : putE C.n env d v = some env') (g : G env' H B o) : OpTo C ops i env H B o G := by
  refine GoO.op hop fun l w S hsat r hr => ⟨v, w, .inl fun q hq _ => ?_, env', H, B, S, hput, fun l' h2 h1 => ⟨hsat.wf, hsat.ext, h2, h1, hsat.hs, hsat.bs⟩, g⟩
  obtain ⟨_, T, hb⟩ := hsat.hs _ (List.mem_of_getElem? hf)
  have := loadBx_ok hv hb
  simp [execOp, hq, evalE_ok hsat.env hx, this]

/-- A store to a known block. -/
theorem GoO.stB {t : TypeId} {x y : Operand} {d : Option Tmp} {ty : TypeId} (hop : opAt ops i env = some (.store t x y, d, ty))
    {b off tg : Nat} {cs cs' : List Value} {v : Value} (hx : evalE env x = some (.pointer (some ⟨b, off, none⟩))) (hy : evalE env y = some v)
    {j : Nat} (hf : H[j]? = some ⟨tg, b, cs⟩) (hv : storeBx C.P t cs off v = some cs') (hs : soleB C.M C.np tg j H (B.map (·.t)) = true)
    (hput : putE C.n env d undef = some env') (g : G env' (H.set j ⟨tg, b, cs'⟩) B o) : OpTo C ops i env H B o G := by
  refine GoO.op hop fun l w S hsat r hr => ?_
  obtain ⟨hxs, T, hxb⟩ := hsat.hs _ (List.mem_of_getElem? hf)
  obtain ⟨w', hrun, honly, hcell⟩ := storeBx_ok hv hxb
  unfold soleB at hs
  split at hs
  · rename_i m1 m2 m3
    obtain ⟨hm, h0⟩ := mineB_ok hsat.wf m1
    have n2 := noTag_ok m2
    have n3 := noTag_ok m3
    refine ⟨undef, w', .inr ⟨fun q hq _ => ?_, rfl⟩, env', _, B, S, hput, fun l' h2 h1 => ⟨hsat.wf, honly.ext hsat.ext hxs (hm.lt hsat.ext hxs), h2, h1, ?_, ?_⟩, g⟩
    · simp [execOp, hq, evalE_ok hsat.env hx, evalE_ok hsat.env hy, hrun]
    · intro y hy
      obtain ⟨m, hm⟩ := List.mem_iff_getElem?.1 hy
      by_cases hjm : j = m
      · subst hjm
        have hlt : j < H.length := (List.getElem?_eq_some_iff.1 hf).1
        rw [List.getElem?_set_self hlt] at hm
        cases hm
        exact ⟨hxs, T, hcell⟩
      · rw [List.getElem?_set_ne hjm] at hm
        have : y ∈ H.eraseIdx j := (List.mem_eraseIdx_iff_getElem?).2 ⟨m, fun e => hjm e.symm, hm⟩
        exact honly.bx hsat.ext.good hxs (n2 y.t (List.mem_map.2 ⟨y, this, rfl⟩)) (hsat.hs y (List.mem_of_getElem? hm))
    · intro f hf
      exact honly.fct hsat.ext.good hxs (n3 f.t (List.mem_map.2 ⟨f, hf, rfl⟩)) h0 (hsat.bs f hf)
  · cases hs

/-- &a[i], of an array at hand. -/
theorem GoO.idxB {t : TypeId} {x y : Operand} {d : Option Tmp} {ty e : TypeId} (hop : opAt ops i env = some (.indexAddr t x y, d, ty))
    {b n : Nat} {kk : IntKind} {iv : Int} (hx : evalE env x = some (.pointer (some ⟨b, 0, none⟩))) (hy : evalE env y = some (.int kk iv))
    (he : arrTy C.P t = some (n, e)) (hsz : tySize C.P e = some 1) (h0 : 0 ≤ iv) (h1 : iv < (n : Int))
    (hput : putE C.n env d (.pointer (some ⟨b, iv.toNat, none⟩)) = some env') (g : G env' H B o) : OpTo C ops i env H B o G := by
  refine GoO.op hop fun l w S hsat r hr => ⟨_, w, .inl fun q hq _ => ?_, env', H, B, S, hput, fun l' h2 h1 => ⟨hsat.wf, hsat.ext, h2, h1, hsat.hs, hsat.bs⟩, g⟩
  obtain ⟨inf, hi, hs⟩ := tySize_ok hsz
  simp [execOp, hq, evalE_ok hsat.env hx, evalE_ok hsat.env hy, Instr.indexAt, asIntOf, run_underlying (arrTy_ok he), Instr.sureAddr, h0, h1, sizeOf, typeInfo, hi, hs, Addr.add_none]

/-- a[i], of an array's value. -/
theorem GoO.idxV {t : TypeId} {x y : Operand} {d : Option Tmp} {ty e : TypeId} (hop : opAt ops i env = some (.index t x y, d, ty))
    {n : Nat} {kk k2 : IntKind} {iv : Int} {L : List Int} (hx : evalE env x = some (.agg ⟨arrV kk L⟩)) (hy : evalE env y = some (.int k2 iv))
    (he : arrTy C.P t = some (n, e)) (ha : aggSize C.P e = some (false, 1)) (hl : L.length = n) (h0 : 0 ≤ iv) (h1 : iv < (L.length : Int))
    (hput : putE C.n env d (.int kk (rdL L iv)) = some env') (g : G env' H B o) : OpTo C ops i env H B o G := by
  refine GoO.op hop fun l w S hsat r hr => ⟨_, w, .inl fun q hq _ => ?_, env', H, B, S, hput, fun l' h2 h1 => ⟨hsat.wf, hsat.ext, h2, h1, hsat.hs, hsat.bs⟩, g⟩
  obtain ⟨hag, hsz⟩ := aggSize_ok ha w
  have hn : iv < (n : Int) := by omega
  have hp : (part e (⟨arrV kk L⟩ : Array Value) iv.toNat).run C.P w = .ok (.int kk (rdL L iv)) w := by
    have := arrV_get (k := kk) h0 h1
    simp [part, hag, this]
  simp [execOp, hq, evalE_ok hsat.env hx, evalE_ok hsat.env hy, Instr.index, asIntOf, run_underlying (arrTy_ok he), h0, hn, hsz, hp]

theorem run_toStr {P : Program} {w : World} {T R : Nat → Prop} {src dst e : TypeId} {A : Option Addr} {c : Nat} {xs : List UInt8} (he : elemTy P src = some e) (hu : P.underlying e = some (.int .u8)) (hd : P.underlying dst = some .string)
    (hrow : RowIn Kd.u8 w T R A c xs) : (convert src dst (.slice A xs.length c)).run P w = .ok (.string (bs xs)) w := by
  obtain ⟨vs, hel, hcs⟩ := hrow.ex
  have hvs : vs = xs.map fun b => Value.int .u8 (b.toNat : Int) := elems_u8_inv xs vs hel
  cases A with
  | none =>
    rcases hcs with rfl | ⟨b, off, cells, ty', fz, hA, _⟩
    · have : xs = [] := by simpa using hvs.symm
      subst this
      rw [run_convert_bytes_nil w src e (elemTy_ok he) hu _ _ dst hd]
      rfl
    · cases hA
  | some a =>
    rw [run_convert_bytes_string w src dst e _ _ c (elemTy_ok he) hu hd]
    have hl : (loadCells a xs.length).run P w = .ok ((xs.map fun b => (b.toNat : Int)).map (Value.int .u8)).toArray w := by
      have := run_loadCells_list (P := P) w a vs (hcs.cell)
      rw [hel.length] at this
      rw [show xs.length * Kd.u8.sz = xs.length from Nat.mul_one _] at this
      rw [this, hvs]
      simp
    have hb := run_bytesToString (P := P) w a xs.length c (xs.map fun b => (b.toNat : Int)) hl
    rw [hb, foldl_push_bytes]
    congr 2
    apply ByteArray.ext
    apply Array.ext'
    have hb : ∀ b : UInt8, UInt8.ofNat ((b.toNat : Int)).toNat = b := fun b => by simp
    simp [bs, ByteArray.empty, ByteArray.emptyWithCapacity, Function.comp_def, hb]
    rfl

/-- string(b), taken first. -/
theorem GoF.toStr1 {fuel : Nat} {listed : List Bool} {hk bk : List Nat} {src dst : TypeId} {x : Operand} {d : Option Tmp} {ty e : TypeId} (hc : canTake ops fin listed i = true) (hop : opAt ops i env = some (.convert src dst x, d, ty))
    (hH : picks H hk = some H0) (hB : picks B bk = some B0)
    {A : Option Addr} {c n : Nat} {xs : List UInt8} (hx : evalE env x = some (.slice A n c)) (he : elemTy C.P src = some e) (hu : C.P.underlying e = some (.int .u8)) (hd : C.P.underlying dst = some .string)
    {j : Nat} {f : Fct} (hf : B0[j]? = some f) (hrd : Reads f Kd.u8 A c xs) (hn : n = xs.length)
    (hput : putE C.n env d (.string (bs xs)) = some env') (g : GoF C ops fin H0 B0 k fuel (listed.set i true) env' H B o) : GoF C ops fin H0 B0 k (fuel + 1) listed env H B o := by
  refine GoF.take1 hc hop hH hB (fun l hl w S _ hb q hq _ => ?_) hput g
  have hrow := hrd w S (hb f (List.mem_of_getElem? hf))
  subst hn
  have := run_toStr (P := C.P) he hu hd hrow
  simp [execOp, hq, evalE_ok hl hx, this]

theorem anyF_mono {P : Program} {Q : Exit → Act → World → Prop} {S S' : World → Prop} {fi : Nat → Bool} (hS : ∀ w, S' w → S w) : ∀ (fuel : Nat) (listed : Array Bool) (a : Act) (w : World), anyF P ops Q S' fi fuel listed a w → anyF P ops Q S fi fuel listed a w
  | 0, _, _, _, h => h
  | fuel + 1, _, _, _, h => ⟨h.1, fun i hi => wpOp_mono (fun a' w' h' => ⟨fun hn hf => hS _ (h'.1 hn hf), anyF_mono hS fuel _ a' w' h'.2⟩) (h.2 i hi)⟩

/-- From here on more holds all through. -/
theorem GoF.more {fuel : Nat} {listed : List Bool} (H0' : List Bx) (B0' : List Fct) {hk bk : List Nat} (hH : picks H0' hk = some H0) (hB : picks B0' bk = some B0) (g : GoF C ops fin H0' B0' k fuel listed env H B o) :
    GoF C ops fin H0 B0 k fuel listed env H B o :=
  fun r hr l w S hs => anyF_mono (fun w ⟨S, h1, h2⟩ => ⟨S, fun x hx => h1 x (picks_mem hH x hx), fun x hx => h2 x (picks_mem hB x hx)⟩) _ _ _ _ (g r hr l w S hs)

/-- The mark of a constant text's row: it is only read from then on. -/
theorem GoO.markS {t : TypeId} {x : Operand} {d : Option Tmp} {ty e : TypeId} (hop : opAt ops i env = some (.convert t t x, d, ty))
    {A : Option Addr} {c n tg : Nat} {xs : List UInt8} (hx : evalE env x = some (.slice A n c)) (he : elemTy C.P t = some e) (hu : C.P.underlying e = some (.int .u8)) (hpos : Nat.blt 0 xs.length = true)
    {j : Nat} (hf : B[j]? = some (Ow tg Kd.u8 A c xs)) (hmine : mineB C.M C.np tg = true) (hH : noTag tg (H.map (·.t)) = true) {bk : List Nat} (hB : picks B bk = some B') (hB' : noTag tg (B'.map (·.t)) = true)
    (hput : putE C.n env d (.slice A n c) = some env') (g : G env' H (Rd tg Kd.u8 A c xs :: B') o) : OpTo C ops i env H B o G := by
  refine GoO.op hop fun lf w S hsat r hr => ?_
  have hpos : 0 < xs.length := Nat.le_of_ble_eq_true hpos
  have hrow : RowOwn Kd.u8 w (S tg) (S 0) A c xs := hsat.bs _ (List.mem_of_getElem? hf)
  rcases hrow with ⟨_, _, h0⟩ | ⟨b, cells, tb, vs, hA, hT, hb, hle, hcap, hel, htake⟩
  · subst h0; simp at hpos
  subst hA
  obtain ⟨hmi, h0⟩ := mineB_ok hsat.wf hmine
  let w' := w.freeze ⟨b, cells.size, none⟩ 1
  have hw' : w'.heap[b]? = some (.cells cells tb (cells.size, cells.size + 1)) := by
    simp [w', World.freeze, Array.getElem?_modify, hb]
  have honly : Only w w' b := ⟨by simp [w', World.freeze], fun k _ hk => by simp [w', World.freeze, Array.getElem?_modify, Ne.symm hk], rfl, rfl, rfl⟩
  have hsh : w.shape? b = some (tb, cells.size) := by simp [World.shape?, hb]
  have hxx := evalE_ok hsat.env hx
  refine ⟨.slice (some ⟨b, 0, none⟩) n c, w', .inl fun q hq _ => ?_, env', H, _, S, hput, fun l' h2 h1 => ⟨hsat.wf, honly.ext hsat.ext hT (hmi.lt hsat.ext hT), h2, h1, ?_, fun y hy => ?_⟩, g⟩
  · simp [execOp, hq, hxx, convert, run_underlying (elemTy_ok he), run_underlying hu, markStringish, hsh, w']
  · intro y hy
    exact honly.bx hsat.ext.good hT (noTag_ok hH y.t (List.mem_map.2 ⟨y, hy, rfl⟩)) (hsat.hs y hy)
  · cases hy with
    | head =>
      refine ⟨hle, vs, hel.st fun bb hbb hl => ⟨honly.same bb hl fun e => by subst e; exact h0 (hsat.ext.good.dj _ _ _ hT hbb), hbb⟩, .inr ⟨b, 0, cells, tb, _, rfl, hT, hw', fun j u hu => ?_⟩⟩
      rw [← htake, List.getElem?_take] at hu
      split at hu
      · simpa using hu
      · cases hu
    | tail _ hy => exact honly.fct hsat.ext.good hT (noTag_ok hB' y.t (List.mem_map.2 ⟨y, hy, rfl⟩)) h0 (hsat.bs y (picks_mem hB y hy))

/-- Returning an array of numbers that lies in a variable. -/
theorem GoO.retA {c : Code} {r : ρ} {a j b tg n : Nat} {t : TypeId} {kk : IntKind} {L : List Int} {hk bk : List Nat} (h : c = .ret) (hfn : C.P.funcs[C.f]? = some C.fn) (hres : C.fn.results.toList = [.cell a t]) (x : C.R.ε)
    (ha : look a env = some (.pointer (some ⟨b, 0, none⟩))) (hj : H[j]? = some ⟨tg, b, arrV kk L⟩) (hag : aggSize C.P t = some (true, n)) (hl : L.length = n) (hv : C.R.v r x = .agg ⟨arrV kk L⟩)
    (hH : picks H hk = some (C.R.H r x)) (hB : picks B bk = some (C.R.B r x)) : GoO C env H B (.code c :: k) (some r) := by
  subst h
  refine GoO.ret (hs := [j]) (ps := [b = b]) hfn x ?_ ⟨rfl, trivial⟩ hH hB
  rw [hres, hv]
  simp [retV, retVs, ha, hj, loadBx_arr hag hl]

theorem run_slc {α : Type} {P : Program} {env : Env} {lf : List Value} (he0 : EnvOk env lf) {t e : TypeId} {lo hi : Option Operand} {K : Kd α} {A : Option Addr} {c : Nat} {xs : List α} (he : elemTy P t = some e) (hsz : tySize P e = some K.sz) (hle : xs.length ≤ c)
    {l h : Int} (hl : bnd env 0 lo = some l) (hh : bnd env (xs.length : Int) hi = some h) (h0 : 0 ≤ l) (h1 : l ≤ h) (h2 : h ≤ (xs.length : Int)) (w : World) :
    (Instr.sliceAt t (.slice A xs.length c) (lo.map (Act.eval ⟨⟨lf⟩, []⟩)) (hi.map (Act.eval ⟨⟨lf⟩, []⟩)) none).run P w = .ok (.slice (if c = l.toNat then A else A.map fun a => a.add (l.toNat * K.sz)) ((xs.take h.toNat).drop l.toNat).length (c - l.toNat)) w := by
  obtain ⟨inf, hi', hs⟩ := tySize_ok hsz
  have hlen : ((xs.take h.toNat).drop l.toNat).length = h.toNat - l.toNat := by simp; omega
  have eh : ∀ y, hi = some y → ∃ kk, Act.eval ⟨⟨lf⟩, []⟩ y = .int kk h := by
    intro y hy; subst hy
    simp only [bnd] at hh
    split at hh
    · rename_i kk m hm; cases hh; exact ⟨kk, evalE_ok he0 hm⟩
    · cases hh
  have el : ∀ y, lo = some y → ∃ kk, Act.eval ⟨⟨lf⟩, []⟩ y = .int kk l := by
    intro y hy; subst hy
    simp only [bnd] at hl
    split at hl
    · rename_i kk m hm; cases hl; exact ⟨kk, evalE_ok he0 hm⟩
    · cases hl
  have hb : (Instr.sliceBounds true xs.length c (lo.map (Act.eval ⟨⟨lf⟩, []⟩)) (hi.map (Act.eval ⟨⟨lf⟩, []⟩)) none).run P w = .ok (l.toNat, h.toNat, c) w := by
    have hc : h ≤ (c : Int) := by omega
    have h00 : 0 ≤ h := by omega
    have hlh : l ≤ (h.toNat : Int) := by omega
    cases hi with
    | none =>
      simp only [bnd] at hh; cases hh
      cases lo with
      | none => simp only [bnd] at hl; cases hl; simp [Instr.sliceBounds]
      | some y => obtain ⟨kk, hk⟩ := el y rfl; simp [Instr.sliceBounds, Instr.sliceBound, hk, asIntOf, h0, h1]
    | some z =>
      obtain ⟨kz, hkz⟩ := eh z rfl
      have hm : max h 0 = h := by omega
      have hnl : ¬ h < l := by omega
      cases lo with
      | none => simp only [bnd] at hl; cases hl; simp [Instr.sliceBounds, Instr.sliceBound, hkz, asIntOf, hc, h00]
      | some y => obtain ⟨kk, hk⟩ := el y rfl; simp [Instr.sliceBounds, Instr.sliceBound, hk, hkz, asIntOf, h0, h1, hc, h00, hlh, hm, hnl]
  simp [Instr.sliceAt, Instr.slice, run_underlying (elemTy_ok he), hb, sizeOf, typeInfo, hi', hs, hlen]

theorem GoF.have' {fuel : Nat} {listed : List Bool} (f : Fct) (h : ∀ w S, HOk H w S → BOk B w S → f.ok w S) (g : GoF C ops fin H0 B0 k fuel listed env H (f :: B) o) : GoF C ops fin H0 B0 k fuel listed env H B o :=
  fun r hr l w S hs => g r hr l w S ⟨hs.wf, hs.ext, hs.len, hs.env, hs.hs, fun x hx => by
    cases hx with
    | head => exact h w S hs.hs hs.bs
    | tail _ hf => exact hs.bs x hf⟩

/-- xs[l:h], taken first. -/
theorem GoF.slc1 {fuel : Nat} {listed : List Bool} {hk bk : List Nat} {α : Type} {t : TypeId} {x : Operand} {lo hi : Option Operand} {d : Option Tmp} {ty e : TypeId} (hc : canTake ops fin listed i = true) (hop : opAt ops i env = some (.slice t x lo hi none, d, ty))
    (hH : picks H hk = some H0) (hB : picks B bk = some B0)
    {K : Kd α} {A : Option Addr} {c n : Nat} {xs : List α} (hx : evalE env x = some (.slice A n c)) (he : elemTy C.P t = some e) (hsz : tySize C.P e = some K.sz)
    {j : Nat} {f : Fct} (hf : B[j]? = some f) (hrd : Reads f K A c xs) (hn : n = xs.length)
    {l h : Int} (hl : bnd env 0 lo = some l) (hh : bnd env (xs.length : Int) hi = some h) (h0 : 0 ≤ l) (h1 : l ≤ h) (h2 : h ≤ (xs.length : Int))
    (env' : Option Addr → Nat → Env) (hput : ∀ A' c', putE C.n env d (.slice A' ((xs.take h.toNat).drop l.toNat).length c') = some (env' A' c'))
    (g : ∀ A' c', GoF C ops fin H0 B0 k fuel (listed.set i true) (env' A' c') H (Rd f.t K A' c' ((xs.take h.toNat).drop l.toNat) :: B) o) : GoF C ops fin H0 B0 k (fuel + 1) listed env H B o := by
  intro r hr l0 w0 S0 hs0
  have hle : xs.length ≤ c := (hrd w0 S0 (hs0.bs f (List.mem_of_getElem? hf))).le
  refine GoF.take1 hc hop hH hB (v := .slice (if c = l.toNat then A else A.map fun a => a.add (l.toNat * K.sz)) ((xs.take h.toNat).drop l.toNat).length (c - l.toNat)) (fun lf hlf w S _ hb q hq _ => ?_) (hput _ _) ?_ r hr l0 w0 S0 hs0
  · subst hn
    have := run_slc (P := C.P) hlf (lo := lo) (hi := hi) he hsz (A := A) hle hl hh h0 h1 h2 w
    simp only [execOp, hq, Option.map_none, evalE_ok hlf hx]
    simp [this]
  · refine GoF.have' (Rd f.t K _ _ _) (fun w S _ hb => ?_) (g _ _)
    have hrow := hrd w S (hb f (List.mem_of_getElem? hf))
    have hle := hrow.le
    exact hrow.slice (lo := l.toNat) (hi := h.toNat) (m := c) (by omega) (by omega) (by omega)

/-- xs[:h:h], taken first. -/
theorem GoF.cut1 {fuel : Nat} {listed : List Bool} {hk bk : List Nat} {α : Type} {t : TypeId} {x y z : Operand} {d : Option Tmp} {ty e : TypeId} (hc : canTake ops fin listed i = true) (hop : opAt ops i env = some (.slice t x none (some y) (some z), d, ty))
    (hH : picks H hk = some H0) (hB : picks B bk = some B0)
    {K : Kd α} {A : Option Addr} {c n tg : Nat} {xs : List α} {h : Int} (hx : evalE env x = some (.slice A n c)) (he : elemTy C.P t = some e) (hsz : tySize C.P e = some K.sz)
    {j : Nat} (hf : B[j]? = some (Ow tg K A c xs)) (hn : n = xs.length) (hy : bnd env 0 (some y) = some h) (hz : bnd env 0 (some z) = some h) (h0 : 0 ≤ h) (h1 : h ≤ (xs.length : Int))
    (hput : putE C.n env d (.slice A h.toNat h.toNat) = some env') (g : GoF C ops fin H0 B0 k fuel (listed.set i true) env' H B o) : GoF C ops fin H0 B0 k (fuel + 1) listed env H B o := by
  intro r hr l0 w0 S0 hs0
  have hrow0 : RowOwn K w0 (S0 tg) (S0 0) A c xs := hs0.bs _ (List.mem_of_getElem? hf)
  have hle : xs.length ≤ c := hrow0.rowIn.le
  refine GoF.take1 hc hop hH hB (v := .slice A h.toNat h.toNat) (fun l hl w S _ hb q hq _ => ?_) hput g r hr l0 w0 S0 hs0
  obtain ⟨inf, hi', hs⟩ := tySize_ok hsz
  have ek : ∀ y, bnd env 0 (some y) = some h → ∃ kk, Act.eval ⟨⟨l⟩, []⟩ y = .int kk h := by
    intro y hy
    simp only [bnd] at hy
    split at hy
    · rename_i kk m hm; cases hy; exact ⟨kk, evalE_ok hl hm⟩
    · cases hy
  obtain ⟨k1, e1⟩ := ek y hy
  obtain ⟨k2, e2⟩ := ek z hz
  have hc : h ≤ (c : Int) := by omega
  have hm : max h 0 = h := by omega
  simp [execOp, hq, evalE_ok hl hx, e1, e2, Instr.sliceAt, Instr.slice, run_underlying (elemTy_ok he), Instr.sliceBounds, Instr.sliceBound, asIntOf, h0, hc, hm, sizeOf, typeInfo, hi']
  cases A <;> simp [Addr.add]

/-- a[i], of an array's value, taken first. -/
theorem GoF.idxV1 {fuel : Nat} {listed : List Bool} {hk bk : List Nat} {t : TypeId} {x y : Operand} {d : Option Tmp} {ty e : TypeId} (hc : canTake ops fin listed i = true) (hop : opAt ops i env = some (.index t x y, d, ty))
    (hH : picks H hk = some H0) (hB : picks B bk = some B0)
    {n : Nat} {kk k2 : IntKind} {iv : Int} {L : List Int} (hx : evalE env x = some (.agg ⟨arrV kk L⟩)) (hy : evalE env y = some (.int k2 iv))
    (he : arrTy C.P t = some (n, e)) (ha : aggSize C.P e = some (false, 1)) (hl : L.length = n) (h0 : 0 ≤ iv) (h1 : iv < (L.length : Int))
    (hput : putE C.n env d (.int kk (rdL L iv)) = some env') (g : GoF C ops fin H0 B0 k fuel (listed.set i true) env' H B o) : GoF C ops fin H0 B0 k (fuel + 1) listed env H B o := by
  refine GoF.take1 hc hop hH hB (fun l hl' w S _ hb q hq _ => ?_) hput g
  obtain ⟨hag, hsz⟩ := aggSize_ok ha w
  have hn : iv < (n : Int) := by omega
  have hp : (part e (⟨arrV kk L⟩ : Array Value) iv.toNat).run C.P w = .ok (.int kk (rdL L iv)) w := by
    have := arrV_get (k := kk) h0 h1
    simp [part, hag, this]
  simp [execOp, hq, evalE_ok hl' hx, evalE_ok hl' hy, Instr.index, asIntOf, run_underlying (arrTy_ok he), h0, hn, hsz, hp]

/-- &a[i], taken first. -/
theorem GoF.idxB1 {fuel : Nat} {listed : List Bool} {hk bk : List Nat} {t : TypeId} {x y : Operand} {d : Option Tmp} {ty e : TypeId} (hc : canTake ops fin listed i = true) (hop : opAt ops i env = some (.indexAddr t x y, d, ty))
    (hH : picks H hk = some H0) (hB : picks B bk = some B0)
    {b n : Nat} {kk : IntKind} {iv : Int} (hx : evalE env x = some (.pointer (some ⟨b, 0, none⟩))) (hy : evalE env y = some (.int kk iv))
    (he : arrTy C.P t = some (n, e)) (hsz : tySize C.P e = some 1) (h0 : 0 ≤ iv) (h1 : iv < (n : Int))
    (hput : putE C.n env d (.pointer (some ⟨b, iv.toNat, none⟩)) = some env') (g : GoF C ops fin H0 B0 k fuel (listed.set i true) env' H B o) : GoF C ops fin H0 B0 k (fuel + 1) listed env H B o := by
  refine GoF.take1 hc hop hH hB (fun l hl' w S _ hb q hq _ => ?_) hput g
  obtain ⟨inf, hi, hs⟩ := tySize_ok hsz
  simp [execOp, hq, evalE_ok hl' hx, evalE_ok hl' hy, Instr.indexAt, asIntOf, run_underlying (arrTy_ok he), Instr.sureAddr, h0, h1, sizeOf, typeInfo, hi, hs, Addr.add_none]

/-- A load from a block that stays as it is, taken first. -/
theorem GoF.ldB1 {fuel : Nat} {listed : List Bool} {hk bk : List Nat} {t : TypeId} {x : Operand} {d : Option Tmp} {ty : TypeId} (hc : canTake ops fin listed i = true) (hop : opAt ops i env = some (.load t x, d, ty))
    (hH : picks H hk = some H0) (hB : picks B bk = some B0)
    {b off tg : Nat} {cs : List Value} {v : Value} (hx : evalE env x = some (.pointer (some ⟨b, off, none⟩)))
    {j : Nat} (hf : H0[j]? = some ⟨tg, b, cs⟩) (hv : loadBx C.P t cs off = some v)
    (hput : putE C.n env d v = some env') (g : GoF C ops fin H0 B0 k fuel (listed.set i true) env' H B o) : GoF C ops fin H0 B0 k (fuel + 1) listed env H B o := by
  refine GoF.take1 hc hop hH hB (fun l hl' w S hh _ q hq _ => ?_) hput g
  obtain ⟨_, T, hb⟩ := hh _ (List.mem_of_getElem? hf)
  have := loadBx_ok hv hb
  simp [execOp, hq, evalE_ok hl' hx, this]

/-- What a copy makes of a row. -/
def copyL {α : Type} (xs ys : List α) : List α := ys.take (min ys.length xs.length) ++ xs.drop (min ys.length xs.length)
theorem copyL_length {α : Type} (xs ys : List α) : (copyL xs ys).length = xs.length := by
  simp [copyL]; omega

/-- copy(xs, ys): into a row of one's own. -/
theorem GoO.copy1 {α : Type} {x y : Operand} {t1 t2 : TypeId} {d : Option Tmp} {ty e : TypeId} (hop : opAt ops i env = some (.call { callee := .builtin .copy, args := ⟨[x, y]⟩, argTypes := ⟨[t1, t2]⟩ }, d, ty))
    {K : Kd α} {A A2 : Option Addr} {c c2 tg : Nat} {xs ys : List α} (hx : evalE env x = some (.slice A xs.length c)) (hy : evalE env y = some (.slice A2 ys.length c2))
    (he : elemTy C.P t1 = some e) (hsz : tySize C.P e = some K.sz)
    {j : Nat} (hf : B[j]? = some (Ow tg K A c xs)) {j2 : Nat} {f : Fct} (hf2 : B[j2]? = some f) (hrd : Reads f K A2 c2 ys) (hz : K.sz ≠ 0)
    (hm : mineB C.M C.np tg = true) (hH : noTag tg (H.map (·.t)) = true) (hB : noTag tg ((B.eraseIdx j).map (·.t)) = true)
    (hput : putE C.n env d (.int .i64 ((min ys.length xs.length : Nat) : Int)) = some env') (g : G env' H (B.set j (Ow tg K A c (copyL xs ys))) o) : OpTo C ops i env H B o G := by
  refine GoO.op hop fun l w S hsat r hr => ?_
  obtain ⟨inf, hi, hs⟩ := tySize_ok hsz
  have hrow : RowOwn K w (S tg) (S 0) A c xs := hsat.bs _ (List.mem_of_getElem? hf)
  obtain ⟨vy, hely, hcy⟩ := (hrd w S (hsat.bs f (List.mem_of_getElem? hf2))).ex
  generalize hnn : min ys.length xs.length = n at *
  have hny : n ≤ ys.length := by omega
  have hnx : n ≤ xs.length := by omega
  have helt := hely.take n
  have hlt : (vy.take (n * K.sz)).length = n * K.sz := by
    have := helt.length
    rw [this, List.length_take, Nat.min_eq_left hny]
  have hfirst : (Builtin.firstCells K.sz n (.slice A2 ys.length c2)).run C.P w = .ok ⟨vy.take (n * K.sz)⟩ w := by
    cases A2 with
    | none =>
      rcases hcy with rfl | ⟨b, off, cells, ty', fz, hA, _⟩
      · have h0 : n * K.sz = 0 := by simpa using hlt.symm
        have h0 : n = 0 := by
          rcases Nat.mul_eq_zero.1 h0 with h | h
          · exact h
          · exact absurd h hz
        subst h0
        simp [Builtin.firstCells]
      · cases hA
    | some a =>
      refine run_firstCells_some (P := C.P) w K.sz n a ys.length c2 (vy.take (n * K.sz)) hlt fun jj u hu => ?_
      rw [List.getElem?_take] at hu
      split at hu
      · exact hcy.cell jj u hu
      · cases hu
  have hlen : (Builtin.lenOf (.slice A2 ys.length c2)).run C.P w = .ok ys.length w := by simp [Builtin.lenOf]
  have hmin : Nat.min ys.length xs.length = n := hnn
  obtain ⟨hmine, h0⟩ := mineB_ok hsat.wf hm
  rcases hrow with ⟨rfl, rfl, rfl⟩ | ⟨b, cells, tb, vs, hA, hT, hb, hle, hcap, hel, htake⟩
  · have hn0 : n = 0 := by simpa using hnx
    subst hn0
    refine ⟨_, w, .inl fun q hq _ => ?_, env', H, _, S, hput, fun l' h2 h1 => ⟨hsat.wf, hsat.ext, h2, h1, hsat.hs, ?_⟩, g⟩
    · have hfirst' := hfirst
      rw [← hs] at hfirst'
      simp at hfirst' hlen
      simp [execOp, hq, resolve, invoke, builtin, evalE_ok hsat.env hx, evalE_ok hsat.env hy, Builtin.copy_, run_underlying (elemTy_ok he), hlen, sizeOf, typeInfo, hi, hfirst', goInt]
    · intro z hzz
      obtain ⟨m, hmz⟩ := List.mem_iff_getElem?.1 hzz
      by_cases hjm : j = m
      · subst hjm
        have hltj : j < B.length := (List.getElem?_eq_some_iff.1 hf).1
        rw [List.getElem?_set_self hltj] at hmz
        cases hmz
        refine .inl ⟨rfl, rfl, ?_⟩
        simp [copyL]
      · rw [List.getElem?_set_ne hjm] at hmz
        exact hsat.bs z (List.mem_of_getElem? hmz)
  · subst hA
    have hcs2 : xs.length * K.sz ≤ cells.size := Nat.le_trans (Nat.mul_le_mul_right _ hle) hcap
    have hn2 : n * K.sz ≤ xs.length * K.sz := Nat.mul_le_mul_right _ hnx
    have hst := run_storeCells_at C.P b 0 tb (vy.take (n * K.sz)) 0 cells w hb (by omega) (fun v hv => hely.one v (List.mem_of_mem_take hv))
    simp only [Nat.add_zero, List.take_zero, List.nil_append, Nat.zero_add] at hst
    let w' := w.setRow b ((vy.take (n * K.sz)) ++ cells.toList.drop (vy.take (n * K.sz)).length).toArray
    have honly : Only w w' b := ⟨by simp [w'], fun k _ hk => setRow_other w b k _ hk, rfl, rfl, rfl⟩
    refine ⟨_, w', .inl fun q hq _ => ?_, env', H, _, S, hput, fun l' h2 h1 => ⟨hsat.wf, honly.ext hsat.ext hT (hmine.lt hsat.ext hT), h2, h1, ?_, ?_⟩, g⟩
    · have hfirst' := hfirst
      rw [← hs] at hfirst'
      rw [← hs] at hst
      have hmin' : min ys.length xs.length = n := hnn
      simp [execOp, hq, resolve, invoke, builtin, evalE_ok hsat.env hx, evalE_ok hsat.env hy, Builtin.copy_, run_underlying (elemTy_ok he), hlen, sizeOf, typeInfo, hi, hmin, hmin', hfirst', goInt, hst, w']
      try rw [hs]
    · intro z hzz
      exact honly.bx hsat.ext.good hT (noTag_ok hH z.t (List.mem_map.2 ⟨z, hzz, rfl⟩)) (hsat.hs z hzz)
    · intro z hzz
      obtain ⟨m, hmz⟩ := List.mem_iff_getElem?.1 hzz
      by_cases hjm : j = m
      · subst hjm
        have hltj : j < B.length := (List.getElem?_eq_some_iff.1 hf).1
        rw [List.getElem?_set_self hltj] at hmz
        cases hmz
        have hR : ∀ bb, S 0 bb → bb < w.heap.size → w'.heap[bb]? = w.heap[bb]? ∧ S 0 bb := fun bb hbb hl =>
          ⟨honly.same bb hl fun e => by subst e; exact h0 (hsat.ext.good.dj _ _ _ hT hbb), hbb⟩
        have hcl : (copyL xs ys) = ys.take n ++ xs.drop n := by unfold copyL; rw [hnn]
        show RowOwn K w' (S tg) (S 0) (some ⟨b, 0, none⟩) c (copyL xs ys)
        refine .inr ⟨b, _, tb, vy.take (n * K.sz) ++ vs.drop (n * K.sz), rfl, hT, setRow_heap w b cells _ tb _ hb, by rw [copyL_length]; exact hle, ?_, ?_, ?_⟩
        · simp only [List.size_toArray, List.length_append, List.length_drop, Array.length_toList, hlt]
          omega
        · rw [hcl]
          exact (helt.st hR).append ((hel.drop n).st hR)
        · rw [copyL_length, hlt, ← htake]
          show List.take (xs.length * K.sz) (vy.take (n * K.sz) ++ cells.toList.drop (n * K.sz)) = _
          rw [List.take_append, List.take_of_length_le (by rw [hlt]; exact hn2), hlt, List.drop_take]
      · rw [List.getElem?_set_ne hjm] at hmz
        have : z ∈ B.eraseIdx j := (List.mem_eraseIdx_iff_getElem?).2 ⟨m, fun e => hjm e.symm, hmz⟩
        exact honly.fct hsat.ext.good hT (noTag_ok hB z.t (List.mem_map.2 ⟨z, this, rfl⟩)) h0 (hsat.bs z (List.mem_of_getElem? hmz))
end
end Go.GL
