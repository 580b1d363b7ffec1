import Derived.Test.YtmpockelhphkdaaG6
/-! Walks by symbolic states: append, make, literals of slices, texts. -/
set_option linter.unusedVariables false
set_option linter.unusedSimpArgs false
namespace Go.GL
open Go

/-! ### Append -/
/-- Does a slice of so many elements fit, however it grows? -/
def capOk (bytes need : Nat) : Prop := (need + need / 4 + 512) * bytes ≤ 281474976710656
instance (bytes need : Nat) : Decidable (capOk bytes need) := inferInstanceAs (Decidable (_ ≤ _))

theorem nextslicecap_bound {need old : Nat} (h : old < need) : Builtin.nextslicecap need old ≤ need + need / 4 + 512 := by
  unfold Builtin.nextslicecap
  split
  · omega
  · split
    · omega
    · rw [growBy_four]
      repeat' split
      all_goals omega

theorem capOk_fits {bytes need old : Nat} (h : old < need) (hc : capOk bytes need) : Builtin.nextslicecap need old * bytes ≤ 281474976710656 :=
  Nat.le_trans (Nat.mul_le_mul_right _ (nextslicecap_bound h)) hc

theorem capOk_small {bytes need : Nat} (hb : 0 < bytes) (hc : capOk bytes need) : need ≤ 281474976710656 := by
  unfold capOk at hc
  have : need * 1 ≤ (need + need / 4 + 512) * bytes := Nat.mul_le_mul (by omega) hb
  omega

/-- What is appended: so many elements, read cell by cell, in whatever memory with the same blocks. -/
def SrcIs (P : Program) {α : Type} (K : Kd α) (w : World) (R : Nat → Prop) (x : Value) (ys : List α) : Prop :=
  ∃ us, Elems K w R ys us ∧ ∀ w', w'.heap = w.heap → (Builtin.lenOf x).run P w' = .ok ys.length w' ∧ (Builtin.firstCells K.sz ys.length x).run P w' = .ok ⟨us⟩ w'

theorem SrcIs.row {P : Program} {α : Type} {K : Kd α} {w : World} {T R : Nat → Prop} {A : Option Addr} {c : Nat} {ys : List α} (h : RowIn K w T R A c ys) : SrcIs P K w R (.slice A ys.length c) ys := by
  obtain ⟨us, hel, hcs⟩ := h.ex
  refine ⟨us, hel, fun w' hw => ⟨by simp [Builtin.lenOf], ?_⟩⟩
  have hlen := hel.length
  cases A with
  | none =>
    rcases hcs with rfl | ⟨b, off, cells, ty, fz, hA, _⟩
    · simp [Builtin.firstCells]
    · cases hA
  | some a =>
    have hcell : ∀ j u, us[j]? = some u → w'.cell? (a.add j) = some u := fun j u hu => by
      have := hcs.cell j u hu
      simpa [World.cell?, hw] using this
    exact run_firstCells_some (P := P) w' K.sz ys.length a ys.length c us hlen hcell

theorem elems_u8 (w : World) (R : Nat → Prop) : ∀ (s : List UInt8), Elems Kd.u8 w R s (s.map fun b => .int .u8 (b.toNat : Int))
  | [] => rfl
  | x :: r => ⟨[_], _, rfl, rfl, elems_u8 w R r⟩

theorem elems_u8_inv {w : World} {R : Nat → Prop} : ∀ (xs : List UInt8) (vs : List Value), Elems Kd.u8 w R xs vs → vs = xs.map fun b => Value.int .u8 (b.toNat : Int)
  | [], _, h => h
  | _ :: r, _, ⟨_, vs', e1, e2, h3⟩ => by rw [e1, e2, elems_u8_inv r vs' h3]; rfl

theorem SrcIs.str {P : Program} {w : World} {R : Nat → Prop} (s : List UInt8) : SrcIs P Kd.u8 w R (.string ⟨⟨s⟩⟩) s := by
  refine ⟨_, elems_u8 w R s, fun w' _ => ⟨?_, ?_⟩⟩
  · simp only [Builtin.lenOf, Sem.run_pure]; rfl
  · simp only [Builtin.firstCells, Sem.run_pure]
    congr 1
    apply Array.ext'
    rw [extract_bs]
    simp [bs]

theorem RowOwn.cut {α : Type} {K : Kd α} {w : World} {T R : Nat → Prop} {A : Option Addr} {c c' m : Nat} {xs : List α} (h : RowOwn K w T R A c xs) (h1 : m ≤ xs.length) (h2 : m ≤ c') (h3 : c' ≤ c) :
    RowOwn K w T R A c' (xs.take m) := by
  rcases h with ⟨rfl, rfl, rfl⟩ | ⟨b, cells, ty, vs, hA, hT, hb, hle, hcap, hel, htake⟩
  · left
    refine ⟨rfl, by omega, by simp⟩
  · right
    have hl : (xs.take m).length = m := by simp; omega
    refine ⟨b, cells, ty, vs.take (m * K.sz), hA, hT, hb, by rw [hl]; exact h2, Nat.le_trans (Nat.mul_le_mul_right _ h3) hcap, hel.take m, ?_⟩
    rw [hl, ← htake, List.take_take]
    congr 1
    exact (Nat.min_eq_left (Nat.mul_le_mul_right _ h1)).symm

/-- Is the second type of an append a slice's, or a text's? -/
def notInt (P : Program) (t : TypeId) : Bool :=
  match P.underlying t with
  | some (.slice _) => true
  | some .string => true
  | _ => false

theorem notInt_ok {P : Program} {t : TypeId} (h : notInt P t = true) : (∃ e, P.underlying t = some (.slice e)) ∨ P.underlying t = some .string := by
  unfold notInt at h
  split at h
  · rename_i e he; exact .inl ⟨e, he⟩
  · rename_i he; exact .inr he
  · cases h

/-- The element type's size in cells and bytes, and its zero. -/
def elemInfo (P : Program) (e : TypeId) : Option (Nat × Nat × List Value) :=
  match P.info? e with
  | some i => match i.zero with
    | some z => match Nat.beq z.cells.toList.length i.size with
      | true => some (i.size, i.bytes, z.cells.toList)
      | false => none
    | none => none
  | none => none
theorem elemInfo_ok {P : Program} {e : TypeId} {n m : Nat} {zs : List Value} (h : elemInfo P e = some (n, m, zs)) :
    ∃ i z, P.info? e = some i ∧ i.zero = some z ∧ i.size = n ∧ i.bytes = m ∧ z.cells.toList = zs ∧ zs.length = n := by
  unfold elemInfo at h
  split at h
  · rename_i i hi
    split at h
    · rename_i z hz
      split at h
      · rename_i hb; cases h
        exact ⟨i, z, hi, hz, rfl, rfl, rfl, Nat.eq_of_beq_eq_true hb⟩
      · cases h
    · cases h
  · cases h

/-- The append itself: within the block, or to a new one. -/
theorem run_append {P : Program} {α : Type} {K : Kd α} {w : World} {S : Fam} {tg : Nat} {t t2 ty e : TypeId} {bytes : Nat} {zs : List Value} (he : elemTy P t = some e) (hi : elemInfo P e = some (K.sz, bytes, zs)) (hb0 : 0 < bytes)
    (h2 : notInt P t2 = true) {A : Option Addr} {c : Nat} {xs ys : List α} (hrow : RowOwn K w (S tg) (S 0) A c xs) {x : Value} (hsrc : SrcIs P K w (S 0) x ys) (hcap : capOk bytes (xs ++ ys).length) :
    ∃ A' c' w', (Builtin.append_ #[t, t2] ty #[.slice A xs.length c, x]).run P w = .ok (.slice A' (xs ++ ys).length c') w' ∧
      ((w' = w ∧ A' = A ∧ c' = c ∧ ys = [] ∧ A = none) ∨
       (∃ b, S tg b ∧ A = some ⟨b, 0, none⟩ ∧ A' = A ∧ Only w w' b ∧ ∀ S' : Fam, (∀ k, S tg k → S' tg k) → (∀ k, S 0 k → S' 0 k ∧ k ≠ b) → RowOwn K w' (S' tg) (S' 0) A' c' (xs ++ ys)) ∨
       (∃ x', Alloc w w' x' ∧ (∀ k, S 0 k → k < w.heap.size → True) ∧ RowOwn K w' (addS S tg w.heap.size tg) (addS S tg w.heap.size 0) A' c' (xs ++ ys))) := by
  obtain ⟨inf, z, hinf, hz, hsz, hby, hzc, hzl⟩ := elemInfo_ok hi
  have hnt := notInt_ok h2
  obtain ⟨us, hel, hrun⟩ := hsrc
  have hlen := hel.length
  have hll : (xs ++ ys).length = xs.length + ys.length := by simp
  have hsmall := capOk_small hb0 hcap
  rw [hll] at hcap hsmall ⊢
  have hr := hrun w rfl
  have ht := elemTy_ok he
  have hone := hel.one
  by_cases hroom : xs.length + ys.length ≤ c
  · -- within
    rcases hrow with ⟨rfl, rfl, rfl⟩ | ⟨b, cells, tb, vs, hA, hT, hb, hle, hcc, hxs, htake⟩
    · have hy : ys = [] := List.eq_nil_of_length_eq_zero (by simpa using hroom)
      subst hy
      refine ⟨none, 0, w, ?_, .inl ⟨rfl, rfl, rfl, rfl, rfl⟩⟩
      have hr1 := hr.1; have hr2 := hr.2
      simp only [List.length_nil] at hr1 hr2
      rw [hsz.symm] at hr2
      rcases hnt with ⟨e2, hd2⟩ | hd2 <;> simp [Builtin.append_, run_underlying ht, run_underlying hd2, sizeOf, typeInfo, hinf, hr1, hr2]
    · subst hA
      have hfit : xs.length * K.sz + us.length ≤ cells.size := by
        rw [hlen, ← Nat.add_mul]; exact Nat.le_trans (Nat.mul_le_mul_right _ hroom) hcc
      have hst := run_storeCells_at P b (xs.length * K.sz) tb us 0 cells w hb (by simpa using hfit) hone
      simp only [Nat.add_zero] at hst
      let w' := w.setRow b (cells.toList.take (xs.length * K.sz) ++ us ++ cells.toList.drop (xs.length * K.sz + us.length)).toArray
      have honly : Only w w' b := ⟨by simp [w'], fun k _ hk => setRow_other w b k _ hk, rfl, rfl, rfl⟩
      refine ⟨some ⟨b, 0, none⟩, c, w', ?_, .inr (.inl ⟨b, hT, rfl, rfl, honly, fun S' g1 g0 => ?_⟩)⟩
      · have hr1 := hr.1; have hr2 := hr.2
        rw [hsz.symm] at hr2 hst
        have hadd : (⟨b, 0, none⟩ : Addr).add (xs.length * inf.size) = ⟨b, xs.length * inf.size, none⟩ := by rw [Addr.add_none]; simp
        rcases hnt with ⟨e2, hd2⟩ | hd2 <;> simp [Builtin.append_, run_underlying ht, run_underlying hd2, sizeOf, typeInfo, hinf, hr1, hr2, hroom, hadd, hst, w'] <;> rw [hsz]
      · have hR : ∀ k, S 0 k → k < w.heap.size → w'.heap[k]? = w.heap[k]? ∧ S' 0 k := fun k hk hl => ⟨honly.same k hl (g0 k hk).2, (g0 k hk).1⟩
        right
        refine ⟨b, _, tb, vs ++ us, rfl, g1 b hT, setRow_heap w b cells _ tb _ hb, by rw [hll]; exact hroom, ?_, (hxs.st hR).append (hel.st hR), ?_⟩
        · simp only [List.size_toArray, List.length_append, List.length_take, List.length_drop, Array.length_toList]
          omega
        · have hvl : vs.length = xs.length * K.sz := hxs.length
          rw [htake]
          have : (xs ++ ys).length * K.sz = (vs ++ us).length := by rw [hll, List.length_append, hvl, hlen, Nat.add_mul]
          rw [this]
          exact List.take_left
  · -- a new block
    have hgt : c < xs.length + ys.length := by omega
    have hfit := capOk_fits hgt hcap
    have h63' : ¬ (9223372036854775807 < ((xs.length : Int) + (ys.length : Int))) := by omega
    have h48' : ¬ (281474976710656 < Builtin.nextslicecap (xs.length + ys.length) c * inf.bytes) := by rw [hby]; omega
    have hrD := hrun w.drew rfl
    obtain ⟨vs, hvs, holdr⟩ : ∃ vs, Elems K w (S 0) xs vs ∧ (Builtin.firstCells K.sz xs.length (.slice A xs.length c)).run P w.drew = .ok ⟨vs⟩ w.drew := by
      obtain ⟨vs, hvs, hh⟩ := SrcIs.row (P := P) hrow.rowIn
      exact ⟨vs, hvs, (hh w.drew rfl).2⟩
    have hvl : vs.length = xs.length * K.sz := hvs.length
    let x' : Obj := .cells ((⟨vs⟩ : Array Value) ++ ⟨us⟩ ++ Builtin.zeroCells z.cells (grownCap w (xs.length + ys.length) c e - (xs.length + ys.length))) e
    have ha : Alloc w (w.drew.alloc x') x' := ⟨rfl, rfl, rfl, rfl⟩
    have hge := grownCap_ge w (xs.length + ys.length) c e
    refine ⟨some ⟨w.heap.size, 0, none⟩, grownCap w (xs.length + ys.length) c e, _, ?_, .inr (.inr ⟨x', ha, fun _ _ _ => trivial, .inr ⟨w.heap.size, _, e, vs ++ us, rfl, .inr ⟨rfl, rfl⟩, ha.new, by rw [hll]; exact hge, ?_, ?_, ?_⟩⟩)⟩
    · have hr1 := hr.1; have hr2 := hrD.2
      rw [hsz.symm] at hr2 holdr
      have hroom' : ¬ (xs.length + ys.length ≤ c) := hroom
      rcases hnt with ⟨e2, hd2⟩ | hd2 <;> simp [Builtin.append_, run_underlying ht, run_underlying hd2, sizeOf, typeInfo, zeroValue, hinf, hz, hr1, hr2, holdr, hroom', h63', h48', Question.forced, newRow, grownCap, x'] <;> (rw [← Array.append_assoc, ← List.append_toArray])
    · simp only [Array.size_append, size_zeroCells]
      have e1 : (⟨vs⟩ : Array Value).size = xs.length * K.sz := hvl
      have e2 : (⟨us⟩ : Array Value).size = ys.length * K.sz := hlen
      have e3 : z.cells.size = K.sz := by have := hzl; rw [← hzc] at this; simpa using this
      rw [e1, e2, e3, ← Nat.add_mul, ← Nat.add_mul]
      exact Nat.mul_le_mul_right _ (by omega)
    · have hR : ∀ k, S 0 k → k < w.heap.size → (w.drew.alloc x').heap[k]? = w.heap[k]? ∧ addS S tg w.heap.size 0 k := fun k hk hl => ⟨ha.old hl, .inl hk⟩
      exact (hvs.st hR).append (hel.st hR)
    · simp only [Array.toList_append, List.append_assoc]
      have : (xs ++ ys).length * K.sz = (vs ++ us).length := by rw [hll, List.length_append, hvl, hlen, Nat.add_mul]
      rw [this, ← List.append_assoc]
      exact List.take_left

section
variable {ρ : Type} {C : Cx ρ} {env env' : Env} {H H' : List Bx} {B B' : List Fct} {k : List Item} {o : Option ρ} {ops : Array Oper} {rest : List Nat} {i : Nat} {G : Env → List Bx → List Fct → Option ρ → Prop}

/-- append(xs, ys...): to a row of one's own, whole or cut. -/
theorem GoO.app {α : Type} {s x : Operand} {t t2 : TypeId} {d : Option Tmp} {ty e : TypeId} (hop : opAt ops i env = some (.call { callee := .builtin .append, args := ⟨[s, x]⟩, argTypes := ⟨[t, t2]⟩ }, d, ty))
    {K : Kd α} {A : Option Addr} {c n c0 m tg bytes : Nat} {xs ys : List α} {zs : List Value} {xv : Value} (hs : evalE env s = some (.slice A n c)) (hx : evalE env x = some xv)
    (he : elemTy C.P t = some e) (hi : elemInfo C.P e = some (K.sz, bytes, zs)) (hb0 : Nat.blt 0 bytes = true) (h2 : notInt C.P t2 = true)
    {j : Nat} (hf : B[j]? = some (Ow tg K A c0 xs)) (hn : n = (xs.take m).length) (hm : m ≤ xs.length) (hmc : m ≤ c) (hcc : ∀ w S, BOk B w S → c ≤ c0)
    (hsrc : ∀ w S, BOk B w S → SrcIs C.P K w (S 0) xv ys) (hcap : capOk bytes (xs.take m ++ ys).length)
    (hmine : mineB C.M C.np tg = true) (hH : noTag tg (H.map (·.t)) = true) {bk : List Nat} (hB : picks B bk = some B') (hB' : noTag tg (B'.map (·.t)) = true)
    (env' : Option Addr → Nat → Env) (hput : ∀ A' c', putE C.n env d (.slice A' (xs.take m ++ ys).length c') = some (env' A' c'))
    (g : ∀ A' c', G (env' A' c') H (Ow tg K A' c' (xs.take m ++ ys) :: B') o) : OpTo C ops i env H B o G := by
  refine GoO.op hop fun lf w S hsat r hr => ?_
  have hrow : RowOwn K w (S tg) (S 0) A c0 xs := hsat.bs _ (List.mem_of_getElem? hf)
  have hrow' := hrow.cut hm hmc (hcc w S hsat.bs)
  obtain ⟨A', c', w', hrun, hcases⟩ := run_append (ty := ty) (t2 := t2) he hi (Nat.le_of_ble_eq_true hb0) h2 hrow' (hsrc w S hsat.bs) hcap
  have hval : ∀ q : Oper, q.op = .call { callee := .builtin .append, args := ⟨[s, x]⟩, argTypes := ⟨[t, t2]⟩ } → q.type = ty →
      (execOp (Act.eval ⟨⟨lf⟩, []⟩) q).run C.P w = .ok (.value (.slice A' (xs.take m ++ ys).length c')) w' := by
    intro q hq hty
    subst hn
    simp [execOp, hq, hty, resolve, invoke, builtin, evalE_ok hsat.env hs, evalE_ok hsat.env hx]
    simp at hrun
    simp [hrun]
  obtain ⟨hmi, h0⟩ := mineB_ok hsat.wf hmine
  rcases hcases with ⟨e1, e2, e3, e4, e5⟩ | ⟨b, hT, hA, hA', honly, hown⟩ | ⟨x', ha, _, hown⟩
  · subst e1; subst e4
    refine ⟨_, w', .inl hval, env' A' c', H, _, S, hput A' c', fun l' h2 h1 => ⟨hsat.wf, hsat.ext, h2, h1, hsat.hs, fun y hy => ?_⟩, g A' c'⟩
    cases hy with
    | head =>
      rw [e2, e3, e5]; rw [e5] at hrow'
      show RowOwn K w' (S tg) (S 0) none c (xs.take m ++ [])
      rw [List.append_nil]; exact hrow'
    | tail _ hy => exact hsat.bs y (picks_mem hB y hy)
  · refine ⟨_, w', .inl hval, env' A' c', H, _, S, hput A' c', fun l' h2 h1 => ⟨hsat.wf, honly.ext hsat.ext hT (hmi.lt hsat.ext hT), h2, h1, ?_, fun y hy => ?_⟩, g A' c'⟩
    · intro y hy
      exact honly.bx hsat.ext.good hT (noTag_ok hH y.t (List.mem_map.2 ⟨y, hy, rfl⟩)) (hsat.hs y hy)
    · cases hy with
      | head => exact hown S (fun _ h => h) fun k hk => ⟨hk, fun e => by subst e; exact h0 (hsat.ext.good.dj _ _ _ hT hk)⟩
      | tail _ hy => exact honly.fct hsat.ext.good hT (noTag_ok hB' y.t (List.mem_map.2 ⟨y, hy, rfl⟩)) h0 (hsat.bs y (picks_mem hB y hy))
  · refine ⟨_, w', .inl hval, env' A' c', H, _, addS S tg w.heap.size, hput A' c', fun l' h2 h1 => ?_, g A' c'⟩
    have := hsat.alloc ha tg h1 h2
    refine ⟨this.wf, this.ext, h2, h1, this.hs, fun y hy => ?_⟩
    cases hy with
    | head => exact hown
    | tail _ hy => exact this.bs y (picks_mem hB y hy)

/-! ### Make and literals -/
theorem elems_rep {α : Type} {K : Kd α} {w : World} {R : Nat → Prop} {x : α} {zs : List Value} (h : K.rel w R x zs) : ∀ (n : Nat) (vs : List Value), vs.length = n * K.sz →
    (∀ j, j < vs.length → vs[j]? = zs[j % K.sz]?) → Elems K w R (List.replicate n x) vs
  | 0, vs, hl, _ => by
    have : vs = [] := List.eq_nil_of_length_eq_zero (by simpa using hl)
    subst this; rfl
  | n + 1, vs, hl, hv => by
    rw [Nat.add_mul, Nat.one_mul] at hl
    have hzl := K.len h
    refine ⟨vs.take K.sz, vs.drop K.sz, (List.take_append_drop _ _).symm, ?_, elems_rep h n _ (by simp; omega) fun j hj => ?_⟩
    · have : vs.take K.sz = zs := by
        apply List.ext_getElem?
        intro j
        rw [List.getElem?_take]
        split
        · rename_i hj; rw [hv j (by omega), Nat.mod_eq_of_lt hj]
        · rw [List.getElem?_eq_none (by omega)]
      rw [this]; exact h
    · simp at hj
      rw [List.getElem?_drop, hv _ (by omega), Nat.add_mod_left]

/-- make([]T, n, c) -/
theorem GoO.mk {α : Type} {t : TypeId} {x y : Operand} {d : Option Tmp} {ty e : TypeId} (hop : opAt ops i env = some (.makeSlice t x y, d, ty))
    {K : Kd α} {bytes : Nat} {zs : List Value} {k1 k2 : IntKind} {n c : Int} (hx : evalE env x = some (.int k1 n)) (hy : evalE env y = some (.int k2 c))
    (he : elemTy C.P t = some e) (hi : elemInfo C.P e = some (K.sz, bytes, zs)) (x0 : α) (hrel : ∀ w R, K.rel w R x0 zs) (h0 : 0 ≤ n) (h1 : n ≤ c) (hb0 : Nat.blt 0 bytes = true) (hc : (bytes : Int) * c ≤ 281474976710656) (tg : Nat)
    (env' : Option Addr → Nat → Env) (hput : ∀ A' c', putE C.n env d (.slice A' (List.replicate n.toNat x0).length c') = some (env' A' c'))
    (g : ∀ A' c', G (env' A' c') H (Ow tg K A' c' (List.replicate n.toNat x0) :: B) o) : OpTo C ops i env H B o G := by
  refine GoO.op hop fun lf w S hsat r hr => ?_
  obtain ⟨inf, z, hinf, hz, hsz, hby, hzc, hzl⟩ := elemInfo_ok hi
  have hb1 : (1 : Int) ≤ (bytes : Int) := by have := Nat.le_of_ble_eq_true hb0; omega
  have h63 : c ≤ 9223372036854775807 := by
    have : 1 * c ≤ (bytes : Int) * c := Int.mul_le_mul_of_nonneg_right hb1 (by omega)
    omega
  have hrun := run_make (P := C.P) w t e inf z (elemTy_ok he) hinf hz k1 k2 n c h0 h1 (by rw [hby]; exact hc) h63
  have ha : Alloc w (w.alloc (.cells (madeCells z.cells (c.toNat * inf.size)) e)) (.cells (madeCells z.cells (c.toNat * inf.size)) e) := ⟨rfl, rfl, rfl, rfl⟩
  refine ⟨_, w.alloc (.cells (madeCells z.cells (c.toNat * inf.size)) e), .inl fun q hq _ => ?_, env' (some ⟨w.heap.size, 0, none⟩) c.toNat, H, _, addS S tg w.heap.size, hput _ _, fun l' h2 h1' => ?_, g _ _⟩
  · rw [List.length_replicate]
    simp [execOp, hq, evalE_ok hsat.env hx, evalE_ok hsat.env hy, hrun]
  · have := hsat.alloc ha tg h1' h2
    refine ⟨this.wf, this.ext, h2, h1', this.hs, fun yy hyy => ?_⟩
    cases hyy with
    | tail _ hyy => exact this.bs yy hyy
    | head =>
      have hmc : (madeCells z.cells (c.toNat * inf.size)).toList.length = c.toNat * K.sz := by rw [Array.length_toList, size_madeCells, hsz]
      right
      refine ⟨w.heap.size, _, e, _, rfl, .inr ⟨rfl, rfl⟩, ha.new, by rw [List.length_replicate]; omega, by rw [size_madeCells, hsz]; exact Nat.le_refl _, ?_, rfl⟩
      refine elems_rep (hrel _ _) n.toNat _ ?_ fun j hj => ?_
      · rw [List.length_take, hmc, List.length_replicate]
        exact Nat.min_eq_left (Nat.mul_le_mul_right _ (by omega))
      · rw [List.length_take] at hj
        have hj1 : j < (List.replicate n.toNat x0).length * K.sz := by omega
        have hj2 : j < c.toNat * K.sz := by rw [hmc] at hj; omega
        have hpos : 0 < K.sz := by
          rcases Nat.eq_zero_or_pos K.sz with h | h
          · rw [h] at hj2; omega
          · exact h
        rw [List.getElem?_take, if_pos hj1]
        have hzs : z.cells.size = K.sz := by have := hzl; rw [← hzc] at this; simpa using this
        simp only [madeCells, Array.getElem?_toList, Array.getElem?_map, hsz]
        rw [Array.getElem?_range, if_pos hj2]
        have hmod : j % z.cells.size < z.cells.size := Nat.mod_lt _ (by omega)
        simp only [Option.map_some]
        rw [← hzc, Array.getElem?_toList, ← hzs, getElem?_pos z.cells _ hmod, getElem!_pos z.cells _ hmod]

/-- The cells of a slice's literal. -/
def litCells (P : Program) (env : Env) (t : TypeId) (len : Nat) (parts : List (Nat × Operand)) : Option (List Value) :=
  match elemTy P t with
  | none => none
  | some e => match P.info? e with
    | none => none
    | some inf => match inf.zero with
      | none => none
      | some z => match parts.mapM (fun p => match evalE env p.2 with | some v => some (p.1, v) | none => none) with
        | none => none
        | some ps => match Nat.ble (len * inf.size) (2 ^ 24) with
          | false => none
          | true => match Instr.fill (fun i => some (i * inf.size, inf.size)) ((Array.range (len * inf.size)).map (z.cells[· % z.cells.size]!)) ps with
            | some cs => some cs.toList
            | none => none

theorem GoO.lit {α : Type} {t : TypeId} {len : Nat} {parts : List (Nat × Operand)} {d : Option Tmp} {ty e : TypeId} (hop : opAt ops i env = some (.buildSlice t len ⟨parts⟩, d, ty))
    {K : Kd α} (he : elemTy C.P t = some e) (hsz : tySize C.P e = some K.sz) {cs : List Value} (hc : litCells C.P env t len parts = some cs) (xs : List α) (hlen : Nat.beq xs.length len = true) (hl2 : Nat.beq cs.length (len * K.sz) = true)
    (hel : ∀ w S, BOk B w S → Elems K w (S 0) xs cs) (tg : Nat)
    (env' : Option Addr → Nat → Env) (hput : ∀ A' c', putE C.n env d (.slice A' xs.length c') = some (env' A' c'))
    (g : ∀ A' c', G (env' A' c') H (Ow tg K A' c' xs :: B) o) : OpTo C ops i env H B o G := by
  refine GoO.op hop fun lf w S hsat r hr => ?_
  have hlen := Nat.eq_of_beq_eq_true hlen
  have hl2 := Nat.eq_of_beq_eq_true hl2
  obtain ⟨inf', hi', hs'⟩ := tySize_ok hsz
  unfold litCells at hc
  rw [he] at hc
  simp only [hi'] at hc
  split at hc
  · cases hc
  · rename_i z hz
    split at hc
    · cases hc
    · rename_i ps hps
      split at hc
      · cases hc
      · rename_i hle
        split at hc
        · rename_i arr hfill
          cases hc
          have hle := Nat.le_of_ble_eq_true hle
          have hmap : (parts.map fun p => (p.1, Act.eval ⟨⟨lf⟩, []⟩ p.2)) = ps := by
            clear hop hfill
            induction parts generalizing ps with
            | nil => simp at hps; subst hps; rfl
            | cons q r ih =>
              rw [List.mapM_cons] at hps
              cases hq : evalE env q.2 with
              | none => simp [hq] at hps
              | some u =>
                simp only [hq] at hps
                cases hr : List.mapM (fun p => match evalE env p.2 with | some v => some (p.1, v) | none => none) r with
                | none => simp [hr] at hps
                | some r' =>
                  simp [hr] at hps
                  subst hps
                  simp [evalE_ok hsat.env hq, ih r' hr]
          have ha : Alloc w (w.alloc (.cells arr e)) (.cells arr e) := ⟨rfl, rfl, rfl, rfl⟩
          refine ⟨_, w.alloc (.cells arr e), .inl fun q hq _ => ?_, env' (some ⟨w.heap.size, 0, none⟩) len, H, _, addS S tg w.heap.size, hput _ _, fun l' h2 h1' => ?_, g _ _⟩
          · simp only [execOp, hq, List.map_toArray]
            rw [show (parts.map fun x => match x with | (i, x) => (i, Act.eval ⟨⟨lf⟩, []⟩ x)) = ps from hmap]
            have hnle : ¬ (len * inf'.size > 2 ^ 24) := by omega
            by_cases h0 : len * inf'.size = 0
            · have hr0 : ((Array.range 0).map fun x => z.cells[x % z.cells.size]!) = #[] := by simp
              rw [h0, hr0] at hfill
              simp [Instr.buildSlice, run_underlying (elemTy_ok he), sizeOf, typeInfo, hi', h0, hfill, newRow, hlen, Array.range_zero']
            · have hh : ¬ (16777216 < len * inf'.size) := by simpa using hnle
              simp [Instr.buildSlice, run_underlying (elemTy_ok he), sizeOf, typeInfo, zeroValue, hi', hz, h0, hh, hfill, newRow, hlen]
          · have := hsat.alloc ha tg h1' h2
            refine ⟨this.wf, this.ext, h2, h1', this.hs, fun yy hyy => ?_⟩
            cases hyy with
            | tail _ hyy => exact this.bs yy hyy
            | head =>
              right
              refine ⟨w.heap.size, arr, e, arr.toList, rfl, .inr ⟨rfl, rfl⟩, ha.new, by omega, ?_, (hel w S hsat.bs).st fun b hb hl => ⟨ha.old hl, .inl hb⟩, ?_⟩
              · rw [← hl2]; simp
              · rw [hlen, ← hl2]; exact List.take_length
        · cases hc

/-! ### Texts -/
/-- string(b) -/
theorem GoO.toStr {src dst : TypeId} {x : Operand} {d : Option Tmp} {ty e : TypeId} (hop : opAt ops i env = some (.convert src dst x, d, ty))
    {A : Option Addr} {c n : Nat} {xs : List UInt8} (hx : evalE env x = some (.slice A n c)) (he : elemTy C.P src = some e) (hu : C.P.underlying e = some (.int .u8)) (hd : C.P.underlying dst = some .string)
    {j : Nat} {f : Fct} (hf : B[j]? = some f) (hrd : Reads f Kd.u8 A c xs) (hn : n = xs.length)
    (hput : putE C.n env d (.string (bs xs)) = some env') (g : G env' H B o) : OpTo C ops i env H B o G := by
  refine GoO.op hop fun lf w S hsat r hr => ⟨_, w, .inl fun q hq _ => ?_, env', H, B, S, hput, fun l' h2 h1 => ⟨hsat.wf, hsat.ext, h2, h1, hsat.hs, hsat.bs⟩, g⟩
  have hrow := hrd w S (hsat.bs f (List.mem_of_getElem? hf))
  subst hn
  have hconv : (convert src dst (.slice A xs.length c)).run C.P w = .ok (.string (bs xs)) w := by
    obtain ⟨vs, hel, hcs⟩ := hrow.ex
    have hvs : vs = xs.map fun b => Value.int .u8 (b.toNat : Int) := by
      exact elems_u8_inv xs vs hel
    cases A with
    | none =>
      rcases hcs with rfl | ⟨b, off, cells, ty', fz, hA, _⟩
      · have : xs = [] := by simpa using hvs.symm
        subst this
        rw [run_convert_bytes_nil w src e (elemTy_ok he) hu _ _ dst hd]
        rfl
      · cases hA
    | some a =>
      rw [run_convert_bytes_string w src dst e _ _ c (elemTy_ok he) hu hd]
      have hl : (loadCells a xs.length).run C.P w = .ok ((xs.map fun b => (b.toNat : Int)).map (Value.int .u8)).toArray w := by
        have := run_loadCells_list (P := C.P) w a vs (hcs.cell)
        rw [hel.length] at this
        rw [show xs.length * Kd.u8.sz = xs.length from Nat.mul_one _] at this
        rw [this, hvs]
        simp
      have hb := run_bytesToString (P := C.P) w a xs.length c (xs.map fun b => (b.toNat : Int)) hl
      rw [hb, foldl_push_bytes]
      congr 2
      apply ByteArray.ext
      apply Array.ext'
      have hb : ∀ b : UInt8, UInt8.ofNat ((b.toNat : Int)).toNat = b := fun b => by simp
      simp [bs, ByteArray.empty, ByteArray.emptyWithCapacity, Function.comp_def, hb]
      rfl
  simp [execOp, hq, evalE_ok hsat.env hx, hconv]

/-- []byte(s) -/
theorem GoO.toBytes {src dst : TypeId} {x : Operand} {d : Option Tmp} {ty e : TypeId} {u : TypeDesc} (hop : opAt ops i env = some (.convert src dst x, d, ty))
    {s : List UInt8} (hx : evalE env x = some (.string ⟨⟨s⟩⟩)) (hs : C.P.underlying src = some u) (he : elemTy C.P dst = some e) (hu : C.P.underlying e = some (.int .u8)) (tg : Nat)
    (env' : Option Addr → Nat → Env) (hput : ∀ A' c', putE C.n env d (.slice A' s.length c') = some (env' A' c'))
    (g : ∀ A' c', G (env' A' c') H (Rd tg Kd.u8 A' c' s :: B) o) : OpTo C ops i env H B o G := by
  refine GoO.op hop fun lf w S hsat r hr => ?_
  have hrun := Lib.run_convert_string_bytes (P := C.P) w src dst e ⟨⟨s⟩⟩ hs (elemTy_ok he) hu
  let x' : Obj := .cells (Lib.bytesCells w e ⟨⟨s⟩⟩) e ((Lib.bytesCells w e ⟨⟨s⟩⟩).size, (Lib.bytesCells w e ⟨⟨s⟩⟩).size + 1)
  have ha : Alloc w (Lib.bytesWorld w e ⟨⟨s⟩⟩) x' := by
    refine ⟨?_, by simp [Lib.bytesWorld, World.freeze, World.alloc, World.drew, -World.alloc_eq, -World.drew_eq], by simp [Lib.bytesWorld, World.freeze, World.alloc, World.drew, -World.alloc_eq, -World.drew_eq], by simp [Lib.bytesWorld, World.freeze, World.alloc, World.drew, -World.alloc_eq, -World.drew_eq]⟩
    apply Array.ext_getElem?
    intro j
    by_cases h1 : j < w.heap.size
    · rw [Lib.bytesWorld_at_old w e _ j h1, Array.getElem?_push, if_neg (by omega)]
    · by_cases h2 : j = w.heap.size
      · subst h2; rw [Lib.bytesWorld_at_new, Array.getElem?_push, if_pos rfl]
      · rw [Array.getElem?_eq_none (by rw [Lib.bytesWorld_size]; omega), Array.getElem?_eq_none (by simp; omega)]
  refine ⟨_, Lib.bytesWorld w e ⟨⟨s⟩⟩, .inl fun q hq _ => ?_, env' (some ⟨w.heap.size, 0, none⟩) _, H, _, addS S tg w.heap.size, hput _ (grownCap w s.length 0 e), fun l' h2 h1' => ?_, g _ _⟩
  · have hsz : (ByteArray.mk (Array.mk s)).size = s.length := rfl
    simp [execOp, hq, evalE_ok hsat.env hx, hrun, hsz]
  · have := hsat.alloc ha tg h1' h2
    refine ⟨this.wf, this.ext, h2, h1', this.hs, fun yy hyy => ?_⟩
    cases hyy with
    | tail _ hyy => exact this.bs yy hyy
    | head =>
      refine ⟨grownCap_ge w s.length 0 e, _, elems_u8 _ _ s, .inr ⟨w.heap.size, 0, _, e, _, rfl, .inr ⟨rfl, rfl⟩, ha.new, fun j u hj => ?_⟩⟩
      simp only [Lib.bytesCells, Nat.zero_add]
      rw [Array.getElem?_append, if_pos]
      · simpa using hj
      · have : j < (s.map fun b => Value.int .u8 (b.toNat : Int)).length := (List.getElem?_eq_some_iff.1 hj).1
        simpa using this
end
end Go.GL
