import Derived.Test.YtmpockelhphkdaaG18
/-! Walks by symbolic states: rows of one's own within a row of one's own. -/
set_option linter.unusedSimpArgs false
set_option linter.unusedVariables false
namespace Go.GL
open Go

/-- Elements with one slice each, of elements without memory. -/
structure Dk (α β : Type) where
  inn : Kd β
  get : α → List β
  sz : Nat
  cells : α → Option Addr → Nat → List Value
  len : ∀ x A c, (cells x A c).length = sz
  one : ∀ x A c, allOne (cells x A c) = true
  flat : ∀ {w w' : World} {R R' : Nat → Prop} {x : β} {cs : List Value}, inn.rel w R x cs → inn.rel w' R' x cs

abbrev Pc (α : Type) := α × Option Addr × Nat
/-- The kind that tells the slices' addresses. -/
abbrev Dk.sh {α β : Type} (D : Dk α β) : Kd (Pc α) := .flat D.sz (fun p => D.cells p.1 p.2.1 p.2.2) (fun p => D.len _ _ _) (fun p => D.one _ _ _)
/-- The kind that tells nothing of them. -/
def Dk.any {α β : Type} (D : Dk α β) : Kd α where
  sz := D.sz
  rel := fun _ _ x cs => ∃ A c, cs = D.cells x A c
  len := fun ⟨A, c, h⟩ => by subst h; exact D.len _ _ _
  one := fun ⟨A, c, h⟩ => by subst h; exact allOne_ok (D.one _ _ _)
  st := fun _ h => h

/-- The block at which an address lies. -/
def blkIs (A : Option Addr) (b : Nat) : Prop := ∃ a, A = some a ∧ a.block = b

structure Pool {α β : Type} (D : Dk α β) (w : World) (T R : Nat → Prop) (A : Option Addr) (ls : List (Pc α)) (k : Nat) : Prop where
  own : ∀ i p, k ≤ i → ls[i]? = some p → RowOwn D.inn w T R p.2.1 p.2.2 (D.get p.1)
  dj : ∀ i j p q, k ≤ i → k ≤ j → ls[i]? = some p → ls[j]? = some q → i ≠ j → ∀ b, blkIs p.2.1 b → ¬ blkIs q.2.1 b
  out : ∀ i p, k ≤ i → ls[i]? = some p → ∀ b, blkIs A b → ¬ blkIs p.2.1 b

section
variable {α β : Type} {D : Dk α β} {w w' : World} {T T' R R' : Nat → Prop} {A : Option Addr} {c k : Nat} {xs : List α} {ls : List (Pc α)}

theorem Pool.st (hT : ∀ b, T b → b < w.heap.size → w'.heap[b]? = w.heap[b]? ∧ T' b) (hR : ∀ b, R b → b < w.heap.size → w'.heap[b]? = w.heap[b]? ∧ R' b) (h : Pool D w T R A ls k) : Pool D w' T' R' A ls k :=
  ⟨fun i p hi hp => (h.own i p hi hp).st hT hR, h.dj, h.out⟩

theorem flat_elems (D : Dk α β) {R R' : Nat → Prop} : ∀ {xs : List β} {vs : List Value}, Elems D.inn w R xs vs → Elems D.inn w' R' xs vs
  | [], vs, h => h
  | x :: xs, vs, ⟨cs, vs', e, h, h'⟩ => ⟨cs, vs', e, D.flat h, flat_elems D h'⟩

theorem RowOwn.lim {γ : Type} {K : Kd γ} {zs : List γ} {P : Nat → Prop} (h : RowOwn K w T R A c zs) (hp : ∀ b, blkIs A b → P b) : RowOwn K w (fun b => T b ∧ P b) R A c zs := by
  rcases h with h | ⟨b, cells, ty, vs, h1, h2, h3, h4, h5, h6, h7⟩
  · exact .inl h
  · exact .inr ⟨b, cells, ty, vs, h1, ⟨h2, hp b ⟨_, h1, rfl⟩⟩, h3, h4, h5, h6, h7⟩

theorem RowOwn.inT {γ : Type} {K : Kd γ} {zs : List γ} (h : RowOwn K w T R A c zs) : ∀ b, blkIs A b → T b := by
  rintro b ⟨a, ha, rfl⟩
  rcases h with ⟨h, _⟩ | ⟨b', cells, ty, vs, h1, h2, h3, h4, h5, h6, h7⟩
  · rw [h] at ha; cases ha
  · rw [h1] at ha; cases ha; exact h2

/-- A row of inner elements, seen from elsewhere: nothing but its own block matters. -/
theorem RowOwn.to (D : Dk α β) {zs : List β} (h : RowOwn D.inn w T R A c zs) (hT : ∀ b, blkIs A b → T b → b < w.heap.size → w'.heap[b]? = w.heap[b]? ∧ T' b) : RowOwn D.inn w' T' R' A c zs := by
  rcases h with h | ⟨b, cells, ty, vs, h1, h2, h3, h4, h5, h6, h7⟩
  · exact .inl h
  · have hb : b < w.heap.size := (Array.getElem?_eq_some_iff.1 h3).1
    obtain ⟨e, t⟩ := hT b ⟨_, h1, rfl⟩ h2 hb
    exact .inr ⟨b, cells, ty, vs, h1, t, e ▸ h3, h4, h5, flat_elems D h6, h7⟩

theorem Pool.to (D : Dk α β) (h : Pool D w T R A ls k) (hT : ∀ b, (∀ b', blkIs A b' → b ≠ b') → T b → b < w.heap.size → w'.heap[b]? = w.heap[b]? ∧ T' b) : Pool D w' T' R' A ls k :=
  ⟨fun i p hi hp => (h.own i p hi hp).to D fun b hb hTb hl => hT b (fun b' hb' e => h.out i p hi hp b' hb' (e ▸ hb)) hTb hl, h.dj, h.out⟩
end

/-- The elements (and those that are still to be taken out of them, from k on) are one's own. -/
def Q.dw {α β : Type} (D : Dk α β) (A : Option Addr) (c k : Nat) (xs : List α) : Q where
  p := fun w T R => ∃ ls : List (Pc α), ls.map (·.1) = xs ∧ RowOwn D.sh w T R A c ls ∧ Pool D w T R A ls k
  st := fun hT hR ⟨ls, h1, h2, h3⟩ => ⟨ls, h1, h2.st hT hR, h3.st hT hR⟩
abbrev Dw (t : Nat) {α β : Type} (D : Dk α β) (A : Option Addr) (c k : Nat) (xs : List α) : Fct := ⟨t, Q.dw D A c k xs⟩
/-- .. and one more is at hand, apart from them. -/
def Q.dx {α β : Type} (D : Dk α β) (A : Option Addr) (c : Nat) (xs : List α) (A2 : Option Addr) : Q where
  p := fun w T R => ∃ ls : List (Pc α), ls.map (·.1) = xs ∧ RowOwn D.sh w T R A c ls ∧ Pool D w T R A ls 0 ∧ (∀ (i : Nat) (p : Pc α), ls[i]? = some p → ∀ b, blkIs A2 b → ¬ blkIs p.2.1 b) ∧ (∀ b, blkIs A b → ¬ blkIs A2 b)
  st := fun hT hR ⟨ls, h1, h2, h3, h4⟩ => ⟨ls, h1, h2.st hT hR, h3.st hT hR, h4⟩
def Q.dp {α β : Type} (D : Dk α β) (A : Option Addr) (c : Nat) (xs : List α) (p : Pc α) : Q where
  p := fun w T R => ∃ ls : List (Pc α), ls.map (·.1) = xs ∧ RowOwn D.sh w T R A c ls ∧ Pool D w T R A (ls ++ [p]) 0
  st := fun hT hR ⟨ls, h1, h2, h3⟩ => ⟨ls, h1, h2.st hT hR, h3.st hT hR⟩

theorem Reads.dw {α β : Type} {D : Dk α β} {t : Nat} {A : Option Addr} {c k : Nat} {xs : List α} : Reads (Dw t D A c k xs) D.any A c xs := by
  rintro w S ⟨ls, rfl, h, _⟩
  have hr := h.rowIn
  refine ⟨by simpa using hr.le, ?_⟩
  obtain ⟨vs, hel, hcs⟩ := hr.ex
  refine ⟨vs, ?_, hcs⟩
  clear hcs hr h
  rename_i hpool
  clear hpool
  induction ls generalizing vs with
  | nil => exact hel
  | cons p r ih =>
    obtain ⟨cs, vs', e, h1, h2⟩ := hel
    exact ⟨cs, vs', e, ⟨_, _, h1⟩, ih vs' h2⟩

section
variable {ρ : Type} {C : Cx ρ} {env env' : Env} {H H' : List Bx} {B B' : List Fct} {k : List Item} {o : Option ρ} {ops : Array Oper} {rest : List Nat} {i : Nat} {G : Env → List Bx → List Fct → Option ρ → Prop}

theorem GoO.nilDw {todo : List Item} {α β : Type} (D : Dk α β) (t : Nat) (g : GoO C env H (Dw t D none 0 0 [] :: B) todo o) : GoO C env H B todo o :=
  GoO.have (Dw t D none 0 0 []) (fun w S _ _ => show ∃ ls : List (Pc α), ls.map (·.1) = [] ∧ RowOwn D.sh w (S t) (S 0) none 0 ls ∧ Pool D w (S t) (S 0) none ls 0 from ⟨[], rfl, .inl ⟨rfl, rfl, rfl⟩, ⟨fun i p _ h => by simp at h, fun i j p q _ _ h => by simp at h, fun i p _ h => by simp at h⟩⟩) g

/-- Two tags' blocks are apart. -/
theorem GoO.haveG {todo : List Item} (f : Fct) (h : ∀ w S, Good w S → BOk B w S → f.ok w S) (g : GoO C env H (f :: B) todo o) : GoO C env H B todo o :=
  fun r hr l w S hs => g r hr l w S ⟨hs.wf, hs.ext, hs.len, hs.env, hs.hs, fun x hx => by
    cases hx with
    | head => exact h w S hs.ext.good hs.bs
    | tail _ hf => exact hs.bs x hf⟩

theorem dx_of {α β : Type} {D : Dk α β} {w : World} {S : Fam} (hg : Good w S) {t u : Nat} (htu : Nat.beq t u = false) {A A2 : Option Addr} {c c2 : Nat} {xs : List α} {zs : List β}
    (h : (Dw t D A c 0 xs).ok w S) (h2 : (Ow u D.inn A2 c2 zs).ok w S) : (⟨t, Q.dx D A c xs A2⟩ : Fct).ok w S := by
  obtain ⟨ls, e, ho, hp⟩ := h
  have hne : t ≠ u := fun e => by subst e; simp at htu
  have h2 : RowOwn D.inn w (S u) (S 0) A2 c2 zs := h2
  show ∃ ls : List (Pc α), ls.map (·.1) = xs ∧ RowOwn D.sh w (S t) (S 0) A c ls ∧ Pool D w (S t) (S 0) A ls 0 ∧ (∀ (i : Nat) (p : Pc α), ls[i]? = some p → ∀ b, blkIs A2 b → ¬ blkIs p.2.1 b) ∧ (∀ b, blkIs A b → ¬ blkIs A2 b)
  refine ⟨ls, e, ho, hp, fun i p hi b hb hb' => ?_, fun b hb hb' => ?_⟩
  · exact hne (hg.dj t u b ((hp.own i p (Nat.zero_le _) hi).inT b hb') (h2.inT b hb))
  · exact hne (hg.dj t u b (ho.inT b hb) (h2.inT b hb'))

theorem dp_of {α β : Type} {D : Dk α β} {w : World} {S : Fam} {t : Nat} {A A2 : Option Addr} {c c2 : Nat} {xs : List α} {x : α}
    (h : (⟨t, Q.dx D A c xs A2⟩ : Fct).ok w S) (h2 : (Ow t D.inn A2 c2 (D.get x)).ok w S) : (⟨t, Q.dp D A c xs (x, A2, c2)⟩ : Fct).ok w S := by
  have h : ∃ ls : List (Pc α), ls.map (·.1) = xs ∧ RowOwn D.sh w (S t) (S 0) A c ls ∧ Pool D w (S t) (S 0) A ls 0 ∧ (∀ (i : Nat) (p : Pc α), ls[i]? = some p → ∀ b, blkIs A2 b → ¬ blkIs p.2.1 b) ∧ (∀ b, blkIs A b → ¬ blkIs A2 b) := h
  obtain ⟨ls, e, ho, hp, hx, hy⟩ := h
  show ∃ ls : List (Pc α), ls.map (·.1) = xs ∧ RowOwn D.sh w (S t) (S 0) A c ls ∧ Pool D w (S t) (S 0) A (ls ++ [(x, A2, c2)]) 0
  have h2 : RowOwn D.inn w (S t) (S 0) A2 c2 (D.get x) := h2
  have hget : ∀ i p, (ls ++ [(x, A2, c2)])[i]? = some p → ls[i]? = some p ∨ (i = ls.length ∧ p = (x, A2, c2)) := by
    intro i p h
    rw [List.getElem?_append] at h
    split at h
    · exact .inl h
    · right
      by_cases hi : i - ls.length = 0
      · rw [hi] at h; simp at h; exact ⟨by omega, h.symm⟩
      · rw [List.getElem?_eq_none (by simp; omega)] at h; cases h
  refine ⟨ls, e, ho, ⟨fun i p _ hi => ?_, fun i j p q _ _ hi hj hij b hb hb' => ?_, fun i p _ hi b hb hb' => ?_⟩⟩
  · rcases hget i p hi with h | ⟨_, rfl⟩
    · exact hp.own i p (Nat.zero_le _) h
    · exact h2
  · rcases hget i p hi with h | ⟨e1, rfl⟩ <;> rcases hget j q hj with h' | ⟨e2, rfl⟩
    · exact hp.dj i j p q (Nat.zero_le _) (Nat.zero_le _) h h' hij b hb hb'
    · exact hx i p h b hb' hb
    · exact hx j q h' b hb hb'
    · omega
  · rcases hget i p hi with h | ⟨_, rfl⟩
    · exact hp.out i p (Nat.zero_le _) h b hb hb'
    · exact hy b hb hb'

/-- append(xs, x): x was laid in a row of one element; what its slice leads to is one's own. -/
theorem GoO.appP {α β : Type} {D : Dk α β} {s x : Operand} {t t2 : TypeId} {d : Option Tmp} {ty e : TypeId} (hop : opAt ops i env = some (.call { callee := .builtin .append, args := ⟨[s, x]⟩, argTypes := ⟨[t, t2]⟩ }, d, ty))
    {A A3 : Option Addr} {c c3 tg tg3 bytes : Nat} {xs : List α} {p : Pc α} {zs : List Value} (hs : evalE env s = some (.slice A xs.length c)) (hx : evalE env x = some (.slice A3 1 c3))
    (he : elemTy C.P t = some e) (hi : elemInfo C.P e = some (D.sz, bytes, zs)) (hb0 : Nat.blt 0 bytes = true) (h2 : notInt C.P t2 = true)
    {j j3 : Nat} (hf : B[j]? = some ⟨tg, Q.dp D A c xs p⟩) (hf3 : B[j3]? = some (Ow tg3 D.sh A3 c3 [p])) (hcap : capOk bytes (xs ++ [p.1]).length)
    (hmine : mineB C.M C.np tg = true) (hH : noTag tg (H.map (·.t)) = true) {bk : List Nat} (hB : picks B bk = some B') (hB' : noTag tg (B'.map (·.t)) = true)
    (env' : Option Addr → Nat → Env) (hput : ∀ A' c', putE C.n env d (.slice A' (xs ++ [p.1]).length c') = some (env' A' c'))
    (g : ∀ A' c', G (env' A' c') H (Dw tg D A' c' 0 (xs ++ [p.1]) :: B') o) : OpTo C ops i env H B o G := by
  refine GoO.op hop fun lf w S hsat r hr => ?_
  obtain ⟨ls, els, hrow, hpool⟩ : ∃ ls : List (Pc α), ls.map (·.1) = xs ∧ RowOwn D.sh w (S tg) (S 0) A c ls ∧ Pool D w (S tg) (S 0) A (ls ++ [p]) 0 := hsat.bs _ (List.mem_of_getElem? hf)
  have hrow3 : RowOwn D.sh w (S tg3) (S 0) A3 c3 [p] := hsat.bs _ (List.mem_of_getElem? hf3)
  have hll : ls.length = xs.length := by rw [← els]; simp
  -- the outer block alone
  let S1 : Fam := fun u b => match u with | 0 => S 0 b | _ => S tg b ∧ blkIs A b
  have hrow1 : RowOwn D.sh w (S1 1) (S1 0) A c ls := hrow.lim fun b hb => hb
  have hsrc : SrcIs C.P D.sh w (S1 0) (.slice A3 1 c3) [p] := SrcIs.row hrow3.rowIn
  obtain ⟨A', c', w', hrun, hcases⟩ := run_append (tg := 1) (S := S1) (K := D.sh) (ty := ty) (t2 := t2) he hi (Nat.le_of_ble_eq_true hb0) h2 hrow1 hsrc (by simpa [hll] using hcap)
  have hlen : (ls ++ [p]).length = (xs ++ [p.1]).length := by simp [hll]
  have hval : ∀ q : Oper, q.op = .call { callee := .builtin .append, args := ⟨[s, x]⟩, argTypes := ⟨[t, t2]⟩ } → q.type = ty →
      (execOp (Act.eval ⟨⟨lf⟩, []⟩) q).run C.P w = .ok (.value (.slice A' (xs ++ [p.1]).length c')) w' := by
    intro q hq hty
    rw [hll, hlen] at hrun
    simp [execOp, hq, hty, resolve, invoke, builtin, evalE_ok hsat.env hs, evalE_ok hsat.env hx]
    simp at hrun
    simp [hrun]
  obtain ⟨hmi, h0⟩ := mineB_ok hsat.wf hmine
  rcases hcases with ⟨e1, e2, e3, e4, e5⟩ | ⟨b, hT, hA, hA', honly, hown⟩ | ⟨x', ha, _, hown⟩
  · cases e4
  · refine ⟨_, w', .inl hval, env' A' c', H, _, S, hput A' c', fun l' h2 h1 => ⟨hsat.wf, honly.ext hsat.ext hT.1 (hmi.lt hsat.ext hT.1), h2, h1, ?_, fun y hy => ?_⟩, g A' c'⟩
    · intro y hy
      exact honly.bx hsat.ext.good hT.1 (noTag_ok hH y.t (List.mem_map.2 ⟨y, hy, rfl⟩)) (hsat.hs y hy)
    · cases hy with
      | tail _ hy => exact honly.fct hsat.ext.good hT.1 (noTag_ok hB' y.t (List.mem_map.2 ⟨y, hy, rfl⟩)) h0 (hsat.bs y (picks_mem hB y hy))
      | head =>
        have hr' := hown S1 (fun _ h => h) fun k hk => ⟨hk, fun e => by subst e; exact h0 (hsat.ext.good.dj _ _ _ hT.1 hk)⟩
        have hbA : blkIs A b := ⟨_, hA, rfl⟩
        show ∃ ls : List (Pc α), ls.map (·.1) = xs ++ [p.1] ∧ RowOwn D.sh w' (S tg) (S 0) A' c' ls ∧ Pool D w' (S tg) (S 0) A' ls 0
        refine ⟨ls ++ [p], by simp [els], hr'.st (fun k hk _ => ⟨rfl, hk.1⟩) (fun k hk _ => ⟨rfl, hk⟩), ?_⟩
        rw [hA']
        exact hpool.to D fun k hk hTk hl => ⟨honly.same k hl (hk b hbA), hTk⟩
  · refine ⟨_, w', .inl hval, env' A' c', H, _, addS S tg w.heap.size, hput A' c', fun l' h2 h1 => ?_, g A' c'⟩
    have hal := hsat.alloc ha tg h1 h2
    refine ⟨hal.wf, hal.ext, h2, h1, hal.hs, fun y hy => ?_⟩
    cases hy with
    | tail _ hy => exact hal.bs y (picks_mem hB y hy)
    | head =>
      have hnew : ∀ b, blkIs A' b → blkIs A b ∨ b = w.heap.size := fun b hb => by
        rcases hown.inT b hb with h | ⟨_, h⟩
        · exact .inl h.2
        · exact .inr h
      have hpl := hpool.to (w' := w') (T' := addS S tg w.heap.size tg) (R' := addS S tg w.heap.size 0) D fun k hk hTk hl => ⟨ha.old hl, .inl hTk⟩
      show ∃ ls : List (Pc α), ls.map (·.1) = xs ++ [p.1] ∧ RowOwn D.sh w' (addS S tg w.heap.size tg) (addS S tg w.heap.size 0) A' c' ls ∧ Pool D w' (addS S tg w.heap.size tg) (addS S tg w.heap.size 0) A' ls 0
      refine ⟨ls ++ [p], by simp [els], hown.st (fun k hk _ => ⟨rfl, ?_⟩) (fun k hk _ => ⟨rfl, ?_⟩), ⟨hpl.own, hpl.dj, fun i q hi hq b hb hb' => ?_⟩⟩
      · rcases hk with hk | ⟨_, hk⟩
        · exact .inl hk.1
        · exact .inr ⟨rfl, hk⟩
      · rcases hk with hk | ⟨hk, _⟩
        · exact .inl hk
        · cases hk
      · rcases hnew b hb with h | h
        · exact hpool.out i q hi hq b h hb'
        · have := hsat.ext.good.bd tg b ((hpool.own i q hi hq).inT b hb')
          omega

/-- Element iN is taken out: what its slice leads to gets a tag of its own. -/
theorem GoO.takeD {todo : List Item} {α β : Type} [Inhabited α] {D : Dk α β} {A : Option Addr} {c k0 iN v u : Nat} {xs : List α} {j : Nat} (hf : B[j]? = some (Dw v D A c k0 xs)) (h1 : iN < xs.length) (hk : k0 ≤ iN)
    (huv : Nat.beq u v = false) (hv0 : Nat.beq v 0 = false) (hu0 : Nat.beq u 0 = false) (hvl : Nat.blt C.np v = true)
    (hH : noTag v (H.map (·.t)) = true) {bk : List Nat} (hB : picks B bk = some B') (hB' : noTag v (B'.map (·.t)) = true)
    (g : ∀ A2 c2, GoO C env H (Ce v A (iN * D.sz) (D.cells (xs.getD iN default) A2 c2) :: Ow u D.inn A2 c2 (D.get (xs.getD iN default)) :: Dw v D A c (iN + 1) xs :: B') todo o) : GoO C env H B todo o := by
  intro r hr l w S hs
  obtain ⟨ls, els, hrow, hpool⟩ : ∃ ls : List (Pc α), ls.map (·.1) = xs ∧ RowOwn D.sh w (S v) (S 0) A c ls ∧ Pool D w (S v) (S 0) A ls k0 := hs.bs _ (List.mem_of_getElem? hf)
  have hll : ls.length = xs.length := by rw [← els]; simp
  have hi : iN < ls.length := by omega
  obtain ⟨p, hp⟩ : ∃ p, ls[iN]? = some p := ⟨ls[iN], by simp [hi]⟩
  have hpx : p.1 = xs.getD iN default := by
    rw [← els, List.getD_eq_getElem?_getD, List.getElem?_map, hp]; rfl
  have hne : u ≠ v := fun e => by subst e; simp at huv
  have hv0 : v ≠ 0 := fun e => by subst e; simp at hv0
  have hu0 : u ≠ 0 := fun e => by subst e; simp at hu0
  have hloc : ∀ b, ¬ C.S0 v b := hs.wf v (Nat.le_of_ble_eq_true hvl)
  have hown := hpool.own iN p hk hp
  have hin : ∀ b, blkIs p.2.1 b → S v b := hown.inT
  let S' : Fam := fun t b => (S t b ∧ ¬ (t = v ∧ blkIs p.2.1 b)) ∨ (t = u ∧ blkIs p.2.1 b)
  have sub : ∀ t, t ≠ v → ∀ b, S t b → S' t b := fun t ht b hb => .inl ⟨hb, fun h => ht h.1⟩
  have subv : ∀ b, S v b → ¬ blkIs p.2.1 b → S' v b := fun b hb hn => .inl ⟨hb, fun h => hn h.2⟩
  have sub0 : ∀ b, S 0 b → S' 0 b := sub 0 fun e => hv0 e.symm
  refine g p.2.1 p.2.2 r hr l w S' ⟨hs.wf, ⟨hs.ext.size, hs.ext.same, ⟨?_, ?_⟩, ?_, fun b hb => sub0 b (hs.ext.grow0 b hb), hs.ext.out, hs.ext.os, hs.ext.tape⟩, hs.len, hs.env, ?_, ?_⟩
  · rintro t b (⟨hb, _⟩ | ⟨_, hb⟩)
    · exact hs.ext.good.bd t b hb
    · exact hs.ext.good.bd v b (hin b hb)
  · rintro t t' b (⟨hb, hn⟩ | ⟨e, hb⟩) (⟨hb', hn'⟩ | ⟨e', hb'⟩)
    · exact hs.ext.good.dj _ _ _ hb hb'
    · exact absurd ⟨hs.ext.good.dj _ _ _ hb (hin b hb'), hb'⟩ hn
    · exact absurd ⟨hs.ext.good.dj _ _ _ hb' (hin b hb), hb⟩ hn'
    · rw [e, e']
  · rintro t b (⟨hb, _⟩ | ⟨_, hb⟩) hl
    · exact hs.ext.old t b hb hl
    · exact absurd (hs.ext.old v b (hin b hb) hl) (hloc b)
  · intro x hx
    obtain ⟨q1, T, q2⟩ := hs.hs x hx
    exact ⟨sub x.t (noTag_ok hH x.t (List.mem_map.2 ⟨x, hx, rfl⟩)) x.b q1, T, q2⟩
  · intro f hf'
    rcases List.mem_cons.1 hf' with rfl | hf'
    · rcases hrow with ⟨_, _, h⟩ | ⟨b, cells, ty, vs, hA, hT, hb, hle, hcc, hel, htake⟩
      · rw [h] at hi; simp at hi
      · refine ⟨b, 0, cells, ty, (0, 0), hA, subv b hT (hpool.out iN p hk hp b ⟨_, hA, rfl⟩), hb, fun m q hm => ?_⟩
        obtain ⟨ec, hrel, hec⟩ := hel.get (i := iN) hi
        have hgd : ls.getD iN default = p := by rw [List.getD_eq_getElem?_getD, hp]; rfl
        have hrel : ec = D.cells (ls.getD iN default).1 (ls.getD iN default).2.1 (ls.getD iN default).2.2 := hrel
        rw [hgd, hpx] at hrel
        rw [← hrel, hec, List.getElem?_take] at hm
        split at hm
        · rw [List.getElem?_drop, ← htake, List.getElem?_take] at hm
          split at hm
          · have hm : cells.toList[iN * D.sz + m]? = some q := hm
            simpa using hm
          · cases hm
        · cases hm
    rcases List.mem_cons.1 hf' with rfl | hf'
    · rw [← hpx]
      exact hown.to (w' := w) (T' := S' u) (R' := S' 0) D fun b hb _ _ => ⟨rfl, .inr ⟨rfl, hb⟩⟩
    rcases List.mem_cons.1 hf' with rfl | hf'
    · show ∃ ls : List (Pc α), ls.map (·.1) = xs ∧ RowOwn D.sh w (S' v) (S' 0) A c ls ∧ Pool D w (S' v) (S' 0) A ls (iN + 1)
      refine ⟨ls, els, (hrow.lim fun b hb => hpool.out iN p hk hp b hb).st (fun b hb _ => ⟨rfl, subv b hb.1 hb.2⟩) (fun b hb _ => ⟨rfl, sub0 b hb⟩), ⟨fun i q hq hiq => ?_, fun i j q q' hq hq' => hpool.dj i j q q' (by omega) (by omega), fun i q hq => hpool.out i q (by omega)⟩⟩
      exact (hpool.own i q (by omega) hiq).to D fun b hb hTb _ => ⟨rfl, subv b hTb (hpool.dj i iN q p (by omega) hk hiq hp (by omega) b hb)⟩
    · exact f.q.st (fun b hb _ => ⟨rfl, sub f.t (noTag_ok hB' f.t (List.mem_map.2 ⟨f, hf', rfl⟩)) b hb⟩) (fun b hb _ => ⟨rfl, sub0 b hb⟩) (hs.bs f (picks_mem hB f hf'))

/-- The load of an element that lies open. -/
theorem GoO.ldC {t : TypeId} {x : Operand} {d : Option Tmp} {ty : TypeId} (hop : opAt ops i env = some (.load t x, d, ty))
    {A : Option Addr} {iN sz off tg : Nat} {cs : List Value} (hx : evalE env x = some (elemP A iN sz off))
    {j : Nat} (hf : B[j]? = some (Ce tg A (iN * sz) cs)) {v : Value} (hv : loadBx C.P t cs off = some v)
    (hput : putE C.n env d v = some env') (g : G env' H B o) : OpTo C ops i env H B o G := by
  refine GoO.op hop fun lf w S hsat r hr => ⟨v, w, .inl fun q hq _ => ?_, env', H, B, S, hput, fun l' h2 h1 => ⟨hsat.wf, hsat.ext, h2, h1, hsat.hs, hsat.bs⟩, g⟩
  have := run_ldC (P := C.P) (t := t) (hsat.bs _ (List.mem_of_getElem? hf)) rfl hv
  have hxx := evalE_ok hsat.env hx
  have e : elemP A iN sz off = elemP A 0 0 (iN * sz + off) := by simp [elemP]
  rw [e] at hxx
  simp [execOp, hq, hxx, this]

/-- Fewer elements are one's own from now on. -/
theorem GoO.lessD {todo : List Item} {α β : Type} {D : Dk α β} {A : Option Addr} {c k0 k1 v : Nat} {xs : List α} (j : Nat) (hf : B[j]? = some (Dw v D A c k0 xs)) (hk : k0 ≤ k1)
    (g : GoO C env H (B.set j (Dw v D A c k1 xs)) todo o) : GoO C env H B todo o :=
  fun r hr l w S hs => g r hr l w S ⟨hs.wf, hs.ext, hs.len, hs.env, hs.hs, fun f hf' => by
    obtain ⟨m, hm⟩ := List.mem_iff_getElem?.1 hf'
    by_cases e : j = m
    · subst e
      have hlt : j < B.length := (List.getElem?_eq_some_iff.1 hf).1
      rw [List.getElem?_set_self hlt] at hm
      cases hm
      obtain ⟨ls, els, hrow, hpool⟩ : ∃ ls : List (Pc α), ls.map (·.1) = xs ∧ RowOwn D.sh w (S v) (S 0) A c ls ∧ Pool D w (S v) (S 0) A ls k0 := hs.bs _ (List.mem_of_getElem? hf)
      show ∃ ls : List (Pc α), ls.map (·.1) = xs ∧ RowOwn D.sh w (S v) (S 0) A c ls ∧ Pool D w (S v) (S 0) A ls k1
      exact ⟨ls, els, hrow, ⟨fun i p hi => hpool.own i p (by omega), fun i j p q hi hj => hpool.dj i j p q (by omega) (by omega), fun i p hi => hpool.out i p (by omega)⟩⟩
    · rw [List.getElem?_set_ne e] at hm
      exact hs.bs f (List.mem_of_getElem? hm)⟩

/-- The three steps that set one more element apart. -/
theorem GoO.pendD {todo : List Item} {α β : Type} {D : Dk α β} {A A2 : Option Addr} {c c2 t u : Nat} {xs : List α} {x : α} {zs : List β} {j j2 : Nat} {hk bk : List Nat} (htu : Nat.beq u t = false) (htu' : Nat.beq t u = false) (hu0 : Nat.beq u 0 = false) (hul : Nat.blt C.np u = true)
    (hf : B[j]? = some (Dw t D A c 0 xs)) (hf2 : B[j2]? = some (Ow u D.inn A2 c2 zs)) (hz : zs = D.get x) (hH : picks H hk = some H') (hB : picks B bk = some B') (n1 : noTag u (H'.map (·.t)) = true) (n2 : noTag u (B'.map (·.t)) = true) (ht : noTag u [t] = true)
    (g : GoO C env H' (⟨t, Q.dp D A c xs (x, A2, c2)⟩ :: B') todo o) : GoO C env H B todo o := by
  subst hz
  refine GoO.haveG ⟨t, Q.dx D A c xs A2⟩ (fun w S hg hb => dx_of hg htu' (hb _ (List.mem_of_getElem? hf)) (hb _ (List.mem_of_getElem? hf2))) ?_
  have hB2 : picks (⟨t, Q.dx D A c xs A2⟩ :: B) (0 :: bk.map (· + 1)) = some (⟨t, Q.dx D A c xs A2⟩ :: B') := by
    have : ∀ (bk : List Nat) (B' : List Fct), picks B bk = some B' → picks ((⟨t, Q.dx D A c xs A2⟩ : Fct) :: B) (bk.map (· + 1)) = some B' := by
      intro bk
      induction bk with
      | nil => intro B' h; simpa [picks] using h
      | cons a r ih =>
        intro B' h
        simp only [picks, List.map_cons, List.getElem?_cons_succ] at h ⊢
        split at h
        · rename_i y hy
          split at h
          · rename_i z hz
            rw [ih _ hz]; cases h; simp [hy]
          · cases h
        · cases h
    simp only [picks, List.getElem?_cons_zero]
    rw [this bk B' hB]
  refine GoO.retag (t := u) (u := t) (j := j2 + 1) htu hu0 hul (by simpa using hf2) hH hB2 n1 (by simp only [List.map_cons, noTag] at ht ⊢; simp_all) ?_
  refine GoO.have ⟨t, Q.dp D A c xs (x, A2, c2)⟩ (fun w S _ hb => dp_of (hb _ (List.mem_cons_of_mem _ (List.mem_cons_self ..))) (hb _ (List.mem_cons_self ..))) ?_
  intro r hr l w S hs
  exact g r hr l w S ⟨hs.wf, hs.ext, hs.len, hs.env, hs.hs, fun f hf => hs.bs f (by
    rcases List.mem_cons.1 hf with h | h
    · exact h ▸ List.mem_cons_self ..
    · exact List.mem_cons_of_mem _ (List.mem_cons_of_mem _ (List.mem_cons_of_mem _ h)))⟩
end
end Go.GL
