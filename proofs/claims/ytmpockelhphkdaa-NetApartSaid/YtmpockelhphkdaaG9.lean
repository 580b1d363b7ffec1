import Derived.Test.YtmpockelhphkdaaG8
/-! Walks by symbolic states: words for printed walks. -/
set_option linter.unusedVariables false
set_option linter.unusedSimpArgs false
namespace Go.GL
open Go

/-! ### Getting at the code without writing it down -/
def cdL : Code → Code | .seq a _ => a | .cond _ a _ => a | .block _ a => a | .loop a => a | .scope a => a | c => c
def cdR : Code → Code | .seq _ b => b | .cond _ _ b => b | c => c
def cdO : Code → Array Oper | .region _ o _ => o | _ => #[]
def cdC : Code → Operand | .cond c _ _ => c | _ => .const undef
def bodyOf (f : Func) : Code := match f.body with | some c => c | none => .skip

abbrev wi8 (x : Int) : Int := IntKind.i8.wrap x
abbrev wi16 (x : Int) : Int := IntKind.i16.wrap x
abbrev wi32 (x : Int) : Int := IntKind.i32.wrap x
abbrev wi64 (x : Int) : Int := IntKind.i64.wrap x
abbrev wu8 (x : Int) : Int := IntKind.u8.wrap x
abbrev wu16 (x : Int) : Int := IntKind.u16.wrap x
abbrev wu32 (x : Int) : Int := IntKind.u32.wrap x
abbrev wu64 (x : Int) : Int := IntKind.u64.wrap x
abbrev bAnd (k : IntKind) (a b : Int) : Int := k.wrap (BitVec.ofInt k.bits a &&& BitVec.ofInt k.bits b).toNat
abbrev bOr (k : IntKind) (a b : Int) : Int := k.wrap (BitVec.ofInt k.bits a ||| BitVec.ofInt k.bits b).toNat
abbrev bXor (k : IntKind) (a b : Int) : Int := k.wrap (BitVec.ofInt k.bits a ^^^ BitVec.ofInt k.bits b).toNat
abbrev bAndNot (k : IntKind) (a b : Int) : Int := k.wrap (BitVec.ofInt k.bits a &&& ~~~(BitVec.ofInt k.bits b)).toNat
abbrev bNot (k : IntKind) (a : Int) : Int := k.wrap (BitVec.ofInt k.bits (if k.signed then -1 else k.max) ^^^ BitVec.ofInt k.bits a).toNat
abbrev shL (k : IntKind) (a b : Int) : Int := k.wrap (a * 2 ^ (min b.toNat k.bits))
abbrev shR (k : IntKind) (a b : Int) : Int := a.fdiv (2 ^ (min b.toNat k.bits))

/-- Element i of a list, whatever i is. -/
def rdL {α : Type} [Inhabited α] (xs : List α) (i : Int) : α := xs.getD i.toNat default
/-- Byte i of a text. -/
abbrev rdB (s : List UInt8) (i : Int) : UInt8 := s.getD i.toNat 0

theorem idx_lt {i : Int} {n : Nat} (h0 : 0 ≤ i) (h1 : i < (n : Int)) : i.toNat < n := by omega

/-- A number as a byte. -/
def u8of (x : Int) : UInt8 := UInt8.ofNat (IntKind.u8.wrap x).toNat
theorem wrap_u8_range (x : Int) : 0 ≤ IntKind.u8.wrap x ∧ IntKind.u8.wrap x < 256 := by
  simp only [IntKind.wrap, IntKind.bits, IntKind.signed, Bool.false_and, Bool.false_eq_true, if_false]
  constructor
  · exact Int.emod_nonneg _ (by decide)
  · exact Int.emod_lt_of_pos _ (by decide)
theorem u8of_toNat (x : Int) : ((u8of x).toNat : Int) = IntKind.u8.wrap x := by
  have h := wrap_u8_range x
  unfold u8of
  have : (IntKind.u8.wrap x).toNat < 256 := by omega
  simp only [UInt8.toNat_ofNat']
  rw [Nat.mod_eq_of_lt (by omega)]
  omega
theorem u8cell (x : Int) : Value.int .u8 (IntKind.u8.wrap x) = .int .u8 ((u8of x).toNat : Int) := by rw [u8of_toNat]

section
variable {ρ : Type} {C : Cx ρ} {env env' : Env} {H H' : List Bx} {B B' : List Fct} {k : List Item} {o o' : Option ρ} {ops : Array Oper} {rest : List Nat} {i : Nat} {G : Env → List Bx → List Fct → Option ρ → Prop} {c : Code}

theorem GoO.seq' {x y : Code} (h : c = .seq x y) (g : GoO C env H B (.code x :: .code y :: k) o) : GoO C env H B (.code c :: k) o := h ▸ GoO.seq g
theorem GoO.block' {id : Nat} {x : Code} (h : c = .block id x) (g : GoO C env H B (.code x :: .inBlock id :: k) o) : GoO C env H B (.code c :: k) o := h ▸ GoO.block g
theorem GoO.loop' {x : Code} (h : c = .loop x) (g : GoO C env H B (.code x :: .inLoop x :: k) o) : GoO C env H B (.code c :: k) o := h ▸ GoO.loop g
theorem GoO.skip' (h : c = .skip) (g : GoO C env H B k o) : GoO C env H B (.code c :: k) o := h ▸ GoO.skip g
theorem GoO.exit' {id : Nat} {k' : List Item} (h : c = .exit id) (h' : exitTo id k = some k') (g : GoO C env H B k' o) : GoO C env H B (.code c :: k) o := h ▸ GoO.exit h' g
theorem GoO.region' {id : Nat} {is : List Nat} (h : c = .region id ops false) (h' : List.range ops.size = is) (g : GoO C env H B (.inRegion ops is :: k) o) : GoO C env H B (.code c :: k) o := h ▸ GoO.region h' g
theorem GoO.ite' {cc : Operand} {x y : Code} {e : Bool} (h : c = .cond cc x y) (hc : evalE env cc = some (.bool e))
    (ht : e = true → GoO C env H B (.code x :: k) o) (hf : e = false → GoO C env H B (.code y :: k) o') : GoO C env H B (.code c :: k) (if e = true then o else o') := h ▸ GoO.ite hc ht hf
theorem GoO.condT {cc : Operand} {x y : Code} (h : c = .cond cc x y) (hc : evalE env cc = some (.bool true)) (g : GoO C env H B (.code x :: k) o) : GoO C env H B (.code c :: k) o :=
  h ▸ GoO.cond hc (fun _ => g) (fun h => by cases h)
theorem GoO.condF {cc : Operand} {x y : Code} (h : c = .cond cc x y) (hc : evalE env cc = some (.bool false)) (g : GoO C env H B (.code y :: k) o) : GoO C env H B (.code c :: k) o :=
  h ▸ GoO.cond hc (fun h => by cases h) (fun _ => g)
theorem GoO.ret' {r : ρ} {hs : List Nat} {ps : List Prop} {hk bk : List Nat} (h : c = .ret) (hfn : C.P.funcs[C.f]? = some C.fn) (x : C.R.ε) (hv : retV C.P env H C.fn.results.toList hs = some (C.R.v r x, ps)) (hp : AllP ps)
    (hH : picks H hk = some (C.R.H r x)) (hB : picks B bk = some (C.R.B r x)) : GoO C env H B (.code c :: k) (some r) := h ▸ GoO.ret hfn x hv hp hH hB

/-- A guarded operation's test, not yet decided. -/
theorem GoO.bsplit {todo : List Item} {t : Nat} {e : Bool} (h : look t env = some (.bool e)) (ht : e = true → GoO C ((t, .bool true) :: env) H B todo o) (hf : e = false → GoO C ((t, .bool false) :: env) H B todo o') :
    GoO C env H B todo (if e = true then o else o') := by
  have key : ∀ (b : Bool), e = b → ∀ l, EnvOk env l → EnvOk ((t, .bool b) :: env) l := by
    intro b hb l he u v hu
    simp only [look] at hu
    split at hu
    · rename_i hbb
      have := Nat.eq_of_beq_eq_true hbb
      subst this
      cases hu
      rw [← hb]
      exact he u _ h
    · exact he u v hu
  cases e with
  | true => rw [if_pos rfl]; exact fun r hr l w S hs => ht rfl r hr l w S ⟨hs.wf, hs.ext, hs.len, key true rfl l hs.env, hs.hs, hs.bs⟩
  | false => rw [if_neg (by decide)]; exact fun r hr l w S hs => hf rfl r hr l w S ⟨hs.wf, hs.ext, hs.len, key false rfl l hs.env, hs.hs, hs.bs⟩

/-- A slot's value, said otherwise. -/
theorem GoO.reval {todo : List Item} {t : Nat} {v v' : Value} (h : look t env = some v) (e : v = v') (g : GoO C ((t, v') :: env) H B todo o) : GoO C env H B todo o :=
  fun r hr l w S hs => g r hr l w S ⟨hs.wf, hs.ext, hs.len, fun u x hu => by
    simp only [look] at hu
    split at hu
    · rename_i hb
      have := Nat.eq_of_beq_eq_true hb
      subst this
      cases hu
      rw [← e]
      exact hs.env u _ h
    · exact hs.env u x hu, hs.hs, hs.bs⟩
end

section
variable {ρ : Type} {C : Cx ρ} {env env' : Env} {H H' : List Bx} {B B' : List Fct} {k : List Item} {o o' : Option ρ} {ops : Array Oper} {rest : List Nat} {i : Nat} {G : Env → List Bx → List Fct → Option ρ → Prop} {c : Code}

/-- What an element is made of, laid open. -/
structure Opn {α : Type} (K : Kd α) (x : α) where
  ε : Type
  cells : ε → List Value
  newB : ε → List Fct
  ok : ∀ w S cs, K.rel w (S 0) x cs → ∃ e, cs = cells e ∧ BOk (newB e) w S
def Opn.flat {α : Type} (sz : Nat) (enc : α → List Value) (h1 : ∀ x, (enc x).length = sz) (h2 : ∀ x, allOne (enc x) = true) (x : α) : Opn (Kd.flat sz enc h1 h2) x where
  ε := Unit
  cells := fun _ => enc x
  newB := fun _ => []
  ok := fun _ _ _ h => ⟨(), h, fun _ hf => by cases hf⟩

theorem GoO.ldE' {α : Type} [Inhabited α] {t : TypeId} {x : Operand} {d : Option Tmp} {ty : TypeId} (hop : opAt ops i env = some (.load t x, d, ty))
    {K : Kd α} {A : Option Addr} {c off : Nat} {xs : List α} {iN : Nat} (hx : evalE env x = some (elemP A iN K.sz off))
    {j : Nat} {f : Fct} (hf : B[j]? = some f) (hrd : Reads f K A c xs) (h1 : iN < xs.length) (hz : K.sz ≠ 0)
    (p : Opn K (xs.getD iN default)) {v : p.ε → Value} (hv : ∀ e, loadBx C.P t (p.cells e) off = some (v e)) (env' : p.ε → Env)
    (hput : ∀ e, putE C.n env d (v e) = some (env' e)) (g : ∀ e, G (env' e) H (p.newB e ++ B) o) : OpTo C ops i env H B o G :=
  GoO.ldE hop hx hf hrd h1 hz p.cells p.newB p.ok v hv env' hput g

theorem stored_flat {P : Program} {t : TypeId} {cs cs' : List Value} {off : Nat} {v : Value} (h : storeBx P t cs off v = some cs') : storeBx P t cs off v = some cs' := h

/-- A row of one's own may be read. -/
theorem GoO.own2rd {todo : List Item} {α : Type} {K : Kd α} {t : Nat} {A : Option Addr} {cc : Nat} {xs : List α} (j : Nat) (hf : B[j]? = some (Ow t K A cc xs)) (g : GoO C env H (B.set j (Rd t K A cc xs)) todo o) : GoO C env H B todo o :=
  fun r hr l w S hs => g r hr l w S ⟨hs.wf, hs.ext, hs.len, hs.env, hs.hs, fun f hf' => by
    obtain ⟨m, hm⟩ := List.mem_iff_getElem?.1 hf'
    by_cases e : j = m
    · subst e
      have hlt : j < B.length := (List.getElem?_eq_some_iff.1 hf).1
      rw [List.getElem?_set_self hlt] at hm
      cases hm
      exact RowOwn.rowIn (hs.bs _ (List.mem_of_getElem? hf))
    · rw [List.getElem?_set_ne e] at hm
      exact hs.bs f (List.mem_of_getElem? hm)⟩
/-- .. and stays one's own. -/
theorem GoO.view {todo : List Item} {α : Type} {K : Kd α} {t : Nat} {A : Option Addr} {cc : Nat} {xs : List α} (j : Nat) (hf : B[j]? = some (Ow t K A cc xs)) (g : GoO C env H (B ++ [Rd t K A cc xs]) todo o) : GoO C env H B todo o :=
  fun r hr l w S hs => g r hr l w S ⟨hs.wf, hs.ext, hs.len, hs.env, hs.hs, fun f hf' => by
    rcases List.mem_append.1 hf' with h | h
    · exact hs.bs f h
    · simp at h; subst h; exact RowOwn.rowIn (hs.bs _ (List.mem_of_getElem? hf))⟩

/-- A block's cells, said otherwise. -/
theorem GoO.rebox {todo : List Item} {j t b : Nat} {cs cs' : List Value} (h : H[j]? = some ⟨t, b, cs⟩) (e : cs = cs') (g : GoO C env (H.set j ⟨t, b, cs'⟩) B todo o) : GoO C env H B todo o := by
  subst e
  have : H.set j ⟨t, b, cs⟩ = H := by
    apply List.ext_getElem?
    intro m
    by_cases e : j = m
    · subst e
      have hlt : j < H.length := (List.getElem?_eq_some_iff.1 h).1
      rw [List.getElem?_set_self hlt, h]
    · rw [List.getElem?_set_ne e]
  rwa [this] at g

/-- The state, put in order. -/
theorem GoO.shape {todo : List Item} {ks : List Nat} (he : looks ks env = some env') (hH : H = H') (hB : B = B') (g : GoO C env' H' B' todo o) : GoO C env H B todo o := by
  subst hH; subst hB
  exact fun r hr l w S hs => g r hr l w S ⟨hs.wf, hs.ext, hs.len, fun t v h => hs.env t v (looks_ok he t v h), hs.hs, hs.bs⟩

/-- append(xs, ys...) to a whole row of one's own. -/
theorem GoO.appW {α : Type} {s x : Operand} {t t2 : TypeId} {d : Option Tmp} {ty e : TypeId} (hop : opAt ops i env = some (.call { callee := .builtin .append, args := ⟨[s, x]⟩, argTypes := ⟨[t, t2]⟩ }, d, ty))
    {K : Kd α} {A : Option Addr} {c tg bytes : Nat} {xs ys : List α} {zs : List Value} {xv : Value} (hs : evalE env s = some (.slice A xs.length c)) (hx : evalE env x = some xv)
    (he : elemTy C.P t = some e) (hi : elemInfo C.P e = some (K.sz, bytes, zs)) (hb0 : Nat.blt 0 bytes = true) (h2 : notInt C.P t2 = true)
    {j : Nat} (hf : B[j]? = some (Ow tg K A c xs)) (hsrc : ∀ w S, BOk B w S → SrcIs C.P K w (S 0) xv ys) (hcap : capOk bytes (xs ++ ys).length)
    (hmine : mineB C.M C.np tg = true) (hH : noTag tg (H.map (·.t)) = true) {bk : List Nat} (hB : picks B bk = some B') (hB' : noTag tg (B'.map (·.t)) = true)
    (env' : Option Addr → Nat → Env) (hput : ∀ A' c', putE C.n env d (.slice A' (xs ++ ys).length c') = some (env' A' c'))
    (g : ∀ A' c', G (env' A' c') H (Ow tg K A' c' (xs ++ ys) :: B') o) : OpTo C ops i env H B o G := by
  have ht : xs.take xs.length = xs := List.take_length
  -- the row is no longer than its capacity
  intro r hr l w S hsat
  have hrow : RowOwn K w (S tg) (S 0) A c xs := hsat.bs _ (List.mem_of_getElem? hf)
  have hle : xs.length ≤ c := hrow.rowIn.le
  exact GoO.app (m := xs.length) (c0 := c) hop (by rw [ht]; exact hs) hx he hi hb0 h2 hf rfl (Nat.le_refl _) hle (fun _ _ _ => Nat.le_refl _) hsrc (by rw [ht]; exact hcap) hmine hH hB hB'
    env' (fun A' c' => by rw [ht]; exact hput A' c') (fun A' c' => by rw [ht]; exact g A' c') r hr l w S hsat

/-- xs[:h:h] -/
theorem GoO.cut {α : Type} {t : TypeId} {x y z : Operand} {d : Option Tmp} {ty e : TypeId} (hop : opAt ops i env = some (.slice t x none (some y) (some z), d, ty))
    {K : Kd α} {A : Option Addr} {c n tg : Nat} {xs : List α} {h : Int} (hx : evalE env x = some (.slice A n c)) (he : elemTy C.P t = some e) (hsz : tySize C.P e = some K.sz)
    {j : Nat} (hf : B[j]? = some (Ow tg K A c xs)) (hn : n = xs.length) (hy : bnd env 0 (some y) = some h) (hz : bnd env 0 (some z) = some h) (h0 : 0 ≤ h) (h1 : h ≤ (xs.length : Int))
    (hput : putE C.n env d (.slice A h.toNat h.toNat) = some env') (g : G env' H B o) : OpTo C ops i env H B o G := by
  refine GoO.op hop fun l w S hsat r hr => ⟨_, w, .inl fun q hq _ => ?_, env', H, B, S, hput, fun l' h2 h1 => ⟨hsat.wf, hsat.ext, h2, h1, hsat.hs, hsat.bs⟩, g⟩
  have hrow : RowOwn K w (S tg) (S 0) A c xs := hsat.bs _ (List.mem_of_getElem? hf)
  have hle : xs.length ≤ c := hrow.rowIn.le
  obtain ⟨inf, hi', hs⟩ := tySize_ok hsz
  have ek : ∀ y, bnd env 0 (some y) = some h → ∃ kk, Act.eval ⟨⟨l⟩, []⟩ y = .int kk h := by
    intro y hy
    simp only [bnd] at hy
    split at hy
    · rename_i kk m hm; cases hy; exact ⟨kk, evalE_ok hsat.env hm⟩
    · cases hy
  obtain ⟨k1, e1⟩ := ek y hy
  obtain ⟨k2, e2⟩ := ek z hz
  have hc : h ≤ (c : Int) := by omega
  have hm : max h 0 = h := by omega
  have hmm : ((h.toNat : Nat) : Int) = h := by omega
  have hA : (if h.toNat = 0 then A else A.map fun a => a.add (0 * inf.size)) = A := by
    split
    · rfl
    · cases A with
      | none => rfl
      | some a => simp [Addr.add]
  simp [execOp, hq, evalE_ok hsat.env hx, e1, e2, Instr.sliceAt, Instr.slice, run_underlying (elemTy_ok he), Instr.sliceBounds, Instr.sliceBound, asIntOf, h0, hc, hm, sizeOf, typeInfo, hi']
  cases A <;> simp [Addr.add]

/-- append(xs[:m:m], ys...): the row goes on as the first m and ys. -/
theorem GoO.appC {α : Type} {s x : Operand} {t t2 : TypeId} {d : Option Tmp} {ty e : TypeId} (hop : opAt ops i env = some (.call { callee := .builtin .append, args := ⟨[s, x]⟩, argTypes := ⟨[t, t2]⟩ }, d, ty))
    {K : Kd α} {A : Option Addr} {c0 m tg bytes : Nat} {xs ys : List α} {zs : List Value} {xv : Value} (hs : evalE env s = some (.slice A m m)) (hx : evalE env x = some xv)
    (he : elemTy C.P t = some e) (hi : elemInfo C.P e = some (K.sz, bytes, zs)) (hb0 : Nat.blt 0 bytes = true) (h2 : notInt C.P t2 = true)
    {j : Nat} (hf : B[j]? = some (Ow tg K A c0 xs)) (hm : m ≤ xs.length) (hsrc : ∀ w S, BOk B w S → SrcIs C.P K w (S 0) xv ys) (hcap : capOk bytes (xs.take m ++ ys).length)
    (hmine : mineB C.M C.np tg = true) (hH : noTag tg (H.map (·.t)) = true) {bk : List Nat} (hB : picks B bk = some B') (hB' : noTag tg (B'.map (·.t)) = true)
    (env' : Option Addr → Nat → Env) (hput : ∀ A' c', putE C.n env d (.slice A' (xs.take m ++ ys).length c') = some (env' A' c'))
    (g : ∀ A' c', G (env' A' c') H (Ow tg K A' c' (xs.take m ++ ys) :: B') o) : OpTo C ops i env H B o G := by
  intro r hr l w S hsat
  have hrow : RowOwn K w (S tg) (S 0) A c0 xs := hsat.bs _ (List.mem_of_getElem? hf)
  have hle : xs.length ≤ c0 := hrow.rowIn.le
  have hl : (xs.take m).length = m := by simp; omega
  exact GoO.app (m := m) (c0 := c0) hop hs hx he hi hb0 h2 hf (by rw [hl]) hm (Nat.le_refl _) (fun w S hB => by
      have : RowOwn K w (S tg) (S 0) A c0 xs := hB _ (List.mem_of_getElem? hf)
      exact Nat.le_trans hm this.rowIn.le) hsrc hcap hmine hH hB hB' env' hput g r hr l w S hsat

/-- A block gets another tag. -/
theorem GoO.retagB {todo : List Item} {t u : Nat} {j b : Nat} {cs : List Value} {hk bk : List Nat} (htu : Nat.beq t u = false) (ht0 : Nat.beq t 0 = false) (hl : Nat.blt C.np t = true)
    (hf : H[j]? = some ⟨t, b, cs⟩) (hH : picks H hk = some H') (hB : picks B bk = some B') (n1 : noTag t (H'.map (·.t)) = true) (n2 : noTag t (B'.map (·.t)) = true)
    (g : GoO C env (⟨u, b, cs⟩ :: H') B' todo o) : GoO C env H B todo o := by
  -- the block as a fact
  let q : Q := { p := fun w T _ => T b ∧ ∃ ty, w.heap[b]? = some (.cells ⟨cs⟩ ty (0, 0))
                 st := fun hT _ ⟨h1, ty, h2⟩ => by
                   have hlt := (Array.getElem?_eq_some_iff.1 h2).1
                   exact ⟨(hT b h1 hlt).2, ty, by rw [(hT b h1 hlt).1]; exact h2⟩ }
  have g1 : GoO C env H' (⟨u, q⟩ :: B') todo o := fun r hr l w S hs => g r hr l w S ⟨hs.wf, hs.ext, hs.len, hs.env, fun x hx => by
      cases hx with
      | head => exact hs.bs ⟨u, q⟩ (by simp)
      | tail _ hx => exact hs.hs x hx, fun f hf => hs.bs f (by simp [hf])⟩
  have hkB : picks (⟨t, q⟩ :: B) (bk.map (· + 1)) = some B' := by
    have : ∀ (bk : List Nat) (l : List Fct), picks B bk = some l → picks (⟨t, q⟩ :: B) (bk.map (· + 1)) = some l := by
      intro bk
      induction bk with
      | nil => intro l h; exact h
      | cons x r ih =>
        intro l h
        simp only [picks, List.map_cons, List.getElem?_cons_succ] at h ⊢
        split at h
        · rename_i y hy
          split at h
          · rename_i z hz
            rw [ih z hz]; exact h
          · cases h
        · cases h
    exact this bk B' hB
  have g2 := GoO.retag (C := C) (env := env) (H := H) (B := ⟨t, q⟩ :: B) (j := 0) htu ht0 hl rfl hH hkB n1 n2 g1
  exact fun r hr l w S hs => g2 r hr l w S ⟨hs.wf, hs.ext, hs.len, hs.env, hs.hs, fun f hf' => by
    cases hf' with
    | head => exact hs.hs _ (List.mem_of_getElem? hf)
    | tail _ hf' => exact hs.bs f hf'⟩
end

/-! ### Enough rounds -/
/-- From some number of rounds on the answer is r. -/
def Ev {ρ : Type} (g : Nat → Option ρ) (r : ρ) : Prop := ∃ N, ∀ n, N ≤ n → g n = some r
theorem Ev.of {ρ : Type} {g : Nat → Option ρ} {r : ρ} (h : ∀ n, g n = some r) : Ev g r := ⟨0, fun n _ => h n⟩
theorem Ev.bind {α β : Type} {g : Nat → Option α} {k : Nat → α → Option β} {a : α} {b : β} (h : Ev g a) (h' : Ev (fun n => k n a) b) : Ev (fun n => (g n).bind (k n)) b := by
  obtain ⟨N, hN⟩ := h
  obtain ⟨M, hM⟩ := h'
  exact ⟨max N M, fun n hn => by simp only [hN n (by omega), Option.bind_some]; exact hM n (by omega)⟩
theorem Ev.congr {ρ : Type} {g g' : Nat → Option ρ} {r : ρ} (h : ∀ n, g n = g' n) (h' : Ev g' r) : Ev g r := by rwa [show g = g' from funext h]
theorem Ev.ge {ρ : Type} {g : Nat → Option ρ} {r : ρ} (N : Nat) (h : ∀ n, N ≤ n → g n = some r) : Ev g r := ⟨N, h⟩
end Go.GL
