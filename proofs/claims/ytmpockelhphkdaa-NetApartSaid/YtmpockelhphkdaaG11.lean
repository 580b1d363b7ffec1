import Derived.Test.YtmpockelhphkdaaG10
/-! Walks by symbolic states: what can be said within a region whose order is open. -/
set_option linter.unusedVariables false
set_option linter.unusedSimpArgs false
namespace Go.GL
open Go
section
variable {ρ : Type} {C : Cx ρ} {env env' : Env} {H H' H0 : List Bx} {B B' B0 : List Fct} {k : List Item} {o o' : Option ρ} {ops : Array Oper} {rest : List Nat} {i : Nat} {fin : List Nat}

theorem GoF.nilOwn {fuel : Nat} {listed : List Bool} {α : Type} (K : Kd α) (t : Nat) (g : GoF C ops fin H0 B0 k fuel listed env H (Ow t K none 0 [] :: B) o) : GoF C ops fin H0 B0 k fuel listed env H B o :=
  fun r hr l w S hs => g r hr l w S ⟨hs.wf, hs.ext, hs.len, hs.env, hs.hs, fun f hf => by
    cases hf with
    | head => exact .inl ⟨rfl, rfl, rfl⟩
    | tail _ hf => exact hs.bs f hf⟩

theorem GoF.nilRd {fuel : Nat} {listed : List Bool} {α : Type} (K : Kd α) (g : GoF C ops fin H0 B0 k fuel listed env H (Rd 0 K none 0 [] :: B) o) : GoF C ops fin H0 B0 k fuel listed env H B o :=
  fun r hr l w S hs => g r hr l w S ⟨hs.wf, hs.ext, hs.len, hs.env, hs.hs, fun f hf => by
    cases hf with
    | head => exact ⟨Nat.le_refl _, [], rfl, .inl rfl⟩
    | tail _ hf => exact hs.bs f hf⟩


theorem GoF.have {fuel : Nat} {listed : List Bool} (f : Fct) (h : ∀ w S, HOk H w S → BOk B w S → f.ok w S) (g : GoF C ops fin H0 B0 k fuel listed env H (f :: B) o) : GoF C ops fin H0 B0 k fuel listed env H B o :=
  fun r hr l w S hs => g r hr l w S ⟨hs.wf, hs.ext, hs.len, hs.env, hs.hs, fun x hx => by
    cases hx with
    | head => exact h w S hs.hs hs.bs
    | tail _ hf => exact hs.bs x hf⟩


theorem GoF.know {fuel : Nat} {listed : List Bool} {p : Prop} (h : ∀ w S, HOk H w S → BOk B w S → p) (g : p → GoF C ops fin H0 B0 k fuel listed env H B o) : GoF C ops fin H0 B0 k fuel listed env H B o :=
  fun r hr l w S hs => g (h w S hs.hs hs.bs) r hr l w S hs


theorem GoF.retag {fuel : Nat} {listed : List Bool} {t u : Nat} {j : Nat} {q : Q} {hk bk : List Nat} (htu : Nat.beq t u = false) (ht0 : Nat.beq t 0 = false) (hl : Nat.blt C.np t = true)
    (hf : B[j]? = some ⟨t, q⟩) (hH : picks H hk = some H') (hB : picks B bk = some B') (n1 : noTag t (H'.map (·.t)) = true) (n2 : noTag t (B'.map (·.t)) = true)
    (g : GoF C ops fin H0 B0 k fuel listed env H' (⟨u, q⟩ :: B') o) : GoF C ops fin H0 B0 k fuel listed env H B o := by
  intro r hr l w S hs
  have hne : t ≠ u := fun e => by subst e; simp at htu
  have h0 : t ≠ 0 := fun e => by subst e; simp at ht0
  have hloc : ∀ b, ¬ C.S0 t b := hs.wf t (Nat.le_of_ble_eq_true hl)
  have sub : ∀ v, v ≠ t → ∀ b, S v b → mergeS S t u v b := by
    intro v hv b hb
    unfold mergeS
    by_cases hvu : v = u
    · rw [if_pos hvu]; subst hvu; exact .inl hb
    · rw [if_neg hvu, if_neg hv]; exact hb
  have subt : ∀ b, S t b → mergeS S t u u b := fun b hb => by unfold mergeS; rw [if_pos rfl]; exact .inr hb
  have back : ∀ v b, mergeS S t u v b → S v b ∨ (v = u ∧ S t b) := by
    intro v b hb
    unfold mergeS at hb
    split at hb
    · rename_i hv; subst hv; exact hb.elim .inl fun h => .inr ⟨rfl, h⟩
    · split at hb
      · exact hb.elim
      · exact .inl hb
  refine g r hr l w (mergeS S t u) ⟨hs.wf, ⟨hs.ext.size, hs.ext.same, ⟨?_, ?_⟩, ?_, ?_, hs.ext.out, hs.ext.os, hs.ext.tape⟩, hs.len, hs.env, ?_, ?_⟩
  · intro v b hb
    rcases back v b hb with h | ⟨_, h⟩ <;> exact hs.ext.good.bd _ _ h
  · intro v v' b hb hb'
    rcases back v b hb with h | ⟨e, h⟩ <;> rcases back v' b hb' with h' | ⟨e', h'⟩
    · exact hs.ext.good.dj _ _ _ h h'
    · have := hs.ext.good.dj _ _ _ h h'
      subst this
      unfold mergeS at hb
      rw [if_neg hne, if_pos rfl] at hb
      exact hb.elim
    · have := hs.ext.good.dj _ _ _ h h'
      subst this
      unfold mergeS at hb'
      rw [if_neg hne, if_pos rfl] at hb'
      exact hb'.elim
    · rw [e, e']
  · intro v b hb hlt
    rcases back v b hb with h | ⟨e, h⟩
    · exact hs.ext.old v b h hlt
    · exact absurd (hs.ext.old t b h hlt) (hloc b)
  · intro b hb
    exact sub 0 (fun e => h0 e.symm) b (hs.ext.grow0 b hb)
  · intro x hx
    obtain ⟨h1, T, h2⟩ := hs.hs x (picks_mem hH x hx)
    exact ⟨sub x.t (noTag_ok n1 x.t (List.mem_map.2 ⟨x, hx, rfl⟩)) x.b h1, T, h2⟩
  · intro f hf'
    cases hf' with
    | head =>
      exact q.st (fun b hb hl => ⟨rfl, subt b hb⟩) (fun b hb hl => ⟨rfl, sub 0 (fun e => h0 e.symm) b hb⟩) (hs.bs _ (List.mem_of_getElem? hf))
    | tail _ hf' =>
      have := hs.bs f (picks_mem hB f hf')
      exact f.q.st (fun b hb hl => ⟨rfl, sub f.t (noTag_ok n2 f.t (List.mem_map.2 ⟨f, hf', rfl⟩)) b hb⟩) (fun b hb hl => ⟨rfl, sub 0 (fun e => h0 e.symm) b hb⟩) this


theorem GoF.bsplit {fuel : Nat} {listed : List Bool} {t : Nat} {e : Bool} (h : look t env = some (.bool e)) (ht : e = true → GoF C ops fin H0 B0 k fuel listed ((t, .bool true) :: env) H B o) (hf : e = false → GoF C ops fin H0 B0 k fuel listed ((t, .bool false) :: env) H B o') :
    GoF C ops fin H0 B0 k fuel listed env H B (if e = true then o else o') := by
  have key : ∀ (b : Bool), e = b → ∀ l, EnvOk env l → EnvOk ((t, .bool b) :: env) l := by
    intro b hb l he u v hu
    simp only [look] at hu
    split at hu
    · rename_i hbb
      have := Nat.eq_of_beq_eq_true hbb
      subst this
      cases hu
      rw [← hb]
      exact he u _ h
    · exact he u v hu
  cases e with
  | true => rw [if_pos rfl]; exact fun r hr l w S hs => ht rfl r hr l w S ⟨hs.wf, hs.ext, hs.len, key true rfl l hs.env, hs.hs, hs.bs⟩
  | false => rw [if_neg (by decide)]; exact fun r hr l w S hs => hf rfl r hr l w S ⟨hs.wf, hs.ext, hs.len, key false rfl l hs.env, hs.hs, hs.bs⟩


theorem GoF.reval {fuel : Nat} {listed : List Bool} {t : Nat} {v v' : Value} (h : look t env = some v) (e : v = v') (g : GoF C ops fin H0 B0 k fuel listed ((t, v') :: env) H B o) : GoF C ops fin H0 B0 k fuel listed env H B o :=
  fun r hr l w S hs => g r hr l w S ⟨hs.wf, hs.ext, hs.len, fun u x hu => by
    simp only [look] at hu
    split at hu
    · rename_i hb
      have := Nat.eq_of_beq_eq_true hb
      subst this
      cases hu
      rw [← e]
      exact hs.env u _ h
    · exact hs.env u x hu, hs.hs, hs.bs⟩

theorem GoF.own2rd {fuel : Nat} {listed : List Bool} {α : Type} {K : Kd α} {t : Nat} {A : Option Addr} {cc : Nat} {xs : List α} (j : Nat) (hf : B[j]? = some (Ow t K A cc xs)) (g : GoF C ops fin H0 B0 k fuel listed env H (B.set j (Rd t K A cc xs)) o) : GoF C ops fin H0 B0 k fuel listed env H B o :=
  fun r hr l w S hs => g r hr l w S ⟨hs.wf, hs.ext, hs.len, hs.env, hs.hs, fun f hf' => by
    obtain ⟨m, hm⟩ := List.mem_iff_getElem?.1 hf'
    by_cases e : j = m
    · subst e
      have hlt : j < B.length := (List.getElem?_eq_some_iff.1 hf).1
      rw [List.getElem?_set_self hlt] at hm
      cases hm
      exact RowOwn.rowIn (hs.bs _ (List.mem_of_getElem? hf))
    · rw [List.getElem?_set_ne e] at hm
      exact hs.bs f (List.mem_of_getElem? hm)⟩

theorem GoF.view {fuel : Nat} {listed : List Bool} {α : Type} {K : Kd α} {t : Nat} {A : Option Addr} {cc : Nat} {xs : List α} (j : Nat) (hf : B[j]? = some (Ow t K A cc xs)) (g : GoF C ops fin H0 B0 k fuel listed env H (B ++ [Rd t K A cc xs]) o) : GoF C ops fin H0 B0 k fuel listed env H B o :=
  fun r hr l w S hs => g r hr l w S ⟨hs.wf, hs.ext, hs.len, hs.env, hs.hs, fun f hf' => by
    rcases List.mem_append.1 hf' with h | h
    · exact hs.bs f h
    · simp at h; subst h; exact RowOwn.rowIn (hs.bs _ (List.mem_of_getElem? hf))⟩


theorem GoF.rebox {fuel : Nat} {listed : List Bool} {j t b : Nat} {cs cs' : List Value} (h : H[j]? = some ⟨t, b, cs⟩) (e : cs = cs') (g : GoF C ops fin H0 B0 k fuel listed env (H.set j ⟨t, b, cs'⟩) B o) : GoF C ops fin H0 B0 k fuel listed env H B o := by
  subst e
  have : H.set j ⟨t, b, cs⟩ = H := by
    apply List.ext_getElem?
    intro m
    by_cases e : j = m
    · subst e
      have hlt : j < H.length := (List.getElem?_eq_some_iff.1 h).1
      rw [List.getElem?_set_self hlt, h]
    · rw [List.getElem?_set_ne e]
  rwa [this] at g


theorem GoF.shape {fuel : Nat} {listed : List Bool} {ks : List Nat} (he : looks ks env = some env') (hH : H = H') (hB : B = B') (g : GoF C ops fin H0 B0 k fuel listed env' H' B' o) : GoF C ops fin H0 B0 k fuel listed env H B o := by
  subst hH; subst hB
  exact fun r hr l w S hs => g r hr l w S ⟨hs.wf, hs.ext, hs.len, fun t v h => hs.env t v (looks_ok he t v h), hs.hs, hs.bs⟩


theorem GoF.retagB {fuel : Nat} {listed : List Bool} {t u : Nat} {j b : Nat} {cs : List Value} {hk bk : List Nat} (htu : Nat.beq t u = false) (ht0 : Nat.beq t 0 = false) (hl : Nat.blt C.np t = true)
    (hf : H[j]? = some ⟨t, b, cs⟩) (hH : picks H hk = some H') (hB : picks B bk = some B') (n1 : noTag t (H'.map (·.t)) = true) (n2 : noTag t (B'.map (·.t)) = true)
    (g : GoF C ops fin H0 B0 k fuel listed env (⟨u, b, cs⟩ :: H') B' o) : GoF C ops fin H0 B0 k fuel listed env H B o := by
  -- the block as a fact
  let q : Q := { p := fun w T _ => T b ∧ ∃ ty, w.heap[b]? = some (.cells ⟨cs⟩ ty (0, 0))
                 st := fun hT _ ⟨h1, ty, h2⟩ => by
                   have hlt := (Array.getElem?_eq_some_iff.1 h2).1
                   exact ⟨(hT b h1 hlt).2, ty, by rw [(hT b h1 hlt).1]; exact h2⟩ }
  have g1 : GoF C ops fin H0 B0 k fuel listed env H' (⟨u, q⟩ :: B') o := fun r hr l w S hs => g r hr l w S ⟨hs.wf, hs.ext, hs.len, hs.env, fun x hx => by
      cases hx with
      | head => exact hs.bs ⟨u, q⟩ (by simp)
      | tail _ hx => exact hs.hs x hx, fun f hf => hs.bs f (by simp [hf])⟩
  have hkB : picks (⟨t, q⟩ :: B) (bk.map (· + 1)) = some B' := by
    have : ∀ (bk : List Nat) (l : List Fct), picks B bk = some l → picks (⟨t, q⟩ :: B) (bk.map (· + 1)) = some l := by
      intro bk
      induction bk with
      | nil => intro l h; exact h
      | cons x r ih =>
        intro l h
        simp only [picks, List.map_cons, List.getElem?_cons_succ] at h ⊢
        split at h
        · rename_i y hy
          split at h
          · rename_i z hz
            rw [ih z hz]; exact h
          · cases h
        · cases h
    exact this bk B' hB
  have g2 := GoF.retag (C := C) (env := env) (H := H) (B := ⟨t, q⟩ :: B) (j := 0) htu ht0 hl rfl hH hkB n1 n2 g1
  exact fun r hr l w S hs => g2 r hr l w S ⟨hs.wf, hs.ext, hs.len, hs.env, hs.hs, fun f hf' => by
    cases hf' with
    | head => exact hs.hs _ (List.mem_of_getElem? hf)
    | tail _ hf' => exact hs.bs f hf'⟩

end
end Go.GL
