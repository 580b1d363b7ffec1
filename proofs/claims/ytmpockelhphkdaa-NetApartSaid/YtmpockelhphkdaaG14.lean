import Derived.Test.YtmpockelhphkdaaG13
/-! Walks by symbolic states: maps. A map is known as the list of its keys and values, in the order in which they came. -/
set_option linter.unusedSimpArgs false
set_option linter.unusedVariables false
namespace Go.GL
open Go

/-- What a type's keys are, and that the machine tells them apart. -/
structure Ky (P : Program) (kt : TypeId) (κ : Type) [DecidableEq κ] where
  enc : κ → Value
  eq : ∀ a b w, (Op.equal kt (enc a) (enc b)).run P w = .ok (decide (a = b)) w
  chk : ∀ a e w, (Instr.checkKey e 10000 kt (enc a)).run P w = .ok () w
  td : TypeDesc
  und : P.underlying kt = some td
  now : ∀ a b, Instr.sameNow td (enc a) (enc b) = none ∨ Instr.sameNow td (enc a) (enc b) = some (decide (a = b))
  same : ∀ a, Instr.sameBits 10000 (enc a) (enc a) = true

variable {P : Program} {kt : TypeId} {κ ν : Type} [DecidableEq κ]

/-- The entries are those of the list. -/
def Ents (K : Ky P kt κ) (ev : ν → Value) : List (κ × ν) → List MapEntry → Prop
  | [], es => es = []
  | (a, b) :: l, es => ∃ e r, es = e :: r ∧ e.key = K.enc a ∧ e.val = ev b ∧ Ents K ev l r
def fnd (ev : ν → Value) (k : κ) : List (κ × ν) → Nat → Option (Nat × Value)
  | [], _ => none
  | (a, b) :: l, i => if k = a then some (i, ev b) else fnd ev k l (i + 1)
/-- What a key has. -/
def getA (k : κ) : List (κ × ν) → Option ν
  | [] => none
  | (a, b) :: l => if k = a then some b else getA k l
/-- A key is given something. -/
def putA (k : κ) (v : ν) : List (κ × ν) → List (κ × ν)
  | [] => [(k, v)]
  | (a, b) :: l => if k = a then (k, v) :: l else (a, b) :: putA k v l

theorem findNow_ok (K : Ky P kt κ) (ev : ν → Value) (k : κ) : ∀ (l : List (κ × ν)) (es : List MapEntry) (i : Nat), Ents K ev l es → Instr.findNow K.td (K.enc k) es i = none ∨ Instr.findNow K.td (K.enc k) es i = some (fnd ev k l i)
  | [], es, i, h => by cases h; exact .inr rfl
  | (a, b) :: l, es, i, h => by
    obtain ⟨e, r, rfl, hk, hv, h⟩ := h
    unfold Instr.findNow
    rw [hk]
    rcases K.now k a with h1 | h1
    · rw [h1]; exact .inl rfl
    · rw [h1]
      unfold fnd
      by_cases hka : k = a
      · rw [decide_eq_true hka, if_pos hka, hv]; exact .inr rfl
      · rw [decide_eq_false hka, if_neg hka]
        exact findNow_ok K ev k l r (i + 1) h
theorem findAsking_ok (K : Ky P kt κ) (ev : ν → Value) (k : κ) (w : World) : ∀ (l : List (κ × ν)) (es : List MapEntry) (i : Nat), Ents K ev l es → (Instr.findAsking kt (K.enc k) es i).run P w = .ok (fnd ev k l i) w
  | [], es, i, h => by cases h; rfl
  | (a, b) :: l, es, i, h => by
    obtain ⟨e, r, rfl, hk, hv, h⟩ := h
    unfold Instr.findAsking fnd
    have := K.eq k a w
    by_cases hka : k = a
    · simp [hk, hka, K.eq, hv]
    · have ih := findAsking_ok K ev k w l r (i + 1) h
      simp [hk, hka, K.eq, ih]
theorem findKey_ok (K : Ky P kt κ) (ev : ν → Value) (k : κ) (w : World) (l : List (κ × ν)) (es : List MapEntry) (h : Ents K ev l es) : (Instr.findKey kt (K.enc k) es).run P w = .ok (fnd ev k l 0) w := by
  unfold Instr.findKey
  rcases findNow_ok K ev k l es 0 h with h1 | h1
  · simp [run_underlying K.und, h1, findAsking_ok K ev k w l es 0 h]
  · simp [run_underlying K.und, h1]
theorem fnd_get (ev : ν → Value) (k : κ) : ∀ (l : List (κ × ν)) (i : Nat), (fnd ev k l i).map (·.2) = (getA k l).map ev
  | [], i => rfl
  | (a, b) :: l, i => by
    unfold fnd getA
    split
    · rfl
    · exact fnd_get ev k l (i + 1)

/-- The map that is told as a row is (its address, a number that says nothing). -/
def mA (A : Option Addr) : Option Nat := A.map (·.block)
/-- The entries' stamps: each once, all below the clock. -/
def Brn (es : Array MapEntry) (ck : Nat) : Prop := (∀ x ∈ es.toList, x.born < ck) ∧ (es.toList.map (·.born)).Nodup
/-- A map of one's own. -/
def MapOwn (K : Ky P kt κ) (ev : ν → Value) (w : World) (T : Nat → Prop) (A : Option Addr) (l : List (κ × ν)) : Prop :=
  ∃ b, A = some ⟨b, 0, none⟩ ∧ T b ∧ ∃ es ck, w.heap[b]? = some (.map es ck) ∧ Ents K ev l es.toList ∧ Brn es ck
def Q.mp (K : Ky P kt κ) (ev : ν → Value) (A : Option Addr) (l : List (κ × ν)) : Q where
  p := fun w T R => MapOwn K ev w T A l
  st := fun hT _ ⟨b, h0, h1, es, ck, h2, h3⟩ => by
    have hb := (Array.getElem?_eq_some_iff.1 h2).1
    obtain ⟨e, t⟩ := hT _ h1 hb
    exact ⟨b, h0, t, es, ck, e ▸ h2, h3⟩
abbrev Mp (t : Nat) (K : Ky P kt κ) (ev : ν → Value) (A : Option Addr) (c : Nat) (l : List (κ × ν)) : Fct := ⟨t, Q.mp K ev A l⟩

theorem run_getO {w : World} {A : Nat} {es : Array MapEntry} {ck : Nat} (h : w.heap[A]? = some (.map es ck)) : (getObj A).run P w = .ok (.map es ck) w := by
  simp [getObj, Sem.run, h]
theorem run_setO {w : World} {A : Nat} {es : Array MapEntry} {ck : Nat} {y : Obj} (h : w.heap[A]? = some (.map es ck)) : (setObj A y).run P w = .ok () { w with heap := w.heap.setIfInBounds A y } := by
  simp [setObj, Sem.run, h]
theorem only_map {w : World} {A : Nat} (y : Obj) : Only w { w with heap := w.heap.setIfInBounds A y } A :=
  ⟨by simp, fun k _ hk => by simp [Array.getElem?_setIfInBounds, Ne.symm hk], rfl, rfl, rfl⟩
/-- What an update makes of the entries. -/
theorem fnd_none (ev : ν → Value) (k : κ) (v : ν) : ∀ (l : List (κ × ν)) (i : Nat), fnd ev k l i = none → putA k v l = l ++ [(k, v)]
  | [], i, _ => rfl
  | (a, b) :: l, i, h => by
    unfold fnd at h
    split at h
    · cases h
    · rename_i hne
      unfold putA
      rw [if_neg hne, fnd_none ev k v l (i + 1) h]
      rfl
theorem Ents.app (K : Ky P kt κ) (ev : ν → Value) (k : κ) (v : ν) (e : MapEntry) (hk : e.key = K.enc k) (hv : e.val = ev v) : ∀ (l : List (κ × ν)) (es : List MapEntry), Ents K ev l es → Ents K ev (l ++ [(k, v)]) (es ++ [e])
  | [], es, h => by cases h; exact ⟨e, [], rfl, hk, hv, rfl⟩
  | (a, b) :: l, es, h => by
    obtain ⟨e', r, rfl, h1, h2, h3⟩ := h
    exact ⟨e', r ++ [e], rfl, h1, h2, Ents.app K ev k v e hk hv l r h3⟩
theorem fnd_some (K : Ky P kt κ) (ev : ν → Value) (k : κ) (v : ν) (f : MapEntry → MapEntry) (hk : ∀ e, (f e).key = K.enc k) (hv : ∀ e, (f e).val = ev v) : ∀ (l : List (κ × ν)) (es : List MapEntry) (i ix : Nat) (vv : Value), Ents K ev l es → fnd ev k l i = some (ix, vv) →
    i ≤ ix ∧ (∃ e, es[ix - i]? = some e ∧ e.key = K.enc k) ∧ Ents K ev (putA k v l) (es.modify (ix - i) f)
  | [], es, i, ix, vv, h, hf => by cases hf
  | (a, b) :: l, es, i, ix, vv, h, hf => by
    obtain ⟨e', r, rfl, h1, h2, h3⟩ := h
    unfold fnd at hf
    unfold putA
    split at hf
    · rename_i hka
      cases hf
      subst hka
      rw [if_pos rfl, Nat.sub_self]
      exact ⟨Nat.le_refl _, ⟨e', rfl, h1⟩, f e', r, by simp, hk e', hv e', h3⟩
    · rename_i hne
      rw [if_neg hne]
      obtain ⟨q1, ⟨e, q2, q3⟩, q4⟩ := fnd_some K ev k v f hk hv l r (i + 1) ix vv h3 hf
      have e1 : ix - i = (ix - (i + 1)) + 1 := by omega
      rw [e1]
      exact ⟨by omega, ⟨e, by simpa using q2, q3⟩, e', r.modify (ix - (i + 1)) f, by simp, h1, h2, q4⟩

section
variable {ρ : Type} {C : Cx ρ} {env env' : Env} {H H' : List Bx} {B B' : List Fct} {k : List Item} {o : Option ρ} {ops : Array Oper} {rest : List Nat} {i : Nat} {G : Env → List Bx → List Fct → Option ρ → Prop}

/-- make(map[k]v). -/
theorem GoO.mkMap {t : TypeId} {d : Option Tmp} {ty : TypeId} (hop : opAt ops i env = some (.makeMap t none, d, ty)) (tg : Nat) (K : Ky C.P kt κ) (ev : ν → Value)
    (env' : Option Addr → Nat → Env) (hput : ∀ A c, putE C.n env d (.map (mA A)) = some (env' A c)) (g : ∀ A c, G (env' A c) H (Mp tg K ev A c [] :: B) o) : OpTo C ops i env H B o G := by
  refine GoO.op hop fun l w S hsat r hr => ?_
  have ha : Alloc w { w with heap := w.heap.push (.map #[] 0) } (.map #[] 0) := ⟨rfl, rfl, rfl, rfl⟩
  refine ⟨.map (some w.heap.size), { w with heap := w.heap.push (.map #[] 0) }, .inl fun q hq _ => ?_, env' (some ⟨w.heap.size, 0, none⟩) 0, H, _, addS S tg w.heap.size, hput (some ⟨w.heap.size, 0, none⟩) 0, fun l' h2 h1 => ?_, g (some ⟨w.heap.size, 0, none⟩) 0⟩
  · simp [execOp, hq, Instr.makeMap]
  · have := hsat.alloc ha tg h1 h2
    refine ⟨this.wf, this.ext, h2, h1, this.hs, ?_⟩
    intro y hy
    cases hy with
    | head => exact ⟨w.heap.size, rfl, .inr ⟨rfl, rfl⟩, #[], 0, ha.new, rfl, by simp [Brn]⟩
    | tail _ hy => exact this.bs y hy

/-- m[k], v, ok := m[k]. -/
theorem GoO.mapLk {t vt : TypeId} {x y : Operand} {ok : Bool} {d : Option Tmp} {ty : TypeId} (hop : opAt ops i env = some (.lookup t x y ok, d, ty)) (hu : C.P.underlying t = some (.map kt vt))
    {K : Ky C.P kt κ} {ev : ν → Value} {A : Option Addr} {c tg : Nat} {l : List (κ × ν)} {key : κ} (hx : evalE env x = some (.map (mA A))) (hy : evalE env y = some (K.enc key))
    {j : Nat} (hf : B[j]? = some (Mp tg K ev A c l)) (z : ν) (hz : ∀ w, (zeroValue vt).run C.P w = .ok (ev z) w)
    (hput : putE C.n env d (if ok = true then .tuple #[ev ((getA key l).getD z), .bool (getA key l).isSome] else ev ((getA key l).getD z)) = some env') (g : G env' H B o) : OpTo C ops i env H B o G := by
  refine GoO.op hop fun lc w S hsat r hr => ?_
  obtain ⟨b, hA, hT, es, ck, hb, hes, hbrn⟩ := hsat.bs _ (List.mem_of_getElem? hf)
  subst hA
  have hx : evalE env x = some (.map (some b)) := hx
  have hxx := evalE_ok hsat.env hx
  have hyy := evalE_ok hsat.env hy
  have hfk := findKey_ok K ev key w l es.toList hes
  have hg := fnd_get ev key l 0
  refine ⟨_, w, .inl fun q hq _ => ?_, env', H, B, S, hput, fun l' h2 h1 => ⟨hsat.wf, hsat.ext, h2, h1, hsat.hs, hsat.bs⟩, g⟩
  cases hfd : fnd ev key l 0 with
  | none =>
    rw [hfd] at hfk hg
    have hga : getA key l = none := by
      cases hga : getA key l with
      | none => rfl
      | some b => rw [hga] at hg; simp at hg
    simp [execOp, hq, hxx, hyy, Instr.lookup, run_underlying hu, run_getO hb, K.chk, hfk, hz, hga]
  | some p =>
    rw [hfd] at hfk hg
    obtain ⟨ix, vv⟩ := p
    cases hga : getA key l with
    | none => rw [hga] at hg; simp at hg
    | some b =>
      rw [hga] at hg
      simp at hg
      simp [execOp, hq, hxx, hyy, Instr.lookup, run_underlying hu, run_getO hb, K.chk, hfk, hg]
  
/-- m[k] = v, in a map of one's own. -/
theorem GoO.mapUp {t vt : TypeId} {x y u : Operand} {d : Option Tmp} {ty : TypeId} (hop : opAt ops i env = some (.mapUpdate t x y u, d, ty)) (hu : C.P.underlying t = some (.map kt vt))
    {K : Ky C.P kt κ} {ev : ν → Value} {A : Option Addr} {c tg : Nat} {l : List (κ × ν)} {key : κ} {v : ν} (hx : evalE env x = some (.map (mA A))) (hy : evalE env y = some (K.enc key)) (hv : evalE env u = some (ev v))
    {j : Nat} (hf : B[j]? = some (Mp tg K ev A c l))
    (hm : mineB C.M C.np tg = true) (hH : noTag tg (H.map (·.t)) = true) (hB : noTag tg ((B.eraseIdx j).map (·.t)) = true)
    (hput : putE C.n env d undef = some env') (g : G env' H (B.set j (Mp tg K ev A c (putA key v l))) o) : OpTo C ops i env H B o G := by
  refine GoO.op hop fun lc w S hsat r hr => ?_
  obtain ⟨b, hA, hT, es, ck, hb, hes, hbrn⟩ := hsat.bs _ (List.mem_of_getElem? hf)
  subst hA
  have hx : evalE env x = some (.map (some b)) := hx
  have hT : S tg b := hT
  have hxx := evalE_ok hsat.env hx
  have hyy := evalE_ok hsat.env hy
  have hvv := evalE_ok hsat.env hv
  have hfk := findKey_ok K ev key w l es.toList hes
  obtain ⟨hmine, h0⟩ := mineB_ok hsat.wf hm
  have key1 : ∃ es' ck', (∀ q : Oper, q.op = .mapUpdate t x y u → q.type = ty → (execOp (Act.eval ⟨⟨lc⟩, []⟩) q).run C.P w = .ok .skip { w with heap := w.heap.setIfInBounds b (.map es' ck') }) ∧ Ents K ev (putA key v l) es'.toList ∧ Brn es' ck' := by
    cases hfd : fnd ev key l 0 with
    | none =>
      rw [hfd] at hfk
      refine ⟨es.push { key := K.enc key, val := ev v, born := ck }, ck + 1, fun q hq _ => ?_, ?_⟩
      · simp [execOp, hq, hxx, hyy, hvv, Instr.mapUpdate, run_underlying hu, run_getO hb, K.chk, hfk, run_setO hb]
      · rw [fnd_none ev key v l 0 hfd, Array.toList_push]
        exact ⟨Ents.app K ev key v _ rfl rfl l es.toList hes, by
          refine ⟨fun x hx => ?_, ?_⟩
          · simp only [Array.toList_push, List.mem_append, List.mem_singleton] at hx
            rcases hx with hx | hx
            · have := hbrn.1 x hx; omega
            · subst hx; exact Nat.lt_succ_self _
          · rw [Array.toList_push, List.map_append, List.nodup_append]
            refine ⟨hbrn.2, by simp, fun a ha b hb' => ?_⟩
            obtain ⟨x, hx, rfl⟩ := List.mem_map.1 ha
            have := hbrn.1 x hx
            simp at hb'
            omega⟩
    | some p =>
      obtain ⟨ix, vv⟩ := p
      rw [hfd] at hfk
      obtain ⟨_, ⟨e, q2, q3⟩, q4⟩ := fnd_some K ev key v (fun e => { e with key := K.enc key, val := ev v }) (fun _ => rfl) (fun _ => rfl) l es.toList 0 ix vv hes hfd
      rw [Nat.sub_zero] at q2 q4
      have q2' : es[ix]? = some e := by simpa using q2
      have hbo : (es.modify ix fun e => { e with key := K.enc key, val := ev v }).toList.map (·.born) = es.toList.map (·.born) := by
        apply List.ext_getElem?
        intro m
        simp only [Array.toList_modify, List.getElem?_map, List.getElem?_modify]
        split <;> cases es.toList[m]? <;> rfl
      refine ⟨es.modify ix fun e => { e with key := K.enc key, val := ev v }, ck, fun q hq _ => ?_, by simpa using q4, fun x hx => ?_, by rw [hbo]; exact hbrn.2⟩
      rotate_left
      · have : x.born ∈ es.toList.map (·.born) := by rw [← hbo]; exact List.mem_map.2 ⟨x, hx, rfl⟩
        obtain ⟨y, hy, he⟩ := List.mem_map.1 this
        rw [← he]; exact hbrn.1 y hy
      simp [execOp, hq, hxx, hyy, hvv, Instr.mapUpdate, run_underlying hu, run_getO hb, K.chk, hfk, run_setO hb, Instr.keyThatStays, q2', q3, K.same]
  obtain ⟨es', ck', hrun, hes', hbrn'⟩ := key1
  have honly : Only w { w with heap := w.heap.setIfInBounds b (.map es' ck') } b := only_map _
  have hlt := (Array.getElem?_eq_some_iff.1 hb).1
  refine ⟨undef, { w with heap := w.heap.setIfInBounds b (.map es' ck') }, .inr ⟨hrun, rfl⟩, env', H, _, S, hput, fun l' h2 h1' => ⟨hsat.wf, honly.ext hsat.ext hT (hmine.lt hsat.ext hT), h2, h1', ?_, ?_⟩, g⟩
  · intro z hzz
    exact honly.bx hsat.ext.good hT (noTag_ok hH z.t (List.mem_map.2 ⟨z, hzz, rfl⟩)) (hsat.hs z hzz)
  · intro z hzz
    obtain ⟨m, hmz⟩ := List.mem_iff_getElem?.1 hzz
    by_cases hjm : j = m
    · subst hjm
      have hlt' : j < B.length := (List.getElem?_eq_some_iff.1 hf).1
      rw [List.getElem?_set_self hlt'] at hmz
      cases hmz
      exact ⟨b, rfl, hT, es', ck', by simp [Array.getElem?_setIfInBounds, hlt], hes', hbrn'⟩
    · rw [List.getElem?_set_ne hjm] at hmz
      have : z ∈ B.eraseIdx j := (List.mem_eraseIdx_iff_getElem?).2 ⟨m, fun e => hjm e.symm, hmz⟩
      exact honly.fct hsat.ext.good hT (noTag_ok hB z.t (List.mem_map.2 ⟨z, this, rfl⟩)) h0 (hsat.bs z (List.mem_of_getElem? hmz))
end
end Go.GL
