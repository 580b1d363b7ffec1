import Derived.Test.YtmpockelhphkdaaG11
import Derived.ProofKit
/-! Reading what comes in: from the row's reading to a kind's relation. -/
set_option linter.unusedVariables false
set_option linter.unusedSimpArgs false
namespace Go.GL
open Go

/-- What a measure of a reading owes. -/
structure BulkOk {H : Type} (bulk : DataW H → Nat) : Prop where
  pos : ∀ d, 1 ≤ bulk d
  str : ∀ l, l.length + 1 ≤ bulk (.lit (.string l))
  slice : ∀ es sp, (es.map bulk).sum + 1 ≤ bulk (.slice es sp)
  agg : ∀ es, (es.map bulk).sum + 1 ≤ bulk (.agg es)

/-- A type whose readings are of a kind. -/
structure Rdr (P : Program) (t : TypeId) {α : Type} (K : Kd α) (wf : α → Prop) (ms : α → Nat) : Prop where
  sz : P.cellsOf t = K.sz
  op : ∀ {H : Type} {enc : TypeId × Value → H} {w : World} {fuel : Nat} {cs : List Value} {x : DataW H × List MemPlace}, DataW.trod enc P w 0 (fun _ => true) true fuel t cs = some x →
    (x.1.weights P t).all (· ≤ reachBytes) = true → ∃ a, K.rel w (fun b => b < w.heap.size) a cs ∧ wf a ∧ ∀ bulk : DataW H → Nat, BulkOk bulk → ms a ≤ bulk x.1

section
variable {P : Program} {t : TypeId}

theorem Rdr.int {k : IntKind} (hu : P.underlying t = some (.int k)) (hs : P.cellsOf t = 1) : Rdr P t (Kd.int k) (fun n => (Lit.int k n).wf = true) (fun _ => 1) :=
  ⟨hs, fun h _ => by
    obtain ⟨n, rfl, rfl, hw⟩ := DataW.trod_int hu h
    exact ⟨n, rfl, hw, fun b hb => hb.pos _⟩⟩

theorem Rdr.u8 (hu : P.underlying t = some (.int .u8)) (hs : P.cellsOf t = 1) : Rdr P t Kd.u8 (fun _ => True) (fun _ => 1) :=
  ⟨hs, fun h _ => by
    obtain ⟨n, rfl, rfl, hw⟩ := DataW.trod_int hu h
    have hr : 0 ≤ n ∧ n ≤ 255 := by
      simp [Lit.wf, IntKind.min, IntKind.max, IntKind.bits, IntKind.signed] at hw
      omega
    refine ⟨UInt8.ofNat n.toNat, ?_, trivial, fun b hb => hb.pos _⟩
    show [_] = [_]
    have : ((UInt8.ofNat n.toNat).toNat : Int) = n := by
      simp
      omega
    rw [this]⟩

theorem Rdr.bool (hu : P.underlying t = some .bool) (hs : P.cellsOf t = 1) : Rdr P t Kd.bool (fun _ => True) (fun _ => 1) :=
  ⟨hs, fun h _ => by
    obtain ⟨b, rfl, rfl⟩ := DataW.trod_bool hu h
    exact ⟨b, rfl, trivial, fun b hb => hb.pos _⟩⟩

theorem Rdr.str (hu : P.underlying t = some .string) (hs : P.cellsOf t = 1) : Rdr P t Kd.str (fun l => l.length ≤ reachBytes) (fun l => l.length + 1) :=
  ⟨hs, fun h hw => by
    obtain ⟨s, rfl, rfl, hm⟩ := DataW.trod_string hu h
    refine ⟨s.data.toList, rfl, ?_, fun b hb => hb.str _⟩
    simpa [DataW.weights] using hw⟩

theorem rows_op {α : Type} {K : Kd α} {wf : α → Prop} {ms : α → Nat} {e : TypeId} (r : Rdr P e K wf ms) {H : Type} {enc : TypeId × Value → H} {w : World} {n : Nat} {a : Addr} :
    ∀ (els : List (DataW H × List MemPlace)) (i0 : Nat), (∀ i, i < els.length → (w.cells? 0 (a.add ((i0 + i) * P.cellsOf e)) (P.cellsOf e)).bind (DataW.trod enc P w 0 (fun _ => true) true n e) = els[i]?) →
    (DataW.weightsAll P e (els.map (·.1))).all (· ≤ reachBytes) = true →
    ∃ xs vs, xs.length = els.length ∧ Elems K w (fun b => b < w.heap.size) xs vs ∧ (∀ j u, vs[j]? = some u → w.cell? (a.add (i0 * K.sz + j)) = some u) ∧ (∀ x ∈ xs, wf x) ∧
      ∀ bulk : DataW H → Nat, BulkOk bulk → (xs.map ms).sum ≤ ((els.map (·.1)).map bulk).sum
  | [], i0, _, _ => ⟨[], [], rfl, rfl, fun j u h => by simp at h, fun _ h => by simp at h, fun _ _ => by simp⟩
  | y :: els, i0, h, hw => by
    have h0 := h 0 (by simp)
    simp only [Nat.add_zero, List.getElem?_cons_zero] at h0
    obtain ⟨cs, hcs, htr⟩ := Option.bind_eq_some_iff.1 h0
    simp only [List.map_cons, DataW.weightsAll, List.all_append, Bool.and_eq_true] at hw
    obtain ⟨x, hx, hwf, hms⟩ := r.op htr hw.1
    obtain ⟨xs, vs, hl, hE, hc, hW, hB⟩ := rows_op r els (i0 + 1) (fun i hi => by
      have := h (i + 1) (by simpa using hi)
      simp only [List.getElem?_cons_succ] at this
      rw [← this]; congr 3; rw [show i0 + 1 + i = i0 + (i + 1) by omega]) hw.2
    obtain ⟨_, hlen, hcell⟩ := World.cells?_some hcs
    refine ⟨x :: xs, cs ++ vs, by simp [hl], ⟨cs, vs, rfl, hx, hE⟩, ?_, ?_, ?_⟩
    · intro j u hj
      rw [List.getElem?_append] at hj
      rw [r.sz] at hlen hcell
      split at hj
      · rename_i hlt
        rw [hlen] at hlt
        have := hcell j hlt
        rw [hj] at this
        rw [← this, Addr.add_add]
      · rename_i hge
        have := hc _ _ hj
        rw [← this]; congr 2
        rw [hlen] at hge ⊢
        rw [Nat.add_mul]; omega
    · intro z hz
      cases hz with
      | head => exact hwf
      | tail _ hz => exact hW z hz
    · intro bulk hb
      have := hms bulk hb
      have := hB bulk hb
      simp only [List.map_cons, List.sum_cons]
      omega

theorem cellsAt_of {w : World} {a : Addr} {vs : List Value} (h : ∀ j u, vs[j]? = some u → w.cell? (a.add j) = some u) : CellsAt w (fun b => b < w.heap.size) (some a) vs := by
  cases vs with
  | nil => exact .inl rfl
  | cons v vs =>
    right
    have h0 := h 0 v rfl
    obtain ⟨b, off, sp⟩ := a
    have e0 : (⟨b, off, sp⟩ : Addr).add 0 = ⟨b, off, sp⟩ := by simp [Addr.add]
    rw [e0] at h0
    unfold World.cell? at h0
    split at h0
    · rename_i c ty fz hb
      cases sp with
      | some k => simp at h0
      | none =>
        refine ⟨b, off, c, ty, fz, rfl, (Array.getElem?_eq_some_iff.1 hb).1, hb, fun j u hj => ?_⟩
        have := h j u hj
        rw [Addr.add_none] at this
        simp only [World.cell?] at this
        simp only at hb
        rw [hb] at this
        simpa using this
    · cases h0

theorem Rdr.slice {α : Type} {K : Kd α} {wf : α → Prop} {ms : α → Nat} {e : TypeId} (hu : P.underlying t = some (.slice e)) (hs : P.cellsOf t = 1) {n : Nat} (hb : P.bytesOf e = n) (r : Rdr P e K wf ms) :
    Rdr P t (Kd.slice K) (fun xs => xs.length * n ≤ reachBytes ∧ ∀ x ∈ xs, wf x) (fun xs => (xs.map ms).sum + 1) :=
  ⟨hs, fun {H enc w fuel cs x} h hw => by
    rcases DataW.trod_slice hu h with ⟨rfl, rfl⟩ | ⟨a, len, cap, elems, rest, m, _, rfl, rfl, _, hl, _, hlen, hel, hsp, _⟩
    · refine ⟨[], ⟨none, 0, rfl, Nat.le_refl _, [], rfl, .inl rfl⟩, ⟨by simp, fun _ h => by simp at h⟩, fun b hb => by simpa using hb.pos _⟩
    · simp only [DataW.weights, hu, List.all_cons, List.all_append, Bool.and_eq_true] at hw
      obtain ⟨hw1, hw2, _⟩ := hw
      obtain ⟨xs, vs, e1, e2, e3, e4, e5⟩ := rows_op (enc := enc) r elems 0 (fun i hi => by rw [Nat.zero_add]; exact hel i (hlen ▸ hi)) hw2
      refine ⟨xs, ⟨some a, cap, by rw [e1, hlen], ⟨by omega, vs, e2, cellsAt_of fun j u hj => by simpa using e3 j u hj⟩⟩, ⟨?_, e4⟩, fun b hb => ?_⟩
      · have : (elems.length + rest.length) * P.bytesOf e ≤ reachBytes := by simpa using hw1
        rw [hb] at this
        rw [e1]
        exact Nat.le_trans (Nat.mul_le_mul_right _ (by omega)) this
      · have := hb.slice (elems.map (·.1)) (rest.map (·.1))
        have := e5 b hb
        simp only at *
        omega⟩

/-- A struct's reading, field by field. -/
theorem chunk (cs : List Value) (off n m : Nat) (h : off + n = m) : cs.drop off = (cs.drop off).take n ++ cs.drop m := by
  subst h
  rw [← List.drop_drop, List.take_append_drop]

/-- The values that come in. -/
theorem Rdr.val {α : Type} {K : Kd α} {wf : α → Prop} {ms : α → Nat} (r : Rdr P t K wf ms) {H : Type} {enc : TypeId × Value → H} {w : World} {v : Value} {d : DataW H} {p : List MemPlace} (h : DataW.Trod enc P w 0 (fun _ => true) true t v d p)
    (hw : (d.weights P t).all (· ≤ reachBytes) = true) : ∃ a, K.rel w (fun b => b < w.heap.size) a v.cells.toList ∧ wf a ∧ ∀ bulk : DataW H → Nat, BulkOk bulk → ms a ≤ bulk d := by
  obtain ⟨fuel, h⟩ := h
  exact r.op h hw
end

theorem wf_i64 {n : Int} (h : (Lit.int .i64 n).wf = true) : -9223372036854775808 ≤ n ∧ n ≤ 9223372036854775807 := by
  simp [Lit.wf, IntKind.min, IntKind.max, IntKind.bits, IntKind.signed] at h; omega
theorem wf_u64 {n : Int} (h : (Lit.int .u64 n).wf = true) : 0 ≤ n ∧ n ≤ 18446744073709551615 := by
  simp [Lit.wf, IntKind.min, IntKind.max, IntKind.bits, IntKind.signed] at h; omega
theorem wf_u32 {n : Int} (h : (Lit.int .u32 n).wf = true) : 0 ≤ n ∧ n ≤ 4294967295 := by
  simp [Lit.wf, IntKind.min, IntKind.max, IntKind.bits, IntKind.signed] at h; omega

/-- The family a law starts with: everything is read only. -/
def allRead (w : World) : Fam := fun t b => t = 0 ∧ b < w.heap.size
theorem allRead_good (w : World) : Good w (allRead w) := ⟨fun _ _ h => h.2, fun _ _ _ h h' => h.1.trans h'.1.symm⟩

theorem below_of_ext {w w' : World} {S S' : Fam} (h : Ext w S [] w' S') : RowKit.Below w.heap.size w w' :=
  ⟨h.os, h.tape, h.out, h.size, fun k hk => h.same k hk (fun t ht => by cases ht)⟩

section
open RowKit WideShapes ChangeShapes
variable {H : Type} {enc : TypeId × Value → H} {P : Program}
theorem post_of_below {f : Func} {s : ChangeSpec} {apart fresh handsOn again : Bool} {W W' : World} {args : Array Value} {v : Value} {ds gs : List (DataW H)} {before pa pv : List MemPlace}
    (hW : DataW.Whole enc P f.params.toList s.vars apart W args.toList ds gs before)
    (hres : ∀ (b : Nat) (sp : Nat → Bool) (hd : Bool), DataW.TrodAll enc P W' b sp hd f.resultTypes.toList (v.resultList f.resultTypes.size) (s.fn H (ds ++ gs)).results [])
    (hargs : ∀ sp : Nat → Bool, (∀ p ∈ before, sp p.block = true) → DataW.TrodAll enc P W' 0 sp true f.params.toList args.toList (s.fn H (ds ++ gs)).args pa)
    (hvars : ∀ sp : Nat → Bool, (∀ p ∈ before, sp p.block = true) → DataW.TrodVars enc P W' sp s.vars (s.fn H (ds ++ gs)).vars pv)
    (hps : before = pa ++ pv) (hb : Below W.heap.size W W')
    (hok : ∀ (j : Nat) (t : TypeId) (r : Value), f.resultTypes[j]? = some t → (v.resultList f.resultTypes.size)[j]? = some r → Value.okWide P W' .any 0 t r) :
    s.post enc P f apart fresh handsOn again W args v W' := by
  have hlt : ∀ p ∈ before, p.block < W.heap.size := fun p hp => hW.lt p hp
  have hold : ∀ p ∈ before, (fun b => decide (b < W.heap.size)) p.block = true := fun p hp => by simpa using hlt p hp
  refine ⟨ds, gs, before, [], pa, pv, hW, hres _ _ _, hargs _ hold, hvars _ hold, World.keptBut_mono (fun p hp => ⟨hp, ?_⟩) (hb.frame (· ∈ before)), fun _ => ?_⟩
  · rw [hps, List.mem_append] at hp
    exact Or.inr hp
  · obtain ⟨_, _, _, _, _, hz, hn⟩ := hW
    refine ⟨hok, _, _, ([] ++ pa) ++ pv, ⟨[] ++ pa, pv, trodAll_append (hargs _ (fun _ _ => rfl)) (hres _ _ _), hvars _ (fun _ _ => rfl), rfl, ?_, ?_⟩, ?_⟩
    · intro b off hp
      have hin : MemPlace.cell b off ∈ before := by rw [hps]; simpa using hp
      rw [hb.frozen (hlt _ hin)]
      exact hz b off hin
    · intro ha
      have := hn ha
      rw [hps] at this
      simpa using this
    · intro p hp _
      rw [hps]
      simpa using hp
end
end Go.GL
