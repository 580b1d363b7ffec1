import Derived.Test.YtmpockelhphkdaaG1
import Derived.Laws.Sem
import Derived.Laws.Entries
import Derived.Laws.StructEq
import Derived.Laws.Slices
import Derived.Laws.Strings
import Derived.Laws.Tables
import Derived.Laws.Cells
import Derived.Laws.CopyRow
import Derived.Laws.AppendOwn
import Derived.Laws.MakeOwn
/-! Walks by symbolic states: operations that only compute, and loads and stores at known blocks. -/
set_option linter.unusedSimpArgs false
set_option linter.unusedVariables false
namespace Go.GL
open Go

def AllP : List Prop → Prop
  | [] => True
  | p :: r => p ∧ AllP r

theorem AllP.app {a b : List Prop} : AllP (a ++ b) ↔ AllP a ∧ AllP b := by
  induction a with
  | nil => simp [AllP]
  | cons p r ih => simp [AllP, ih, and_assoc]

/-- A text as its bytes. -/
def bs (l : List UInt8) : ByteArray := ⟨⟨l⟩⟩
theorem bs_size (l : List UInt8) : (bs l).size = l.length := rfl
theorem bs_toList (l : List UInt8) : (bs l).toList = l := by rw [ByteArray.toList_eq]; rfl
theorem bs_append (a b : List UInt8) : bs a ++ bs b = bs (a ++ b) := by
  apply ByteArray.ext
  simp [bs, ByteArray.data_append]
theorem bs_inj {a b : List UInt8} (h : bs a = bs b) : a = b := by
  have := congrArg ByteArray.toList h; rwa [bs_toList, bs_toList] at this

def i64max : Nat := 9223372036854775807

/-- A part of a struct that is at hand. -/
def exPart0 (P : Program) (t : TypeId) (cs : Array Value) (off : Nat) : Option Value :=
  match P.info? t with
  | none => none
  | some i => match P.underlying t with
    | some (.struct _) => some (.agg (cs.extract off (off + i.size)))
    | some (.array _ _) => some (.agg (cs.extract off (off + i.size)))
    | some _ => cs[off]?
    | none => none

theorem exPart0_ok {P : Program} {t : TypeId} {cs : Array Value} {off : Nat} {v : Value} (h : exPart0 P t cs off = some v) (w : World) : (part t cs off).run P w = .ok v w := by
  unfold exPart0 at h
  split at h
  · cases h
  · rename_i i hi
    split at h
    · rename_i hu; cases h; simp [part, isAgg, run_underlying hu, sizeOf, typeInfo, hi]
    · rename_i hu; cases h; simp [part, isAgg, run_underlying hu, sizeOf, typeInfo, hi]
    · rename_i d h1 h2 hu
      have : (isAgg t).run P w = .ok false w := by
        cases d <;> first | (simp [isAgg, run_underlying hu]; done) | (exact absurd rfl (h1 _)) | (exact absurd rfl (h2 _ _))
      simp [part, this, h]
    · cases h

/-- Are two values of a type, at hand, the same? -/
def eqFs (P : Program) (e : TypeId → Value → Value → Option Bool) (xs ys : Array Value) : List Field → Option Bool
  | [] => some true
  | f :: r => match f.name == "_" with
    | true => none
    | false => match exPart0 P f.type xs f.offset, exPart0 P f.type ys f.offset with
      | some a, some b => match e f.type a b, eqFs P e xs ys r with
        | some p, some q => some (p && q)
        | _, _ => none
      | _, _ => none
def eqV (P : Program) : Nat → TypeId → Value → Value → Option Bool
  | 0, _, _, _ => none
  | d + 1, t, x, y => match P.underlying t with
    | some .bool => match x, y with
      | .bool a, .bool b => some (a == b)
      | _, _ => none
    | some (.int _) => match x, y with
      | .int k a, .int k' b => match decide (k = k') with
        | true => some (a == b)
        | false => none
      | _, _ => none
    | some .string => match x, y with
      | .string ⟨⟨a⟩⟩, .string ⟨⟨b⟩⟩ => some (a == b)
      | _, _ => none
    | some (.struct fs) => match x, y with
      | .agg xs, .agg ys => match P.stoodInHeld t with
        | false => eqFs P (eqV P d) xs ys fs.toList
        | true => none
      | _, _ => none
    | _ => none

theorem bs_beq (a b : List UInt8) : ((⟨⟨a⟩⟩ : ByteArray) == ⟨⟨b⟩⟩) = (a == b) := by
  rw [beq_toListBytes]
  show ((bs a).toList == (bs b).toList) = _
  rw [bs_toList, bs_toList]

theorem eqFs_ok {P : Program} {e : TypeId → Value → Value → Option Bool} {d : Nat} (he : ∀ t x y r, e t x y = some r → ∀ w, (Op.equalIn d t x y).run P w = .ok r w) (xs ys : Array Value) :
    ∀ (fs : List Field) (r : Bool), eqFs P e xs ys fs = some r → ∀ w, (Op.eqFields d xs ys fs).run P w = .ok r w
  | [], r, h, w => by simp only [eqFs] at h; cases h; simp [Op.eqFields]
  | f :: fs, r, h, w => by
    simp only [eqFs] at h
    split at h
    · cases h
    · rename_i hn
      have hn : f.name ≠ "_" := by simpa using hn
      split at h
      · rename_i a b ha hb
        split at h
        · rename_i p q hp hq
          cases h
          have ih := eqFs_ok he xs ys fs q hq w
          simp only [Op.eqFields, hn, ne_eq, not_false_eq_true, if_true, Sem.run_bind, exPart0_ok ha w, exPart0_ok hb w, he _ _ _ _ hp w, Result.andThen_ok]
          cases p <;> simp [ih]
        · cases h
      · cases h

theorem eqV_ok {P : Program} (D : Nat) : ∀ (d : Nat) (t : TypeId) (x y : Value) (r : Bool), eqV P d t x y = some r → ∀ w, (Op.equalIn (d + D) t x y).run P w = .ok r w
  | 0, _, _, _, _, h, _ => by simp [eqV] at h
  | d + 1, t, x, y, r, h, w => by
    rw [show d + 1 + D = (d + D) + 1 by omega]
    simp only [eqV] at h
    split at h
    · rename_i hu
      split at h
      · cases h; simp [Op.equalIn, run_underlying hu]
      · cases h
    · rename_i hu
      split at h
      · split at h
        · rename_i hk; cases h
          have hk := of_decide_eq_true hk
          simp [Op.equalIn, run_underlying hu, hk]
        · cases h
      · cases h
    · rename_i hu
      split at h
      · cases h; simp [Op.equalIn, run_underlying hu, bs_beq]
      · cases h
    · rename_i fs hu
      split at h
      · rename_i xs ys
        split at h
        · rename_i hst
          have hf : P.fieldsOf t = fs := by simp [Program.fieldsOf, hu]
          rw [run_equalIn_struct w (d + D) t xs ys (by rw [hf]; exact hu) hst, hf]
          exact eqFs_ok (fun t x y r h w => eqV_ok D d t x y r h w) xs ys fs.toList r h w
        · cases h
      · cases h
    · cases h

def exBin (P : Program) (op : BinOp) (t : TypeId) (x y : Value) : Option (Value × List Prop) :=
  match x, y with
  | .int k a, .int k' b =>
    match op with
    | .shl => some (.int k (k.wrap (a * 2 ^ (min b.toNat k.bits))), [0 ≤ b])
    | .shr => some (.int k (a.fdiv (2 ^ (min b.toNat k.bits))), [0 ≤ b])
    | op =>
      match decide (k = k') with
      | false => none
      | true =>
        match op with
        | .add => some (.int k (k.wrap (a + b)), [])
        | .sub => some (.int k (k.wrap (a - b)), [])
        | .mul => some (.int k (k.wrap (a * b)), [])
        | .quo => some (.int k (k.wrap (a.tdiv b)), [b ≠ 0])
        | .rem => some (.int k (a.tmod b), [b ≠ 0])
        | .and => some (.int k (k.wrap (BitVec.ofInt k.bits a &&& BitVec.ofInt k.bits b).toNat), [])
        | .or => some (.int k (k.wrap (BitVec.ofInt k.bits a ||| BitVec.ofInt k.bits b).toNat), [])
        | .xor => some (.int k (k.wrap (BitVec.ofInt k.bits a ^^^ BitVec.ofInt k.bits b).toNat), [])
        | .andNot => some (.int k (k.wrap (BitVec.ofInt k.bits a &&& ~~~(BitVec.ofInt k.bits b)).toNat), [])
        | .eql => some (.bool (a == b), [])
        | .neq => some (.bool (a != b), [])
        | .lss => some (.bool (a < b), [])
        | .leq => some (.bool (a ≤ b), [])
        | .gtr => some (.bool (a > b), [])
        | .geq => some (.bool (a ≥ b), [])
        | _ => none
  | .string ⟨⟨a⟩⟩, .string ⟨⟨b⟩⟩ =>
    match op with
    | .add => some (.string (bs (a ++ b)), [a.length + b.length ≤ i64max])
    | .eql => some (.bool (a == b), [])
    | .neq => some (.bool (!(a == b)), [])
    | .lss => some (.bool (Op.bytesLess a b), [])
    | .leq => some (.bool (Op.bytesLess a b || a == b), [])
    | .gtr => some (.bool (!(Op.bytesLess a b || a == b)), [])
    | .geq => some (.bool (!(Op.bytesLess a b)), [])
    | _ => none
  | .bool a, .bool b =>
    match P.underlying t with
    | some .bool =>
      match op with
      | .eql => some (.bool (a == b), [])
      | .neq => some (.bool (!(a == b)), [])
      | _ => none
    | _ => none
  | .agg xs, .agg ys =>
    match P.eqGuardType P.depth t with
    | true => none
    | false => match eqV P 20 t (.agg xs) (.agg ys) with
      | some r => match op with
        | .eql => some (.bool r, [])
        | .neq => some (.bool (!r), [])
        | _ => none
      | none => none
  | .pointer none, .pointer none =>
    match P.underlying t with
    | some (.pointer _) =>
      match op with
      | .eql => some (.bool true, [])
      | .neq => some (.bool false, [])
      | _ => none
    | _ => none
  | .pointer (some _), .pointer none =>
    match P.underlying t with
    | some (.pointer _) =>
      match op with
      | .eql => some (.bool false, [])
      | .neq => some (.bool true, [])
      | _ => none
    | _ => none
  | _, _ => none

@[simp] theorem eqGuard_int (op : BinOp) (t : TypeId) (x y : Operand) (k k' : IntKind) (a b : Int) (P : Program) (w : World) :
    (eqGuard op t x y (.int k a) (.int k' b)).run P w = .ok () w := by cases op <;> simp [eqGuard]
@[simp] theorem eqGuard_str (op : BinOp) (t : TypeId) (x y : Operand) (a b : ByteArray) (P : Program) (w : World) :
    (eqGuard op t x y (.string a) (.string b)).run P w = .ok () w := by cases op <;> simp [eqGuard]
@[simp] theorem eqGuard_bool (op : BinOp) (t : TypeId) (x y : Operand) (a b : Bool) (P : Program) (w : World) :
    (eqGuard op t x y (.bool a) (.bool b)).run P w = .ok () w := by cases op <;> simp [eqGuard]
@[simp] theorem eqGuard_ptr (op : BinOp) (t : TypeId) (x y : Operand) (a b : Option Addr) (P : Program) (w : World) :
    (eqGuard op t x y (.pointer a) (.pointer b)).run P w = .ok () w := by cases op <;> simp [eqGuard]

theorem run_eqb {P : Program} {t : TypeId} {x y : Value} {r : Bool} {w : World} (h : ∀ d, (Op.equalIn (d + 1) t x y).run P w = .ok r w) : (Op.equal t x y).run P w = .ok r w := h 9999

theorem run_eq_bool {P : Program} {t : TypeId} (hu : P.underlying t = some .bool) (a b : Bool) (w : World) : (Op.equal t (.bool a) (.bool b)).run P w = .ok (a == b) w :=
  run_eqb fun d => by simp [Op.equalIn, run_underlying hu]
theorem run_eq_ptr00 {P : Program} {t e : TypeId} (hu : P.underlying t = some (.pointer e)) (w : World) : (Op.equal t (.pointer none) (.pointer none)).run P w = .ok true w :=
  run_eqb fun d => by simp [Op.equalIn, run_underlying hu]
theorem run_eq_ptr10 {P : Program} {t e : TypeId} (hu : P.underlying t = some (.pointer e)) (a : Addr) (w : World) : (Op.equal t (.pointer (some a)) (.pointer none)).run P w = .ok false w :=
  run_eqb fun d => by simp [Op.equalIn, run_underlying hu]

theorem exBin_ok {P : Program} {op : BinOp} {t : TypeId} {x y v : Value} {ps : List Prop} (h : exBin P op t x y = some (v, ps)) (hp : AllP ps)
    (ox oy : Operand) (w : World) : (do eqGuard op t ox oy x y; binOp op t x y : Sem Value).run P w = .ok v w := by
  unfold exBin at h
  split at h
  · rename_i k a k' b
    split at h
    · cases h; simp only [AllP] at hp; have h0 : ¬ b < 0 := by omega
      simp [binOp, Op.shift, h0]
    · cases h; simp only [AllP] at hp; have h0 : ¬ b < 0 := by omega
      simp [binOp, Op.shift, h0]
    · rename_i h1 h2
      split at h
      · cases h
      · rename_i hk
        have hk : k = k' := by simpa using hk
        subst hk
        split at h <;> cases h <;> simp only [AllP] at hp <;> simp [binOp, Op.intArith, Op.intDiv, Op.intBits, Op.intCmp, hp]
  · rename_i a b
    have ea : (ByteArray.mk (Array.mk a)).toList = a := bs_toList a
    have eb : (ByteArray.mk (Array.mk b)).toList = b := bs_toList b
    split at h <;> cases h <;> simp only [AllP] at hp
    · have hs : ((ByteArray.mk (Array.mk a)).size + (ByteArray.mk (Array.mk b)).size : Nat) = a.length + b.length := rfl
      have hh := bs_append a b
      unfold bs at hh ⊢
      have hle : ¬ (((a.length + b.length : Nat) : Int) > IntKind.i64.max) := by
        have := hp.1; unfold i64max at this; simp [IntKind.max, IntKind.signed, IntKind.bits]; omega
      simp only [Sem.run_bind, eqGuard_str, Result.andThen_ok, binOp, Op.stringOp, hs, if_neg hle, Sem.run_pure, hh]
    all_goals simp [binOp, Op.stringOp, ea, eb]
  · rename_i a b
    split at h
    · rename_i hu
      split at h <;> cases h
      all_goals simp [binOp, run_eq_bool hu]
    · cases h
  · rename_i xs ys
    split at h
    · cases h
    · rename_i hg
      split at h
      · rename_i r hr
        have he : (Op.equal t (.agg xs) (.agg ys)).run P w = .ok r w := eqV_ok 9980 20 t _ _ r hr w
        split at h <;> cases h <;> simp [eqGuard, hg, binOp, he]
      · cases h
  · split at h
    · rename_i hu
      split at h <;> cases h
      all_goals simp [binOp, run_eq_ptr00 hu]
    · cases h
  · split at h
    · rename_i hu
      split at h <;> cases h
      all_goals simp [binOp, run_eq_ptr10 hu]
    · cases h
  · cases h

def exUn (op : UnOp) (x : Value) : Option Value :=
  match op, x with
  | .neg, .int k n => some (.int k (k.wrap (0 - n)))
  | .xor, .int k n => some (.int k (k.wrap (BitVec.ofInt k.bits (if k.signed then -1 else k.max) ^^^ BitVec.ofInt k.bits n).toNat))
  | .not, .bool b => some (.bool (!b))
  | _, _ => none

theorem exUn_ok {P : Program} {op : UnOp} {x v : Value} (h : exUn op x = some v) (w : World) : (Op.unary op x).run P w = .ok v w := by
  unfold exUn at h
  split at h <;> cases h <;> simp [Op.unary, Op.intArith, Op.intBits]

def exConv (P : Program) (src dst : TypeId) (x : Value) : Option Value :=
  match x with
  | .int _ n => match P.underlying src, P.underlying dst with
    | some _, some (.int k) => some (.int k (k.wrap n))
    | _, _ => none
  | .string s => match P.underlying src, P.underlying dst with
    | some .string, some .string => some (.string s)
    | _, _ => none
  | _ => none

theorem exConv_ok {P : Program} {src dst : TypeId} {x v : Value} (h : exConv P src dst x = some v) (w : World) : (convert src dst x).run P w = .ok v w := by
  unfold exConv at h
  split at h
  · split at h
    · rename_i hs hd; cases h
      simp [convert, run_underlying hs, run_underlying hd, Conv.intToInt]
    · cases h
  · split at h
    · rename_i hs hd; cases h
      simp [convert, run_underlying hs, run_underlying hd]
    · cases h
  · cases h

/-- Is the type that of a struct or an array, and how many cells has it? -/
def aggSize (P : Program) (t : TypeId) : Option (Bool × Nat) :=
  match P.info? t with
  | none => none
  | some i => match P.underlying t with
    | some (.struct _) => some (true, i.size)
    | some (.array _ _) => some (true, i.size)
    | some _ => some (false, i.size)
    | none => none

theorem aggSize_ok {P : Program} {t : TypeId} {a : Bool} {n : Nat} (h : aggSize P t = some (a, n)) (w : World) :
    (isAgg t).run P w = .ok a w ∧ (sizeOf t).run P w = .ok n w := by
  unfold aggSize at h
  split at h
  · cases h
  · rename_i i hi
    split at h <;> cases h <;> rename_i hu <;>
      exact ⟨by simp [isAgg, run_underlying hu], by simp [sizeOf, typeInfo, hi]⟩

/-- A part of a struct. -/
def exPart (P : Program) (t : TypeId) (cs : Array Value) (off : Nat) : Option Value :=
  match aggSize P t with
  | some (true, n) => some (.agg (cs.extract off (off + n)))
  | some (false, _) => cs[off]?
  | none => none

theorem exPart_ok {P : Program} {t : TypeId} {cs : Array Value} {off : Nat} {v : Value} (h : exPart P t cs off = some v) (w : World) : (part t cs off).run P w = .ok v w := by
  unfold exPart at h
  split at h
  · rename_i n ha; cases h
    have := aggSize_ok ha w
    simp [part, this.1, this.2]
  · rename_i ha
    have := aggSize_ok ha w
    simp [part, this.1, h]
  · cases h

def exField (P : Program) (t : TypeId) (x : Value) (f : Nat) : Option Value :=
  match x with
  | .agg cs => match P.underlying t with
    | some (.struct fs) => match fs[f]? with
      | some q => exPart P q.type cs q.offset
      | none => none
    | _ => none
  | _ => none

theorem exField_ok {P : Program} {t : TypeId} {x v : Value} {f : Nat} (h : exField P t x f = some v) (w : World) : (Instr.field t x f).run P w = .ok v w := by
  unfold exField at h
  split at h
  · split at h
    · rename_i hu
      split at h
      · rename_i hf
        have := exPart_ok h w
        simp [Instr.field, run_underlying hu, hf, asAgg, this]
      · cases h
    · cases h
  · cases h

/-- Where a field lies: its offset in cells. -/
def fieldOff (P : Program) (t : TypeId) (f : Nat) : Option Nat :=
  match P.underlying t with
  | some (.struct fs) => match fs[f]? with
    | some q => match P.info? q.type with
      | some i => match Nat.beq i.size 0 with
        | true => none
        | false => some q.offset
      | none => none
    | none => none
  | _ => none

theorem fieldOff_ok {P : Program} {t : TypeId} {f n : Nat} (h : fieldOff P t f = some n) (a : Addr) (w : World) :
    (Instr.fieldAt t (.pointer (some a)) f).run P w = .ok (.pointer (some (a.add n))) w := by
  unfold fieldOff at h
  split at h
  · rename_i hu
    split at h
    · rename_i q hf
      split at h
      · rename_i i hi
        split at h
        · cases h
        · rename_i hb; cases h
          have : i.size ≠ 0 := fun e => by rw [e] at hb; cases hb
          simp [Instr.fieldAt, run_underlying hu, hf, Instr.sureAddr, fieldPlace, sizeOf, typeInfo, hi, this]
      · cases h
    · cases h
  · cases h

def exBuild (P : Program) (t : TypeId) (parts : List (Nat × Value)) : Option Value :=
  match P.info? t with
  | none => none
  | some i => match i.zero with
    | none => none
    | some z => match P.underlying t with
      | some (.struct fs) => match Instr.fill (fun j => match fs[j]? with
          | some f => match P.info? f.type with
            | some q => some (f.offset, q.size)
            | none => none
          | none => none) z.cells parts with
        | some cs => match fs.all (fun f => (P.info? f.type).isSome) with
          | true => some (.agg cs)
          | false => none
        | none => none
      | some (.array _ e) => match P.info? e with
        | some q => match Instr.fill (fun j => some (j * q.size, q.size)) z.cells parts with
          | some cs => some (.agg cs)
          | none => none
        | none => none
      | _ => none

theorem mapM_run {P : Program} {α β : Type} (f : α → Sem β) (g : α → β) (w : World) : ∀ (l : List α), (∀ x, x ∈ l → (f x).run P w = .ok (g x) w) → (l.mapM f).run P w = .ok (l.map g) w
  | [], _ => by simp
  | x :: r, h => by
    rw [List.mapM_cons]
    simp [h x (by simp), mapM_run f g w r (fun y hy => h y (by simp [hy]))]

theorem fill_congr {p q : Nat → Option (Nat × Nat)} (h : ∀ i, p i = q i) (cs : Array Value) (l : List (Nat × Value)) : Instr.fill p cs l = Instr.fill q cs l := by
  rw [show p = q from funext h]

theorem exBuild_ok {P : Program} {t : TypeId} {parts : List (Nat × Value)} {v : Value} (h : exBuild P t parts = some v) (w : World) : (Instr.build t parts.toArray).run P w = .ok v w := by
  unfold exBuild at h
  split at h
  · cases h
  · rename_i i hi
    split at h
    · cases h
    · rename_i z hz
      split at h
      · rename_i fs hu
        split at h
        · rename_i cs hf
          split at h
          · rename_i hall
            cases h
            have hmap : (fs.mapM (fun f => Prod.mk f.offset <$> sizeOf f.type) : Sem (Array (Nat × Nat))).run P w = .ok (fs.map fun f => (f.offset, P.cellsOf f.type)) w := by
              rw [Array.mapM_eq_mapM_toList, ← bind_pure_comp, Sem.run_bind]
              rw [mapM_run _ (fun f : Field => (f.offset, P.cellsOf f.type)) w]
              · simp only [Result.andThen_ok, Sem.run_pure]
                congr 1
                apply Array.ext'
                simp
              · intro f hf
                have : (P.info? f.type).isSome = true := by
                  have := Array.all_eq_true'.1 hall f (by simpa using hf)
                  exact this
                obtain ⟨q, hq⟩ := Option.isSome_iff_exists.1 this
                simp [sizeOf, typeInfo, hq, Program.cellsOf]
            have hcs : Instr.fill ((fs.map fun f => (f.offset, P.cellsOf f.type))[·]?) z.cells parts = some cs := by
              rw [← hf]
              refine fill_congr (fun j => ?_) _ _
              rw [Array.getElem?_map]
              cases hj : fs[j]? with
              | none => rfl
              | some f =>
                have : (P.info? f.type).isSome = true := by
                  have := Array.all_eq_true'.1 hall f (Array.mem_of_getElem? hj)
                  exact this
                obtain ⟨q, hq⟩ := Option.isSome_iff_exists.1 this
                simp [hq, Program.cellsOf]
            simp only [Array.getElem?_map] at hcs
            simp [Instr.build, zeroValue, typeInfo, hi, hz, run_underlying hu, hmap, hcs]
          · cases h
        · cases h
      · rename_i hu
        split at h
        · rename_i q hq
          split at h
          · rename_i cs hf
            cases h
            simp [Instr.build, zeroValue, sizeOf, typeInfo, hi, hz, hq, run_underlying hu, hf]
          · cases h
        · cases h
      · cases h

def exLen (P : Program) (t : TypeId) (x : Value) : Option Value :=
  match P.underlying t with
  | some .string => match x with
    | .string ⟨⟨s⟩⟩ => some (.int .i64 s.length)
    | _ => none
  | some (.array n _) => some (.int .i64 n)
  | some (.slice _) => match x with
    | .slice _ n _ => some (.int .i64 n)
    | _ => none
  | _ => none

theorem exLen_ok {P : Program} {t ty : TypeId} {x v : Value} {ts : Array TypeId} (ht : ts[0]? = some t) (h : exLen P t x = some v) (w : World) :
    (Builtin.len_ ts ty #[x]).run P w = .ok v w := by
  unfold exLen at h
  split at h
  · rename_i hu
    split at h
    · rename_i s; cases h
      have : (ByteArray.mk (Array.mk s)).size = s.length := rfl
      simp [Builtin.len_, ht, run_underlying hu, goInt, this]
    · cases h
  · rename_i hu; cases h
    simp [Builtin.len_, ht, run_underlying hu, goInt]
  · rename_i hu
    split at h
    · cases h
      simp [Builtin.len_, ht, run_underlying hu, goInt]
    · cases h
  · cases h

/-- An operation that only computes. -/
def exV (P : Program) (env : Env) (op : Op) : Option (Value × List Prop) :=
  match op with
  | .move x => match evalE env x with | some v => some (v, []) | none => none
  | .assign x => match evalE env x with | some v => some (v, []) | none => none
  | .pick c a b => match evalE env c with
    | some (.bool true) => match evalE env a with | some v => some (v, []) | none => none
    | some (.bool false) => match evalE env b with | some v => some (v, []) | none => none
    | _ => none
  | .binOp op t x y _ => match evalE env x, evalE env y with
    | some a, some b => exBin P op t a b
    | _, _ => none
  | .unOp op _ x => match evalE env x with
    | some a => match exUn op a with | some v => some (v, []) | none => none
    | none => none
  | .convert s d x => match evalE env x with
    | some a => match exConv P s d a with | some v => some (v, []) | none => none
    | none => none
  | .extract t i => match evalE env t with
    | some (.tuple vs) => match vs[i]? with | some v => some (v, []) | none => none
    | _ => none
  | .field t x f => match evalE env x with
    | some a => match exField P t a f with | some v => some (v, []) | none => none
    | none => none
  | .fieldAddr s x f => match evalE env x with
    | some (.pointer (some a)) => match fieldOff P s f with | some n => some (.pointer (some (a.add n)), []) | none => none
    | _ => none
  | .nilCheck x => match evalE env x with
    | some (.pointer (some a)) => some (.pointer (some a), [])
    | _ => none
  | .build t ⟨parts⟩ => match parts.mapM (fun p => match evalE env p.2 with | some v => some (p.1, v) | none => none) with
    | some ps => match exBuild P t ps with | some v => some (v, []) | none => none
    | none => none
  | .index t x i => match evalE env x, evalE env i with
    | some (.string ⟨⟨s⟩⟩), some (.int _ n) => match P.underlying t with
      | some .string => some (.int .u8 ((s.getD n.toNat 0).toNat : Nat), [0 ≤ n, n < s.length])
      | _ => none
    | _, _ => none
  | .slice t x lo hi none => match evalE env x with
    | some (.string ⟨⟨s⟩⟩) => match P.underlying t with
      | some .string => match lo, hi with
        | none, none => some (.string ⟨⟨s⟩⟩, [])
        | some a, none => match evalE env a with
          | some (.int _ i) => some (.string (bs (s.drop i.toNat)), [0 ≤ i, i ≤ s.length])
          | _ => none
        | none, some b => match evalE env b with
          | some (.int _ j) => some (.string (bs (s.take j.toNat)), [0 ≤ j, j ≤ s.length])
          | _ => none
        | some a, some b => match evalE env a, evalE env b with
          | some (.int _ i), some (.int _ j) => some (.string (bs ((s.take j.toNat).drop i.toNat)), [0 ≤ i, i ≤ j, j ≤ s.length])
          | _, _ => none
      | _ => none
    | _ => none
  | .call { callee := .builtin .len, args := ⟨[x]⟩, argTypes := ts } => match evalE env x, ts[0]? with
    | some a, some t => match exLen P t a with | some v => some (v, []) | none => none
    | _, _ => none
  | .call { callee := .builtin .min, args := ⟨[x, y]⟩, argTypes := _ } => match evalE env x, evalE env y with
    | some (.int k a), some (.int _ b) => some (.int k (if b < a then b else a), [])
    | _, _ => none
  | .call { callee := .builtin .min, args := ⟨[x, y, z]⟩, argTypes := _ } => match evalE env x, evalE env y, evalE env z with
    | some (.int k a), some (.int _ b), some (.int _ c) => some (.int k (if c < (if b < a then b else a) then c else (if b < a then b else a)), [])
    | _, _, _ => none
  | .call { callee := .builtin .max, args := ⟨[x, y]⟩, argTypes := _ } => match evalE env x, evalE env y with
    | some (.int k a), some (.int _ b) => some (.int k (if b > a then b else a), [])
    | _, _ => none
  | _ => none

theorem extract_bs (s : List UInt8) (i j : Nat) : (ByteArray.mk (Array.mk s)).extract i j = bs ((s.take j).drop i) := by
  apply ByteArray.ext
  simp [bs, ByteArray.data_extract, List.extract_eq_take_drop, List.drop_take]

theorem run_index_str {P : Program} {t : TypeId} {s : List UInt8} {k : IntKind} {n : Int} (hu : P.underlying t = some .string) (h0 : 0 ≤ n) (h1 : n < s.length) (w : World) :
    (Instr.index t (.string ⟨⟨s⟩⟩) (.int k n)).run P w = .ok (.int .u8 ((s.getD n.toNat 0).toNat : Nat)) w := by
  have hlt : n.toNat < s.length := by omega
  have : (ByteArray.mk (Array.mk s))[n.toNat]? = some (s.getD n.toNat 0) := by
    have hsz : (ByteArray.mk (Array.mk s)).size = s.length := rfl
    rw [getElem?_pos (ByteArray.mk (Array.mk s)) n.toNat (by rw [hsz]; exact hlt)]
    congr 1
    simp [ByteArray.getElem_eq_getElem_data, hlt]
  simp [Instr.index, asIntOf, run_underlying hu, h0, this]

theorem exV_ok {P : Program} {env : Env} {l : List Value} (he : EnvOk env l) {o : Oper} {v : Value} {ps : List Prop} (h : exV P env o.op = some (v, ps)) (hp : AllP ps) (w : World) :
    (execOp (Act.eval ⟨⟨l⟩, []⟩) o).run P w = .ok (.value v) w := by
  have ev : ∀ {x : Operand} {u : Value}, evalE env x = some u → Act.eval ⟨⟨l⟩, []⟩ x = u := fun hx => evalE_ok he hx
  unfold exV at h
  unfold execOp
  split at h <;> rename_i hop <;> simp only [hop]
  · split at h <;> cases h; rename_i hx; simp [ev hx]
  · split at h <;> cases h; rename_i hx; simp [ev hx]
  · split at h
    · rename_i hc; split at h <;> cases h; rename_i hx; simp [ev hc, ev hx, asBool]
    · rename_i hc; split at h <;> cases h; rename_i hx; simp [ev hc, ev hx, asBool]
    · cases h
  · split at h
    · rename_i hx hy
      have := exBin_ok h hp
      simp only [ev hx, ev hy]
      rw [Sem.run_bind, this]; simp
    · cases h
  · split at h
    · rename_i hx; split at h <;> cases h; rename_i hu
      simp [ev hx, exUn_ok hu]
    · cases h
  · split at h
    · rename_i hx; split at h <;> cases h; rename_i hu
      simp [ev hx, exConv_ok hu]
    · cases h
  · split at h
    · rename_i hx; split at h <;> cases h; rename_i hu
      simp [ev hx, Instr.extract, hu]
    · cases h
  · split at h
    · rename_i hx; split at h <;> cases h; rename_i hu
      simp [ev hx, exField_ok hu]
    · cases h
  · split at h
    · rename_i hx; split at h <;> cases h; rename_i hu
      simp [ev hx, fieldOff_ok hu]
    · cases h
  · split at h <;> cases h; rename_i hx; simp [ev hx]
  · rename_i parts
    split at h
    · rename_i ps' hps
      split at h <;> cases h; rename_i hb
      have hmap : (parts.map fun p => (p.1, Act.eval ⟨⟨l⟩, []⟩ p.2)) = ps' := by
        clear hop hb hp
        induction parts generalizing ps' with
        | nil => simp at hps; subst hps; rfl
        | cons q r ih =>
          rw [List.mapM_cons] at hps
          cases hq : evalE env q.2 with
          | none => simp [hq] at hps
          | some u =>
            simp only [hq] at hps
            cases hr : List.mapM (fun p => match evalE env p.2 with | some v => some (p.1, v) | none => none) r with
            | none => simp [hr] at hps
            | some r' =>
              simp [hr] at hps
              subst hps
              simp [ev hq, ih r' hr]
      have := exBuild_ok hb w
      simp only [List.map_toArray]
      rw [show (parts.map fun x => match x with | (i, x) => (i, Act.eval ⟨⟨l⟩, []⟩ x)) = ps' from hmap]
      simp [this]
    · cases h
  · split at h
    · rename_i hx hy; split at h <;> cases h; rename_i hu
      simp only [AllP] at hp
      simp [ev hx, ev hy, run_index_str hu hp.1 hp.2.1]
    · cases h
  · split at h
    · rename_i s hx
      split at h
      · rename_i hu
        have hsz : (ByteArray.mk (Array.mk s)).size = s.length := rfl
        have hfull : (ByteArray.mk (Array.mk s)).extract 0 s.length = ByteArray.mk (Array.mk s) := by rw [extract_bs]; simp [bs]
        split at h
        · cases h
          simp [ev hx, Instr.sliceAt, Instr.slice, run_underlying hu, Instr.sliceBounds]
        · split at h <;> cases h
          rename_i ha
          simp only [AllP] at hp
          have h0 := hp.1; have h1 := hp.2.1
          have : (ByteArray.mk (Array.mk s)).extract (Int.toNat ‹Int›) s.length = bs (s.drop (Int.toNat ‹Int›)) := by rw [extract_bs]; simp
          simp [ev hx, ev ha, Instr.sliceAt, Instr.slice, run_underlying hu, Instr.sliceBounds, Instr.sliceBound, asIntOf, hsz, h0, h1, this]
        · split at h <;> cases h
          rename_i ha
          simp only [AllP] at hp
          have h0 := hp.1; have h1 := hp.2.1
          have : (ByteArray.mk (Array.mk s)).extract 0 (Int.toNat ‹Int›) = bs (s.take (Int.toNat ‹Int›)) := by rw [extract_bs]; simp
          simp [ev hx, ev ha, Instr.sliceAt, Instr.slice, run_underlying hu, Instr.sliceBounds, Instr.sliceBound, asIntOf, hsz, h0, h1, this]
        · split at h <;> cases h
          rename_i i _ j ha hb
          simp only [AllP] at hp
          have h0 := hp.1; have h1 := hp.2.1; have h2 := hp.2.2.1
          have h3 : 0 ≤ j := by omega
          have h5 : max j 0 = j := by omega
          have h6 : ¬ j < i := by omega
          have := extract_bs s i.toNat j.toNat
          simp [ev hx, ev ha, ev hb, Instr.sliceAt, Instr.slice, run_underlying hu, Instr.sliceBounds, Instr.sliceBound, asIntOf, hsz, h0, h2, h3, h5, h6, this]
      · cases h
    · cases h
  · split at h
    · rename_i hx ht; split at h <;> cases h; rename_i hu
      have := exLen_ok (ty := o.type) ht hu w
      simp [ev hx, resolve, invoke, builtin, this]
    · cases h
  · split at h
    · rename_i hx hy; cases h
      simp [ev hx, ev hy, resolve, invoke, builtin, Builtin.min_, Builtin.min2]
    · cases h
  · split at h
    · rename_i hx hy hz; cases h
      simp [ev hx, ev hy, ev hz, resolve, invoke, builtin, Builtin.min_, Builtin.min2]
    · cases h
  · split at h
    · rename_i hx hy; cases h
      simp [ev hx, ev hy, resolve, invoke, builtin, Builtin.max_, Builtin.max2]
    · cases h
  · cases h
end Go.GL
