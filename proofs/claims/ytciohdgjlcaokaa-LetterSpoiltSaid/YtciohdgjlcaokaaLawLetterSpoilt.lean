/- The law LetterSpoilt, over the plain functions. -/
import Derived.Test.YtciohdgjlcaokaaSame
set_option linter.unusedVariables false
set_option linter.unusedSimpArgs false
namespace Go.GL
open Go
theorem u8_xor (a b : UInt8) : bXor .u8 ((a.toNat : Nat) : Int) ((b.toNat : Nat) : Int) = (((a ^^^ b).toNat : Nat) : Int) := by
  show IntKind.u8.wrap ((BitVec.ofInt 8 ((a.toNat : Nat) : Int) ^^^ BitVec.ofInt 8 ((b.toNat : Nat) : Int)).toNat : Int) = _
  have e : ∀ c : UInt8, BitVec.ofInt 8 ((c.toNat : Nat) : Int) = c.toBitVec := by
    intro c
    rw [BitVec.ofInt_natCast]
    apply BitVec.eq_of_toNat_eq
    have := c.toNat_lt
    simp
  rw [e, e, ← UInt8.toBitVec_xor]
  have := (a ^^^ b).toNat_lt
  simp only [IntKind.wrap, IntKind.bits, IntKind.signed, Bool.false_and, Bool.false_eq_true, if_false, UInt8.toNat_toBitVec]
  omega
theorem u8of_self (a : UInt8) : u8of ((a.toNat : Nat) : Int) = a := by
  apply UInt8.toNat_inj.1
  have h := u8of_toNat ((a.toNat : Nat) : Int)
  have := a.toNat_lt
  have e : IntKind.u8.wrap ((a.toNat : Nat) : Int) = ((a.toNat : Nat) : Int) := by
    simp only [IntKind.wrap, IntKind.bits, IntKind.signed, Bool.false_and, Bool.false_eq_true, if_false]
    omega
  rw [e] at h
  omega
theorem xor_ne (a b : UInt8) (hb : ((b.toNat : Int) == 0) = false) : u8of (bXor .u8 ((a.toNat : Int)) ((b.toNat : Int))) ≠ a := by
  rw [u8_xor, u8of_self]
  intro h
  have h2 : b = 0 := by
    have : a ^^^ (a ^^^ b) = a ^^^ a := by rw [h]
    rw [← UInt8.xor_assoc, UInt8.xor_self, UInt8.zero_xor] at this
    exact this
  subst h2
  simp at hb
theorem modL (x : Int) (p : Nat) (hp : 0 < p) (hp2 : p ≤ 1000000) : ∃ y : Nat, (wi64 ((x.tmod (p : Int)) + (p : Int))).tmod (p : Int) = (y : Int) ∧ y < p := by
  have h1 : x.tmod (p : Int) < (p : Int) := Int.tmod_lt_of_pos x (by omega)
  have h2 : (-x).tmod (p : Int) < (p : Int) := Int.tmod_lt_of_pos (-x) (by omega)
  rw [Int.neg_tmod] at h2
  rw [wi64_id (by omega) (by omega)]
  have h3 : 0 ≤ (x.tmod (p : Int) + (p : Int)).tmod (p : Int) := Int.tmod_nonneg _ (by omega)
  have h4 : (x.tmod (p : Int) + (p : Int)).tmod (p : Int) < (p : Int) := Int.tmod_lt_of_pos _ (by omega)
  exact ⟨((x.tmod (p : Int) + (p : Int)).tmod (p : Int)).toNat, by omega, by omega⟩
theorem tontinelaw11_LetterSpoilt_law (x : T_api_Letter) (at_ : Int) (by_ : UInt8) (h : wf_T_api_Letter x) (h1 : (Lit.int .i64 at_).wf = true) (h2 : True) : Ev (fun n => tontinelaw11_LetterSpoilt.f n x at_ by_) true := by
  unfold tontinelaw11_LetterSpoilt.f
  refine Ev.bind begun11 (Ev.ge 1000 fun n hn => ?_)
  rw [if_neg (by simp), p_Encode n x (by omega) h, Option.bind_some]
  cases hm : mayB x
  · have : outX x = ([], 1) := by unfold outX; rw [hm]; rfl
    rw [this]; rfl
  · obtain ⟨k1, _, k3⟩ := mayB_iff hm
    obtain ⟨_, _, _, _, _, _, k7, k8⟩ := headOk_iff.1 k1
    have z := encT_length x.Data
    have z2 := ents_len _ k3
    have hh : (encN (headN x)).length ≤ 81 := by
      simp only [encN, headN, List.flatMap_cons, List.flatMap_nil, List.length_append, List.length_nil]
      have a1 := enc_length (wu64 x.Kind).toNat
      have a2 := enc_length (wu64 x.From).toNat
      have a3 := enc_length (wu64 x.To).toNat
      have a4 := enc_length x.Term.toNat
      have a5 := enc_length x.Index.toNat
      have a6 := enc_length x.Prev.toNat
      have a7 := enc_length x.Commit.toNat
      have a8 := enc_length ((tr x.Ok : Nat) : Int).toNat
      have a9 := enc_length (wu64 (x.Entries.length : Int)).toNat
      omega
    have hpos : 0 < (encX x).length := by
      simp only [encX, headN, encN, List.flatMap_cons, List.length_append, enc, List.length_cons]
      omega
    have hlen : (encX x).length ≤ 1000000 := by
      simp only [encX, List.length_append]; omega
    rw [mayB_out hm, if_neg (by simp)]
    unfold tontinelaw11_LetterSpoilt.j0
    dsimp only
    cases hb : (((by_).toNat : Int) == 0)
    · rw [if_neg (by simp)]
      obtain ⟨y, hy, hyl⟩ := modL at_ (encX x).length hpos hlen
      rw [hy, if_pos (by omega), if_pos ⟨by omega, by omega⟩, if_pos ⟨by omega, by omega⟩, Int.toNat_natCast]
      have e1 : rdL (encX x) (y : Int) = (encX x)[y] := by simp [rdL, hyl]
      rw [e1]
      have hne : (encX x).set y (u8of (bXor .u8 (((encX x)[y]).toNat : Int) ((by_).toNat : Int))) ≠ encX x := by
        intro q
        have := congrArg (fun l => l[y]?) q
        simp only [List.getElem?_set_self hyl, List.getElem?_eq_getElem hyl, Option.some.injEq] at this
        exact xor_ne _ _ hb this
      have hsl : ((encX x).set y (u8of (bXor .u8 (((encX x)[y]).toNat : Int) ((by_).toNat : Int)))).length = (encX x).length := List.length_set
      generalize (encX x).set y (u8of (bXor .u8 (((encX x)[y]).toNat : Int) ((by_).toNat : Int))) = s at hne hsl
      rcases canon_p n (by omega) s (by omega) with q | ⟨u, q, hu, wu, hc⟩
      · rw [q, Option.bind_some, if_pos (by simp)]
      · have hxu : x ≠ u := fun e => hne (by rw [hc, e])
        rw [q, Option.bind_some, if_neg (by simp), if_pos (by simp), same10_ne n x u (by omega) (by omega), Option.bind_some, decide_eq_false hxu, if_pos (by simp), p_May n u (by omega), hu]
        rfl
    · rw [if_pos rfl]
end Go.GL
