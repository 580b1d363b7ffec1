/- The law CrcMany, over the plain functions: the argument being small. -/
import Derived.Test.YtapiconoooncgaaCrcJoin
set_option linter.unusedVariables false
set_option linter.unusedSimpArgs false
set_option maxRecDepth 10000
namespace Go.GL
open Go Crc

theorem sum_len (l : List (List UInt8)) : (l.map (fun xs : List UInt8 => (xs.map (fun _ => 1)).sum + 1)).sum = l.flatten.length + l.length := by
  have h : ∀ x : List UInt8, (x.map fun _ => 1).sum = x.length := by
    intro x
    induction x with
    | nil => rfl
    | cons a r ih => simp [ih]; omega
  induction l with
  | nil => rfl
  | cons x r ih => rw [List.map_cons, List.sum_cons, ih, h, List.flatten_cons, List.length_append, List.length_cons]; omega
theorem flatten_part (l : List (List UInt8)) (i : Nat) (h : i < l.length) : (rdL l (i : Int)).length ≤ l.flatten.length := by
  have : rdL l (i : Int) ∈ l := by simp [rdL, h]
  have e := List.getElem_mem h
  exact List.Sublist.length_le (List.sublist_flatten_of_mem this)
theorem drop_flat (l : List (List UInt8)) (i : Nat) (h : i < l.length) : (l.drop i).flatten = rdL l (i : Int) ++ (l.drop (i + 1)).flatten := by
  rw [getD_drop h, List.flatten_cons]
theorem take_flat (l : List (List UInt8)) (i : Nat) (h : i < l.length) : (l.take (i + 1)).flatten = (l.take i).flatten ++ rdL l (i : Int) := by
  rw [List.take_add_one, List.flatten_append]
  congr 1
  simp [rdL, h]

theorem many_l1 (n : Nat) (l : List (List UInt8)) (hl : l.flatten.length + l.length ≤ 1048576) (hn : 2000000 ≤ n) :
    ∀ (i k : Nat) , i ≤ l.length → i < k →
    tontinelaw02_CrcMany.l1 n l l.flatten (I (add 0#32 l.flatten)) k (I (add 0#32 (l.drop i).flatten)) (((l.drop i).flatten.length : Nat) : Int) ((i : Int) - 1) = some true
  | i, 0, _, h => by omega
  | 0, k + 1, _, _ => by
    unfold tontinelaw02_CrcMany.l1
    rw [if_neg (by simp), f_Sum n _ (by omega) (by omega), Option.bind_some, if_pos (by simp)]
    simp
  | i + 1, k + 1, hi, hk => by
    unfold tontinelaw02_CrcMany.l1
    have e : (((i + 1 : Nat) : Int) - 1) = (i : Int) := by omega
    have hp := flatten_part l i (by omega)
    have hd : (l.drop (i + 1)).flatten.length ≤ l.flatten.length := by
      have := congrArg List.flatten (List.take_append_drop (i + 1) l)
      rw [List.flatten_append] at this
      have := congrArg List.length this
      rw [List.length_append] at this
      omega
    have hj : join (add 0#32 (rdL l (i : Int))) (add 0#32 (l.drop (i + 1)).flatten) (l.drop (i + 1)).flatten.length = add 0#32 (l.drop i).flatten := by rw [drop_flat l i (by omega), add_join]
    have hlen : ((((l.drop (i + 1)).flatten.length : Nat) : Int) + ((rdL l (i : Int)).length : Int)) = (((l.drop i).flatten.length : Nat) : Int) := by rw [drop_flat l i (by omega), List.length_append]; omega
    have hd2 : (l.drop i).flatten.length ≤ 2000000 := by
      have := congrArg List.flatten (List.take_append_drop i l)
      rw [List.flatten_append] at this
      have := congrArg List.length this
      rw [List.length_append] at this
      omega
    rw [e, if_pos (by simp), if_pos ⟨by omega, by omega⟩, f_Sum n _ (by omega) (by omega), Option.bind_some, f_Join n (by omega) _ _ _ (by omega), Option.bind_some, if_pos ⟨by omega, by omega⟩, hj, hlen, wi64_id (by omega) (by omega), wi64_id (by omega) (by omega)]
    exact many_l1 n l hl hn i k (by omega) (by omega)

theorem many_l0 (n : Nat) (l : List (List UInt8)) (hl : l.flatten.length + l.length ≤ 1048576) (hn : 2000000 ≤ n) :
    ∀ (j k i : Nat), i + j = l.length → j < k → tontinelaw02_CrcMany.l0 n l k (l.take i).flatten (I (add 0#32 (l.take i).flatten)) (i : Int) = some true
  | j, 0, i, _, h => by omega
  | 0, k + 1, i, hi, _ => by
    unfold tontinelaw02_CrcMany.l0
    have : i = l.length := by omega
    subst this
    rw [if_neg (by simp), wi64_id (by omega) (by omega), List.take_length]
    have := many_l1 n l hl hn l.length n (Nat.le_refl _) (by omega)
    rw [List.drop_length] at this
    exact this
  | j + 1, k + 1, i, hi, hk => by
    unfold tontinelaw02_CrcMany.l0
    have hp := flatten_part l i (by omega)
    have ht : (l.take (i + 1)).flatten.length ≤ l.flatten.length := by
      have := congrArg List.flatten (List.take_append_drop (i + 1) l)
      rw [List.flatten_append] at this
      have := congrArg List.length this
      rw [List.length_append] at this
      omega
    have c : capOk 1 (l.take (i + 1)).flatten.length := by unfold capOk; omega
    rw [if_pos (by simp; omega), if_pos ⟨by omega, by omega⟩, ← take_flat l i (by omega), if_pos c, f_Sum n _ (by omega) (by omega), Option.bind_some, f_Join n (by omega) _ _ _ (by omega), Option.bind_some, ← add_join, ← take_flat l i (by omega), wi64_id (by omega) (by omega),
      show ((i : Int) + 1) = ((i + 1 : Nat) : Int) by omega]
    exact many_l0 n l hl hn j k (i + 1) (by omega) (by omega)

theorem tontinelaw02_CrcMany_law (l : List (List UInt8)) (h : l.length * 24 ≤ reachBytes ∧ ∀ x ∈ l, (fun xs : List UInt8 => xs.length * 1 ≤ reachBytes ∧ ∀ x ∈ xs, (fun _ => True) x) x)
    (hs : (fun xs : List (List UInt8) => (xs.map (fun xs : List UInt8 => (xs.map (fun _ => 1)).sum + 1)).sum + 1) l ≤ 1048576) : Ev (fun n => tontinelaw02_CrcMany.f n l) true := by
  simp only [sum_len] at hs
  refine Ev.ge 3000000 fun n hn => ?_
  unfold tontinelaw02_CrcMany.f
  rw [begun02 n (by omega), Option.bind_some, if_neg (by simp)]
  have := many_l0 n l (by omega) (by omega) l.length n 0 (by omega) (by omega)
  simp only [List.take_zero, List.flatten_nil] at this
  exact this
end Go.GL
