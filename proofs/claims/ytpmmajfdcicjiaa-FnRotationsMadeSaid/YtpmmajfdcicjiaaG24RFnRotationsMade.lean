import Derived.Test.YtpmmajfdcicjiaaG1RFnRotationsMade
import Derived.Test.YtpmmajfdcicjiaaG3RFnRotationsMade
import Derived.Test.YtpmmajfdcicjiaaG4RFnRotationsMade
/- Lists turned in place, numbers as digits, lists kept in order: plain Lean. -/
namespace Go.Proofs.Ytpmmajfdcicjiaa.N
set_option linter.unusedVariables false
set_option linter.unusedSimpArgs false

/-- A list of which the outer k elements at both ends have changed places. -/
def Rev {α : Type} (l : List α) (k : Nat) (c : List α) : Prop := c.length = l.length ∧ ∀ i, i < l.length → c[i]? = if i < k ∨ l.length - k ≤ i then l[l.length - 1 - i]? else l[i]?
theorem Rev.zero {α : Type} (l : List α) : Rev l 0 l := ⟨rfl, fun i hi => by rw [if_neg (by omega)]⟩
theorem Rev.step {α : Type} {l c : List α} {k : Nat} {x y : α} (h : Rev l k c) (hk : k < l.length - 1 - k) (hx : c[k]? = some x) (hy : c[l.length - 1 - k]? = some y) : Rev l (k + 1) ((c.set k y).set (l.length - 1 - k) x) := by
  obtain ⟨h1, h2⟩ := h
  have hxx := h2 k (by omega)
  rw [if_neg (by omega), hx] at hxx
  have hyy := h2 (l.length - 1 - k) (by omega)
  rw [if_neg (by omega), hy] at hyy
  refine ⟨by simp [h1], fun i hi => ?_⟩
  rw [List.getElem?_set, List.getElem?_set]
  by_cases e1 : l.length - 1 - k = i
  · subst e1
    rw [if_pos rfl, if_pos (by simp; omega), if_pos (by omega), show l.length - 1 - (l.length - 1 - k) = k by omega, hxx]
  · rw [if_neg e1]
    by_cases e2 : k = i
    · subst e2
      rw [if_pos rfl, if_pos (by omega), if_pos (by omega), hyy]
    · rw [if_neg e2, h2 i hi]
      by_cases e3 : i < k ∨ l.length - k ≤ i
      · rw [if_pos e3, if_pos (by omega)]
      · rw [if_neg e3, if_neg (by omega)]
theorem Rev.done {α : Type} {l c : List α} {k : Nat} (h : Rev l k c) (hk : l.length ≤ 2 * k + 1) : c = l.reverse := by
  apply List.ext_getElem?
  intro i
  by_cases hi : i < l.length
  · rw [h.2 i hi, List.getElem?_reverse hi]
    by_cases e : i < k ∨ l.length - k ≤ i
    · rw [if_pos e]
    · rw [if_neg e]; congr 1; omega
  · rw [List.getElem?_eq_none (by rw [h.1]; omega), List.getElem?_eq_none (by simp; omega)]

/-- The digits of a number, the least first. -/
def dig (n : Nat) : Nat → Nat → List Nat
  | 0, _ => []
  | m + 1, q => q % n :: dig n m (q / n)
theorem dig_length (n : Nat) : ∀ m q, (dig n m q).length = m
  | 0, _ => rfl
  | m + 1, q => by simp [dig, dig_length n m]
theorem dig_lt {n : Nat} (hn : 0 < n) : ∀ m q, ∀ y ∈ dig n m q, y < n
  | 0, _, _, h => by cases h
  | m + 1, q, y, h => by
    rcases List.mem_cons.1 h with rfl | h
    · exact Nat.mod_lt _ hn
    · exact dig_lt hn m _ y h
theorem dig_all {n : Nat} (hn : 0 < n) : ∀ (ys : List Nat), (∀ y ∈ ys, y < n) → ∃ q, q < n ^ ys.length ∧ dig n ys.length q = ys
  | [], _ => ⟨0, by simp, rfl⟩
  | y :: ys, h => by
    obtain ⟨q, hq, e⟩ := dig_all hn ys (fun z hz => h z (List.mem_cons_of_mem _ hz))
    have hy := h y List.mem_cons_self
    refine ⟨y + n * q, ?_, ?_⟩
    · simp only [List.length_cons, Nat.pow_succ]
      have : n * (q + 1) ≤ n * n ^ ys.length := Nat.mul_le_mul_left n hq
      rw [Nat.mul_comm (n ^ ys.length) n]
      rw [Nat.mul_add] at this
      omega
    · simp only [List.length_cons, dig]
      rw [Nat.add_mul_mod_self_left, Nat.mod_eq_of_lt hy, Nat.add_mul_div_left _ _ hn, Nat.div_eq_of_lt hy, Nat.zero_add, e]
theorem dig_snoc (n : Nat) : ∀ m q, dig n (m + 1) q = dig n m q ++ [q / n ^ m % n]
  | 0, q => by simp [dig]
  | m + 1, q => by
    rw [dig, dig_snoc n m, dig, Nat.div_div_eq_div_mul, Nat.pow_succ, Nat.mul_comm n]
    rfl
theorem dig_take (n : Nat) : ∀ m k q, k ≤ m → (dig n m q).take k = dig n k q
  | _, 0, q, _ => rfl
  | 0, k + 1, q, h => by omega
  | m + 1, k + 1, q, h => by simp [dig, dig_take n m k (q / n) (by omega)]
end Go.Proofs.Ytpmmajfdcicjiaa.N
/- A text filled: plain Lean. -/
namespace Go.Proofs.Ytpmmajfdcicjiaa.N
set_option linter.unusedVariables false
set_option linter.unusedSimpArgs false

def fillP : List UInt8 → List ByteArray → List UInt8
  | [], _ => []
  | c :: l, ps => if c = 46 then (match ps with | p :: ps' => p.toList ++ fillP l ps' | [] => fillP l []) else c :: fillP l ps
theorem fillP_dot (l : List UInt8) (p : ByteArray) (ps : List ByteArray) : fillP (46 :: l) (p :: ps) = p.toList ++ fillP l ps := by simp [fillP]
theorem fillP_other (c : UInt8) (l : List UInt8) (ps : List ByteArray) (h : c ≠ 46) : fillP (c :: l) ps = c :: fillP l ps := by simp [fillP, h]
theorem fill_step_dot (l : List UInt8) (ps : List ByteArray) (j k : Nat) (hj : l[j]? = some 46) (hk : k < ps.length) : fillP (l.drop j) (ps.drop k) = ps[k].toList ++ fillP (l.drop (j + 1)) (ps.drop (k + 1)) := by
  obtain ⟨h1, h2⟩ := List.getElem?_eq_some_iff.1 hj
  rw [List.drop_eq_getElem_cons h1, List.drop_eq_getElem_cons hk, h2, fillP_dot]
theorem fill_step_other (l : List UInt8) (ps : List ByteArray) (j k : Nat) (c : UInt8) (hj : l[j]? = some c) (hc : c ≠ 46) : fillP (l.drop j) (ps.drop k) = c :: fillP (l.drop (j + 1)) (ps.drop k) := by
  obtain ⟨h1, h2⟩ := List.getElem?_eq_some_iff.1 hj
  rw [List.drop_eq_getElem_cons h1, h2, fillP_other _ _ _ hc]
theorem dots_lt (l : List UInt8) (j : Nat) (hj : l[j]? = some 46) : dots (l.take j) < dots l := by
  obtain ⟨h1, h2⟩ := List.getElem?_eq_some_iff.1 hj
  have h3 := List.take_append_drop j l
  rw [List.drop_eq_getElem_cons h1, h2] at h3
  have h4 : dots l = dots (l.take j) + dots (46 :: l.drop (j + 1)) := by rw [← dots_app, h3]
  have h6 : dots (46 :: l.drop (j + 1)) = dots (l.drop (j + 1)) + 1 := by simp [dots]
  omega
end Go.Proofs.Ytpmmajfdcicjiaa.N
