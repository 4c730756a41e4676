import Derived.Test.YtfkjjmmoipcddaaBa
import Derived.Test.YtfkjjmmoipcddaaPu
import Derived.Test.YtfkjjmmoipcddaaPp
import Derived.Test.YtfkjjmmoipcddaaTs
import Derived.Test.YtfkjjmmoipcddaaPx
import Derived.Test.YtfkjjmmoipcddaaPg
/- Exponents, words of pairs, sums: plain Lean. -/
namespace Go.Proofs.Ytfkjjmmoipcddaa.N
set_option linter.unusedVariables false
set_option linter.unusedSimpArgs false

def climb : Tr → Nat → List Nat
  | .leaf, k => [k]
  | .node l r, k => climb l (k + 1) ++ climb r 0
def expT : Tr → List Nat
  | .leaf => [0]
  | .node l r => climb l 0 ++ expT r
theorem climb_length : ∀ (T : Tr) (k : Nat), (climb T k).length = T.carets + 1
  | .leaf, _ => rfl
  | .node l r, k => by simp only [climb, List.length_append, climb_length l, climb_length r, Tr.carets]; omega
theorem climb_le : ∀ (T : Tr) (k x : Nat), x ∈ climb T k → x ≤ k + T.carets
  | .leaf, k, x, h => by simp [climb] at h; simp [Tr.carets]; omega
  | .node l r, k, x, h => by
    simp only [climb, List.mem_append] at h
    simp only [Tr.carets]
    rcases h with h | h
    · have := climb_le l _ x h; omega
    · have := climb_le r _ x h; omega
theorem expT_length : ∀ T : Tr, (expT T).length = T.carets + 1
  | .leaf => rfl
  | .node l r => by simp only [expT, List.length_append, climb_length, expT_length r, Tr.carets]; omega
theorem expT_le : ∀ (T : Tr) (x : Nat), x ∈ expT T → x ≤ T.carets
  | .leaf, x, h => by simp [expT] at h; omega
  | .node l r, x, h => by
    simp only [expT, List.mem_append] at h
    simp only [Tr.carets]
    rcases h with h | h
    · have := climb_le l _ x h; omega
    · have := expT_le r x h; omega
/-- The word of the first exponents. -/
def wordT (xs : List Nat) : Nat → List Int
  | 0 => []
  | k + 1 => wordT xs k ++ List.replicate (xs.getD k 0) ((k : Int) + 1)
theorem wordT_length (xs : List Nat) (B : Nat) (hB : ∀ x ∈ xs, x ≤ B) : ∀ k, (wordT xs k).length ≤ B * k
  | 0 => by simp [wordT]
  | k + 1 => by
    have h1 := wordT_length xs B hB k
    have h2 : xs.getD k 0 ≤ B := by
      rw [List.getD_eq_getElem?_getD]
      cases h : xs[k]? with
      | none => simp
      | some x => exact hB x (List.mem_of_getElem? h)
    simp only [wordT, List.length_append, List.length_replicate, Nat.mul_succ]
    omega
theorem wordT_mem (xs : List Nat) : ∀ (k : Nat) (x : Int), x ∈ wordT xs k → 1 ≤ x ∧ x ≤ k
  | 0, x, h => by cases h
  | k + 1, x, h => by
    simp only [wordT, List.mem_append] at h
    rcases h with h | h
    · have := wordT_mem xs k x h; omega
    · have := List.eq_of_mem_replicate h; omega
def wordL (xs : List Nat) : List Int := wordT xs xs.length
def invL (ws : List Int) : List Int := (ws.map fun x => -x).reverse
def wordP (p : Tr × Tr) : List Int := wordL (expT p.1) ++ invL (wordL (expT p.2))
theorem invL_length (ws : List Int) : (invL ws).length = ws.length := by simp [invL]
theorem invL_step (ws : List Int) (j : Nat) (hj : j < ws.length) (x : Int) (hx : ws[ws.length - 1 - j]? = some x) : (invL ws).take (j + 1) = (invL ws).take j ++ [-x] := by
  unfold invL
  rw [List.take_add_one, List.getElem?_reverse (by simpa using hj), List.length_map, List.getElem?_map, hx]
  rfl
theorem wordL_length (T : Tr) : (wordL (expT T)).length ≤ T.carets * (T.carets + 1) := by
  have := wordT_length (expT T) T.carets (expT_le T) (expT T).length
  rw [expT_length] at this
  unfold wordL
  rw [expT_length]
  exact this
theorem wordP_length (p : Tr × Tr) : (wordP p).length ≤ p.1.carets * (p.1.carets + 1) + p.2.carets * (p.2.carets + 1) := by
  unfold wordP
  rw [List.length_append, invL_length]
  have := wordL_length p.1; have := wordL_length p.2; omega
theorem wordP_mem {p : Tr × Tr} {x : Int} (h : x ∈ wordP p) : -(p.2.carets + 1 : Nat) ≤ x ∧ x ≤ (p.1.carets + 1 : Nat) := by
  unfold wordP at h
  rcases List.mem_append.1 h with h | h
  · have := wordT_mem _ _ x h; rw [expT_length] at this; omega
  · unfold invL at h
    rw [List.mem_reverse, List.mem_map] at h
    obtain ⟨y, hy, rfl⟩ := h
    have := wordT_mem _ _ y hy; rw [expT_length] at this; omega
/-- Sums of signs: of the first letter, of the others. -/
def sg (x : Int) : Int := if x < 0 then -1 else 1
def sumS (s : Int × Int) (x : Int) : Int × Int := if x.natAbs = 1 then (s.1 + sg x, s.2) else (s.1, s.2 + sg x)
def sumW (ws : List Int) : Int × Int := ws.foldl sumS (0, 0)
theorem sumW_take (ws : List Int) (k : Nat) (x : Int) (hx : ws[k]? = some x) : sumW (ws.take (k + 1)) = sumS (sumW (ws.take k)) x := by
  unfold sumW
  rw [List.take_add_one, hx, List.foldl_append]; rfl
theorem sumW_bound (ws : List Int) : ∀ k, k ≤ ws.length → -(k : Int) ≤ (sumW (ws.take k)).1 ∧ (sumW (ws.take k)).1 ≤ k ∧ -(k : Int) ≤ (sumW (ws.take k)).2 ∧ (sumW (ws.take k)).2 ≤ k
  | 0, _ => by simp [sumW]
  | k + 1, h => by
    have ih := sumW_bound ws k (by omega)
    rw [sumW_take ws k _ (List.getElem?_eq_getElem (show k < ws.length by omega))]
    unfold sumS sg
    split <;> split <;> (simp only; omega)
end Go.Proofs.Ytfkjjmmoipcddaa.N
