import Derived.Test.YtfkjjmmoipcddaaBa
import Derived.Test.YtfkjjmmoipcddaaPu
import Derived.Test.YtfkjjmmoipcddaaSl
import Derived.Test.YtfkjjmmoipcddaaProg
import Derived.Test.YtfkjjmmoipcddaaTn
import Derived.Test.YtfkjjmmoipcddaaTs
import Derived.Test.YtfkjjmmoipcddaaPh
import Derived.Test.YtfkjjmmoipcddaaWl
import Derived.Test.YtfkjjmmoipcddaaT3
import Derived.Test.YtfkjjmmoipcddaaTp
import Derived.Test.YtfkjjmmoipcddaaTr
import Derived.Test.YtfkjjmmoipcddaaTu
import Derived.Test.YtfkjjmmoipcddaaTj
import Derived.Test.YtfkjjmmoipcddaaTk
import Derived.Test.YtfkjjmmoipcddaaRh
import Derived.Test.YtfkjjmmoipcddaaFa
import Derived.Test.YtfkjjmmoipcddaaFb
import Derived.Test.YtfkjjmmoipcddaaFc
import Derived.Test.YtfkjjmmoipcddaaPf
import Derived.Test.YtfkjjmmoipcddaaFd
import Derived.Test.YtfkjjmmoipcddaaFe
import Derived.Test.YtfkjjmmoipcddaaFf
import Derived.Test.YtfkjjmmoipcddaaFg
import Derived.Test.YtfkjjmmoipcddaaFh
import Derived.Test.YtfkjjmmoipcddaaFi
import Derived.Test.YtfkjjmmoipcddaaSf
import Derived.Deep.LoopGhost
import Derived.Deep.RegionHeld3
import Derived.Deep.QuietTactic
import Derived.Deep.CutRange
/- Orbits: plain, and the program's. -/
namespace Go.Proofs.Ytfkjjmmoipcddaa.N
open Go.RowKit
set_option linter.unusedVariables false
set_option linter.unusedSimpArgs false

/-- To where a fraction is carried. -/
def nxt (A B : Tr) (x : Nat × Nat) : Nat × Nat := halve 40 (vaF A B (x.1 * (1099511627776 / x.2))) 1099511627776
def seqO (A B : Tr) (x : Nat × Nat) : Nat → Nat × Nat
  | 0 => x
  | j + 1 => nxt A B (seqO A B x j)
/-- The first fractions of an orbit, if all are ones. -/
def orbT (A B : Tr) (x : Nat × Nat) (n : Nat) : Option (List (Nat × Nat)) := if ∀ j, j ≤ n → (seqO A B x j).2 ≤ 1024 then some ((List.range (n + 1)).map (seqO A B x)) else none
theorem orbT_none {A B : Tr} {x : Nat × Nat} {n j : Nat} (hj : j ≤ n) (h : ¬ (seqO A B x j).2 ≤ 1024) : orbT A B x n = none := by
  unfold orbT
  rw [if_neg (fun k => h (k j hj))]
theorem part_div {k : Nat} (h : k ≤ 40) : 1099511627776 / 2 ^ k = part k := by
  rw [← part_mul h, Nat.mul_div_cancel_left _ (Nat.two_pow_pos k)]
theorem nxt_at (A B : Tr) (m k : Nat) (h : k ≤ 40) : nxt A B (m, 2 ^ k) = halve 40 (vaF A B (m * part k)) 1099511627776 := by
  unfold nxt
  rw [part_div h]
theorem range_map_snoc {α : Type} (f : Nat → α) (n : Nat) : (List.range (n + 1)).map f = (List.range n).map f ++ [f n] := by rw [List.range_succ, List.map_append]; rfl
/-- What is known of a fraction of an orbit. -/
def FrOk (x : Nat × Nat) : Prop := goodB x.1 x.2 = true
theorem FrOk.form {x : Nat × Nat} (h : FrOk x) : ∃ k, k ≤ 10 ∧ x.2 = 2 ^ k ∧ x.1 ≤ 2 ^ k := by
  obtain ⟨m, k, h1, h2, h3, h4, _⟩ := goodB_true h
  exact ⟨k, h3, by exact_mod_cast h2, by omega⟩
theorem vaF_le (A B : Tr) (hc : A.carets = B.carets) (hB : B.carets ≤ 8) (p : Nat) (hp : p ≤ 1099511627776) : vaF A B p ≤ 1099511627776 := by
  obtain ⟨a, b, ha, hb, hal, hbl, h1, h2, hv⟩ := carr_facts A B hc (by omega) p hp
  rw [hv]; exact (vaL_le a b _ hal hbl h1 h2).1
theorem FrOk.place {x : Nat × Nat} (h : FrOk x) : x.1 * (1099511627776 / x.2) ≤ 1099511627776 := by
  obtain ⟨k, h1, h2, h3⟩ := h.form
  rw [h2, part_div (by omega), ← part_mul (show k ≤ 40 by omega)]
  exact Nat.mul_le_mul_right _ h3
theorem FrOk.next (A B : Tr) (hc : A.carets = B.carets) (hB : B.carets ≤ 8) {x : Nat × Nat} (h : FrOk x) : goodB (nxt A B x).1 (nxt A B x).2 = decide ((nxt A B x).2 ≤ 1024) := goodB_halve _ (vaF_le A B hc hB _ h.place)

theorem FrOk.small {x : Nat × Nat} (h : FrOk x) : x.2 ≤ 1024 := by
  obtain ⟨k, h1, h2, _⟩ := h.form
  rw [h2]; exact Nat.pow_le_pow_right (by omega) h1
theorem row_lit2 (w : World) (base : Nat) (a b : Value) (t : TypeId) (hb : base ≤ w.heap.size) : (w.alloc (.cells #[a, b] t)).ownsRow base t 2 (.slice (some ⟨w.heap.size, 0, none⟩) 1 1) 1 [a, b] :=
  ⟨rfl, .inr ⟨w.heap.size, 1, #[a, b], rfl, hb, heap_alloc_new w _, Nat.le_refl _, by unfold maxLen; omega, rfl, rfl⟩⟩
end Go.Proofs.Ytfkjjmmoipcddaa.N
