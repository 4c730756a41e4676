import Derived.Test.YtfjhecilkeikiaaBa
import Derived.Test.YtfjhecilkeikiaaPu
import Derived.Test.YtfjhecilkeikiaaSl
import Derived.Test.YtfjhecilkeikiaaPp
import Derived.Test.YtfjhecilkeikiaaPg
import Derived.Test.YtfjhecilkeikiaaPh
import Derived.Test.YtfjhecilkeikiaaTk
import Derived.Test.YtfjhecilkeikiaaCl
import Derived.Test.YtfjhecilkeikiaaAc
import Derived.Test.YtfjhecilkeikiaaAw
import Derived.Test.YtfjhecilkeikiaaPn
import Derived.Test.YtfjhecilkeikiaaPt
/- The order of pairs by carets, then by texts: plain Lean. -/
namespace Go.Proofs.Ytfjhecilkeikiaa.N
set_option linter.unusedVariables false
set_option linter.unusedSimpArgs false

def ltP (y b : Tr × Tr) : Bool := decide (y.1.carets < b.1.carets) || (decide (y.1.carets = b.1.carets) && blt (ptx y) (ptx b))
theorem ltP_irr (a : Tr × Tr) : ltP a a = false := by simp [ltP, blt_irrefl]
theorem ltP_false {a b : Tr × Tr} : ltP a b = false ↔ b.1.carets ≤ a.1.carets ∧ (a.1.carets = b.1.carets → blt (ptx a) (ptx b) = false) := by
  unfold ltP
  simp only [Bool.or_eq_false_iff, Bool.and_eq_false_iff, decide_eq_false_iff_not, Nat.not_lt]
  constructor
  · rintro ⟨h1, h2⟩; exact ⟨h1, fun e => h2.resolve_left fun n => n e⟩
  · rintro ⟨h1, h2⟩; exact ⟨h1, by by_cases e : a.1.carets = b.1.carets; exact .inr (h2 e); exact .inl e⟩
theorem ltP_true {a b : Tr × Tr} : ltP a b = true ↔ a.1.carets < b.1.carets ∨ (a.1.carets = b.1.carets ∧ blt (ptx a) (ptx b) = true) := by
  unfold ltP; simp
theorem ltP_nt {a b c : Tr × Tr} (h1 : ltP a b = false) (h2 : ltP b c = false) : ltP a c = false := by
  rw [ltP_false] at *
  exact ⟨by omega, fun e => blt_ntrans (h1.2 (by omega)) (h2.2 (by omega))⟩
theorem ltP_asym {a b : Tr × Tr} (h : ltP a b = true) : ltP b a = false := by
  rw [ltP_true] at h; rw [ltP_false]
  rcases h with h | ⟨h1, h2⟩
  · exact ⟨by omega, fun e => by omega⟩
  · refine ⟨by omega, fun _ => ?_⟩
    cases h3 : blt (ptx b) (ptx a) with
    | false => rfl
    | true => have := blt_trans h2 h3; rw [blt_irrefl] at this; cases this
theorem ltP_tot {a b : Tr × Tr} (h1 : ltP a b = false) (h2 : ltP b a = false) : a = b := by
  rw [ltP_false] at *
  exact ptx_inj (blt_total (h1.2 (by omega)) (h2.2 (by omega)))

/-- The conjugates by all words of so many letters; by the reduced ones. -/
def conjsA (p : Tr × Tr) (n : Nat) : List (Tr × Tr) := (allW n).map fun w => conjF (red p) w
def conjsR (p : Tr × Tr) (n : Nat) : List (Tr × Tr) := (redWd n).map fun w => conj p (pairW w)
/-- The least conjugate by words of fewer than n letters. -/
def leastA (p : Tr × Tr) : Nat → Tr × Tr
  | 0 => red p
  | n + 1 => leastL ltP (leastA p n) (conjsA p n)
/-- The least one of the pair and its conjugates by reduced words of 1 to n letters. -/
def leastR (p : Tr × Tr) : Nat → Tr × Tr
  | 0 => red p
  | n + 1 => leastL ltP (leastR p n) (conjsR p (n + 1))
theorem leastL_app {α : Type} (less : α → α → Bool) (b : α) (l m : List α) : leastL less b (l ++ m) = leastL less (leastL less b l) m := by simp [leastL, List.foldl_append]
theorem leastA_flat (p : Tr × Tr) : ∀ n, leastA p n = leastL ltP (red p) ((List.range n).flatMap (conjsA p))
  | 0 => rfl
  | n + 1 => by rw [leastA, leastA_flat p n, List.range_succ, List.flatMap_append, leastL_app]; simp
theorem leastR_flat (p : Tr × Tr) : ∀ n, leastR p n = leastL ltP (red p) ((List.range n).flatMap fun k => conjsR p (k + 1))
  | 0 => rfl
  | n + 1 => by rw [leastR, leastR_flat p n, List.range_succ, List.flatMap_append, leastL_app]; simp
theorem least_eq {p : Tr × Tr} (hp : Bal p) (n : Nat) : leastA p (n + 1) = leastR p n := by
  rw [leastA_flat, leastR_flat]
  refine least_same ltP ltP_irr (fun _ _ _ => ltP_nt) (fun _ _ => ltP_asym) (fun _ _ => ltP_tot) _ _ _ ?_ ?_
  · intro y hy
    simp only [List.mem_flatMap, List.mem_range, conjsA, List.mem_map] at hy
    obtain ⟨k, hk, w, hw, rfl⟩ := hy
    rw [conjF_pairW hp (allW_nz hw)]
    obtain ⟨m, v, hm, hv, he⟩ := reduced_word k w hw
    rw [← he]
    cases m with
    | zero =>
      simp only [redWd, List.mem_singleton] at hv
      subst hv
      rw [← conjF_pairW hp (fun x hx => by cases hx)]
      exact List.mem_cons_self
    | succ m =>
      refine List.mem_cons_of_mem _ ?_
      simp only [List.mem_flatMap, List.mem_range, conjsR, List.mem_map]
      exact ⟨m, by omega, v, hv, rfl⟩
  · intro y hy
    simp only [List.mem_flatMap, List.mem_range, conjsR, List.mem_map] at hy
    obtain ⟨k, hk, w, hw, rfl⟩ := hy
    rw [redWd_eq, List.mem_filter] at hw
    refine List.mem_cons_of_mem _ ?_
    simp only [List.mem_flatMap, List.mem_range, conjsA, List.mem_map]
    exact ⟨k + 1, by omega, w, hw.1, conjF_pairW hp (allW_nz hw.1)⟩
end Go.Proofs.Ytfjhecilkeikiaa.N
