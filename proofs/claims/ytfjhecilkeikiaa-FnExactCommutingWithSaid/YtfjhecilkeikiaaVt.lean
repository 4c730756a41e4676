import Derived.Test.YtfjhecilkeikiaaBa
import Derived.Test.YtfjhecilkeikiaaPu
import Derived.Test.YtfjhecilkeikiaaSl
import Derived.Test.YtfjhecilkeikiaaProg
import Derived.Test.YtfjhecilkeikiaaWl
import Derived.Test.YtfjhecilkeikiaaWt
import Derived.Deep.LoopGhost
import Derived.Deep.QuietTactic
import Derived.BigQuiet
/- Is it a table: the program and the reference. -/
namespace Go.Proofs.Ytfjhecilkeikiaa.N
open Go.RowKit
set_option linter.unusedVariables false
set_option linter.unusedSimpArgs false

def InN (n : Nat) (xs : List Int) : Prop := ∀ x ∈ xs, 0 ≤ x ∧ x < (n : Int)
instance (n : Nat) (xs : List Int) : Decidable (InN n xs) := by unfold InN; infer_instance
def RowN (n : Nat) (xs : List Int) : Prop := xs.length = n ∧ InN n xs
instance (n : Nat) (xs : List Int) : Decidable (RowN n xs) := by unfold RowN; infer_instance
def Tab (xss : List (List Int)) : Prop := (1 ≤ xss.length ∧ xss.length ≤ 4) ∧ ∀ xs ∈ xss, RowN xss.length xs
instance (xss : List (List Int)) : Decidable (Tab xss) := by unfold Tab; infer_instance
theorem all_step {α : Type} {p : α → Prop} {l : List α} {k : Nat} {x : α} (hk : l[k]? = some x) (hx : p x) (h : (∀ y ∈ l, p y) ↔ ∀ y ∈ l.drop k, p y) : (∀ y ∈ l, p y) ↔ ∀ y ∈ l.drop (k + 1), p y := by
  obtain ⟨h1, h2⟩ := List.getElem?_eq_some_iff.1 hk
  rw [h, List.drop_eq_getElem_cons h1, h2]
  simp [hx]
theorem all_not {α : Type} {p : α → Prop} {l : List α} {k : Nat} {x : α} (hk : l[k]? = some x) (hx : ¬ p x) : ¬ ∀ y ∈ l, p y := fun h => hx (h x (List.mem_of_getElem? hk))
theorem all_end {α : Type} {p : α → Prop} {l : List α} {k : Nat} (hk : l.length ≤ k) (h : (∀ y ∈ l, p y) ↔ ∀ y ∈ l.drop k, p y) : ∀ y ∈ l, p y := by
  rw [h, List.drop_eq_nil_of_le hk]; simp

theorem l1In_calls (x lo hi : Int) (w : World) :
    Calls Try.prog 37 #[.int .i64 x, .int .i64 lo, .int .i64 hi] w fun e w' => e = .returned (.bool (decide (lo ≤ x ∧ x ≤ hi))) ∧ w = w' := by
  by_cases h1 : lo ≤ x
  · by_cases h2 : x ≤ hi
    · rw [decide_eq_true ⟨h1, h2⟩]
      go_enter Try.func37, Try.ntmps37
      go_wp2_with fail
      go_ret
      exact ⟨rfl, rfl⟩
    · rw [decide_eq_false (fun h => h2 h.2)]
      go_enter Try.func37, Try.ntmps37
      go_wp2_with fail
      go_ret
      exact ⟨rfl, rfl⟩
  · rw [decide_eq_false (fun h => h1 h.1)]
    go_enter Try.func37, Try.ntmps37
    go_wp2_with fail
    go_ret
    exact ⟨rfl, rfl⟩
def InI (lo hi : Int) (xs : List Int) : Prop := ∀ x ∈ xs, lo ≤ x ∧ x ≤ hi
instance (lo hi : Int) (xs : List Int) : Decidable (InI lo hi xs) := by unfold InI; infer_instance
theorem InI_InN (n : Nat) (xs : List Int) : InI 0 ((n : Int) - 1) xs ↔ InN n xs := by
  unfold InI InN
  exact forall_congr' fun x => forall_congr' fun _ => by omega

