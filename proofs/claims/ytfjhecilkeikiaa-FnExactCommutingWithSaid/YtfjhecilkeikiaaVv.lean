import Derived.Test.YtfjhecilkeikiaaBa
import Derived.Test.YtfjhecilkeikiaaPu
import Derived.Test.YtfjhecilkeikiaaSl
import Derived.Test.YtfjhecilkeikiaaProg
import Derived.Test.YtfjhecilkeikiaaTs
import Derived.Test.YtfjhecilkeikiaaWl
import Derived.Test.YtfjhecilkeikiaaWt
import Derived.Test.YtfjhecilkeikiaaWu
import Derived.Test.YtfjhecilkeikiaaVt
import Derived.Test.YtfjhecilkeikiaaVu
import Derived.Test.YtfjhecilkeikiaaTn
import Derived.Test.YtfjhecilkeikiaaTp
import Derived.Deep.LoopGhost
import Derived.Deep.QuietTactic
import Derived.BigQuiet
import Derived.Deep.RegionHeld3
import Derived.DataElems
/- The value of a tree under a table: the program and the reference. -/
namespace Go.Proofs.Ytfjhecilkeikiaa.N
open Go.RowKit
set_option linter.unusedVariables false
set_option linter.unusedSimpArgs false

def val (g : Nat → Nat → Nat) : Tr → List Nat → Nat
  | .leaf, ys => ys.getD 0 0
  | .node l r, ys => g (val g l ys) (val g r (ys.drop (l.carets + 1)))
theorem val_lt {g : Nat → Nat → Nat} {n : Nat} (hg : ∀ i j, i < n → j < n → g i j < n) : ∀ (T : Tr) (ys : List Nat), T.carets < ys.length → (∀ y ∈ ys, y < n) → val g T ys < n
  | .leaf, ys, h, hy => by
    cases ys with
    | nil => simp [Tr.carets] at h
    | cons y ys => exact hy y List.mem_cons_self
  | .node l r, ys, h, hy => by
    simp only [Tr.carets] at h
    exact hg _ _ (val_lt hg l ys (by omega) hy) (val_lt hg r _ (by rw [List.length_drop]; omega) fun y hm => hy y (List.mem_of_mem_drop hm))
theorem val_take (g : Nat → Nat → Nat) : ∀ (T : Tr) (ys : List Nat) (k : Nat), T.carets < k → val g T (ys.take k) = val g T ys
  | .leaf, ys, k, h => by
    cases ys with
    | nil => simp
    | cons y ys => obtain ⟨k, rfl⟩ : ∃ m, k = m + 1 := ⟨k - 1, by simp only [Tr.carets] at h; omega⟩; rfl
  | .node l r, ys, k, h => by
    simp only [Tr.carets] at h
    simp only [val]
    rw [val_take g l ys k (by omega), List.drop_take, val_take g r _ _ (by omega)]
/-- A slice that reads, its capacity no less than its length. -/
def RC (w : World) (v : Value) (xs : List Value) : Prop := Reads w v xs ∧ ∃ A c, v = .slice A xs.length c ∧ xs.length ≤ c
theorem RC.ext {w w' : World} {v : Value} {xs : List Value} (h : RC w v xs) (hx : Ext w w') : RC w' v xs := ⟨h.1.ext hx, h.2⟩
theorem Own.rc {w : World} {base : Nat} {e : TypeId} {v : Value} {xs : List Value} (h : Own w base e v xs) : RC w v xs := by
  refine ⟨h.reads, ?_⟩
  rcases h.2 with ⟨rfl, h0⟩ | ⟨g, cap, cur, rfl, hb, hh, h1, h2⟩
  · exact ⟨none, 0, by rw [h0], by omega⟩
  · exact ⟨_, cap, rfl, h1⟩
/-- Its cells. -/
theorem RC.open {w : World} {v : Value} {ys : List Nat} (h : RC w v (nats ys)) (hp : 0 < ys.length) : ∃ ad c, v = .slice (some ad) ys.length c ∧ ys.length ≤ c ∧ w.cell? (ad.add 0) = some (.int .i64 (ys.getD 0 0 : Nat)) ∧
    (∀ k, k ≤ ys.length → RC w (.slice (some (ad.add k)) (ys.length - k) (c - k)) (nats (ys.drop k))) ∧ ∀ k, k ≤ ys.length → RC w (.slice (some ad) k c) (nats (ys.take k)) := by
  obtain ⟨⟨A, c, e, _, hc⟩, A', c', rfl, hle⟩ := h
  rw [nats_length] at *
  injection e with e1 _ e3
  subst e1 e3
  obtain ⟨ad, rfl, hcell⟩ := hc hp
  have at_ : ∀ j, j < ys.length → w.cell? (ad.add j) = some (.int .i64 (ys.getD j 0 : Nat)) := fun j hj => by
    rw [hcell j _ (nats_get ys j hj), List.getD_eq_getElem?_getD, List.getElem?_eq_getElem hj]; rfl
  refine ⟨ad, c', rfl, hle, at_ 0 hp, fun k hk => ?_, fun k hk => ?_⟩
  · have e1 : (nats (ys.drop k)).length = ys.length - k := by rw [nats_length, List.length_drop]
    refine ⟨⟨some (ad.add k), c' - k, by rw [e1], (fun h => by cases h), fun _ => ⟨_, rfl, fun j u hu => ?_⟩⟩, _, _, by rw [e1], by rw [e1]; omega⟩
    have hj : j < ys.length - k := by rw [← e1]; exact (List.getElem?_eq_some_iff.1 hu).1
    rw [Go.Addr.add_add, at_ (k + j) (by omega), ← hu, nats_get _ _ (by rw [List.length_drop]; exact hj), List.getElem_drop, List.getD_eq_getElem?_getD, List.getElem?_eq_getElem (by omega)]
    rfl
  · have e1 : (nats (ys.take k)).length = k := by rw [nats_length, List.length_take]; omega
    refine ⟨⟨some ad, c', by rw [e1], (fun h => by cases h), fun _ => ⟨_, rfl, fun j u hu => ?_⟩⟩, _, _, by rw [e1], by rw [e1]; omega⟩
    have hj : j < k := by rw [← e1]; exact (List.getElem?_eq_some_iff.1 hu).1
    rw [at_ j (by omega), ← hu, nats_get _ _ (by rw [List.length_take]; omega), List.getElem_take, List.getD_eq_getElem?_getD, List.getElem?_eq_getElem (by omega)]
    rfl
theorem RC.gone (w : World) (ad : Addr) (k : Nat) (ys : List Nat) (h : ys.length ≤ k) : RC w (.slice (some ad) 0 0) (nats (ys.drop k)) := by
  rw [List.drop_eq_nil_of_le h]
  exact ⟨⟨some ad, 0, rfl, (fun h => by cases h), fun h => absurd h (Nat.lt_irrefl _)⟩, some ad, 0, rfl, Nat.le_refl _⟩

