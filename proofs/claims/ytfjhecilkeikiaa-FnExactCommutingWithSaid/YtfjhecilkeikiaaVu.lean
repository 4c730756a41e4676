import Derived.Test.YtfjhecilkeikiaaBa
import Derived.Test.YtfjhecilkeikiaaPu
import Derived.Test.YtfjhecilkeikiaaSl
import Derived.Test.YtfjhecilkeikiaaProg
import Derived.Test.YtfjhecilkeikiaaWl
import Derived.Test.YtfjhecilkeikiaaWt
import Derived.Test.YtfjhecilkeikiaaVt
import Derived.Deep.LoopGhost
import Derived.Deep.QuietTactic
import Derived.BigQuiet
/- The first three for which a table is not associative: the program and the reference. -/
namespace Go.Proofs.Ytfjhecilkeikiaa.N
open Go.RowKit
set_option linter.unusedVariables false
set_option linter.unusedSimpArgs false

def okT (g : Nat → Nat → Nat) (i j k : Nat) : Prop := g i (g j k) = g (g i j) k
def IsBrk (n : Nat) (g : Nat → Nat → Nat) (l : List Int) : Prop :=
  (l = [] ∧ ∀ i j k, i < n → j < n → k < n → okT g i j k) ∨
  ∃ i j k, i < n ∧ j < n ∧ k < n ∧ l = [(i : Int), (j : Int), (k : Int)] ∧ ¬ okT g i j k ∧ (∀ i' j k, i' < i → j < n → k < n → okT g i' j k) ∧ (∀ j' k, j' < j → k < n → okT g i j' k) ∧ ∀ k', k' < k → okT g i j k'
theorem IsBrk.uniq {n : Nat} {g : Nat → Nat → Nat} {l l' : List Int} (h : IsBrk n g l) (h' : IsBrk n g l') : l = l' := by
  rcases h with ⟨rfl, h⟩ | ⟨i, j, k, hi, hj, hk, rfl, h1, h2, h3, h4⟩
  · rcases h' with ⟨rfl, h'⟩ | ⟨i, j, k, hi, hj, hk, rfl, h1, h2, h3, h4⟩
    · rfl
    · exact absurd (h i j k hi hj hk) h1
  · rcases h' with ⟨rfl, h'⟩ | ⟨i', j', k', hi', hj', hk', rfl, h1', h2', h3', h4'⟩
    · exact absurd (h' i j k hi hj hk) h1
    · have ei : i = i' := by
        rcases Nat.lt_trichotomy i i' with h | h | h
        · exact absurd (h2' i j k h hj hk) h1
        · exact h
        · exact absurd (h2 i' j' k' h hj' hk') h1'
      subst ei
      have ej : j = j' := by
        rcases Nat.lt_trichotomy j j' with h | h | h
        · exact absurd (h3' j k h hk) h1
        · exact h
        · exact absurd (h3 j' k' h hk') h1'
      subst ej
      have ek : k = k' := by
        rcases Nat.lt_trichotomy k k' with h | h | h
        · exact absurd (h4' k h) h1
        · exact h
        · exact absurd (h4 k' h) h1'
      rw [ek]
theorem least_of {p : Nat → Prop} (h : ∃ n, p n) : ∃ n, p n ∧ ∀ m, m < n → ¬ p m := by
  obtain ⟨n, hn⟩ := h
  induction n using Nat.strongRecOn with
  | _ n ih =>
    by_cases hl : ∃ m, m < n ∧ p m
    · obtain ⟨m, hm, pm⟩ := hl
      exact ih m hm pm
    · exact ⟨n, hn, fun m hm pm => hl ⟨m, hm, pm⟩⟩
theorem brk_exists (n : Nat) (g : Nat → Nat → Nat) : ∃ l, IsBrk n g l := by
  by_cases h : ∃ i, i < n ∧ ∃ j k, j < n ∧ k < n ∧ ¬ okT g i j k
  · obtain ⟨i, ⟨hi, h⟩, mi⟩ := least_of h
    obtain ⟨j, ⟨hj, h⟩, mj⟩ := least_of (p := fun j => j < n ∧ ∃ k, k < n ∧ ¬ okT g i j k) (let ⟨j, k, hj, hk, h⟩ := h; ⟨j, hj, k, hk, h⟩)
    obtain ⟨k, ⟨hk, h⟩, mk⟩ := least_of h
    refine ⟨_, .inr ⟨i, j, k, hi, hj, hk, rfl, h, fun i' j k h1 h2 h3 => ?_, fun j' k h1 h2 => ?_, fun k' h1 => ?_⟩⟩
    · exact Classical.byContradiction fun hc => mi i' h1 ⟨by omega, j, k, h2, h3, hc⟩
    · exact Classical.byContradiction fun hc => mj j' h1 ⟨by omega, k, h2, hc⟩
    · exact Classical.byContradiction fun hc => mk k' h1 ⟨by omega, hc⟩
  · exact ⟨[], .inl ⟨rfl, fun i j k hi hj hk => Classical.byContradiction fun hc => h ⟨i, hi, j, k, hj, hk, hc⟩⟩⟩
def TabR (w : World) (v : Value) (n : Nat) (g : Nat → Nat → Nat) : Prop :=
  ∃ (ad : Addr) (c : Nat) (bd : Nat → Addr) (cc : Nat → Nat), v = .slice (some ad) n c ∧ (∀ i, i < n → w.cell? (ad.add i) = some (.slice (some (bd i)) n (cc i))) ∧ ∀ i j, i < n → j < n → w.cell? ((bd i).add j) = some (.int .i64 (g i j))
theorem TabR.ext {w w' : World} {v : Value} {n : Nat} {g : Nat → Nat → Nat} (h : TabR w v n g) (hx : Ext w w') : TabR w' v n g := by
  obtain ⟨ad, c, bd, cc, e, h1, h2⟩ := h
  exact ⟨ad, c, bd, cc, e, fun i hi => hx.cell (h1 i hi), fun i j hi hj => hx.cell (h2 i j hi hj)⟩
def gOf (xss : List (List Int)) (i j : Nat) : Nat := ((xss.getD i []).getD j 0).toNat
theorem gOf_at {xss : List (List Int)} (h : Tab xss) {i j : Nat} {xs : List Int} (hi : xss[i]? = some xs) (hj : j < xss.length) : xs[j]? = some (gOf xss i j : Int) ∧ gOf xss i j < xss.length := by
  have hr := h.2 xs (List.mem_of_getElem? hi)
  have hl : j < xs.length := by rw [hr.1]; exact hj
  have e : xs[j]? = some xs[j] := List.getElem?_eq_getElem hl
  have hb := hr.2 _ (List.mem_of_getElem? e)
  have eg : gOf xss i j = xs[j].toNat := by
    unfold gOf
    rw [show xss.getD i [] = xs from by rw [List.getD_eq_getElem?_getD, hi]; rfl, List.getD_eq_getElem?_getD, e]
    rfl
  rw [eg, e]
  refine ⟨?_, by omega⟩
  congr 1
  omega
theorem gOf_lt {xss : List (List Int)} (h : Tab xss) {i j : Nat} (hi : i < xss.length) (hj : j < xss.length) : gOf xss i j < xss.length := (gOf_at h (List.getElem?_eq_getElem hi) hj).2
theorem ReadsM.tab {w : World} {v : Value} {xss : List (List Int)} (h : ReadsM w v xss) (hT : Tab xss) : TabR w v xss.length (gOf xss) := by
  obtain ⟨A, c, rfl, _, rows⟩ := h.open
  have hn : 0 < xss.length := hT.1.1
  obtain ⟨ad, rfl⟩ : ∃ ad, A = some ad := by obtain ⟨ad, _, _, e, _⟩ := rows 0 _ (List.getElem?_eq_getElem hn); exact ⟨ad, e⟩
  have pick : ∀ i, ∃ p : Addr × Nat, i < xss.length → w.cell? (ad.add i) = some (.slice (some p.1) xss.length p.2) ∧ ∀ j, j < xss.length → w.cell? (p.1.add j) = some (.int .i64 (gOf xss i j)) := by
    intro i
    by_cases hi : i < xss.length
    · have hx := List.getElem?_eq_getElem hi
      obtain ⟨ad', B, d, ea, hc, hr⟩ := rows i _ hx
      cases ea
      have hl := (hT.2 _ (List.mem_of_getElem? hx)).1
      obtain ⟨B', d', eb, _, hb⟩ := hr
      rw [ints_length] at hb
      injection eb with e1 _ e2
      subst e1
      obtain ⟨bd, rfl, hcc⟩ := hb (by omega)
      rw [hl] at hc
      refine ⟨(bd, d), fun _ => ⟨hc, fun j hj => hcc j _ ?_⟩⟩
      have := (gOf_at hT hx hj).1
      simp only [ints, List.getElem?_map, this, Option.map_some]
    · exact ⟨(ad, 0), fun h => absurd h hi⟩
  exact ⟨ad, c, fun i => (Classical.choose (pick i)).1, fun i => (Classical.choose (pick i)).2, rfl, fun i hi => (Classical.choose_spec (pick i) hi).1, fun i j hi hj => (Classical.choose_spec (pick i) hi).2 j hj⟩

