import Derived.Test.YtfkjjmmoipcddaaBa
import Derived.Test.YtfkjjmmoipcddaaPu
import Derived.Test.YtfkjjmmoipcddaaSl
import Derived.Test.YtfkjjmmoipcddaaProg
import Derived.Test.YtfkjjmmoipcddaaWl
import Derived.Test.YtfkjjmmoipcddaaWt
import Derived.Deep.Matrix
import Derived.Deep.Slices
import Derived.ChangeSlices
/- Arguments that are lists or tables of numbers, as a row opens them. -/
namespace Go.Proofs.Ytfkjjmmoipcddaa.N
open Go.RowKit Go.Deep
set_option linter.unusedVariables false
set_option linter.unusedSimpArgs false

theorem one_int : Try.prog.cellsOf 3 = 1 := by kernel_rfl
theorem ints_of {H : Type} {enc : TypeId × Value → H} {W : World} {held : Bool} {fuel base : Nat} {a : Option Addr} {len cap : Nat} {x : DataW H × List MemPlace}
    (h : DataW.trod enc Try.prog W base (fun _ => true) held fuel 54 (Value.slice a len cap).cells.toList = some x) : ∃ xs : List Int, xs.length ≤ maxLen ∧ Reads W (.slice a len cap) (ints xs) := by
  rcases Go.ChangeShapes.open_ints Try.underlying54 Try.underlying3 one_int h with ⟨hcs, hx⟩ | ⟨ad, len', cap', zs, hcs, _, hl, hm, hz, hx, hcell, hwz⟩
  · simp [Value.cells] at hcs
    obtain ⟨rfl, rfl, rfl⟩ := hcs
    exact ⟨[], by simp, none, 0, rfl, fun _ => rfl, fun h => absurd h (Nat.lt_irrefl _)⟩
  · simp [Value.cells] at hcs
    obtain ⟨rfl, rfl, rfl⟩ := hcs
    simp only [if_true] at hz
    have hl2 : (zs.take len).length = len := by rw [List.length_take]; omega
    refine ⟨zs.take len, by omega, some ad, cap, by rw [ints_length, hl2], (fun h => by cases h), fun _ => ⟨ad, rfl, fun j u hu => ?_⟩⟩
    have hj : j < len := by have := (List.getElem?_eq_some_iff.1 hu).1; rw [ints_length, hl2] at this; exact this
    have hj2 : j < zs.length := by omega
    rw [hcell j hj2, ← hu]
    simp only [ints, List.getElem?_map, List.getElem?_take, if_pos hj, List.getElem?_eq_getElem hj2, Option.map_some, List.getD_eq_getElem?_getD, Option.getD_some]

theorem one_row : Try.prog.cellsOf 54 = 1 := by kernel_rfl
theorem table_of {H : Type} {enc : TypeId × Value → H} {W : World} {held : Bool} {fuel base : Nat} {a : Option Addr} {len cap : Nat} {x : DataW H × List MemPlace}
    (h : DataW.trod enc Try.prog W base (fun _ => true) held fuel 39 (Value.slice a len cap).cells.toList = some x) : ∃ xss : List (List Int), xss.length ≤ maxLen ∧ (∀ xs ∈ xss, xs.length ≤ maxLen) ∧ ReadsM W (.slice a len cap) xss := by
  rcases open_int_rows Try.underlying39 Try.underlying54 Try.underlying3 one_row one_int h with ⟨hcs, hx⟩ | ⟨ad, len', cap', A, L, C, Z, hcs, _, hl, hm, hx, hr⟩
  · simp [Value.cells] at hcs
    obtain ⟨rfl, rfl, rfl⟩ := hcs
    exact ⟨[], by simp, by simp, [], ⟨none, 0, rfl, fun _ => rfl, fun h => absurd h (Nat.lt_irrefl _)⟩, rfl, fun r xs e => by simp at e⟩
  · simp [Value.cells] at hcs
    obtain ⟨rfl, rfl, rfl⟩ := hcs
    have hzl : ∀ r, r < len → ((Z r).take (L r)).length = L r := fun r h => by
      obtain ⟨_, h1, _, h2, _⟩ := hr r (by omega)
      rw [List.length_take]; omega
    refine ⟨(List.range len).map fun r => (Z r).take (L r), by simp; omega, ?_, (List.range len).map fun r => Value.slice (A r) (L r) (C r), ?_, by simp, fun r xs e => ?_⟩
    · intro xs hxs
      obtain ⟨r, hr1, rfl⟩ := List.mem_map.1 hxs
      have hr1 := List.mem_range.1 hr1
      obtain ⟨_, h1, h2, _⟩ := hr r (by omega)
      rw [hzl r hr1]; omega
    · refine ⟨some ad, cap, by simp, (fun h => by cases h), fun _ => ⟨ad, rfl, fun j u hu => ?_⟩⟩
      have hj : j < len := by have := (List.getElem?_eq_some_iff.1 hu).1; simpa using this
      rw [(hr j (by omega)).1, ← hu]
      simp [hj]
    · have hj : r < len := by have := (List.getElem?_eq_some_iff.1 e).1; simpa using this
      obtain ⟨_, h1, h2, h3, _, h4, h5⟩ := hr r (by omega)
      have e : (Z r).take (L r) = xs := by simpa [hj] using e
      subst e
      refine ⟨_, by simp [hj]; rfl, A r, C r, by rw [ints_length, hzl r hj], h4, fun hp => ?_⟩
      rw [ints_length, hzl r hj] at hp
      cases ea : A r with
      | none => have := h4 ea; omega
      | some bd =>
        refine ⟨bd, rfl, fun j u hu => ?_⟩
        have hj2 : j < L r := by have := (List.getElem?_eq_some_iff.1 hu).1; rw [ints_length, hzl r hj] at this; exact this
        have hj3 : j < (Z r).length := by omega
        rw [(h5 bd ea).2 j (by omega), ← hu]
        simp only [ints, List.getElem?_map, List.getElem?_take, if_pos hj2, List.getElem?_eq_getElem hj3, Option.map_some, List.getD_eq_getElem?_getD, Option.getD_some]
end Go.Proofs.Ytfkjjmmoipcddaa.N
