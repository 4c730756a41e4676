import Derived.Test.YtijnadjgmmednaaGreatZc6
import Derived.Test.YtijnadjgmmednaaGreatZc15
/- A part of the proof: lemmas that later parts use. -/
set_option linter.unusedVariables false
set_option linter.unusedSimpArgs false
namespace Go.Proofs.YtijnadjgmmednaaGreat.N
open Go.RowKit Go.Proofs.YtijnadjgmmednaaGreatW.PrintWords
theorem kdR_of_own {w : World} {base : Nat} {v : Value} {xs : List Int} (h : Own w base 3 v (ints xs)) : Kd.R (Kd.int .i64) 3 w base (fun _ => True) v xs := by
  unfold Own at h
  rw [ints_length] at h
  exact Kd.R_of_own (enc := Value.int .i64) h (fun _ _ => trivial)
theorem reads_of_kdC {w : World} {A : Option Addr} {c : Nat} {xs : List Int} (h : Kd.C (Kd.int .i64) w A xs.length xs) : Reads0 w (.slice A xs.length c) (ints xs) := by
  have h2 := Kd.reads_of_C (enc := Value.int .i64) (d := (0 : Int)) h
  refine ⟨A, c, by rw [ints_length], trivial, fun hn => ?_⟩
  rw [ints_length] at hn
  obtain ⟨ad, e, hc⟩ := h2.2.2 hn
  refine ⟨ad, e, fun j u hu => ?_⟩
  unfold ints at hu
  rw [List.getElem?_map] at hu
  cases hx : xs[j]? with
  | none => rw [hx] at hu; cases hu
  | some x =>
    rw [hx] at hu
    obtain rfl := Option.some.inj hu
    have := hc j (List.getElem?_eq_some_iff.1 hx).1
    rw [List.getD_eq_getElem?_getD, hx] at this
    exact this
end Go.Proofs.YtijnadjgmmednaaGreat.N
