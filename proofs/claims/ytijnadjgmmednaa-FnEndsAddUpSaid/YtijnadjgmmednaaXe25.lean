import Derived.Test.YtijnadjgmmednaaXe6
import Derived.Test.YtijnadjgmmednaaXe20
/- A part of the proof: lemmas that later parts use. -/
set_option linter.unusedVariables false
set_option linter.unusedSimpArgs false
namespace Go.Proofs.Ytijnadjgmmednaa.N
open Go.RowKit Go.Proofs.YtijnadjgmmednaaW.PrintWords
theorem kdR_of_own {w : World} {base : Nat} {v : Value} {xs : List Int} (h : Own w base 3 v (ints xs)) : Kd.R (Kd.int .i64) 3 w base (fun _ => True) v xs := by
  unfold Own at h
  rw [ints_length] at h
  exact Kd.R_of_own (enc := Value.int .i64) h (fun _ _ => trivial)
end Go.Proofs.Ytijnadjgmmednaa.N
