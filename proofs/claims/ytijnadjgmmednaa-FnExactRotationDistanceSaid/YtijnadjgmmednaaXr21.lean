import Derived.Test.YtijnadjgmmednaaXr3
import Derived.Test.YtijnadjgmmednaaXr20
/- A part of the proof: lemmas that later parts use. -/
set_option linter.unusedVariables false
set_option linter.unusedSimpArgs false
namespace Go.Proofs.Ytijnadjgmmednaa.PA
open Go.RowKit Go.Proofs.YtijnadjgmmednaaW.PrintWords
theorem lB {w W V : World} (h : Below w.heap.size w W) (s : Below w.heap.size w W → Below w.heap.size w V := by (intro h0_; repeat (first | (with_reducible first | exact h0_ | apply below_alloc | apply pw_below_drewN | apply below_drew1 | refine below_set ?_ (Aside0.out (by assumption)) | refine below_set ?_ (IsS78.ge (Aside0.out (by assumption)))) | exact h0_))) : Below w.heap.size w V := s h
theorem lr {p : Prop} (h : p := by first | (go_simp; done) | (go_simp; rfl)) : p := h
theorem lm {p : Prop} (h : p := by (try simp only [List.map_toArray, List.map_cons, List.map_nil]); first | done | rfl | (simp only [List.length_drop, List.length_take]; rfl)) : p := h
end Go.Proofs.Ytijnadjgmmednaa.PA
