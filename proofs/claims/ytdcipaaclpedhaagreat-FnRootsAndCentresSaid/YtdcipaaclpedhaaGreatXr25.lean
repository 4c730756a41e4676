import Derived.Test.YtdcipaaclpedhaaGreatXr4
import Derived.Test.YtdcipaaclpedhaaGreatXr22
/- A part of the proof: lemmas that later parts use. -/
set_option linter.unusedVariables false
set_option linter.unusedSimpArgs false
namespace Go.Proofs.YtdcipaaclpedhaaGreat.PA
open Go.RowKit Go.Proofs.YtdcipaaclpedhaaGreatW.PrintWords
theorem lb {w0 w1 : World} {g : Nat} {o : Obj} (h : w0.heap[g]? = some o) (s : w0.heap[g]? = some o → w1.heap[g]? = some o := by (intro h0_; (with_reducible repeat (first | refine blk_drewN ?_ _ | refine blk_drew ?_ | refine blk_alloc ?_ _)); exact h0_)) : w1.heap[g]? = some o := s h
theorem lB {w W V : World} (h : Below w.heap.size w W) (s : Below w.heap.size w W → Below w.heap.size w V := by (intro h0_; repeat (first | (with_reducible first | exact h0_ | apply below_alloc | apply pw_below_drewN | apply below_drew1 | refine below_set ?_ (Aside0.out (by assumption)) | refine below_set ?_ (IsS47.ge (Aside0.out (by assumption)))) | exact h0_)); first | done | fail) : Below w.heap.size w V := s h
theorem lK {w W V : World} {g : Nat} {row : Option Nat} (h : KeepBut w W g row) (s : KeepBut w W g row → KeepBut w V g row := by (intro h0_; repeat (first | (with_reducible first | exact h0_ | apply KeepBut.set_ | apply keep_drewN | apply keep_drew | apply keep_alloc | refine keep_far ?_ (Aside0.out (by assumption)) _) | exact h0_)); first | done | fail) : KeepBut w V g row := s h
theorem lr {p : Prop} (h : p := by first | (go_simp; done) | (go_simp; rfl)) : p := h
theorem lm {p : Prop} (h : p := by (try simp only [List.map_toArray, List.map_cons, List.map_nil]); first | done | rfl | (simp only [List.length_drop, List.length_take]; rfl)) : p := h
theorem lx {p : Prop} (h : p := by first | rfl | (simp [errW_none, errW_some] <;> rfl) | (simp [*, errW_none, errW_some] <;> rfl)) : p := h
theorem na {w : World} {g h : Nat} {o : Obj} (hg : h = w.heap.size) (b : w.heap[g]? = some o) : Aside0 (g ≠ h) := ⟨by rw [hg]; exact Nat.ne_of_lt (blk_lt b)⟩
theorem nz {w : World} {g h : Nat} {o : Obj} (hg : h = w.heap.size) (b : w.heap[g]? = some o) : Aside0 (h ≠ g) := ⟨by rw [hg]; exact Nat.ne_of_gt (blk_lt b)⟩
theorem gw {w W : World} {h : Nat} (hg : h = W.heap.size) (b : Below w.heap.size w W) : Aside0 (w.heap.size ≤ h) := ⟨by rw [hg]; exact below_size b⟩
end Go.Proofs.YtdcipaaclpedhaaGreat.PA
