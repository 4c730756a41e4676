import Derived.Test.YtdcipaaclpedhaaGreatXr29
import Derived.Test.YtdcipaaclpedhaaGreatXr30
/- A part of the proof: lemmas that later parts use. -/
set_option linter.unusedVariables false
set_option linter.unusedSimpArgs false
namespace Go.Proofs.YtdcipaaclpedhaaGreat.PA
open Go.RowKit Go.Proofs.YtdcipaaclpedhaaGreatW.PrintWords
theorem pair_ev {l : List Int} (hl : Oct l) {m : Nat} {a s : Int} (n : Nat) (hn : n ≤ 100) (h : Lf (m + 8 * n + 100) a) : ∃ (x y : ByteArray) (a' s' : Int), Ev (fun k => spec_l1Cur_pair.f k l a s n) (x, y, a', s') ∧ Lf m a' := by
  obtain ⟨x, y, a', s', e, _, _, h'⟩ := pair_tot hl (m := m) (a := a) (s := s) n hn 121 (by omega) h
  exact ⟨x, y, a', s', Ev.of (fun k => spec_l1Cur_pair.mono _ _ _ _ k) (k := 121) e, h'⟩
end Go.Proofs.YtdcipaaclpedhaaGreat.PA
