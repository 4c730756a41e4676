import Derived.Test.YtfjhecilkeikiaaBa
import Derived.Test.YtfjhecilkeikiaaPu
import Derived.Test.YtfjhecilkeikiaaSl
import Derived.Test.YtfjhecilkeikiaaProg
import Derived.Test.YtfjhecilkeikiaaTn
import Derived.Test.YtfjhecilkeikiaaTs
import Derived.Test.YtfjhecilkeikiaaPp
import Derived.Test.YtfjhecilkeikiaaPg
import Derived.Test.YtfjhecilkeikiaaPh
import Derived.Test.YtfjhecilkeikiaaWl
import Derived.Test.YtfjhecilkeikiaaTp
import Derived.Test.YtfjhecilkeikiaaTr
import Derived.Test.YtfjhecilkeikiaaTu
import Derived.Test.YtfjhecilkeikiaaTv
import Derived.Test.YtfjhecilkeikiaaTw
import Derived.Test.YtfjhecilkeikiaaTg
import Derived.Test.YtfjhecilkeikiaaTk
import Derived.Test.YtfjhecilkeikiaaCl
import Derived.Test.YtfjhecilkeikiaaAc
import Derived.Test.YtfjhecilkeikiaaAw
import Derived.Test.YtfjhecilkeikiaaRw
import Derived.Test.YtfjhecilkeikiaaPn
import Derived.Test.YtfjhecilkeikiaaPt
import Derived.Test.YtfjhecilkeikiaaLp
import Derived.Deep.LoopGhost
import Derived.Deep.RegionHeld3
import Derived.Deep.QuietTactic
import Derived.StillTailTactics
import Derived.BigQuiet
/- The least conjugate, the program's. -/
namespace Go.Proofs.Ytfjhecilkeikiaa.N
open Go.RowKit
set_option linter.unusedVariables false
set_option linter.unusedSimpArgs false

def gL (s : Tr × Tr) (xs : List Int) (y : Tr × Tr) : (Tr × Tr) × Bool := (if ltP y s then y else s, false)
/-- The pair s lies in the box c. -/
def IL (c : Nat) (s : Tr × Tr) (w : World) : Prop := s.1.carets ≤ 100 ∧ s.2.carets ≤ 100 ∧ ∃ pa pb, w.heap[c]? = some (.cells #[.pointer pa, .pointer pb] 48) ∧ Rep w s.1 pa ∧ Rep w s.2 pb
theorem Rep.grownBy {w w' : World} {row : Option Nat} (h : w.grownBy w' row) (hr : ∀ k, row = some k → NotNode w k) {T p} (r : Rep w T p) : Rep w' T p :=
  r.far h fun k hk => let ⟨cs, e, fr, h1, h2⟩ := hr k hk; ⟨cs, e, fr, h1, h2⟩
theorem IL.ext {c : Nat} {s : Tr × Tr} {w w' : World} (h : IL c s w) (hx : Ext w w') : IL c s w' :=
  let ⟨h1, h2, pa, pb, h3, h4, h5⟩ := h; ⟨h1, h2, pa, pb, hx.at h3, h4.ext hx, h5.ext hx⟩

set_option maxHeartbeats 1600000 in
theorem isMost_calls (n : Int) (w : World) :
    Calls Try.prog 35 #[.int .i64 n] w fun e w' => e = .returned (.bool (decide (0 ≤ n ∧ n ≤ 4))) ∧ w = w' := by
  by_cases h1 : 0 ≤ n
  · by_cases h2 : n ≤ 4
    · rw [decide_eq_true ⟨h1, h2⟩]
      go_enter Try.func35, Try.ntmps35
      go_wp2_with fail
      go_ret
      exact ⟨rfl, rfl⟩
    · rw [decide_eq_false (fun h => h2 h.2)]
      go_enter Try.func35, Try.ntmps35
      go_wp2_with fail
      go_ret
      exact ⟨rfl, rfl⟩
  · rw [decide_eq_false (fun h => h1 h.1)]
    go_enter Try.func35, Try.ntmps35
    go_wp2_with fail
    go_ret
    exact ⟨rfl, rfl⟩

end Go.Proofs.Ytfjhecilkeikiaa.N
