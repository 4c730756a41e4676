import Derived.OwnWalk
import Derived.Test.YtijnadjgmmednaaXe7
/- A part of the proof: lemmas that later parts use. -/
set_option linter.unusedVariables false
set_option linter.unusedSimpArgs false
namespace Go.Proofs.Ytijnadjgmmednaa.N
open Go.RowKit
def BytesR (w : World) (v : Value) (n : Nat) : Prop := ∃ A c, v = .slice A n c ∧ n ≤ 1048576 ∧ (0 < n → ∃ ad, A = some ad ∧ ad.block < w.heap.size ∧ ∀ j, j < n → ∃ b : Nat, b < 256 ∧ w.cell? (ad.add j) = some (.int .u8 (b : Nat)))
theorem BytesR.ext {w w' : World} {v : Value} {n : Nat} (h : BytesR w v n) (hx : Ext w w') : BytesR w' v n := by
  obtain ⟨A, c, e, h1, h2⟩ := h
  exact ⟨A, c, e, h1, fun hp => let ⟨ad, ea, hb, hc⟩ := h2 hp; ⟨ad, ea, Nat.lt_of_lt_of_le hb hx.size, fun j hj => let ⟨b, b1, b2⟩ := hc j hj; ⟨b, b1, hx.cell b2⟩⟩⟩
theorem Cur.new {w : World} {v : Value} {n g : Nat} (h : BytesR w v n) (hg : w.heap.size = g) : Cur (w.alloc (.cells #[v, .int .i64 0, .int .u64 0] 78)) g 100000 := by
  subst hg
  obtain ⟨A, c, rfl, h1, h2⟩ := h
  have hx := (Ext.refl w).alloc (.cells #[.slice A n c, .int .i64 0, .int .u64 0] 78)
  exact ⟨A, n, c, 0, 0, heap_alloc_new w _, by omega, h1, fun hp => let ⟨ad, ea, hb, hc⟩ := h2 hp; ⟨ad, ea, hb, fun j hj => let ⟨b, b1, b2⟩ := hc j hj; ⟨b, b1, hx.cell b2⟩⟩⟩
end Go.Proofs.Ytijnadjgmmednaa.N
