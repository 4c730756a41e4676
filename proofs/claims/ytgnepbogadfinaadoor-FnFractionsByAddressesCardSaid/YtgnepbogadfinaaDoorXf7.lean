import Derived.Deep.LoopGhost
import Derived.StillTailTactics
import Derived.Test.YtgnepbogadfinaaDoorXf5
/- A part of the proof: lemmas that later parts use. -/
set_option linter.unusedVariables false
set_option linter.unusedSimpArgs false
namespace Go.Proofs.YtgnepbogadfinaaDoor.N
open Go.RowKit
theorem Ext.setCell {a b : World} (h : Ext a b) {p : Addr} (hp : a.heap.size ≤ p.block) (u : Value) : Ext a (b.setCell p u) := Below.setCell h hp u
theorem Ext.frozen {a b : World} (h : Ext a b) {p : Addr} (hp : p.block < a.heap.size) : b.frozen? p = a.frozen? p := Below.frozen h hp
structure Two (w : World) (g : Nat) (t : TypeId) : Prop where
  at_ : ∃ u v, w.heap[g]? = some (.cells #[u, v] t)
theorem Two.ext {w w' : World} {g t} (h : Two w g t) (hx : Ext w w') : Two w' g t := ⟨let ⟨u, v, e⟩ := h.at_; ⟨u, v, hx.at e⟩⟩
theorem Two.new (w : World) {n : Nat} (u v : Value) (t : TypeId) (h : w.heap.size = n) : Two (w.alloc (.cells #[u, v] t)) n t := ⟨u, v, h ▸ heap_alloc_new w _⟩
theorem Two.facts {w : World} {g t} (h : Two w g t) : ∃ u v, w.cell? ⟨g, 0, none⟩ = some u ∧ w.cell? ⟨g, 1, none⟩ = some v ∧ w.frozen? ⟨g, 0, none⟩ = false ∧ w.frozen? ⟨g, 1, none⟩ = false := by
  obtain ⟨u, v, e⟩ := h.at_
  exact ⟨u, v, (cells_of e).1, (cells_of e).2, by simp [World.frozen?, e], by simp [World.frozen?, e]⟩
def set2 (w : World) (g : Nat) (a b : Value) : World := (w.setCell ⟨g, 0, none⟩ a).setCell ⟨g, 1, none⟩ b
theorem set2_heap {w : World} {g t} (h : Two w g t) (a b : Value) : (set2 w g a b).heap[g]? = some (.cells #[a, b] t) := by
  obtain ⟨u, v, e⟩ := h.at_
  have h1 := heap_setCell_same w g 0 #[u, v] t a e
  have h2 := heap_setCell_same (w.setCell ⟨g, 0, none⟩ a) g 1 _ t b h1
  exact h2
theorem set2_other {w : World} {g k : Nat} (hk : k ≠ g) (a b : Value) : (set2 w g a b).heap[k]? = w.heap[k]? := by
  unfold set2
  rw [Below.heap_setCell _ _ _ _ (by exact hk), Below.heap_setCell _ _ _ _ (by exact hk)]
theorem Ext.set2 {a w : World} (h : Ext a w) {g : Nat} (hg : a.heap.size ≤ g) (u v : Value) : Ext a (N.set2 w g u v) := (h.setCell (p := ⟨g, 0, none⟩) hg u).setCell (p := ⟨g, 1, none⟩) hg v
theorem Rep.set2 {w : World} {g t} (h : Two w g t) (ht : t ≠ 121) (a b : Value) : ∀ {T p}, Rep w T p → Rep (N.set2 w g a b) T p
  | .leaf, _, hr => hr
  | .node _ _, _, ⟨c, pl, pr, e, h0, hl, hr⟩ => ⟨c, pl, pr, e, by
      rw [set2_other (fun e2 => by
        obtain ⟨u, v, e3⟩ := h.at_
        rw [← e2, h0] at e3
        injection e3 with e3
        injection e3 with _ e4
        exact ht e4.symm)]; exact h0, Rep.set2 h ht a b hl, Rep.set2 h ht a b hr⟩
theorem Rep.set {w : World} {q : Addr} {u : Value} (hq : ∀ l r, w.heap[q.block]? ≠ some (.cells #[l, r] 121)) : ∀ {T p}, Rep w T p → Rep (w.setCell q u) T p
  | .leaf, _, hr => hr
  | .node _ _, _, ⟨b, pl, pr, e, h0, hl, hr⟩ => ⟨b, pl, pr, e, by
      rw [Below.heap_setCell _ _ _ _ (fun e2 => hq _ _ (e2 ▸ h0))]; exact h0, Rep.set hq hl, Rep.set hq hr⟩
end Go.Proofs.YtgnepbogadfinaaDoor.N
namespace Go.Proofs.YtgnepbogadfinaaDoor.N
open Go.RowKit
def Run (F : FuncId) : Prop := ∀ args w, (callFunc F args).run Tryd.prog w = .ok (.enter F args) w
structure Clo (w : World) (N : Nat) (h : Nat → Tr) (F : FuncId) (cap : Array Value) : Prop where
  run : Run F
  call : ∀ k, k < N → ∀ w', Ext w w' → Calls Tryd.prog F (#[.int .i64 k] ++ cap) w' (GivesT w' (h k))
theorem Clo.ext {w w' : World} {N h F cap} (k : Clo w N h F cap) (hx : Ext w w') : Clo w' N h F cap := ⟨k.run, fun i hi w2 h2 => k.call i hi w2 (hx.trans h2)⟩
end Go.Proofs.YtgnepbogadfinaaDoor.N
namespace Go.Proofs.YtgnepbogadfinaaDoor.N
open Go.RowKit
theorem Two.far {w : World} {g k : Nat} {t : TypeId} (h : Two w k t) (hk : k ≠ g) (a b : Value) : Two (set2 w g a b) k t := let ⟨u, v, e⟩ := h.at_; ⟨u, v, (set2_other hk a b).trans e⟩
end Go.Proofs.YtgnepbogadfinaaDoor.N
