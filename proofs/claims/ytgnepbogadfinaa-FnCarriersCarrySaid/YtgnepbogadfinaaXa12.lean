import Derived.Sort.OwnSorted
import Derived.Test.YtgnepbogadfinaaXa7
/- A part of the proof: lemmas that later parts use. -/
set_option linter.unusedVariables false
set_option linter.unusedSimpArgs false
namespace Go.Proofs.Ytgnepbogadfinaa.N
open Go.RowKit
theorem Own.apart2 {w w' : World} {base base' : Nat} {e e' : TypeId} {v v2 : Value} {xs ys : List Value} (h : Own w base e v xs) (h2 : Own w base' e' v2 ys) (he : e ≠ e') (hg : w.grownBy w' v2.ownBlock) : Own w' base e v xs :=
  h.far hg fun k hk hv => by
    obtain ⟨cs, fr, h3⟩ := h.typed k hv
    obtain ⟨cs2, fr2, h4⟩ := h2.typed k hk
    rw [h3] at h4
    injection h4 with h4
    injection h4 with _ h5
    exact he h5
def OwnS (w : World) (base : Nat) (v : Value) (xss : List (List Tr)) : Prop := ∃ us, Own w base 74 v us ∧ us.length = xss.length ∧ (∀ u ∈ us, u.oneCell' = true) ∧ ∀ (r : Nat) (xs : List Tr), xss[r]? = some xs → ∃ u, us[r]? = some u ∧ Own w base 9 u (txs xs)
theorem OwnS.ext {w w' : World} {base : Nat} {v : Value} {xss : List (List Tr)} (h : OwnS w base v xss) (hx : Ext w w') : OwnS w' base v xss :=
  let ⟨us, a, l, o, b⟩ := h; ⟨us, a.ext hx, l, o, fun r xs e => let ⟨u, c, d⟩ := b r xs e; ⟨u, c, d.ext hx⟩⟩
theorem OwnS.open {w : World} {base : Nat} {v : Value} {xss : List (List Tr)} (h : OwnS w base v xss) : ∃ A c, v = .slice A xss.length c ∧
    ∀ (r : Nat) (xs : List Tr), xss[r]? = some xs → ∃ ad B d, A = some ad ∧ w.cell? (ad.add r) = some (.slice B xs.length d) ∧ Own w base 9 (.slice B xs.length d) (txs xs) := by
  obtain ⟨us, ho, l, _, b⟩ := h
  obtain ⟨A, c, rfl, _, h1⟩ := ho.reads
  refine ⟨A, c, by rw [l], fun r xs e => ?_⟩
  obtain ⟨u, hu, k⟩ := b r xs e
  obtain ⟨ad, rfl, hc⟩ := h1 (by have := (List.getElem?_eq_some_iff.1 hu).1; omega)
  have hcu := hc r u hu
  obtain ⟨B, d, rfl, _, _⟩ := k.reads
  rw [txs_length] at *
  exact ⟨ad, B, d, rfl, hcu, k⟩
theorem OwnS.snoc {w w' : World} {base : Nat} {v v' u : Value} {us : List Value} {xss : List (List Tr)} {xs : List Tr}
    (ho : Own w base 74 v us) (hl : us.length = xss.length) (h1 : ∀ u ∈ us, u.oneCell' = true) (hr : ∀ (r : Nat) (xs : List Tr), xss[r]? = some xs → ∃ u, us[r]? = some u ∧ Own w base 9 u (txs xs))
    (hu : Own w base 9 u (txs xs)) (o' : Own w' base 74 v' (us ++ [u])) (hg : w.grownBy w' v.ownBlock) (hu1 : u.oneCell' = true) : OwnS w' base v' (xss ++ [xs]) := by
  refine ⟨us ++ [u], o', by simp [hl], fun x hx => by rcases List.mem_append.1 hx with h | h; exact h1 x h; simp at h; rw [h]; exact hu1, fun r ys e => ?_⟩
  rw [List.getElem?_append] at e
  split at e
  · rename_i h
    obtain ⟨x, hx, hy⟩ := hr r ys e
    exact ⟨x, by rw [List.getElem?_append_left (by omega)]; exact hx, hy.apart2 ho (by decide) hg⟩
  · rename_i h
    have : r = xss.length := by have := (List.getElem?_eq_some_iff.1 e).1; simp at this; omega
    subst this
    have e : xs = ys := by simpa using e
    subst e
    exact ⟨u, by rw [← hl, List.getElem?_append_right (Nat.le_refl _)]; simp, hu.apart2 ho (by decide) hg⟩
end Go.Proofs.Ytgnepbogadfinaa.N
