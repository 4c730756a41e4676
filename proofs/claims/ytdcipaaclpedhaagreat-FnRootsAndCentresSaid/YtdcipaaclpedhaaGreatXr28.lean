import Derived.Maps.OwnOps
import Derived.Maps.OwnSet
import Derived.Maps.Views
import Derived.StringKeys
import Derived.Test.YtdcipaaclpedhaaGreatXr11
import Derived.Test.YtdcipaaclpedhaaGreatXr20
/- A part of the proof: lemmas that later parts use. -/
set_option linter.unusedVariables false
set_option linter.unusedSimpArgs false
namespace Go.Proofs.YtdcipaaclpedhaaGreat.N
open Go.RowKit Go.Maps Go.Proofs.YtdcipaaclpedhaaGreatW.PrintWords
abbrev DM := DataW Unit
def keyL (U : Tr) : Lit := .string (tx U).data.toList
theorem keyL_inj {U V : Tr} (h : keyL U = keyL V) : U = V := by
  unfold keyL at h
  injection h with h
  exact tx_inj (ByteArray.ext (Array.toList_inj.1 h))
theorem keyL_is (U : Tr) : WideAt.IsKeyLit (keyL U) := trivial
def MD (D : DM) (K : List Tr) (g : Tr → Nat) : Prop := (∀ U, Maps.has D (keyL U) = true ↔ U ∈ K) ∧ ∀ U, U ∈ K → D.atKey (keyL U) (.lit (.int .i64 0)) = .lit (.int .i64 (g U))
theorem MD.put {D : DM} {K : List Tr} {g g' : Tr → Nat} (h : MD D K g) (hm : Maps.IsMap D) {V : Tr} (hg : ∀ U, U ∈ K → g' U = g U) (hV : ¬ V ∈ K) {n : Int} (hn : n = g' V) : MD (D.put (keyL V) (.lit (.int .i64 n))) (K ++ [V]) g' := by
  refine ⟨fun U => ?_, fun U hU => ?_⟩
  · by_cases e : U = V
    · subst e
      rw [has_put_same hm (keyL_is _)]
      simp
    · rw [has_put_other (fun h' => e (keyL_inj h')), h.1 U]
      simp [e]
  · by_cases e : U = V
    · subst e
      rw [atKey_put_same hm (keyL_is _), hn]
    · rw [atKey_put_other (fun h' => e (keyL_inj h'))]
      have hU : U ∈ K := by
        rcases List.mem_append.1 hU with hU | hU
        · exact hU
        · exact absurd (List.mem_singleton.1 hU) e
      rw [h.2 U hU, hg U hU]
theorem MD.first (A : Tr) : MD ((DataW.map [] : DM).put (keyL A) (.lit (.int .i64 0))) [A] (fun _ => 0) := by
  have h0 : MD (DataW.map [] : DM) [] (fun _ => 0) := ⟨fun U => ⟨fun h => absurd (show (false : Bool) = true from h) (by decide), fun h => by cases h⟩, fun U h => by cases h⟩
  exact h0.put ⟨[], rfl⟩ (fun U h => by cases h) (by simp) rfl
def OwnQ (w : World) (base : Nat) (e : TypeId) (v : Value) (xs : List Value) : Prop := QRow w base e 1 v xs.length xs
theorem OwnQ.far {w w' : World} {base : Nat} {e : TypeId} {v : Value} {xs : List Value} {row : Option Nat} (h : OwnQ w base e v xs) (hg : w.grownBy w' row) (hr : ∀ k, row = some k → v.ownBlock ≠ some k) : OwnQ w' base e v xs :=
  q_move h fun k hk => hg.block k (q_lt h k hk) fun e => hr k e.symm hk
theorem OwnQ.ext {w w' : World} {base : Nat} {e : TypeId} {v : Value} {xs : List Value} (h : OwnQ w base e v xs) (hx : Ext w w') : OwnQ w' base e v xs :=
  h.far (hx.grownBy none) (fun k e => by cases e)
theorem OwnQ.reads {w : World} {base : Nat} {e : TypeId} {v : Value} {xs : List Value} (h : OwnQ w base e v xs) : ∃ A c, v = .slice A xs.length c ∧ xs.length ≤ c ∧ (0 < xs.length → ∃ ad, A = some ad ∧ ∀ j u, xs[j]? = some u → w.cell? (ad.add j) = some u) := by
  obtain ⟨A, c, rfl, hc⟩ := q_slice h
  exact ⟨A, c, rfl, hc, fun hp => q_cells h hp⟩
theorem Rep.map {w w' : World} {b : Nat} {es : Array MapEntry} {cl : Nat} (hb : w.heap[b]? = some (.map es cl)) (hg : w.grownBy w' (some b)) : ∀ {T p}, Rep w T p → Rep w' T p
  | .leaf, _, h => h
  | .node _ _, _, ⟨b', pl, pr, e, h0, hl, hr'⟩ => ⟨b', pl, pr, e, (hg.block b' (Array.getElem?_eq_some_iff.1 h0).1 (fun ek => by
      injection ek with ek
      subst ek
      rw [hb] at h0
      injection h0 with h0
      cases h0)).trans h0, Rep.map hb hg hl, Rep.map hb hg hr'⟩
theorem Reps.map {w w' : World} {b : Nat} {es : Array MapEntry} {cl : Nat} {Ts ps} (h : Reps w Ts ps) (hb : w.heap[b]? = some (.map es cl)) (hg : w.grownBy w' (some b)) : Reps w' Ts ps :=
  ⟨h.1, fun k T p h1 h2 => (h.2 k T p h1 h2).map hb hg⟩
def OwnMap (w : World) (b n : Nat) (D : DM) : Prop := w.ownsMap Tryz.prog 9 (plainElem Tryz.prog 3) b n D
theorem OwnMap.obj {w : World} {b n : Nat} {D : DM} (h : OwnMap w b n D) : ∃ es cl, w.heap[b]? = some (.map es cl) := let ⟨es, cl, hb, _⟩ := h; ⟨es, cl, hb⟩
theorem OwnMap.ext {w w' : World} {b n : Nat} {D : DM} (h : OwnMap w b n D) (hx : Ext w w') : OwnMap w' b n D := World.ownsMap.kept h (hx.grownBy none) (by simp)
theorem OwnMap.q {w w' : World} {b n base : Nat} {D : DM} {e : TypeId} {v : Value} {xs : List Value} (h : OwnMap w b n D) (hq : OwnQ w base e v xs) (hg : w.grownBy w' v.ownBlock) : OwnMap w' b n D :=
  World.ownsMap.kept h hg (fun e => by
    obtain ⟨es, cl, hb⟩ := h.obj
    obtain ⟨_, cs, h2⟩ := q_typed hq b e.symm
    rw [hb] at h2
    injection h2 with h2
    cases h2)
theorem OwnQ.map {w w' : World} {b n base : Nat} {D : DM} {e : TypeId} {v : Value} {xs : List Value} (hq : OwnQ w base e v xs) (h : OwnMap w b n D) (hg : w.grownBy w' (some b)) : OwnQ w' base e v xs :=
  hq.far hg (fun k hk e => by
    injection hk with hk
    subst hk
    obtain ⟨es, cl, hb⟩ := h.obj
    obtain ⟨_, cs, h2⟩ := q_typed hq _ e
    rw [hb] at h2
    injection h2 with h2
    cases h2)
theorem Own.map {w w' : World} {b n base : Nat} {D : DM} {e : TypeId} {v : Value} {xs : List Value} (hq : Own w base e v xs) (h : OwnMap w b n D) (hg : w.grownBy w' (some b)) : Own w' base e v xs :=
  hq.far hg (fun k hk e => by
    injection hk with hk
    subst hk
    obtain ⟨es, cl, hb⟩ := h.obj
    obtain ⟨cs, fr, h2⟩ := hq.typed _ e
    rw [hb] at h2
    injection h2 with h2
    cases h2)
end Go.Proofs.YtdcipaaclpedhaaGreat.N
