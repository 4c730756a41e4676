import Derived.Maps.OwnOps
import Derived.Maps.OwnSet
import Derived.Maps.Views
import Derived.StringKeys
import Derived.Test.YtijnadjgmmednaaXe7
import Derived.Test.YtijnadjgmmednaaXe8
import Derived.Test.YtijnadjgmmednaaXe15
import Derived.Test.YtijnadjgmmednaaXe20
/- A part of the proof: lemmas that later parts use. -/
set_option linter.unusedVariables false
set_option linter.unusedSimpArgs false
namespace Go.Proofs.Ytijnadjgmmednaa.N
open Go.RowKit Go.Maps Go.Proofs.YtijnadjgmmednaaW.PrintWords
abbrev DM := DataW Unit
def keyL (U : Tr) : Lit := .string (tx U).data.toList
theorem keyL_inj {U V : Tr} (h : keyL U = keyL V) : U = V := by
  unfold keyL at h
  injection h with h
  exact tx_inj (ByteArray.ext (Array.toList_inj.1 h))
theorem keyL_is (U : Tr) : WideAt.IsKeyLit (keyL U) := trivial
def MD (D : DM) (K : List Tr) (g : Tr → Nat) : Prop := (∀ U, Maps.has D (keyL U) = true ↔ U ∈ K) ∧ ∀ U, U ∈ K → D.atKey (keyL U) (.lit (.int .i64 0)) = .lit (.int .i64 (g U))
theorem MD.put {D : DM} {K : List Tr} {g g' : Tr → Nat} (h : MD D K g) (hm : Maps.IsMap D) {V : Tr} (hg : ∀ U, U ∈ K → g' U = g U) (hV : ¬ V ∈ K) {n : Int} (hn : n = g' V) : MD (D.put (keyL V) (.lit (.int .i64 n))) (K ++ [V]) g' := by
  refine ⟨fun U => ?_, fun U hU => ?_⟩
  · by_cases e : U = V
    · subst e
      rw [has_put_same hm (keyL_is _)]
      simp
    · rw [has_put_other (fun h' => e (keyL_inj h')), h.1 U]
      simp [e]
  · by_cases e : U = V
    · subst e
      rw [atKey_put_same hm (keyL_is _), hn]
    · rw [atKey_put_other (fun h' => e (keyL_inj h'))]
      have hU : U ∈ K := by
        rcases List.mem_append.1 hU with hU | hU
        · exact hU
        · exact absurd (List.mem_singleton.1 hU) e
      rw [h.2 U hU, hg U hU]
theorem MD.first (A : Tr) : MD ((DataW.map [] : DM).put (keyL A) (.lit (.int .i64 0))) [A] (fun _ => 0) := by
  have h0 : MD (DataW.map [] : DM) [] (fun _ => 0) := ⟨fun U => ⟨fun h => absurd (show (false : Bool) = true from h) (by decide), fun h => by cases h⟩, fun U h => by cases h⟩
  exact h0.put ⟨[], rfl⟩ (fun U h => by cases h) (by simp) rfl
def gput (g : Tr → Nat) (V : Tr) (n : Nat) : Tr → Nat := fun U => if tx U = tx V then n else g U
theorem gput_old {g : Tr → Nat} {V : Tr} {n : Nat} {K : List Tr} (hV : ¬ V ∈ K) : ∀ U, U ∈ K → gput g V n U = g U := fun U hU => if_neg fun e => hV (by rw [← tx_inj e]; exact hU)
theorem gput_new (g : Tr → Nat) (V : Tr) (n : Nat) : gput g V n V = n := if_pos rfl
def OwnQ (w : World) (base : Nat) (e : TypeId) (v : Value) (xs : List Value) : Prop := QRow w base e 1 v xs.length xs
theorem OwnQ.far {w w' : World} {base : Nat} {e : TypeId} {v : Value} {xs : List Value} {row : Option Nat} (h : OwnQ w base e v xs) (hg : w.grownBy w' row) (hr : ∀ k, row = some k → v.ownBlock ≠ some k) : OwnQ w' base e v xs :=
  q_move h fun k hk => hg.block k (q_lt h k hk) fun e => hr k e.symm hk
theorem OwnQ.ext {w w' : World} {base : Nat} {e : TypeId} {v : Value} {xs : List Value} (h : OwnQ w base e v xs) (hx : Ext w w') : OwnQ w' base e v xs :=
  h.far (hx.grownBy none) (fun k e => by cases e)
theorem OwnQ.reads {w : World} {base : Nat} {e : TypeId} {v : Value} {xs : List Value} (h : OwnQ w base e v xs) : ∃ A c, v = .slice A xs.length c ∧ xs.length ≤ c ∧ (0 < xs.length → ∃ ad, A = some ad ∧ ∀ j u, xs[j]? = some u → w.cell? (ad.add j) = some u) := by
  obtain ⟨A, c, rfl, hc⟩ := q_slice h
  exact ⟨A, c, rfl, hc, fun hp => q_cells h hp⟩
theorem OwnQ.tail {w : World} {base : Nat} {e : TypeId} {A : Option Addr} {n c : Nat} {x : Value} {xs : List Value} (h : OwnQ w base e (.slice A n c) (x :: xs)) (hn : n = xs.length + 1) : OwnQ w base e (.slice (if c = 1 then A else A.map (·.add 1)) (n - 1) (c - 1)) xs := by
  subst hn
  have := q_drop (k := 1) (show QRow w base e 1 (.slice A (xs.length + 1) c) (xs.length + 1) (x :: xs) from h) (by omega)
  simpa [OwnQ] using this
theorem Rep.rowQ {w w' : World} {base : Nat} {e : TypeId} {v : Value} {xs : List Value} {T : Tr} {p : Option Addr} (h : Rep w T p) (ho : OwnQ w base e v xs) (he : e ≠ 147) (hg : w.grownBy w' v.ownBlock) : Rep w' T p :=
  Rep.far hg (fun k hk => by obtain ⟨_, cs, h⟩ := q_typed ho k hk; exact ⟨cs, e, _, h, he⟩) h
theorem Reps.rowQ {w w' : World} {base : Nat} {e : TypeId} {v : Value} {xs : List Value} {Ts ps} (h : Reps w Ts ps) (ho : OwnQ w base e v xs) (he : e ≠ 147) (hg : w.grownBy w' v.ownBlock) : Reps w' Ts ps :=
  ⟨h.1, fun k T p h1 h2 => (h.2 k T p h1 h2).rowQ ho he hg⟩
theorem Rep.map {w w' : World} {b : Nat} {es : Array MapEntry} {cl : Nat} (hb : w.heap[b]? = some (.map es cl)) (hg : w.grownBy w' (some b)) : ∀ {T p}, Rep w T p → Rep w' T p
  | .leaf, _, h => h
  | .node _ _, _, ⟨b', pl, pr, e, h0, hl, hr'⟩ => ⟨b', pl, pr, e, (hg.block b' (Array.getElem?_eq_some_iff.1 h0).1 (fun ek => by
      injection ek with ek
      subst ek
      rw [hb] at h0
      injection h0 with h0
      cases h0)).trans h0, Rep.map hb hg hl, Rep.map hb hg hr'⟩
theorem Rep.map' {w w' : World} {b : Nat} {es : Array MapEntry} {cl : Nat} {T : Tr} {p : Option Addr} (h : Rep w T p) (hb : w.heap[b]? = some (.map es cl)) (hg : w.grownBy w' (some b)) : Rep w' T p := Rep.map hb hg h
theorem Reps.map {w w' : World} {b : Nat} {es : Array MapEntry} {cl : Nat} {Ts ps} (h : Reps w Ts ps) (hb : w.heap[b]? = some (.map es cl)) (hg : w.grownBy w' (some b)) : Reps w' Ts ps :=
  ⟨h.1, fun k T p h1 h2 => (h.2 k T p h1 h2).map hb hg⟩
def OwnMap (w : World) (b n : Nat) (D : DM) : Prop := w.ownsMap Try.prog 9 (plainElem Try.prog 3) b n D
theorem OwnMap.obj {w : World} {b n : Nat} {D : DM} (h : OwnMap w b n D) : ∃ es cl, w.heap[b]? = some (.map es cl) := let ⟨es, cl, hb, _⟩ := h; ⟨es, cl, hb⟩
theorem OwnMap.ext {w w' : World} {b n : Nat} {D : DM} (h : OwnMap w b n D) (hx : Ext w w') : OwnMap w' b n D := World.ownsMap.kept h (hx.grownBy none) (by simp)
theorem OwnMap.q {w w' : World} {b n base : Nat} {D : DM} {e : TypeId} {v : Value} {xs : List Value} (h : OwnMap w b n D) (hq : OwnQ w base e v xs) (hg : w.grownBy w' v.ownBlock) : OwnMap w' b n D :=
  World.ownsMap.kept h hg (fun e => by
    obtain ⟨es, cl, hb⟩ := h.obj
    obtain ⟨_, cs, h2⟩ := q_typed hq b e.symm
    rw [hb] at h2
    injection h2 with h2
    cases h2)
theorem OwnQ.map {w w' : World} {b n base : Nat} {D : DM} {e : TypeId} {v : Value} {xs : List Value} (hq : OwnQ w base e v xs) (h : OwnMap w b n D) (hg : w.grownBy w' (some b)) : OwnQ w' base e v xs :=
  hq.far hg (fun k hk e => by
    injection hk with hk
    subst hk
    obtain ⟨es, cl, hb⟩ := h.obj
    obtain ⟨_, cs, h2⟩ := q_typed hq _ e
    rw [hb] at h2
    injection h2 with h2
    cases h2)
theorem Own.map {w w' : World} {b n base : Nat} {D : DM} {e : TypeId} {v : Value} {xs : List Value} (hq : Own w base e v xs) (h : OwnMap w b n D) (hg : w.grownBy w' (some b)) : Own w' base e v xs :=
  hq.far hg (fun k hk e => by
    injection hk with hk
    subst hk
    obtain ⟨es, cl, hb⟩ := h.obj
    obtain ⟨cs, fr, h2⟩ := hq.typed _ e
    rw [hb] at h2
    injection h2 with h2
    cases h2)
end Go.Proofs.Ytijnadjgmmednaa.N
namespace Go.Proofs.Ytijnadjgmmednaa.N
open Go.RowKit Go.Maps Go.Proofs.YtijnadjgmmednaaW.PrintWords
def RDI (A : Tr) (b : Nat) (w : World) (f : Nat) (l : Value) (wr : World) : Prop := ∃ K p g D ps, f + p = 458331 ∧ p ≤ K.length ∧ BF A K p g ∧ MD D K g ∧ OwnMap wr b K.length D ∧ OwnQ wr w.heap.size 80 l (ptrs ps) ∧ Reps wr (K.drop p) ps ∧ Ext w wr
def RDJ (A : Tr) (b : Nat) (w : World) (p : Nat) (H : Tr) (d : Nat) (Us : List Tr) (v : Value) (qs : List (Option Addr)) (j : Nat) (l : Value) (wr : World) : Prop := ∃ K g D ps, BG A K p g (Us.take j) H d ∧ MD D K g ∧ OwnMap wr b K.length D ∧ OwnQ wr w.heap.size 80 l (ptrs ps) ∧ Reps wr (K.drop p) ps ∧ Ext w wr ∧ Own wr 0 80 v (ptrs qs) ∧ Reps wr Us qs ∧ ∀ k, l.ownBlock = some k → v.ownBlock ≠ some k
theorem RDI.start {A : Tr} {b : Nat} {w w4 : World} {pa : Option Addr} {D : DM} (hD : MD D [A] (fun _ => 0)) (hm : OwnMap w4 b 1 D) (hr : Rep w4 A pa) (hx : Ext w w4) :
    RDI A b w 458331 (.slice (some ⟨w4.heap.size, 0, none⟩) 1 1) (w4.alloc (.cells #[.pointer pa] 80)) := by
  have xa := (Ext.refl w4).alloc (.cells #[.pointer pa] 80)
  refine ⟨[A], 0, fun _ => 0, D, [pa], by omega, by simp, BF.first A _ rfl, hD, hm.ext xa, ?_, ?_, hx.trans xa⟩
  · exact q_of_own (Own.lit w4 w.heap.size 80 #[.pointer pa] hx.size (by show 1 ≤ maxLen; decide))
  · exact (Reps.nil _).snoc (hr.ext xa)
theorem RDJ.new {A : Tr} {b : Nat} {w w7 w8 w9 : World} {p d j : Nat} {H V : Tr} {Us : List Tr} {v l v9 : Value} {qs ps : List (Option Addr)} {r : Option Addr} {K : List Tr} {g : Tr → Nat} {D : DM} (hx : Ext w w7)
    (hB : BG A K p g (Us.take j) H d) (hM : MD D K g) (hO : OwnMap w7 b K.length D) (hQ : OwnQ w7 w.heap.size 80 l (ptrs ps)) (hR : Reps w7 (K.drop p) ps)
    (hV : Own w7 0 80 v (ptrs qs)) (hS : Reps w7 Us qs) (hsep : ∀ k, l.ownBlock = some k → v.ownBlock ≠ some k) (rV : Rep w7 V r) (hn : V ∈ near0 H) (hVK : ¬ V ∈ K) (ht : Us.take (j + 1) = Us.take j ++ [V])
    (own8 : w8.ownsMap Try.prog 9 (plainElem Try.prog 3) b (K.length + 1) (D.put (keyL V) (.lit (.int .i64 ((d : Int) + 1))))) (gr8 : w7.grownBy w8 (some b)) (hb : w.heap.size ≤ b)
    (q9 : OwnQ w9 w.heap.size 80 v9 (ptrs ps ++ ptrs [r])) (g9 : (w8.alloc (.cells #[.pointer r] 80)).grownBy w9 l.ownBlock) (at9 : v9.ownBlock = l.ownBlock ∨ ∃ k, v9.ownBlock = some k ∧ (w8.alloc (.cells #[.pointer r] 80)).heap.size ≤ k) :
    RDJ A b w p H d Us v qs (j + 1) v9 w9 := by
  have xa := (Ext.refl w8).alloc (.cells #[.pointer r] 80)
  have Q8 := (hQ.map hO gr8).ext xa
  obtain ⟨es, cl, ho⟩ := hO.obj
  have hpK : p ≤ K.length := Nat.le_of_lt (List.getElem?_eq_some_iff.1 hB.head).1
  have V8 := (hV.map hO gr8).ext xa
  refine ⟨K ++ [V], gput g V (d + 1), D.put (keyL V) (.lit (.int .i64 ((d : Int) + 1))), ps ++ [r], ?_, ?_, ?_, ?_, ?_, ?_, ?_, ?_, ?_⟩
  · rw [ht]; exact hB.new hVK hn (gput_old hVK) (gput_new _ _ _)
  · exact hM.put hO.isMap (gput_old hVK) hVK (by rw [gput_new]; omega)
  · rw [List.length_append, List.length_singleton]
    exact (OwnMap.ext own8 xa).q Q8 g9
  · rw [← ptrs_append]; exact q9
  · rw [List.drop_append_of_le_length hpK]
    exact (((hR.map ho gr8).ext xa).rowQ Q8 (by decide) g9).snoc (((rV.map' ho gr8).ext xa).rowQ Q8 (by decide) g9)
  · exact ((hx.grown gr8 (fun k hk => by injection hk with hk; omega)).trans xa).grown g9 (fun k hk => (q_typed Q8 k hk).1)
  · exact V8.far g9 (fun k hk => hsep k hk)
  · exact ((hS.map ho gr8).ext xa).rowQ Q8 (by decide) g9
  · intro k hk e
    rcases at9 with h | ⟨k', h, hk'⟩
    · exact hsep k (h ▸ hk) e
    · rw [hk] at h
      injection h with h
      subst h
      have := (V8.block _ e).2
      omega
end Go.Proofs.Ytijnadjgmmednaa.N
