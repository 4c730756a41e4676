import Derived.Test.YtpmmajfdcicjiaaGreatG1RFnHalvesAndShifts
import Derived.Test.YtpmmajfdcicjiaaGreatG2RFnHalvesAndShifts
import Derived.Test.YtpmmajfdcicjiaaGreatProg
import Derived.Deep.LoopGhost
import Derived.Deep.QuietTactic
import Derived.BigQuiet
import Derived.Deep.OwnRows
import Derived.KernelRfl
import Derived.Test.YtpmmajfdcicjiaaGreatG5RFnHalvesAndShifts
import Derived.Test.YtpmmajfdcicjiaaGreatG3RFnHalvesAndShifts
/- Tables of numbers: how they lie in memory, and the laws' own helpers over them. -/
namespace Go.Proofs.YtpmmajfdcicjiaaGreat.N
open Go.RowKit
set_option linter.unusedVariables false
set_option linter.unusedSimpArgs false

/-- The slice v reads as a table. -/
def ReadsM (w : World) (v : Value) (xss : List (List Int)) : Prop :=
  ∃ vs : List Value, Reads w v vs ∧ vs.length = xss.length ∧ ∀ (r : Nat) (xs : List Int), xss[r]? = some xs → ∃ u, vs[r]? = some u ∧ Reads w u (ints xs)
theorem ReadsM.ext {w w' : World} {v : Value} {xss : List (List Int)} (h : ReadsM w v xss) (hx : Ext w w') : ReadsM w' v xss := by
  obtain ⟨vs, h1, h2, h3⟩ := h
  exact ⟨vs, h1.ext hx, h2, fun r xs e => let ⟨u, a, b⟩ := h3 r xs e; ⟨u, a, b.ext hx⟩⟩
/-- Its rows, one by one. -/
theorem ReadsM.open {w : World} {v : Value} {xss : List (List Int)} (h : ReadsM w v xss) : ∃ A c, v = .slice A xss.length c ∧ (A = none → c = 0) ∧
    ∀ (r : Nat) (xs : List Int), xss[r]? = some xs → ∃ ad B d, A = some ad ∧ w.cell? (ad.add r) = some (.slice B xs.length d) ∧ Reads w (.slice B xs.length d) (ints xs) := by
  obtain ⟨vs, ⟨A, c, rfl, h0, h1⟩, h2, h3⟩ := h
  refine ⟨A, c, by rw [h2], h0, fun r xs e => ?_⟩
  obtain ⟨u, hu, k⟩ := h3 r xs e
  obtain ⟨ad, rfl, hc⟩ := h1 (by have := (List.getElem?_eq_some_iff.1 hu).1; omega)
  have hcu := hc r u hu
  obtain ⟨B, d, rfl, k0, k1⟩ := k
  rw [ints_length] at *
  exact ⟨ad, B, d, rfl, hcu, ⟨B, d, by rw [ints_length], k0, by rw [ints_length]; exact k1⟩⟩
/-- Rows of the call's own, in blocks apart. -/
def Rows (w : World) (base : Nat) (us : List Value) (xss : List (List Int)) : Prop :=
  us.length = xss.length ∧ (∀ (r : Nat) (xs : List Int), xss[r]? = some xs → ∃ u, us[r]? = some u ∧ Own w base 3 u (ints xs)) ∧
  ∀ (r s : Nat) (u v : Value), r < s → us[r]? = some u → us[s]? = some v → ∀ k, u.ownBlock = some k → v.ownBlock ≠ some k
/-- A table of the call's own. -/
def OwnM (w : World) (base : Nat) (v : Value) (xss : List (List Int)) : Prop := ∃ us, Own w base 45 v us ∧ Rows w base us xss
theorem OwnM.reads {w : World} {base : Nat} {v : Value} {xss : List (List Int)} (h : OwnM w base v xss) : ReadsM w v xss := by
  obtain ⟨us, h1, h2, h3, _⟩ := h
  exact ⟨us, h1.reads, h2, fun r xs e => let ⟨u, a, b⟩ := h3 r xs e; ⟨u, a, b.reads⟩⟩
theorem Rows.nil (w : World) (base : Nat) : Rows w base [] [] := ⟨rfl, fun r xs e => by simp at e, fun r s u v _ e => by simp at e⟩
theorem Rows.ext {w w' : World} {base : Nat} {us : List Value} {xss : List (List Int)} (h : Rows w base us xss) (hx : Ext w w') : Rows w' base us xss :=
  ⟨h.1, fun r xs e => let ⟨u, a, b⟩ := h.2.1 r xs e; ⟨u, a, b.ext hx⟩, h.2.2⟩
theorem Rows.mono {w : World} {base base' : Nat} {us : List Value} {xss : List (List Int)} (h : Rows w base us xss) (hb : base' ≤ base) : Rows w base' us xss :=
  ⟨h.1, fun r xs e => let ⟨u, a, b⟩ := h.2.1 r xs e; ⟨u, a, b.mono hb⟩, h.2.2⟩
theorem OwnM.ext {w w' : World} {base : Nat} {v : Value} {xss : List (List Int)} (h : OwnM w base v xss) (hx : Ext w w') : OwnM w' base v xss :=
  let ⟨us, a, b⟩ := h; ⟨us, a.ext hx, b.ext hx⟩
theorem OwnM.mono {w : World} {base base' : Nat} {v : Value} {xss : List (List Int)} (h : OwnM w base v xss) (hb : base' ≤ base) : OwnM w base' v xss :=
  let ⟨us, a, b⟩ := h; ⟨us, a.mono hb, b.mono hb⟩
/-- Another block is written. -/
theorem Rows.far {w w' : World} {base g : Nat} {us : List Value} {xss : List (List Int)} (h : Rows w base us xss) (hg : w.grownBy w' (some g)) (hb : g < base) : Rows w' base us xss :=
  ⟨h.1, fun r xs e => let ⟨u, a, b⟩ := h.2.1 r xs e; ⟨u, a, b.far hg (fun k hk hu => by cases hk; have := b.lo _ hu; omega)⟩, h.2.2⟩
theorem Rows.snoc {w : World} {base b0 : Nat} {us : List Value} {xss : List (List Int)} {u : Value} {xs : List Int} (h : Rows w base us xss) (hu : Own w b0 3 u (ints xs)) (hb : base ≤ b0)
    (hl : ∀ (v : Value), v ∈ us → ∀ k, v.ownBlock = some k → k < b0) : Rows w base (us ++ [u]) (xss ++ [xs]) := by
  refine ⟨by simp [h.1], fun r ys e => ?_, fun r s a b hrs ea eb k ha hb' => ?_⟩
  · rw [List.getElem?_append] at e
    split at e
    · rename_i hr
      obtain ⟨v, hv, k⟩ := h.2.1 r ys e
      exact ⟨v, by rw [List.getElem?_append_left (by rw [h.1]; exact hr)]; exact hv, k⟩
    · rename_i hr
      have : r = xss.length := by have := (List.getElem?_eq_some_iff.1 e).1; simp at this; omega
      subst this
      have e : xs = ys := by simpa using e
      subst e
      exact ⟨u, by rw [List.getElem?_append_right (by rw [h.1]; exact Nat.le_refl _)]; simp [h.1], hu.mono hb⟩
  · have hs : s < us.length + 1 := by have := (List.getElem?_eq_some_iff.1 eb).1; simpa using this
    have hr : r < us.length := by omega
    rw [List.getElem?_append_left hr] at ea
    by_cases hs2 : s < us.length
    · rw [List.getElem?_append_left hs2] at eb
      exact h.2.2 r s a b hrs ea eb k ha hb'
    · have : s = us.length := by omega
      subst this
      rw [List.getElem?_append_right (Nat.le_refl _)] at eb
      have e : u = b := by simpa using eb
      subst e
      have h1 := hu.lo k hb'
      have h2 := hl a (List.mem_of_getElem? ea) k ha
      omega
theorem Rows.lt {w : World} {base : Nat} {us : List Value} {xss : List (List Int)} (h : Rows w base us xss) : ∀ (v : Value), v ∈ us → ∀ k, v.ownBlock = some k → k < w.heap.size := by
  intro v hv k hk
  obtain ⟨r, hr, e⟩ := List.getElem_of_mem hv
  obtain ⟨u, hu, o⟩ := h.2.1 r (xss[r]'(by rw [← h.1]; exact hr)) (List.getElem?_eq_getElem _)
  rw [List.getElem?_eq_getElem hr, e] at hu
  cases hu
  exact (o.block k hk).2
/-- What was there is there, but for the rows. -/
structure Mid (us : List Value) (w w' : World) : Prop where
  os : w'.os = w.os
  tape : w'.tape = w.tape
  output : w'.output = w.output
  size : w.heap.size ≤ w'.heap.size
  block : ∀ i, i < w.heap.size → (∀ u ∈ us, u.ownBlock ≠ some i) → w'.heap[i]? = w.heap[i]?
theorem Mid.refl (us : List Value) (w : World) : Mid us w w := ⟨rfl, rfl, rfl, Nat.le_refl _, fun _ _ _ => rfl⟩
theorem Mid.step {us : List Value} {w w' w'' : World} {u : Value} (h : Mid us w w') (hg : w'.grownBy w'' u.ownBlock) (hu : u ∈ us) : Mid us w w'' :=
  ⟨hg.os.trans h.os, hg.tape.trans h.tape, hg.output.trans h.output, Nat.le_trans h.size hg.size, fun i hi hn => (hg.block i (Nat.lt_of_lt_of_le hi h.size) (fun e => hn u hu e.symm)).trans (h.block i hi hn)⟩
theorem Mid.ext {us : List Value} {w0 w w' : World} (h : Mid us w w') (hx : Ext w0 w) (hu : ∀ u ∈ us, ∀ k, u.ownBlock = some k → w0.heap.size ≤ k) : Ext w0 w' :=
  ⟨h.os.trans hx.os, h.tape.trans hx.tape, h.output.trans hx.output, Nat.le_trans hx.size h.size, fun i hi => (h.block i (Nat.lt_of_lt_of_le hi hx.size) (fun u hm e => by have := hu u hm i e; omega)).trans (hx.block i hi)⟩
theorem Own.same {w w' : World} {base : Nat} {e : TypeId} {v : Value} {xs : List Value} (h : Own w base e v xs) (hs : ∀ k, v.ownBlock = some k → w'.heap[k]? = w.heap[k]?) : Own w' base e v xs := by
  refine ⟨h.1, ?_⟩
  rcases h.2 with h | ⟨g, cap, cur, e1, h1, h2, h3⟩
  · exact .inl h
  · exact .inr ⟨g, cap, cur, e1, h1, by rw [hs g (by rw [e1]; rfl)]; exact h2, h3⟩
theorem Mid.own {us : List Value} {w w' : World} {base B : Nat} {e : TypeId} {v : Value} {xs : List Value} (h : Mid us w w') (o : Own w B e v xs) (hu : ∀ u ∈ us, ∀ k, u.ownBlock = some k → k < B) : Own w' B e v xs :=
  o.same fun k hk => h.block k (o.block k hk).2 fun u hm e => by have := hu u hm k e; have := o.lo k hk; omega

def total (xss : List (List Int)) : Nat := (xss.map List.length).sum
theorem total_take (xss : List (List Int)) (k : Nat) (xs : List Int) (h : xss[k]? = some xs) : total (xss.take (k + 1)) = total (xss.take k) + xs.length := by
  unfold total; rw [List.take_add_one, h]; simp
end Go.Proofs.YtpmmajfdcicjiaaGreat.N
/- The first statements' functions: the program's and the reference's answer alike. -/
namespace Go.Proofs.YtpmmajfdcicjiaaGreat.N
open Go.RowKit
set_option linter.unusedVariables false
set_option linter.unusedSimpArgs false

theorem l1Most_calls (a b : Int) (w : World) :
    Calls Tryz.prog 121 #[.int .i64 a, .int .i64 b] w fun e w' => e = .returned (.int .i64 (if b < a then a else b)) ∧ w = w' := by
  by_cases h : b < a
  · rw [if_pos h]
    go_enter Tryz.func121, Tryz.ntmps121
    go_wp2_with fail
    go_ret
    exact ⟨rfl, rfl⟩
  · rw [if_neg h]
    go_enter Tryz.func121, Tryz.ntmps121
    go_wp2_with fail
    go_ret
    exact ⟨rfl, rfl⟩

end Go.Proofs.YtpmmajfdcicjiaaGreat.N
