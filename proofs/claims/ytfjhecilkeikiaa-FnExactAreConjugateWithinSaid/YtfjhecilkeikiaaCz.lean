import Derived.Test.YtfjhecilkeikiaaBa
import Derived.Test.YtfjhecilkeikiaaPu
import Derived.Test.YtfjhecilkeikiaaSl
import Derived.Test.YtfjhecilkeikiaaProg
import Derived.Test.YtfjhecilkeikiaaWl
import Derived.Test.YtfjhecilkeikiaaWt
import Derived.Test.YtfjhecilkeikiaaPp
import Derived.Test.YtfjhecilkeikiaaPh
import Derived.Test.YtfjhecilkeikiaaTp
import Derived.Test.YtfjhecilkeikiaaTk
import Derived.Test.YtfjhecilkeikiaaCl
import Derived.Test.YtfjhecilkeikiaaAc
import Derived.Test.YtfjhecilkeikiaaAw
import Derived.Deep.LoopGhost
import Derived.Deep.QuietTactic
import Derived.BigQuiet
import Derived.Deep.RegionHeld3
import Derived.Deep.OwnRows
/- The reduced words, and the pairs of words, the reference's. -/
namespace Go.Proofs.Ytfjhecilkeikiaa.N
open Go.RowKit
set_option linter.unusedVariables false
set_option linter.unusedSimpArgs false

theorem Own.apart {w w' : World} {base base' : Nat} {e e' : TypeId} {v v2 : Value} {xs ys : List Value} (h : Own w base e v xs) (h2 : Own w base' e' v2 ys) (he : e ≠ e') (hg : w.grownBy w' v2.ownBlock) : Own w' base e v xs :=
  h.far hg fun k hk hv => by
    obtain ⟨cs, fr, h3⟩ := h.typed k hv
    obtain ⟨cs2, fr2, h4⟩ := h2.typed k hk
    rw [h3] at h4
    injection h4 with h4
    injection h4 with _ h5
    exact he h5
theorem Reads.apart {w w' : World} {base base' : Nat} {e e' : TypeId} {v v2 : Value} {xs ys : List Value} (h : Own w base e v xs) (h2 : Own w base' e' v2 ys) (he : e ≠ e') (hg : w.grownBy w' v2.ownBlock) : Reads w' v xs := (h.apart h2 he hg).reads

/-! ### A table built row by row -/
def OwnR (w : World) (base : Nat) (v : Value) (xss : List (List Int)) : Prop := ∃ us, Own w base 25 v us ∧ us.length = xss.length ∧ (∀ u ∈ us, u.oneCell' = true) ∧ ∀ (r : Nat) (xs : List Int), xss[r]? = some xs → ∃ u, us[r]? = some u ∧ Own w base 3 u (ints xs)
theorem OwnR.nil (w : World) (base : Nat) : OwnR w base (.slice none 0 0) [] := ⟨[], Own.nil _ _ _, rfl, by simp, fun r xs e => by simp at e⟩
theorem OwnR.ext {w w' : World} {base : Nat} {v : Value} {xss : List (List Int)} (h : OwnR w base v xss) (hx : Ext w w') : OwnR w' base v xss :=
  let ⟨us, a, l, o, b⟩ := h; ⟨us, a.ext hx, l, o, fun r xs e => let ⟨u, c, d⟩ := b r xs e; ⟨u, c, d.ext hx⟩⟩
theorem OwnR.mono {w : World} {base base' : Nat} {v : Value} {xss : List (List Int)} (h : OwnR w base v xss) (hb : base' ≤ base) : OwnR w base' v xss :=
  let ⟨us, a, l, o, b⟩ := h; ⟨us, a.mono hb, l, o, fun r xs e => let ⟨u, c, d⟩ := b r xs e; ⟨u, c, d.mono hb⟩⟩
theorem OwnR.reads {w : World} {base : Nat} {v : Value} {xss : List (List Int)} (h : OwnR w base v xss) : ReadsM w v xss :=
  let ⟨us, a, l, o, b⟩ := h; ⟨us, a.reads, l, fun r xs e => let ⟨u, c, d⟩ := b r xs e; ⟨u, c, d.reads⟩⟩
/-- Its rows, one by one. -/
theorem OwnR.open {w : World} {base : Nat} {v : Value} {xss : List (List Int)} (h : OwnR w base v xss) : ∃ A c, v = .slice A xss.length c ∧
    ∀ (r : Nat) (xs : List Int), xss[r]? = some xs → ∃ ad B d, A = some ad ∧ w.cell? (ad.add r) = some (.slice B xs.length d) ∧ Own w base 3 (.slice B xs.length d) (ints xs) := by
  obtain ⟨us, ho, l, _, b⟩ := h
  obtain ⟨A, c, rfl, _, h1⟩ := ho.reads
  refine ⟨A, c, by rw [l], fun r xs e => ?_⟩
  obtain ⟨u, hu, k⟩ := b r xs e
  obtain ⟨ad, rfl, hc⟩ := h1 (by have := (List.getElem?_eq_some_iff.1 hu).1; omega)
  have hcu := hc r u hu
  obtain ⟨B, d, rfl, _, _⟩ := k.reads
  rw [ints_length] at *
  exact ⟨ad, B, d, rfl, hcu, k⟩
theorem OwnR.same {w w' : World} {base : Nat} {v : Value} {xss : List (List Int)} (h : OwnR w base v xss) (hs : ∀ k, base ≤ k → w'.heap[k]? = w.heap[k]?) : OwnR w' base v xss :=
  let ⟨us, a, l, o, b⟩ := h; ⟨us, a.same fun k hk => hs k (a.lo k hk), l, o, fun r xs e => let ⟨u, c, d⟩ := b r xs e; ⟨u, c, d.same fun k hk => hs k (d.lo k hk)⟩⟩
theorem vals_one (u : Value) (h : u.oneCell' = true) : ∀ x ∈ [u], x.oneCell' = true := by simpa using h
/-- A row put behind. -/
theorem OwnR.snoc {w w' : World} {base : Nat} {v v' u : Value} {us : List Value} {xss : List (List Int)} {xs : List Int}
    (ho : Own w base 25 v us) (hl : us.length = xss.length) (h1 : ∀ u ∈ us, u.oneCell' = true) (hr : ∀ (r : Nat) (xs : List Int), xss[r]? = some xs → ∃ u, us[r]? = some u ∧ Own w base 3 u (ints xs))
    (hu : Own w base 3 u (ints xs)) (o' : Own w' base 25 v' (us ++ [u])) (hg : w.grownBy w' v.ownBlock) (hu1 : u.oneCell' = true) : OwnR w' base v' (xss ++ [xs]) := by
  refine ⟨us ++ [u], o', by simp [hl], fun x hx => by rcases List.mem_append.1 hx with h | h; exact h1 x h; simp at h; rw [h]; exact hu1, fun r ys e => ?_⟩
  rw [List.getElem?_append] at e
  split at e
  · rename_i h
    obtain ⟨x, hx, hy⟩ := hr r ys e
    exact ⟨x, by rw [List.getElem?_append_left (by omega)]; exact hx, hy.apart ho (by decide) hg⟩
  · rename_i h
    have : r = xss.length := by have := (List.getElem?_eq_some_iff.1 e).1; simp at this; omega
    subst this
    have e : xs = ys := by simpa using e
    subst e
    exact ⟨u, by rw [← hl, List.getElem?_append_right (Nat.le_refl _)]; simp, hu.apart ho (by decide) hg⟩

theorem infoRow : (Try.prog.info? 25).map (fun i => (i.zero, i.size, i.bytes)) = some (some (.slice none 0 0), 1, 24) := by kernel_rfl

set_option maxHeartbeats 1600000 in
theorem l1OwnZ_calls (xs : List Int) (hl : xs.length ≤ 1048576) (v : Value) (w : World) (hv : Reads w v (ints xs)) :
    Calls Try.prog 96 #[v] w fun e w' => ∃ u, e = .returned u ∧ Own w' w.heap.size 3 u (ints xs) ∧ Ext w w' := by
  have ON : Own (w.alloc (.cells #[] 3)) w.heap.size 3 (.slice (some ⟨w.heap.size, 0, none⟩) 0 0) (ints []) := Own.lit w w.heap.size 3 #[] (Nat.le_refl _) (by show 0 ≤ maxLen; decide)
  have RD := hv.ext ((Ext.refl w).alloc (.cells #[] 3))
  have LL : Hid (((ints []).length + (ints xs).length) * 8 ≤ 140737488355328) := by show _ ≤ _; rw [ints_length, ints_length]; simp only [List.length_nil]; omega
  have LX := Lib.hid ((Ext.refl w).alloc (.cells #[] 3)).size
  obtain ⟨AA, cc, rfl, _, _⟩ := hv
  rw [ints_length] at RD ⊢
  go_enter Try.func96, Try.ntmps96
  go_wp2_with (at_builtin; refine wpList_app rfl (.tmp 3) (.tmp 4) 25 rfl w.heap.size 3 (.int .i64 0) 8 Try.underlying25 infoInt rfl (by omega) _ _ _ (ints xs) rfl rfl ON RD (ints_one _) LL.out LX.out ?_; intro v2 w2 o2 g2 _)
  have X2 := Lib.hid (((Ext.refl w).alloc (.cells #[] 3)).grown g2 ON.lo)
  have O2 := Lib.hid o2
  clear o2 g2 ON RD
  go_wp2_with fail
  go_ret
  exact ⟨_, rfl, O2.out, X2.out⟩

set_option maxHeartbeats 1600000 in
theorem lnLetters_calls (w : World) :
    Calls Try.prog 87 #[] w fun e w' => ∃ c, e = .returned (.slice (some ⟨w.heap.size, 0, none⟩) 4 c) ∧ Own w' w.heap.size 3 (.slice (some ⟨w.heap.size, 0, none⟩) 4 c) (ints lts) ∧ Ext w w' := by
  have ON := Lib.hid (Own.lit w w.heap.size 3 #[.int .i64 1, .int .i64 (-1), .int .i64 2, .int .i64 (-2)] (Nat.le_refl _) (by show 4 ≤ maxLen; decide))
  have X2 := Lib.hid ((Ext.refl w).alloc (.cells #[.int .i64 1, .int .i64 (-1), .int .i64 2, .int .i64 (-2)] 3))
  go_enter Try.func87, Try.ntmps87
  go_wp2_with fail
  go_ret
  exact ⟨4, rfl, ON.out, X2.out⟩

theorem redWd_length : ∀ n, (redWd n).length ≤ 4 ^ n
  | 0 => Nat.le_refl _
  | n + 1 => by
    have ih := redWd_length n
    have key : ∀ L : List (List Int), (L.flatMap fun w => (lts.filter (okL w)).map fun x => w ++ [x]).length ≤ 4 * L.length := by
      intro L
      induction L with
      | nil => simp
      | cons a L ih =>
        have h : (lts.filter (okL a)).length ≤ 4 := List.length_filter_le _ _
        simp only [List.flatMap_cons, List.length_append, List.length_map, List.length_cons]
        omega
    have := key (redWd n)
    rw [Nat.pow_succ]
    simp only [redWd]
    omega
theorem redWd_words {n : Nat} {w : List Int} (h : w ∈ redWd n) : w.length = n ∧ ∀ x ∈ w, x ∈ lts := by
  rw [redWd_eq, List.mem_filter] at h
  exact (mem_allW n w).1 h.1
/-- What follows from one word by the first letters. -/
def exts (w : List Int) (i : Nat) : List (List Int) := ((lts.take i).filter (okL w)).map fun x => w ++ [x]
theorem exts_step {w : List Int} {i : Nat} {x : Int} (h : lts[i]? = some x) : exts w (i + 1) = exts w i ++ if okL w x = true then [w ++ [x]] else [] := by
  unfold exts
  rw [List.take_add_one, h, List.filter_append, List.map_append]
  congr 1
  cases hx : okL w x with
  | true => simp [hx]
  | false => simp [hx]
theorem exts_length (w : List Int) (i : Nat) : (exts w i).length ≤ i := by
  unfold exts
  rw [List.length_map]
  exact Nat.le_trans (List.length_filter_le _ _) (by simp; omega)
def extsL (L : List (List Int)) (j : Nat) : List (List Int) := (L.take j).flatMap fun w => exts w 4
theorem extsL_step {L : List (List Int)} {j : Nat} {w : List Int} (h : L[j]? = some w) : extsL L (j + 1) = extsL L j ++ exts w 4 := by
  unfold extsL
  rw [List.take_add_one, h, List.flatMap_append]; simp
theorem extsL_length (L : List (List Int)) (j : Nat) : (extsL L j).length ≤ 4 * j := by
  unfold extsL
  have key : ∀ M : List (List Int), (M.flatMap fun w => exts w 4).length ≤ 4 * M.length := by
    intro M
    induction M with
    | nil => simp
    | cons a M ih => have := exts_length a 4; simp only [List.flatMap_cons, List.length_append, List.length_cons]; omega
  have := key (L.take j)
  have := List.length_take_le j L
  omega
theorem extsL_all (n : Nat) : extsL (redWd n) (redWd n).length = redWd (n + 1) := by
  unfold extsL
  rw [List.take_length]; rfl
end Go.Proofs.Ytfjhecilkeikiaa.N
