import Derived.Test.YtpmmajfdcicjiaaGreatG1RFnHalvesAndShifts
import Derived.Test.YtpmmajfdcicjiaaGreatG2RFnHalvesAndShifts
import Derived.Test.YtpmmajfdcicjiaaGreatProg
import Derived.Test.YtpmmajfdcicjiaaGreatG10RFnHalvesAndShifts
import Derived.Test.YtpmmajfdcicjiaaGreatG21RFnHalvesAndShifts
import Derived.Deep.LoopGhost
import Derived.Deep.QuietTactic
import Derived.BigQuiet
import Derived.Test.YtpmmajfdcicjiaaGreatG3RFnHalvesAndShifts
import Derived.Test.YtpmmajfdcicjiaaGreatG22RFnHalvesAndShifts
import Derived.Test.YtpmmajfdcicjiaaGreatG5RFnHalvesAndShifts
import Derived.Deep.RegionHeld3
import Derived.DataElems
/- The first three for which a table is not associative: the program and the reference. -/
namespace Go.Proofs.YtpmmajfdcicjiaaGreat.N
open Go.RowKit
set_option linter.unusedVariables false
set_option linter.unusedSimpArgs false

def okT (g : Nat → Nat → Nat) (i j k : Nat) : Prop := g i (g j k) = g (g i j) k
def IsBrk (n : Nat) (g : Nat → Nat → Nat) (l : List Int) : Prop :=
  (l = [] ∧ ∀ i j k, i < n → j < n → k < n → okT g i j k) ∨
  ∃ i j k, i < n ∧ j < n ∧ k < n ∧ l = [(i : Int), (j : Int), (k : Int)] ∧ ¬ okT g i j k ∧ (∀ i' j k, i' < i → j < n → k < n → okT g i' j k) ∧ (∀ j' k, j' < j → k < n → okT g i j' k) ∧ ∀ k', k' < k → okT g i j k'
theorem IsBrk.uniq {n : Nat} {g : Nat → Nat → Nat} {l l' : List Int} (h : IsBrk n g l) (h' : IsBrk n g l') : l = l' := by
  rcases h with ⟨rfl, h⟩ | ⟨i, j, k, hi, hj, hk, rfl, h1, h2, h3, h4⟩
  · rcases h' with ⟨rfl, h'⟩ | ⟨i, j, k, hi, hj, hk, rfl, h1, h2, h3, h4⟩
    · rfl
    · exact absurd (h i j k hi hj hk) h1
  · rcases h' with ⟨rfl, h'⟩ | ⟨i', j', k', hi', hj', hk', rfl, h1', h2', h3', h4'⟩
    · exact absurd (h' i j k hi hj hk) h1
    · have ei : i = i' := by
        rcases Nat.lt_trichotomy i i' with h | h | h
        · exact absurd (h2' i j k h hj hk) h1
        · exact h
        · exact absurd (h2 i' j' k' h hj' hk') h1'
      subst ei
      have ej : j = j' := by
        rcases Nat.lt_trichotomy j j' with h | h | h
        · exact absurd (h3' j k h hk) h1
        · exact h
        · exact absurd (h3 j' k' h hk') h1'
      subst ej
      have ek : k = k' := by
        rcases Nat.lt_trichotomy k k' with h | h | h
        · exact absurd (h4' k h) h1
        · exact h
        · exact absurd (h4 k' h) h1'
      rw [ek]
theorem least_of {p : Nat → Prop} (h : ∃ n, p n) : ∃ n, p n ∧ ∀ m, m < n → ¬ p m := by
  obtain ⟨n, hn⟩ := h
  induction n using Nat.strongRecOn with
  | _ n ih =>
    by_cases hl : ∃ m, m < n ∧ p m
    · obtain ⟨m, hm, pm⟩ := hl
      exact ih m hm pm
    · exact ⟨n, hn, fun m hm pm => hl ⟨m, hm, pm⟩⟩
theorem brk_exists (n : Nat) (g : Nat → Nat → Nat) : ∃ l, IsBrk n g l := by
  by_cases h : ∃ i, i < n ∧ ∃ j k, j < n ∧ k < n ∧ ¬ okT g i j k
  · obtain ⟨i, ⟨hi, h⟩, mi⟩ := least_of h
    obtain ⟨j, ⟨hj, h⟩, mj⟩ := least_of (p := fun j => j < n ∧ ∃ k, k < n ∧ ¬ okT g i j k) (let ⟨j, k, hj, hk, h⟩ := h; ⟨j, hj, k, hk, h⟩)
    obtain ⟨k, ⟨hk, h⟩, mk⟩ := least_of h
    refine ⟨_, .inr ⟨i, j, k, hi, hj, hk, rfl, h, fun i' j k h1 h2 h3 => ?_, fun j' k h1 h2 => ?_, fun k' h1 => ?_⟩⟩
    · exact Classical.byContradiction fun hc => mi i' h1 ⟨by omega, j, k, h2, h3, hc⟩
    · exact Classical.byContradiction fun hc => mj j' h1 ⟨by omega, k, h2, hc⟩
    · exact Classical.byContradiction fun hc => mk k' h1 ⟨by omega, hc⟩
  · exact ⟨[], .inl ⟨rfl, fun i j k hi hj hk => Classical.byContradiction fun hc => h ⟨i, hi, j, k, hj, hk, hc⟩⟩⟩
def TabR (w : World) (v : Value) (n : Nat) (g : Nat → Nat → Nat) : Prop :=
  ∃ (ad : Addr) (c : Nat) (bd : Nat → Addr) (cc : Nat → Nat), v = .slice (some ad) n c ∧ (∀ i, i < n → w.cell? (ad.add i) = some (.slice (some (bd i)) n (cc i))) ∧ ∀ i j, i < n → j < n → w.cell? ((bd i).add j) = some (.int .i64 (g i j))
theorem TabR.ext {w w' : World} {v : Value} {n : Nat} {g : Nat → Nat → Nat} (h : TabR w v n g) (hx : Ext w w') : TabR w' v n g := by
  obtain ⟨ad, c, bd, cc, e, h1, h2⟩ := h
  exact ⟨ad, c, bd, cc, e, fun i hi => hx.cell (h1 i hi), fun i j hi hj => hx.cell (h2 i j hi hj)⟩
def gOf (xss : List (List Int)) (i j : Nat) : Nat := ((xss.getD i []).getD j 0).toNat
theorem gOf_at {xss : List (List Int)} (h : Tab xss) {i j : Nat} {xs : List Int} (hi : xss[i]? = some xs) (hj : j < xss.length) : xs[j]? = some (gOf xss i j : Int) ∧ gOf xss i j < xss.length := by
  have hr := h.2 xs (List.mem_of_getElem? hi)
  have hl : j < xs.length := by rw [hr.1]; exact hj
  have e : xs[j]? = some xs[j] := List.getElem?_eq_getElem hl
  have hb := hr.2 _ (List.mem_of_getElem? e)
  have eg : gOf xss i j = xs[j].toNat := by
    unfold gOf
    rw [show xss.getD i [] = xs from by rw [List.getD_eq_getElem?_getD, hi]; rfl, List.getD_eq_getElem?_getD, e]
    rfl
  rw [eg, e]
  refine ⟨?_, by omega⟩
  congr 1
  omega
theorem gOf_lt {xss : List (List Int)} (h : Tab xss) {i j : Nat} (hi : i < xss.length) (hj : j < xss.length) : gOf xss i j < xss.length := (gOf_at h (List.getElem?_eq_getElem hi) hj).2
theorem ReadsM.tab {w : World} {v : Value} {xss : List (List Int)} (h : ReadsM w v xss) (hT : Tab xss) : TabR w v xss.length (gOf xss) := by
  obtain ⟨A, c, rfl, _, rows⟩ := h.open
  have hn : 0 < xss.length := hT.1.1
  obtain ⟨ad, rfl⟩ : ∃ ad, A = some ad := by obtain ⟨ad, _, _, e, _⟩ := rows 0 _ (List.getElem?_eq_getElem hn); exact ⟨ad, e⟩
  have pick : ∀ i, ∃ p : Addr × Nat, i < xss.length → w.cell? (ad.add i) = some (.slice (some p.1) xss.length p.2) ∧ ∀ j, j < xss.length → w.cell? (p.1.add j) = some (.int .i64 (gOf xss i j)) := by
    intro i
    by_cases hi : i < xss.length
    · have hx := List.getElem?_eq_getElem hi
      obtain ⟨ad', B, d, ea, hc, hr⟩ := rows i _ hx
      cases ea
      have hl := (hT.2 _ (List.mem_of_getElem? hx)).1
      obtain ⟨B', d', eb, _, hb⟩ := hr
      rw [ints_length] at hb
      injection eb with e1 _ e2
      subst e1
      obtain ⟨bd, rfl, hcc⟩ := hb (by omega)
      rw [hl] at hc
      refine ⟨(bd, d), fun _ => ⟨hc, fun j hj => hcc j _ ?_⟩⟩
      have := (gOf_at hT hx hj).1
      simp only [ints, List.getElem?_map, this, Option.map_some]
    · exact ⟨(ad, 0), fun h => absurd h hi⟩
  exact ⟨ad, c, fun i => (Classical.choose (pick i)).1, fun i => (Classical.choose (pick i)).2, rfl, fun i hi => (Classical.choose_spec (pick i) hi).1, fun i j hi hj => (Classical.choose_spec (pick i) hi).2 j hj⟩

end Go.Proofs.YtpmmajfdcicjiaaGreat.N
/- The value of a tree under a table: the program and the reference. -/
namespace Go.Proofs.YtpmmajfdcicjiaaGreat.N
open Go.RowKit
set_option linter.unusedVariables false
set_option linter.unusedSimpArgs false

def val (g : Nat → Nat → Nat) : Tr → List Nat → Nat
  | .leaf, ys => ys.getD 0 0
  | .node l r, ys => g (val g l ys) (val g r (ys.drop (l.carets + 1)))
theorem val_lt {g : Nat → Nat → Nat} {n : Nat} (hg : ∀ i j, i < n → j < n → g i j < n) : ∀ (T : Tr) (ys : List Nat), T.carets < ys.length → (∀ y ∈ ys, y < n) → val g T ys < n
  | .leaf, ys, h, hy => by
    cases ys with
    | nil => simp [Tr.carets] at h
    | cons y ys => exact hy y List.mem_cons_self
  | .node l r, ys, h, hy => by
    simp only [Tr.carets] at h
    exact hg _ _ (val_lt hg l ys (by omega) hy) (val_lt hg r _ (by rw [List.length_drop]; omega) fun y hm => hy y (List.mem_of_mem_drop hm))
theorem val_take (g : Nat → Nat → Nat) : ∀ (T : Tr) (ys : List Nat) (k : Nat), T.carets < k → val g T (ys.take k) = val g T ys
  | .leaf, ys, k, h => by
    cases ys with
    | nil => simp
    | cons y ys => obtain ⟨k, rfl⟩ : ∃ m, k = m + 1 := ⟨k - 1, by simp only [Tr.carets] at h; omega⟩; rfl
  | .node l r, ys, k, h => by
    simp only [Tr.carets] at h
    simp only [val]
    rw [val_take g l ys k (by omega), List.drop_take, val_take g r _ _ (by omega)]
/-- A slice that reads, its capacity no less than its length. -/
def RC (w : World) (v : Value) (xs : List Value) : Prop := Reads w v xs ∧ ∃ A c, v = .slice A xs.length c ∧ xs.length ≤ c
theorem RC.ext {w w' : World} {v : Value} {xs : List Value} (h : RC w v xs) (hx : Ext w w') : RC w' v xs := ⟨h.1.ext hx, h.2⟩
theorem Own.rc {w : World} {base : Nat} {e : TypeId} {v : Value} {xs : List Value} (h : Own w base e v xs) : RC w v xs := by
  refine ⟨h.reads, ?_⟩
  rcases h.2 with ⟨rfl, h0⟩ | ⟨g, cap, cur, rfl, hb, hh, h1, h2⟩
  · exact ⟨none, 0, by rw [h0], by omega⟩
  · exact ⟨_, cap, rfl, h1⟩
/-- Its cells. -/
theorem RC.open {w : World} {v : Value} {ys : List Nat} (h : RC w v (nats ys)) (hp : 0 < ys.length) : ∃ ad c, v = .slice (some ad) ys.length c ∧ ys.length ≤ c ∧ w.cell? (ad.add 0) = some (.int .i64 (ys.getD 0 0 : Nat)) ∧
    (∀ k, k ≤ ys.length → RC w (.slice (some (ad.add k)) (ys.length - k) (c - k)) (nats (ys.drop k))) ∧ ∀ k, k ≤ ys.length → RC w (.slice (some ad) k c) (nats (ys.take k)) := by
  obtain ⟨⟨A, c, e, _, hc⟩, A', c', rfl, hle⟩ := h
  rw [nats_length] at *
  injection e with e1 _ e3
  subst e1 e3
  obtain ⟨ad, rfl, hcell⟩ := hc hp
  have at_ : ∀ j, j < ys.length → w.cell? (ad.add j) = some (.int .i64 (ys.getD j 0 : Nat)) := fun j hj => by
    rw [hcell j _ (nats_get ys j hj), List.getD_eq_getElem?_getD, List.getElem?_eq_getElem hj]; rfl
  refine ⟨ad, c', rfl, hle, at_ 0 hp, fun k hk => ?_, fun k hk => ?_⟩
  · have e1 : (nats (ys.drop k)).length = ys.length - k := by rw [nats_length, List.length_drop]
    refine ⟨⟨some (ad.add k), c' - k, by rw [e1], (fun h => by cases h), fun _ => ⟨_, rfl, fun j u hu => ?_⟩⟩, _, _, by rw [e1], by rw [e1]; omega⟩
    have hj : j < ys.length - k := by rw [← e1]; exact (List.getElem?_eq_some_iff.1 hu).1
    rw [Go.Addr.add_add, at_ (k + j) (by omega), ← hu, nats_get _ _ (by rw [List.length_drop]; exact hj), List.getElem_drop, List.getD_eq_getElem?_getD, List.getElem?_eq_getElem (by omega)]
    rfl
  · have e1 : (nats (ys.take k)).length = k := by rw [nats_length, List.length_take]; omega
    refine ⟨⟨some ad, c', by rw [e1], (fun h => by cases h), fun _ => ⟨_, rfl, fun j u hu => ?_⟩⟩, _, _, by rw [e1], by rw [e1]; omega⟩
    have hj : j < k := by rw [← e1]; exact (List.getElem?_eq_some_iff.1 hu).1
    rw [at_ j (by omega), ← hu, nats_get _ _ (by rw [List.length_take]; omega), List.getElem_take, List.getD_eq_getElem?_getD, List.getElem?_eq_getElem (by omega)]
    rfl
theorem RC.gone (w : World) (ad : Addr) (k : Nat) (ys : List Nat) (h : ys.length ≤ k) : RC w (.slice (some ad) 0 0) (nats (ys.drop k)) := by
  rw [List.drop_eq_nil_of_le h]
  exact ⟨⟨some ad, 0, rfl, (fun h => by cases h), fun h => absurd h (Nat.lt_irrefl _)⟩, some ad, 0, rfl, Nat.le_refl _⟩

end Go.Proofs.YtpmmajfdcicjiaaGreat.N
