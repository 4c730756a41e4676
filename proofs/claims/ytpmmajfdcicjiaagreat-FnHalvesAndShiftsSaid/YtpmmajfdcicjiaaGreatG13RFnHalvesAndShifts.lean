import Derived.Test.YtpmmajfdcicjiaaGreatG1RFnHalvesAndShifts
import Derived.Test.YtpmmajfdcicjiaaGreatG3RFnHalvesAndShifts
import Derived.Test.YtpmmajfdcicjiaaGreatG4RFnHalvesAndShifts
import Derived.Test.YtpmmajfdcicjiaaGreatG12RFnHalvesAndShifts
/- What a pair does to endless words of 0s and 1s: products are compositions, a reduced pair is told by what it does. Plain Lean. -/
namespace Go.Proofs.YtpmmajfdcicjiaaGreat.N
set_option linter.unusedVariables false
set_option linter.unusedSimpArgs false

/-- An endless word. -/
abbrev Str := Nat → Bool
def scons (b : Bool) (s : Str) : Str := fun n => match n with | 0 => b | n + 1 => s n
def stail (s : Str) : Str := fun n => s (n + 1)
def sapp : List Bool → Str → Str
  | [], s => s
  | b :: l, s => scons b (sapp l s)
theorem scons_head (b : Bool) (s : Str) : scons b s 0 = b := rfl
theorem stail_scons (b : Bool) (s : Str) : stail (scons b s) = s := rfl
theorem scons_eta (s : Str) : scons (s 0) (stail s) = s := by funext n; cases n <;> rfl
theorem scons_inj {a b : Bool} {s t : Str} (h : scons a s = scons b t) : a = b ∧ s = t := ⟨congrFun h 0, by have := congrArg stail h; exact this⟩
theorem sapp_app (a b : List Bool) (s : Str) : sapp (a ++ b) s = sapp a (sapp b s) := by
  induction a with
  | nil => rfl
  | cons x a ih => simp only [List.cons_append, sapp, ih]
/-- Words before all endless words alike are alike. -/
theorem sapp_cancel : ∀ (a b : List Bool), (∀ s, sapp a s = sapp b s) → a = b
  | [], [], _ => rfl
  | [], x :: b, h => by have := congrFun (h (fun _ => !x)) 0; simp [sapp, scons] at this
  | x :: a, [], h => by have := congrFun (h (fun _ => !x)) 0; simp [sapp, scons] at this
  | x :: a, y :: b, h => by
    have h0 := (scons_inj (h fun _ => true)).1
    rw [h0, sapp_cancel a b fun s => (scons_inj (h s)).2]

/-- The address of a leaf. -/
def adr : Tr → Nat → List Bool
  | .leaf, _ => []
  | .node l r, k => if k < l.carets + 1 then false :: adr l k else true :: adr r (k - (l.carets + 1))
/-- The leaf that an endless word leads to, and what is left of the word. -/
def find : Tr → Str → Nat × Str
  | .leaf, s => (0, s)
  | .node l r, s => if s 0 = false then find l (stail s) else ((find r (stail s)).1 + (l.carets + 1), (find r (stail s)).2)
theorem find_le : ∀ (T : Tr) (s : Str), (find T s).1 ≤ T.carets
  | .leaf, s => Nat.le_refl _
  | .node l r, s => by
    have := find_le l (stail s)
    have := find_le r (stail s)
    simp only [find, Tr.carets]
    split
    · omega
    · simp only; omega
theorem adr_find : ∀ (T : Tr) (s : Str), sapp (adr T (find T s).1) (find T s).2 = s
  | .leaf, s => rfl
  | .node l r, s => by
    have h1 := find_le l (stail s)
    simp only [find]
    split
    · rename_i h
      simp only [adr]
      rw [if_pos (by omega)]
      simp only [sapp, adr_find l (stail s)]
      rw [← h, scons_eta]
    · rename_i h
      simp only [adr]
      rw [if_neg (by omega), Nat.add_sub_cancel]
      simp only [sapp, adr_find r (stail s)]
      rw [← show s 0 = true by cases e : s 0 with | true => rfl | false => exact absurd e h, scons_eta]
theorem find_adr : ∀ (T : Tr) (k : Nat) (s : Str), k ≤ T.carets → find T (sapp (adr T k) s) = (k, s)
  | .leaf, k, s, h => by
    have : k = 0 := by simp only [Tr.carets] at h; omega
    subst this; rfl
  | .node l r, k, s, h => by
    simp only [Tr.carets] at h
    simp only [adr]
    split
    · rename_i hk
      simp only [sapp, find, scons_head, stail_scons, if_true]
      exact find_adr l k s (by omega)
    · rename_i hk
      simp only [sapp, find, scons_head, stail_scons, Bool.true_eq_false, if_false]
      rw [find_adr r _ s (by omega)]
      simp only [Prod.mk.injEq, and_true]; omega
theorem find_iff {T : Tr} {s t : Str} {k : Nat} (hk : k ≤ T.carets) : find T s = (k, t) ↔ s = sapp (adr T k) t := by
  constructor
  · intro h; have := adr_find T s; rw [h] at this; exact this.symm
  · rintro rfl; exact find_adr T k t hk
theorem find_eq {T : Tr} {s t : Str} {k : Nat} (hk : k ≤ T.carets) (h : s = sapp (adr T k) t) : find T s = (k, t) := (find_iff hk).2 h

/-- What a pair does. -/
def act (p : Tr × Tr) (s : Str) : Str := sapp (adr p.2 (find p.1 s).1) (find p.1 s).2
theorem act_at (p : Tr × Tr) (k : Nat) (hk : k ≤ p.1.carets) (s : Str) : act p (sapp (adr p.1 k) s) = sapp (adr p.2 k) s := by
  unfold act; rw [find_adr p.1 k s hk]

/-! ### Trees in place of leaves -/
/-- The number of the first leaf of a tree in place of a leaf. -/
def off (L : List Tr) : Nat → Nat
  | 0 => 0
  | k + 1 => off L k + ((L.getD k .leaf).carets + 1)
theorem off_grown (L : List Tr) : ∀ (T : Tr) (k : Nat), off L (k + (T.carets + 1)) = off L k + ((T.grown (fun i => L.getD i .leaf) k).carets + 1)
  | .leaf, k => rfl
  | .node l r, k => by
    have h1 := off_grown L l k
    have h2 := off_grown L r (k + (l.carets + 1))
    simp only [Tr.grown, Tr.carets]
    rw [show k + (1 + l.carets + r.carets + 1) = k + (l.carets + 1) + (r.carets + 1) by omega, h2, h1]; omega
theorem off_mono (L : List Tr) : ∀ (j k : Nat), off L k ≤ off L (k + j)
  | 0, k => Nat.le_refl _
  | j + 1, k => by
    have := off_mono L j k
    rw [← Nat.add_assoc]; simp only [off]; omega
theorem off_lt (L : List Tr) {k m : Nat} (h : k < m) : off L k + ((L.getD k .leaf).carets + 1) ≤ off L m := by
  have := off_mono L (m - (k + 1)) (k + 1)
  rw [show k + 1 + (m - (k + 1)) = m by omega] at this
  simpa [off] using this
theorem grown_adr (L : List Tr) : ∀ (T : Tr) (b k j : Nat), k ≤ T.carets → j ≤ (L.getD (b + k) .leaf).carets → adr (T.grown (fun i => L.getD i .leaf) b) (off L (b + k) - off L b + j) = adr T k ++ adr (L.getD (b + k) .leaf) j
  | .leaf, b, k, j, hk, hj => by
    have : k = 0 := by simp only [Tr.carets] at hk; omega
    subst this
    simp [Tr.grown, adr]
  | .node l r, b, k, j, hk, hj => by
    simp only [Tr.carets] at hk
    have ho := off_grown L l b
    have h0 := off_mono L k b
    simp only [Tr.grown, adr]
    by_cases h : k < l.carets + 1
    · have h1 := off_lt L (show b + k < b + (l.carets + 1) by omega)
      rw [if_pos (by omega), if_pos h, grown_adr L l b k j (by omega) hj]; rfl
    · have h1 := off_mono L (k - (l.carets + 1)) (b + (l.carets + 1))
      rw [show b + (l.carets + 1) + (k - (l.carets + 1)) = b + k by omega] at h1
      rw [if_neg (by omega), if_neg h]
      have := grown_adr L r (b + (l.carets + 1)) (k - (l.carets + 1)) j (by omega) (by rw [show b + (l.carets + 1) + (k - (l.carets + 1)) = b + k by omega]; exact hj)
      rw [show b + (l.carets + 1) + (k - (l.carets + 1)) = b + k by omega] at this
      rw [List.cons_append, ← this]
      congr 2
      omega
theorem fill_adr (L : List Tr) (T : Tr) (k j : Nat) (hk : k ≤ T.carets) (hj : j ≤ (L.getD k .leaf).carets) : adr (fill T L) (off L k + j) = adr T k ++ adr (L.getD k .leaf) j := by
  have := grown_adr L T 0 k j hk (by rw [Nat.zero_add]; exact hj)
  rw [Nat.zero_add, show off L 0 = 0 from rfl, Nat.sub_zero] at this
  exact this
theorem fill_off (L : List Tr) (T : Tr) : off L (T.carets + 1) = (fill T L).carets + 1 := by
  have := off_grown L T 0
  rw [Nat.zero_add, show off L 0 = 0 from rfl, Nat.zero_add] at this
  exact this
/-- Each leaf of a filled tree is one of a tree in it. -/
theorem off_split (L : List Tr) : ∀ (n i : Nat), i < off L n → ∃ k j, k < n ∧ j ≤ (L.getD k .leaf).carets ∧ i = off L k + j
  | 0, i, h => by simp [off] at h
  | n + 1, i, h => by
    by_cases hi : i < off L n
    · obtain ⟨k, j, h1, h2, h3⟩ := off_split L n i hi
      exact ⟨k, j, by omega, h2, h3⟩
    · simp only [off] at h
      exact ⟨n, i - off L n, by omega, by omega, by omega⟩
theorem grown_append (A B : List Tr) : ∀ (T : Tr) (k : Nat), k + T.carets < A.length → T.grown (fun i => (A ++ B).getD i .leaf) k = T.grown (fun i => A.getD i .leaf) k
  | .leaf, k, h => by simp only [Tr.grown, List.getD_eq_getElem?_getD]; rw [List.getElem?_append_left (by omega)]
  | .node l r, k, h => by
    simp only [Tr.carets] at h
    simp only [Tr.grown]
    rw [grown_append A B l k (by omega), grown_append A B r _ (by omega)]
theorem grown_behind (A B : List Tr) : ∀ (T : Tr) (k : Nat), T.grown (fun i => (A ++ B).getD i .leaf) (A.length + k) = T.grown (fun i => B.getD i .leaf) k
  | .leaf, k => by simp only [Tr.grown, List.getD_eq_getElem?_getD]; rw [List.getElem?_append_right (by omega), Nat.add_sub_cancel_left]
  | .node l r, k => by
    simp only [Tr.grown]
    rw [grown_behind A B l k, Nat.add_assoc, grown_behind A B r _]
theorem fill_parts : ∀ (t w : Tr), Part t w → fill t (partsT t w) = w
  | .leaf, w, _ => rfl
  | .node _ _, .leaf, h => h.elim
  | .node l r, .node a b, h => by
    have l1 := parts_length l a h.1
    have i1 := fill_parts l a h.1
    have i2 := fill_parts r b h.2
    unfold fill at i1 i2 ⊢
    simp only [partsT, Tr.grown]
    rw [grown_append _ _ l 0 (by omega), i1]
    have := grown_behind (partsT l a) (partsT r b) r 0
    rw [Nat.add_zero, l1] at this
    rw [Nat.zero_add, this, i2]

/-- The product does one after the other. -/
theorem act_mul0 (p q : Tr × Tr) (hp : p.1.carets = p.2.carets) (hq : q.1.carets = q.2.carets) (s : Str) : act (mul0 p q) s = act q (act p s) := by
  have P1 := part_join_l p.2 q.1
  have P2 := part_join_r p.2 q.1
  have F1 := fill_parts _ _ P1
  have F2 := fill_parts _ _ P2
  unfold mul0
  generalize join p.2 q.1 = J at *
  generalize partsT p.2 J = P at *
  generalize partsT q.1 J = Q at *
  obtain ⟨k, hk, t, rfl⟩ : ∃ k, k ≤ p.1.carets ∧ ∃ t, s = sapp (adr p.1 k) t := ⟨_, find_le p.1 s, _, (adr_find p.1 s).symm⟩
  rw [act_at p k hk]
  obtain ⟨j, hj, u, rfl⟩ : ∃ j, j ≤ (P.getD k .leaf).carets ∧ ∃ u, t = sapp (adr (P.getD k .leaf) j) u := ⟨_, find_le _ t, _, (adr_find _ t).symm⟩
  rw [← sapp_app, ← fill_adr P p.1 k j hk hj, ← sapp_app, ← fill_adr P p.2 k j (by omega) hj, F1]
  have b1 := off_lt P (show k < p.2.carets + 1 by omega)
  rw [fill_off, F1] at b1
  have b2 := off_lt P (show k < p.1.carets + 1 by omega)
  rw [fill_off] at b2
  obtain ⟨m, i, hm, hi, e⟩ := off_split Q (q.1.carets + 1) (off P k + j) (by rw [fill_off, F2]; omega)
  rw [act_at (fill p.1 P, fill q.2 Q) (off P k + j) (by simp only; omega)]
  simp only
  rw [e, fill_adr Q q.2 m i (by omega) hi, show adr J (off Q m + i) = adr q.1 m ++ adr (Q.getD m .leaf) i by rw [← fill_adr Q q.1 m i (by omega) hi, F2], sapp_app, sapp_app, act_at q m (by omega)]

/-! ### Reduced pairs -/
theorem carets_zero {T : Tr} (h : T.carets = 0) : T = .leaf := by
  cases T with
  | leaf => rfl
  | node l r => simp only [Tr.carets] at h; omega
/-- An exposed caret: its leaves are beside each other. -/
theorem expo_adr : ∀ (T : Tr) (k : Nat), k ∈ expo T 0 → adr T k = adr (without T k) k ++ [false] ∧ adr T (k + 1) = adr (without T k) k ++ [true] ∧ (∀ i, i < k → adr T i = adr (without T k) i) ∧ (∀ i, k + 1 < i → i ≤ T.carets → adr T i = adr (without T k) (i - 1))
  | .leaf, _, h => by cases h
  | .node l r, k, h => by
    by_cases hl : l = .leaf ∧ r = .leaf
    · obtain ⟨rfl, rfl⟩ := hl
      simp only [expo, List.mem_singleton] at h
      subst h
      exact ⟨rfl, rfl, fun i hi => by omega, fun i hi h2 => by simp only [Tr.carets] at h2; omega⟩
    · rcases mem_expo_node hl h with ⟨h1, h2⟩ | ⟨h1, h2⟩
      · obtain ⟨a1, a2, a3, a4⟩ := expo_adr l k h2
        have hc := without_carets l k h2
        have hr := expo_range l 0 k h2
        rw [without_node hl, if_neg (by omega)]
        simp only [adr]
        refine ⟨?_, ?_, fun i hi => ?_, fun i hi hi2 => ?_⟩
        · rw [if_pos (by omega), if_pos (by omega), a1]; rfl
        · rw [if_pos (by omega), if_pos (by omega), a2]; rfl
        · rw [if_pos (by omega), if_pos (by omega), a3 i hi]
        · by_cases hi3 : i < l.carets + 1
          · rw [if_pos hi3, if_pos (by omega), a4 i hi (by omega)]
          · rw [if_neg hi3, if_neg (by omega)]
            congr 2; omega
      · obtain ⟨a1, a2, a3, a4⟩ := expo_adr r (k - (l.carets + 1)) h2
        rw [without_node hl, if_pos h1]
        simp only [adr]
        refine ⟨?_, ?_, fun i hi => ?_, fun i hi hi2 => ?_⟩
        · rw [if_neg (by omega), if_neg (by omega), a1]; rfl
        · rw [if_neg (by omega), if_neg (by omega), show k + 1 - (l.carets + 1) = k - (l.carets + 1) + 1 by omega, a2]; rfl
        · by_cases hi3 : i < l.carets + 1
          · rw [if_pos hi3, if_pos hi3]
          · rw [if_neg hi3, if_neg hi3, a3 _ (by omega)]
        · simp only [Tr.carets] at hi2
          rw [if_neg (by omega), if_neg (by omega), a4 _ (by omega) (by omega)]
          congr 2; omega
theorem cons_snoc {a b : Bool} {x w : List Bool} (h : a :: x = w ++ [b]) : (w = [] ∧ a = b ∧ x = []) ∨ ∃ v, w = a :: v ∧ x = v ++ [b] := by
  cases w with
  | nil => simp at h; exact .inl ⟨rfl, h.1, h.2⟩
  | cons c w => simp at h; exact .inr ⟨w, by rw [h.1], h.2⟩
theorem adr_nil_first : ∀ {T : Tr} {k : Nat}, adr T k = [] → T = .leaf
  | .leaf, _, _ => rfl
  | .node l r, k, h => by simp only [adr] at h; split at h <;> cases h
theorem adr_expo : ∀ (T : Tr) (k : Nat) (w : List Bool), k + 1 ≤ T.carets → adr T k = w ++ [false] → adr T (k + 1) = w ++ [true] → k ∈ expo T 0
  | .leaf, k, w, h, _, _ => by simp only [Tr.carets] at h; omega
  | .node l r, k, w, h, h1, h2 => by
    by_cases hl : l = .leaf ∧ r = .leaf
    · obtain ⟨rfl, rfl⟩ := hl
      have : k = 0 := by simp only [Tr.carets] at h; omega
      subst this
      simp [expo]
    · rw [expo_node hl]
      simp only [Tr.carets] at h
      simp only [adr] at h1 h2
      rw [List.mem_append]
      by_cases ha : k + 1 < l.carets + 1
      · left
        rw [if_pos (by omega)] at h1
        rw [if_pos ha] at h2
        rcases cons_snoc h1 with ⟨rfl, _, _⟩ | ⟨v, rfl, hv⟩
        · simp at h2
        · exact adr_expo l k v (by omega) hv (by simpa using h2)
      · by_cases hb : k < l.carets + 1
        · exfalso
          rw [if_pos hb] at h1
          rw [if_neg ha] at h2
          rcases cons_snoc h1 with ⟨rfl, _, h3⟩ | ⟨v, rfl, hv⟩
          · simp at h2
            exact hl ⟨adr_nil_first h3, adr_nil_first h2⟩
          · simp at h2
        · right
          rw [if_neg hb] at h1
          rw [if_neg ha] at h2
          have e : 0 + (l.carets + 1) = l.carets + 1 := by omega
          rw [← e, expo_shift, List.mem_map]
          refine ⟨k - (l.carets + 1), ?_, by omega⟩
          rcases cons_snoc h1 with ⟨rfl, h3, _⟩ | ⟨v, rfl, hv⟩
          · cases h3
          · exact adr_expo r _ v (by omega) hv (by rw [show k - (l.carets + 1) + 1 = k + 1 - (l.carets + 1) by omega]; simpa using h2)
theorem expo_some' : ∀ (T : Tr), T ≠ .leaf → ∃ k, k ∈ expo T 0
  | .leaf, h => absurd rfl h
  | .node .leaf .leaf, _ => ⟨0, by simp [expo]⟩
  | .node (.node a b) r, _ => by
    obtain ⟨k, hk⟩ := expo_some' (.node a b) (by simp)
    exact ⟨k, by rw [expo_node (nl_l a b r)]; exact List.mem_append_left _ hk⟩
  | .node .leaf (.node a b), _ => by
    obtain ⟨k, hk⟩ := expo_some' (.node a b) (by simp)
    refine ⟨k + (Tr.leaf.carets + 1), ?_⟩
    rw [expo_node (nl_r a b), Nat.zero_add]
    refine List.mem_append_right _ ?_
    have := expo_shift (.node a b) 0 (Tr.leaf.carets + 1)
    rw [Nat.zero_add] at this
    rw [this]
    exact List.mem_map_of_mem hk
theorem expo_some (l r : Tr) : ∃ k, k ∈ expo (.node l r) 0 := expo_some' _ (by simp)

def Bal (p : Tr × Tr) : Prop := p.1.carets = p.2.carets
/-- A pair with a caret dropped does the same. -/
theorem act_without (A B : Tr) (hc : A.carets = B.carets) (k : Nat) (h : k ∈ bothT A B) (s : Str) : act (without A k, without B k) s = act (A, B) s := by
  obtain ⟨hA, hB⟩ := mem_both h
  obtain ⟨a1, a2, a3, a4⟩ := expo_adr A k hA
  obtain ⟨b1, b2, b3, b4⟩ := expo_adr B k hB
  have cA := without_carets A k hA
  have cB := without_carets B k hB
  have rA := expo_range A 0 k hA
  obtain ⟨i, hi, t, rfl⟩ : ∃ i, i ≤ A.carets ∧ ∃ t, s = sapp (adr A i) t := ⟨_, find_le A s, _, (adr_find A s).symm⟩
  rw [act_at (A, B) i hi]
  simp only
  have key : ∀ j u, j ≤ (without A k).carets → act (without A k, without B k) (sapp (adr (without A k) j) u) = sapp (adr (without B k) j) u := fun j u hj => act_at (without A k, without B k) j hj u
  rcases Nat.lt_trichotomy i k with h1 | h1 | h1
  · rw [a3 i h1, b3 i h1, key i t (by omega)]
  · subst h1
    rw [a1, b1, sapp_app, sapp_app, key _ _ (by omega)]
  · by_cases h2 : i = k + 1
    · subst h2
      rw [a2, b2, sapp_app, sapp_app, key _ _ (by omega)]
    · rw [a4 i (by omega) hi, b4 i (by omega) (by omega), key _ _ (by omega)]
theorem act_redF : ∀ (n : Nat) (p : Tr × Tr), Bal p → ∀ s, act (redF n p) s = act p s
  | 0, p, _, s => rfl
  | n + 1, p, h, s => by
    simp only [redF]
    cases hb : bothT p.1 p.2 with
    | nil => rfl
    | cons k l =>
      have hk : k ∈ bothT p.1 p.2 := by rw [hb]; exact List.mem_cons_self
      obtain ⟨hA, hB⟩ := mem_both hk
      have cA := without_carets p.1 k hA
      have cB := without_carets p.2 k hB
      unfold Bal at h
      simp only
      rw [act_redF n (without p.1 k, without p.2 k) (by unfold Bal; simp only; omega) s, act_without p.1 p.2 h k hk s]
theorem act_red {p : Tr × Tr} (h : Bal p) (s : Str) : act (red p) s = act p s := act_redF _ p h s
theorem Bal.red {p : Tr × Tr} (h : Bal p) : Bal (red p) := red_same h
theorem Bal.mul {p q : Tr × Tr} (hp : Bal p) (hq : Bal q) : Bal (mul p q) := (mul_carets hp hq).1
theorem act_mul {p q : Tr × Tr} (hp : Bal p) (hq : Bal q) (s : Str) : act (mul p q) s = act q (act p s) := by
  unfold mul
  obtain ⟨h1, h2⟩ := mul0_carets hp hq
  rw [act_red (by unfold Bal; rw [h1, h2]), act_mul0 p q hp hq]

/-- U is what T has at the address v, its first leaf the i-th one. -/
def Sub (T : Tr) (v : List Bool) (i : Nat) (U : Tr) : Prop := i + U.carets ≤ T.carets ∧ ∀ m, m ≤ U.carets → adr T (i + m) = v ++ adr U m
theorem Sub.refl (T : Tr) : Sub T [] 0 T := ⟨by omega, fun m _ => by rw [Nat.zero_add]; rfl⟩
theorem Sub.left {T : Tr} {v : List Bool} {i : Nat} {l r : Tr} (h : Sub T v i (.node l r)) : Sub T (v ++ [false]) i l := by
  obtain ⟨h1, h2⟩ := h
  simp only [Tr.carets] at h1 h2
  refine ⟨by omega, fun m hm => ?_⟩
  rw [h2 m (by omega)]
  simp only [adr]
  rw [if_pos (by omega)]
  simp
theorem Sub.right {T : Tr} {v : List Bool} {i : Nat} {l r : Tr} (h : Sub T v i (.node l r)) : Sub T (v ++ [true]) (i + (l.carets + 1)) r := by
  obtain ⟨h1, h2⟩ := h
  simp only [Tr.carets] at h1 h2
  refine ⟨by omega, fun m hm => ?_⟩
  rw [Nat.add_assoc, h2 _ (by omega)]
  simp only [adr]
  rw [if_neg (by omega), Nat.add_sub_cancel_left]
  simp
theorem not_solid {p q : Tr × Tr} {v : List Bool} {i j : Nat} {l r : Tr} (hq : Bal q) (hb : bothT q.1 q.2 = []) (ha : ∀ s, act p s = act q s) (h1 : Sub p.1 v i .leaf) (h2 : Sub q.1 v j (.node l r)) : False := by
  have hv : adr p.1 i = v := by have := h1.2 0 (Nat.le_refl _); simpa [adr] using this
  have hi : i ≤ p.1.carets := by have := h1.1; simp only [Tr.carets] at this; omega
  have key : ∀ m, m ≤ (Tr.node l r).carets → adr q.2 (j + m) = adr p.2 i ++ adr (.node l r) m := fun m hm => sapp_cancel _ _ fun s => by
    have e1 := act_at q (j + m) (by have := h2.1; omega) s
    have e2 := act_at p i hi (sapp (adr (.node l r) m) s)
    rw [hv, ← sapp_app, ← h2.2 m hm, ha, e1] at e2
    rw [sapp_app]; exact e2
  obtain ⟨k, hk⟩ := expo_some l r
  have kr := expo_range _ _ _ hk
  obtain ⟨a1, a2, _, _⟩ := expo_adr _ _ hk
  have hle := h2.1
  unfold Bal at hq
  have m1 : j + k ∈ expo q.1 0 := adr_expo q.1 (j + k) (v ++ adr (without (.node l r) k) k) (by omega) (by rw [h2.2 k (by omega), a1, List.append_assoc]) (by rw [Nat.add_assoc, h2.2 (k + 1) (by omega), a2, List.append_assoc])
  have m2 : j + k ∈ expo q.2 0 := adr_expo q.2 (j + k) (adr p.2 i ++ adr (without (.node l r) k) k) (by omega) (by rw [key k (by omega), a1, List.append_assoc]) (by rw [Nat.add_assoc, key (k + 1) (by omega), a2, List.append_assoc])
  exact both_nil.1 hb _ m1 m2
theorem same_sub {p q : Tr × Tr} (hp : Bal p) (hq : Bal q) (bp : bothT p.1 p.2 = []) (bq : bothT q.1 q.2 = []) (ha : ∀ s, act p s = act q s) : ∀ (U V : Tr) (v : List Bool) (i j : Nat), Sub p.1 v i U → Sub q.1 v j V → U = V
  | .leaf, .leaf, _, _, _, _, _ => rfl
  | .leaf, .node l r, v, i, j, h1, h2 => (not_solid hq bq ha h1 h2).elim
  | .node l r, .leaf, v, i, j, h1, h2 => (not_solid hp bp (fun s => (ha s).symm) h2 h1).elim
  | .node l r, .node a b, v, i, j, h1, h2 => by
    rw [same_sub hp hq bp bq ha l a _ _ _ h1.left h2.left, same_sub hp hq bp bq ha r b _ _ _ h1.right h2.right]
theorem adr_inj : ∀ (A B : Tr), A.carets = B.carets → (∀ k, k ≤ A.carets → adr A k = adr B k) → A = B
  | .leaf, B, h, _ => (carets_zero h.symm).symm
  | .node l r, .leaf, h, _ => by simp only [Tr.carets] at h; omega
  | .node l r, .node a b, h, hk => by
    simp only [Tr.carets] at h hk
    have hc : l.carets = a.carets := by
      rcases Nat.lt_trichotomy l.carets a.carets with h1 | h1 | h1
      · have := hk (l.carets + 1) (by omega)
        simp only [adr] at this
        rw [if_neg (by omega), if_pos (by omega)] at this
        simp at this
      · exact h1
      · have := hk (a.carets + 1) (by omega)
        simp only [adr] at this
        rw [if_pos (by omega), if_neg (by omega)] at this
        simp at this
    rw [adr_inj l a hc fun k hl => by
        have := hk k (by omega)
        simp only [adr] at this
        rw [if_pos (by omega), if_pos (by omega)] at this
        simpa using this,
      adr_inj r b (by omega) fun k hl => by
        have := hk (k + (l.carets + 1)) (by omega)
        simp only [adr] at this
        rw [if_neg (by omega), if_neg (by omega), hc, Nat.add_sub_cancel] at this
        simpa using this]
/-- A reduced pair is told by what it does. -/
theorem pair_ext {p q : Tr × Tr} (hp : Bal p) (hq : Bal q) (bp : bothT p.1 p.2 = []) (bq : bothT q.1 q.2 = []) (ha : ∀ s, act p s = act q s) : p = q := by
  have h1 : p.1 = q.1 := same_sub hp hq bp bq ha p.1 q.1 [] 0 0 (Sub.refl _) (Sub.refl _)
  obtain ⟨A, B⟩ := p
  obtain ⟨C, D⟩ := q
  simp only at h1
  subst h1
  unfold Bal at hp hq
  simp only at hp hq
  rw [adr_inj B D (by omega) fun k hk => sapp_cancel _ _ fun s => by
    have e1 := act_at (A, B) k (by simp only; omega) s
    have e2 := act_at (A, D) k (by simp only; omega) s
    rw [ha, e2] at e1
    exact e1.symm]
theorem red_ext {p q : Tr × Tr} (hp : Bal p) (hq : Bal q) (ha : ∀ s, act p s = act q s) : red p = red q :=
  pair_ext hp.red hq.red (red_both p) (red_both q) fun s => by rw [act_red hp, act_red hq, ha]

/-! ### The group -/
def inv (p : Tr × Tr) : Tr × Tr := (p.2, p.1)
def one : Tr × Tr := (.leaf, .leaf)
theorem Bal.inv {p : Tr × Tr} (h : Bal p) : Bal (inv p) := Eq.symm h
theorem Bal.one : Bal one := rfl
theorem act_one (s : Str) : act one s = s := rfl
theorem act_inv {p : Tr × Tr} (h : Bal p) (s : Str) : act (inv p) (act p s) = s := by
  obtain ⟨k, hk, t, rfl⟩ : ∃ k, k ≤ p.1.carets ∧ ∃ t, s = sapp (adr p.1 k) t := ⟨_, find_le p.1 s, _, (adr_find p.1 s).symm⟩
  rw [act_at p k hk]
  exact act_at (N.inv p) k (by unfold N.inv; unfold Bal at h; simp only; omega) t
theorem act_inv' {p : Tr × Tr} (h : Bal p) (s : Str) : act p (act (inv p) s) = s := act_inv h.inv s
theorem act_inj {p : Tr × Tr} (h : Bal p) {s t : Str} (e : act p s = act p t) : s = t := by rw [← act_inv h s, e, act_inv h t]
theorem mul_ext {p q r t : Tr × Tr} (hp : Bal p) (hq : Bal q) (hr : Bal r) (ht : Bal t) (h : ∀ s, act q (act p s) = act t (act r s)) : mul p q = mul r t :=
  pair_ext (hp.mul hq) (hr.mul ht) (red_both _) (red_both _) fun s => by rw [act_mul hp hq, act_mul hr ht, h]
theorem mul_assoc {p q r : Tr × Tr} (hp : Bal p) (hq : Bal q) (hr : Bal r) : mul (mul p q) r = mul p (mul q r) :=
  mul_ext (hp.mul hq) hr hp (hq.mul hr) fun s => by rw [act_mul hp hq, act_mul hq hr]
theorem mul_one {p : Tr × Tr} (hp : Bal p) : mul p one = red p :=
  pair_ext (hp.mul Bal.one) hp.red (red_both _) (red_both _) fun s => by rw [act_mul hp Bal.one, act_red hp, act_one]
theorem one_mul {p : Tr × Tr} (hp : Bal p) : mul one p = red p :=
  pair_ext (Bal.one.mul hp) hp.red (red_both _) (red_both _) fun s => by rw [act_mul Bal.one hp, act_red hp, act_one]
theorem mul_inv {p : Tr × Tr} (hp : Bal p) : mul p (inv p) = one :=
  pair_ext (hp.mul hp.inv) Bal.one (red_both _) rfl fun s => by rw [act_mul hp hp.inv, act_inv hp]; rfl
theorem inv_mul {p : Tr × Tr} (hp : Bal p) : mul (inv p) p = one := mul_inv hp.inv
theorem mul_red_l {p q : Tr × Tr} (hp : Bal p) (hq : Bal q) : mul (red p) q = mul p q := mul_ext hp.red hq hp hq fun s => by rw [act_red hp]
theorem mul_red_r {p q : Tr × Tr} (hp : Bal p) (hq : Bal q) : mul p (red q) = mul p q := mul_ext hp hq.red hp hq fun s => by rw [act_red hq]
end Go.Proofs.YtpmmajfdcicjiaaGreat.N
/- Exponents, words of pairs, sums: plain Lean. -/
namespace Go.Proofs.YtpmmajfdcicjiaaGreat.N
set_option linter.unusedVariables false
set_option linter.unusedSimpArgs false

def climb : Tr → Nat → List Nat
  | .leaf, k => [k]
  | .node l r, k => climb l (k + 1) ++ climb r 0
def expT : Tr → List Nat
  | .leaf => [0]
  | .node l r => climb l 0 ++ expT r
theorem climb_length : ∀ (T : Tr) (k : Nat), (climb T k).length = T.carets + 1
  | .leaf, _ => rfl
  | .node l r, k => by simp only [climb, List.length_append, climb_length l, climb_length r, Tr.carets]; omega
theorem climb_le : ∀ (T : Tr) (k x : Nat), x ∈ climb T k → x ≤ k + T.carets
  | .leaf, k, x, h => by simp [climb] at h; simp [Tr.carets]; omega
  | .node l r, k, x, h => by
    simp only [climb, List.mem_append] at h
    simp only [Tr.carets]
    rcases h with h | h
    · have := climb_le l _ x h; omega
    · have := climb_le r _ x h; omega
theorem expT_length : ∀ T : Tr, (expT T).length = T.carets + 1
  | .leaf => rfl
  | .node l r => by simp only [expT, List.length_append, climb_length, expT_length r, Tr.carets]; omega
theorem expT_le : ∀ (T : Tr) (x : Nat), x ∈ expT T → x ≤ T.carets
  | .leaf, x, h => by simp [expT] at h; omega
  | .node l r, x, h => by
    simp only [expT, List.mem_append] at h
    simp only [Tr.carets]
    rcases h with h | h
    · have := climb_le l _ x h; omega
    · have := expT_le r x h; omega
/-- The word of the first exponents. -/
def wordT (xs : List Nat) : Nat → List Int
  | 0 => []
  | k + 1 => wordT xs k ++ List.replicate (xs.getD k 0) ((k : Int) + 1)
theorem wordT_length (xs : List Nat) (B : Nat) (hB : ∀ x ∈ xs, x ≤ B) : ∀ k, (wordT xs k).length ≤ B * k
  | 0 => by simp [wordT]
  | k + 1 => by
    have h1 := wordT_length xs B hB k
    have h2 : xs.getD k 0 ≤ B := by
      rw [List.getD_eq_getElem?_getD]
      cases h : xs[k]? with
      | none => simp
      | some x => exact hB x (List.mem_of_getElem? h)
    simp only [wordT, List.length_append, List.length_replicate, Nat.mul_succ]
    omega
theorem wordT_mem (xs : List Nat) : ∀ (k : Nat) (x : Int), x ∈ wordT xs k → 1 ≤ x ∧ x ≤ k
  | 0, x, h => by cases h
  | k + 1, x, h => by
    simp only [wordT, List.mem_append] at h
    rcases h with h | h
    · have := wordT_mem xs k x h; omega
    · have := List.eq_of_mem_replicate h; omega
def wordL (xs : List Nat) : List Int := wordT xs xs.length
def invL (ws : List Int) : List Int := (ws.map fun x => -x).reverse
def wordP (p : Tr × Tr) : List Int := wordL (expT p.1) ++ invL (wordL (expT p.2))
theorem invL_length (ws : List Int) : (invL ws).length = ws.length := by simp [invL]
theorem invL_step (ws : List Int) (j : Nat) (hj : j < ws.length) (x : Int) (hx : ws[ws.length - 1 - j]? = some x) : (invL ws).take (j + 1) = (invL ws).take j ++ [-x] := by
  unfold invL
  rw [List.take_add_one, List.getElem?_reverse (by simpa using hj), List.length_map, List.getElem?_map, hx]
  rfl
theorem wordL_length (T : Tr) : (wordL (expT T)).length ≤ T.carets * (T.carets + 1) := by
  have := wordT_length (expT T) T.carets (expT_le T) (expT T).length
  rw [expT_length] at this
  unfold wordL
  rw [expT_length]
  exact this
theorem wordP_length (p : Tr × Tr) : (wordP p).length ≤ p.1.carets * (p.1.carets + 1) + p.2.carets * (p.2.carets + 1) := by
  unfold wordP
  rw [List.length_append, invL_length]
  have := wordL_length p.1; have := wordL_length p.2; omega
theorem wordP_mem {p : Tr × Tr} {x : Int} (h : x ∈ wordP p) : -(p.2.carets + 1 : Nat) ≤ x ∧ x ≤ (p.1.carets + 1 : Nat) := by
  unfold wordP at h
  rcases List.mem_append.1 h with h | h
  · have := wordT_mem _ _ x h; rw [expT_length] at this; omega
  · unfold invL at h
    rw [List.mem_reverse, List.mem_map] at h
    obtain ⟨y, hy, rfl⟩ := h
    have := wordT_mem _ _ y hy; rw [expT_length] at this; omega
/-- Sums of signs: of the first letter, of the others. -/
def sg (x : Int) : Int := if x < 0 then -1 else 1
def sumS (s : Int × Int) (x : Int) : Int × Int := if x.natAbs = 1 then (s.1 + sg x, s.2) else (s.1, s.2 + sg x)
def sumW (ws : List Int) : Int × Int := ws.foldl sumS (0, 0)
theorem sumW_take (ws : List Int) (k : Nat) (x : Int) (hx : ws[k]? = some x) : sumW (ws.take (k + 1)) = sumS (sumW (ws.take k)) x := by
  unfold sumW
  rw [List.take_add_one, hx, List.foldl_append]; rfl
theorem sumW_bound (ws : List Int) : ∀ k, k ≤ ws.length → -(k : Int) ≤ (sumW (ws.take k)).1 ∧ (sumW (ws.take k)).1 ≤ k ∧ -(k : Int) ≤ (sumW (ws.take k)).2 ∧ (sumW (ws.take k)).2 ≤ k
  | 0, _ => by simp [sumW]
  | k + 1, h => by
    have ih := sumW_bound ws k (by omega)
    rw [sumW_take ws k _ (List.getElem?_eq_getElem (show k < ws.length by omega))]
    unfold sumS sg
    split <;> split <;> (simp only; omega)
end Go.Proofs.YtpmmajfdcicjiaaGreat.N
