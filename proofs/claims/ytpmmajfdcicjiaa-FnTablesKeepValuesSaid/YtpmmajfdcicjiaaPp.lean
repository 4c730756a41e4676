import Derived.Test.YtpmmajfdcicjiaaBa
import Derived.Test.YtpmmajfdcicjiaaPu
/- Exposed carets, and pairs reduced: plain Lean. -/
namespace Go.Proofs.Ytpmmajfdcicjiaa.N

def expo : Tr → Nat → List Nat
  | .leaf, _ => []
  | .node .leaf .leaf, k => [k]
  | .node l r, k => expo l k ++ expo r (k + (l.carets + 1))
theorem expo_node {l r : Tr} (h : ¬ (l = .leaf ∧ r = .leaf)) (k : Nat) : expo (.node l r) k = expo l k ++ expo r (k + (l.carets + 1)) := by
  cases l with
  | leaf =>
    cases r with
    | leaf => exact absurd ⟨rfl, rfl⟩ h
    | node a b => simp [expo]
  | node a b => simp [expo]

def without : Tr → Nat → Tr
  | .leaf, _ => .leaf
  | .node .leaf .leaf, _ => .leaf
  | .node l r, k => if l.carets + 1 ≤ k then .node l (without r (k - (l.carets + 1))) else .node (without l k) r
theorem without_node {l r : Tr} (h : ¬ (l = .leaf ∧ r = .leaf)) (k : Nat) : without (.node l r) k = if l.carets + 1 ≤ k then .node l (without r (k - (l.carets + 1))) else .node (without l k) r := by
  cases l with
  | leaf =>
    cases r with
    | leaf => exact absurd ⟨rfl, rfl⟩ h
    | node a b => simp [without]
  | node a b => simp [without]

theorem nl_r (a b : Tr) : ¬ (Tr.leaf = .leaf ∧ Tr.node a b = .leaf) := fun h => by cases h.2
theorem nl_l (a b r : Tr) : ¬ (Tr.node a b = .leaf ∧ r = .leaf) := fun h => by cases h.1
theorem expo_shift : ∀ (T : Tr) (k j : Nat), expo T (k + j) = (expo T k).map (· + j)
  | .leaf, _, _ => rfl
  | .node .leaf .leaf, _, _ => rfl
  | .node .leaf (.node a b), k, j => by
    rw [expo_node (nl_r a b), expo_node (nl_r a b), List.map_append, expo_shift .leaf k j, ← expo_shift (.node a b), show k + j + (Tr.leaf.carets + 1) = k + (Tr.leaf.carets + 1) + j from by omega]
  | .node (.node a b) r, k, j => by
    rw [expo_node (nl_l a b r), expo_node (nl_l a b r), List.map_append, expo_shift (.node a b) k j, ← expo_shift r, show k + j + ((Tr.node a b).carets + 1) = k + ((Tr.node a b).carets + 1) + j from by omega]
theorem expo_range : ∀ (T : Tr) (k i : Nat), i ∈ expo T k → k ≤ i ∧ i < k + T.carets + 1 ∧ i + 1 ≤ k + T.carets
  | .leaf, _, _, h => by cases h
  | .node .leaf .leaf, k, i, h => by simp [expo] at h; subst h; simp [Tr.carets]; omega
  | .node .leaf (.node a b), k, i, h => by
    rw [expo_node (nl_r a b), List.mem_append] at h
    rcases h with h | h
    · cases h
    · have := expo_range _ _ _ h; have e : (Tr.node .leaf (.node a b)).carets = 1 + 0 + (Tr.node a b).carets := rfl; have e2 : Tr.leaf.carets = 0 := rfl; omega
  | .node (.node a b) r, k, i, h => by
    rw [expo_node (nl_l a b r), List.mem_append] at h
    have e : (Tr.node (.node a b) r).carets = 1 + (Tr.node a b).carets + r.carets := rfl
    rcases h with h | h
    · have := expo_range _ _ _ h; omega
    · have := expo_range _ _ _ h; omega
theorem expo_length : ∀ (T : Tr) (k : Nat), (expo T k).length ≤ T.carets
  | .leaf, _ => Nat.le_refl _
  | .node .leaf .leaf, _ => by simp [expo, Tr.carets]
  | .node .leaf (.node a b), k => by
    rw [expo_node (nl_r a b), List.length_append]; have := expo_length (.node a b) (k + (Tr.leaf.carets + 1)); simp only [expo, Tr.carets, List.length_nil] at *; omega
  | .node (.node a b) r, k => by
    rw [expo_node (nl_l a b r), List.length_append]; have h1 := expo_length (.node a b) k; have h2 := expo_length r (k + ((Tr.node a b).carets + 1)); have e : (Tr.node (.node a b) r).carets = 1 + (Tr.node a b).carets + r.carets := rfl; omega
/-- Where an exposed caret lies. -/
theorem mem_expo_node {l r : Tr} (h : ¬ (l = .leaf ∧ r = .leaf)) {i : Nat} (hi : i ∈ expo (.node l r) 0) : (i < l.carets + 1 ∧ i ∈ expo l 0) ∨ (l.carets + 1 ≤ i ∧ i - (l.carets + 1) ∈ expo r 0) := by
  rw [expo_node h, List.mem_append] at hi
  rcases hi with hi | hi
  · have := expo_range _ _ _ hi; exact .inl ⟨by omega, hi⟩
  · have h2 := expo_range _ _ _ hi
    rw [expo_shift, List.mem_map] at hi
    obtain ⟨j, hj, rfl⟩ := hi
    exact .inr ⟨by omega, by rw [show j + (l.carets + 1) - (l.carets + 1) = j from by omega]; exact hj⟩
theorem without_carets : ∀ (T : Tr) (k : Nat), k ∈ expo T 0 → (without T k).carets + 1 = T.carets
  | .leaf, _, h => by cases h
  | .node .leaf .leaf, _, _ => rfl
  | .node .leaf (.node a b), k, h => by
    rcases mem_expo_node (nl_r a b) h with ⟨_, h⟩ | ⟨h1, h⟩
    · cases h
    · rw [without_node (nl_r a b), if_pos h1]; have := without_carets _ _ h; simp only [Tr.carets] at *; omega
  | .node (.node a b) r, k, h => by
    rcases mem_expo_node (nl_l a b r) h with ⟨h1, h⟩ | ⟨h1, h⟩
    · rw [without_node (nl_l a b r), if_neg (by omega)]; have := without_carets _ _ h; simp only [Tr.carets] at *; omega
    · rw [without_node (nl_l a b r), if_pos h1]; have := without_carets _ _ h; simp only [Tr.carets] at *; omega

/-! ### Pairs -/
/-- The left leaves with which both trees have exposed carets. -/
def bothT (A B : Tr) : List Nat := (expo A 0).filter fun k => (expo B 0).contains k
theorem mem_both {A B : Tr} {k : Nat} (h : k ∈ bothT A B) : k ∈ expo A 0 ∧ k ∈ expo B 0 := by
  obtain ⟨h1, h2⟩ := List.mem_filter.1 h
  exact ⟨h1, by simpa using h2⟩
theorem both_length (A B : Tr) : (bothT A B).length ≤ A.carets := Nat.le_trans (List.length_filter_le _ _) (expo_length A 0)
def redF : Nat → Tr × Tr → Tr × Tr
  | 0, p => p
  | n + 1, p => match bothT p.1 p.2 with
    | [] => p
    | k :: _ => redF n (without p.1 k, without p.2 k)
/-- The pair reduced, the first caret first. -/
def red (p : Tr × Tr) : Tr × Tr := redF p.1.carets p
theorem both_leaf (B : Tr) : bothT .leaf B = [] := rfl
theorem both_zero {A B : Tr} (h : A.carets = 0) : bothT A B = [] := by
  cases A with
  | leaf => rfl
  | node l r => simp only [Tr.carets] at h; omega
theorem redF_more : ∀ (n m : Nat) (p : Tr × Tr), p.1.carets ≤ n → p.1.carets ≤ m → redF n p = redF m p := by
  intro n
  induction n with
  | zero =>
    intro m p h1 _
    have hb : bothT p.1 p.2 = [] := both_zero (by omega)
    cases m with
    | zero => rfl
    | succ m => simp only [redF, hb]
  | succ n ih =>
    intro m p h1 h2
    cases m with
    | zero =>
      have hb : bothT p.1 p.2 = [] := both_zero (by omega)
      simp only [redF, hb]
    | succ m =>
      simp only [redF]
      cases hb : bothT p.1 p.2 with
      | nil => rfl
      | cons k l =>
        have := without_carets p.1 k (mem_both (by rw [hb]; exact List.mem_cons_self)).1
        exact ih m _ (by simp only; omega) (by simp only; omega)
theorem red_nil {p : Tr × Tr} (h : bothT p.1 p.2 = []) : red p = p := by
  unfold red
  cases p.1.carets with
  | zero => rfl
  | succ n => simp only [redF, h]
theorem red_cons {p : Tr × Tr} {k : Nat} {l : List Nat} (h : bothT p.1 p.2 = k :: l) : red p = red (without p.1 k, without p.2 k) := by
  have hc := without_carets p.1 k (mem_both (by rw [h]; exact List.mem_cons_self)).1
  unfold red
  obtain ⟨n, hn⟩ : ∃ n, p.1.carets = n + 1 := ⟨p.1.carets - 1, by omega⟩
  rw [hn]
  simp only [redF, h]
  exact redF_more _ _ _ (by simp only; omega) (by simp only; omega)
theorem redF_le : ∀ (n : Nat) (p : Tr × Tr), (redF n p).1.carets ≤ p.1.carets ∧ (redF n p).2.carets ≤ p.2.carets ∧ (p.1.carets = p.2.carets → (redF n p).1.carets = (redF n p).2.carets)
  | 0, p => ⟨Nat.le_refl _, Nat.le_refl _, fun h => h⟩
  | n + 1, p => by
    simp only [redF]
    cases hb : bothT p.1 p.2 with
    | nil => exact ⟨Nat.le_refl _, Nat.le_refl _, fun h => h⟩
    | cons k l =>
      obtain ⟨m1, m2⟩ := mem_both (A := p.1) (B := p.2) (k := k) (by rw [hb]; exact List.mem_cons_self)
      have h1 := without_carets p.1 k m1
      have h2 := without_carets p.2 k m2
      obtain ⟨a, b, c⟩ := redF_le n (without p.1 k, without p.2 k)
      simp only at a b c
      exact ⟨by simp only; omega, by simp only; omega, fun h => c (by omega)⟩
theorem red_le (p : Tr × Tr) : (red p).1.carets ≤ p.1.carets ∧ (red p).2.carets ≤ p.2.carets := ⟨(redF_le _ p).1, (redF_le _ p).2.1⟩
theorem red_same {p : Tr × Tr} (h : p.1.carets = p.2.carets) : (red p).1.carets = (red p).2.carets := (redF_le _ p).2.2 h
theorem redF_both : ∀ (n : Nat) (p : Tr × Tr), p.1.carets ≤ n → bothT (redF n p).1 (redF n p).2 = []
  | 0, p, h => both_zero (by simp only [redF]; omega)
  | n + 1, p, h => by
    simp only [redF]
    cases hb : bothT p.1 p.2 with
    | nil => exact hb
    | cons k l =>
      have h1 := without_carets p.1 k (mem_both (by rw [hb]; exact List.mem_cons_self)).1
      exact redF_both n _ (by simp only; omega)
theorem red_both (p : Tr × Tr) : bothT (red p).1 (red p).2 = [] := redF_both _ _ (Nat.le_refl _)
theorem red_red (p : Tr × Tr) : red (red p) = red p := red_nil (red_both p)
end Go.Proofs.Ytpmmajfdcicjiaa.N
