import Derived.Test.YtpmmajfdcicjiaaGreatG1RFnHalvesAndShifts
import Derived.Test.YtpmmajfdcicjiaaGreatG3RFnHalvesAndShifts
/- Exposed carets found in texts: plain Lean. -/
namespace Go.Proofs.YtpmmajfdcicjiaaGreat.N
set_option linter.unusedVariables false
set_option linter.unusedSimpArgs false

/-- What is told at one place of a text: the byte before is '(', and three bytes stand here. -/
def exAt (p : Bool) (l : List UInt8) : Bool := p && (match l with | 46 :: 46 :: 41 :: _ => true | _ => false)
def exS : Bool → List UInt8 → Nat → List Nat
  | _, [], _ => []
  | p, c :: l, k => (if exAt p (c :: l) then [k] else []) ++ exS (c == 40) l (if c = 46 then k + 1 else k)
theorem exAt_false (l : List UInt8) : exAt false l = false := rfl
theorem exS_dot (p : Bool) (l : List UInt8) (k : Nat) : exS p (46 :: l) k = (if exAt p (46 :: l) then [k] else []) ++ exS false l (k + 1) := by
  rw [exS]; rfl
theorem exS_open (p : Bool) (l : List UInt8) (k : Nat) : exS p (40 :: l) k = exS true l k := by
  rw [exS]
  have : exAt p (40 :: l) = false := by cases p <;> rfl
  rw [this]; rfl
theorem exS_close (p : Bool) (l : List UInt8) (k : Nat) : exS p (41 :: l) k = exS false l k := by
  rw [exS]
  have : exAt p (41 :: l) = false := by cases p <;> rfl
  rw [this]; rfl
theorem txt_node_app (l r : Tr) (x : List UInt8) : (Tr.node l r).txt ++ x = 40 :: (l.txt ++ (r.txt ++ (41 :: x))) := by simp [Tr.txt]
theorem txt_head (l r : Tr) (x : List UInt8) : ∃ y, (Tr.node l r).txt ++ x = 40 :: y := ⟨_, txt_node_app l r x⟩
theorem exS_leaf (x : List UInt8) (k : Nat) : exS false (Tr.leaf.txt ++ x) k = exS false x (k + 1) := by
  show exS false (46 :: x) k = _
  rw [exS_dot, exAt_false]; rfl
theorem exS_node : ∀ (T : Tr), T ≠ .leaf → ∀ (p : Bool) (x : List UInt8) (k : Nat), exS p (T.txt ++ x) k = expo T k ++ exS false x (k + (T.carets + 1))
  | .leaf, h, _, _, _ => absurd rfl h
  | .node .leaf .leaf, _, p, x, k => by
    rw [txt_node_app, exS_open]
    show exS true (46 :: (46 :: (41 :: x))) k = _
    rw [exS_dot, exS_dot, exAt_false, exS_close]
    simp [exAt, expo, Tr.carets]
  | .node .leaf (.node a b), _, p, x, k => by
    rw [txt_node_app, exS_open]
    show exS true (46 :: ((Tr.node a b).txt ++ (41 :: x))) k = _
    have hx : exAt true (46 :: ((Tr.node a b).txt ++ (41 :: x))) = false := by
      obtain ⟨y, hy⟩ := txt_head a b (41 :: x)
      rw [hy]; rfl
    rw [exS_dot, hx, exS_node (.node a b) (by simp), exS_close, expo_node (nl_r a b)]
    simp only [expo, Tr.carets, List.nil_append, Bool.false_eq_true, if_false, Nat.zero_add]
    congr 2
    omega
  | .node (.node a b) .leaf, _, p, x, k => by
    rw [txt_node_app, exS_open, exS_node (.node a b) (by simp), exS_leaf, exS_close, expo_node (nl_l a b .leaf)]
    simp only [expo, Tr.carets, List.append_nil]
    congr 2
    omega
  | .node (.node a b) (.node c d), _, p, x, k => by
    rw [txt_node_app, exS_open, exS_node (.node a b) (by simp), exS_node (.node c d) (by simp), exS_close, expo_node (nl_l a b _), List.append_assoc]
    congr 2
    simp only [Tr.carets]
    congr 1
    omega
theorem exS_txt (T : Tr) : exS false T.txt 0 = expo T 0 := by
  cases T with
  | leaf => rfl
  | node l r =>
    have := exS_node (.node l r) (by simp) false [] 0
    rw [List.append_nil] at this
    rw [this]; simp [exS]

/-! ### A caret taken out of a text -/
def dots (l : List UInt8) : Nat := l.countP (fun c => c == 46)
theorem dots_app (a b : List UInt8) : dots (a ++ b) = dots a + dots b := List.countP_append ..
theorem dots_txt : ∀ T : Tr, dots T.txt = T.carets + 1
  | .leaf => rfl
  | .node l r => by
    have h1 := dots_txt l; have h2 := dots_txt r
    simp only [dots] at h1 h2
    simp [dots, Tr.txt, Tr.carets, List.countP_cons, List.countP_append, h1, h2]; omega
theorem drop_txt : ∀ (T : Tr) (k : Nat), k ∈ expo T 0 → ∃ a b, T.txt = a ++ 40 :: 46 :: 46 :: 41 :: b ∧ (without T k).txt = a ++ 46 :: b ∧ dots a = k
  | .leaf, _, h => by cases h
  | .node .leaf .leaf, k, h => by
    simp [expo] at h
    subst h
    exact ⟨[], [], rfl, rfl, rfl⟩
  | .node .leaf (.node c d), k, h => by
    rcases mem_expo_node (nl_r c d) h with ⟨_, h⟩ | ⟨h1, h⟩
    · cases h
    · obtain ⟨a, b, e1, e2, e3⟩ := drop_txt _ _ h
      refine ⟨40 :: 46 :: a, b ++ [41], ?_, ?_, ?_⟩
      · show 40 :: (46 :: ((Tr.node c d).txt ++ [41])) = _
        rw [e1]; simp
      · rw [without_node (nl_r c d), if_pos h1]
        show 40 :: (46 :: ((without (.node c d) _).txt ++ [41])) = _
        rw [e2]; simp
      · simp only [Tr.carets] at h1 e3
        simp only [dots, List.countP_cons] at e3 ⊢
        simp; omega
  | .node (.node c d) r, k, h => by
    rcases mem_expo_node (nl_l c d r) h with ⟨h1, h⟩ | ⟨h1, h⟩
    · obtain ⟨a, b, e1, e2, e3⟩ := drop_txt _ _ h
      refine ⟨40 :: a, b ++ (r.txt ++ [41]), ?_, ?_, ?_⟩
      · show 40 :: ((Tr.node c d).txt ++ (r.txt ++ [41])) = _
        rw [e1]; simp
      · rw [without_node (nl_l c d r), if_neg (by omega)]
        show 40 :: ((without (.node c d) k).txt ++ (r.txt ++ [41])) = _
        rw [e2]; simp
      · simp only [dots, List.countP_cons] at e3 ⊢
        simp; omega
    · obtain ⟨a, b, e1, e2, e3⟩ := drop_txt _ _ h
      refine ⟨40 :: ((Tr.node c d).txt ++ a), b ++ [41], ?_, ?_, ?_⟩
      · show 40 :: ((Tr.node c d).txt ++ (r.txt ++ [41])) = _
        rw [e1]; simp
      · rw [without_node (nl_l c d r), if_pos h1]
        show 40 :: ((Tr.node c d).txt ++ ((without r _).txt ++ [41])) = _
        rw [e2]; simp
      · have hd := dots_txt (.node c d)
        simp only [dots] at e3 hd
        simp only [dots, List.countP_cons, List.countP_append, hd, e3]
        simp; omega

/-! ### What the scan looks at -/
/-- Is the byte before '('? -/
def prev (l : List UInt8) (i : Nat) : Bool := decide (0 < i) && l[i - 1]? == some 40
theorem prev_step (l : List UInt8) (i : Nat) (c : UInt8) (h : l[i]? = some c) : prev l (i + 1) = (c == 40) := by
  simp [prev, h]
theorem ex_test (l : List UInt8) (i : Nat) (h : i < l.length) : exAt (prev l i) (l.drop i) = decide (0 < i ∧ i + 2 < l.length ∧ (l.take (i + 3)).drop (i - 1) = [40, 46, 46, 41]) := by
  rcases Nat.eq_zero_or_pos i with h0 | h0
  · subst h0; simp [prev, exAt]
  · obtain ⟨j, rfl⟩ : ∃ j, i = j + 1 := ⟨i - 1, by omega⟩
    have hj : j < l.length := by omega
    have e0 : l.drop j = l[j] :: l.drop (j + 1) := List.drop_eq_getElem_cons hj
    have e1 : (l.take (j + 1 + 3)).drop (j + 1 - 1) = (l.drop j).take 4 := by rw [List.drop_take]; congr 1; omega
    have e2 : prev l (j + 1) = (l[j] == 40) := prev_step l j _ (List.getElem?_eq_getElem hj)
    rw [e1, e2, e0, Bool.eq_iff_iff, decide_eq_true_eq]
    have hl : (l.drop (j + 1)).length = l.length - (j + 1) := List.length_drop ..
    generalize l.drop (j + 1) = m at *
    generalize l[j] = x at *
    constructor
    · intro hh
      simp only [exAt, Bool.and_eq_true, beq_iff_eq] at hh
      obtain ⟨rfl, h2⟩ := hh
      split at h2
      · simp only [List.length_cons] at hl
        exact ⟨by omega, by omega, rfl⟩
      · cases h2
    · rintro ⟨_, h3, h4⟩
      simp only [List.take_succ_cons, List.cons.injEq] at h4
      obtain ⟨rfl, h4⟩ := h4
      match m, h4 with
      | a :: b :: c :: m', h4 =>
        simp only [List.take_succ_cons, List.take_zero, List.cons.injEq, and_true] at h4
        obtain ⟨rfl, rfl, rfl⟩ := h4
        rfl
      | [], h4 => simp at h4
      | [a], h4 => simp at h4
      | [a, b], h4 => simp at h4
theorem exS_length : ∀ (p : Bool) (l : List UInt8) (k : Nat), (exS p l k).length ≤ l.length
  | _, [], _ => Nat.le_refl _
  | p, c :: l, k => by
    have := exS_length (c == 40) l (if c = 46 then k + 1 else k)
    rw [exS, List.length_append]
    cases exAt p (c :: l) <;> simp <;> omega
/-- One step of the scan. -/
theorem exS_step (l : List UInt8) (i k : Nat) (c : UInt8) (h : l[i]? = some c) : exS (prev l i) (l.drop i) k = (if exAt (prev l i) (l.drop i) then [k] else []) ++ exS (prev l (i + 1)) (l.drop (i + 1)) (if c = 46 then k + 1 else k) := by
  have hi : i < l.length := (List.getElem?_eq_some_iff.1 h).1
  have e : l.drop i = c :: l.drop (i + 1) := by rw [List.drop_eq_getElem_cons hi]; congr 1; exact (List.getElem?_eq_some_iff.1 h).2
  rw [e, exS, prev_step l i c h]
end Go.Proofs.YtpmmajfdcicjiaaGreat.N
/- Trees in place of leaves; combs; generators: plain Lean. -/
namespace Go.Proofs.YtpmmajfdcicjiaaGreat.N
set_option linter.unusedVariables false
set_option linter.unusedSimpArgs false

def Tr.grown (h : Nat → Tr) : Tr → Nat → Tr
  | .leaf, k => h k
  | .node l r, k => .node (l.grown h k) (r.grown h (k + (l.carets + 1)))
def graft (T : Tr) (k : Nat) (O : Tr) : Tr := T.grown (fun i => if i = k then O else .leaf) 0
def comb : Nat → Tr
  | 0 => .leaf
  | n + 1 => .node .leaf (comb n)
theorem comb_carets : ∀ n, (comb n).carets = n
  | 0 => rfl
  | n + 1 => by simp only [comb, Tr.carets, comb_carets n]; omega
def gen (i : Nat) : Tr × Tr := (graft (comb i) i (.node (.node .leaf .leaf) .leaf), comb (i + 2))
/-- A tree grown nowhere. -/
theorem grown_same (h : Nat → Tr) : ∀ (T : Tr) (k : Nat), (∀ i, k ≤ i → i < k + (T.carets + 1) → h i = .leaf) → T.grown h k = T
  | .leaf, k, hh => hh k (Nat.le_refl _) (by simp [Tr.carets])
  | .node l r, k, hh => by
    simp only [Tr.grown]
    rw [grown_same h l k (fun i h1 h2 => hh i h1 (by simp only [Tr.carets]; omega)), grown_same h r _ (fun i h1 h2 => hh i (by omega) (by simp only [Tr.carets]; omega))]
theorem graft_txt (O : Tr) (n : Nat) : ∀ (T : Tr) (k : Nat), k ≤ n → n < k + (T.carets + 1) → ∃ a b, T.txt = a ++ 46 :: b ∧ (T.grown (fun i => if i = n then O else .leaf) k).txt = a ++ (O.txt ++ b) ∧ k + dots a = n
  | .leaf, k, h1, h2 => by
    have : k = n := by simp only [Tr.carets] at h2; omega
    subst this
    exact ⟨[], [], rfl, by simp [Tr.grown], rfl⟩
  | .node l r, k, h1, h2 => by
    by_cases hl : n < k + (l.carets + 1)
    · obtain ⟨a, b, e1, e2, e3⟩ := graft_txt O n l k h1 hl
      have e4 : r.grown (fun i => if i = n then O else .leaf) (k + (l.carets + 1)) = r := grown_same _ r _ (fun i g1 g2 => if_neg (by omega))
      refine ⟨40 :: a, b ++ (r.txt ++ [41]), ?_, ?_, ?_⟩
      · show 40 :: (l.txt ++ (r.txt ++ [41])) = _
        rw [e1]; simp
      · simp only [Tr.grown, e4]
        show 40 :: ((l.grown _ k).txt ++ (r.txt ++ [41])) = _
        rw [e2]; simp
      · simp only [dots, List.countP_cons] at e3 ⊢
        simp; omega
    · obtain ⟨a, b, e1, e2, e3⟩ := graft_txt O n r (k + (l.carets + 1)) (by omega) (by simp only [Tr.carets] at h2; omega)
      have e4 : l.grown (fun i => if i = n then O else .leaf) k = l := grown_same _ l _ (fun i g1 g2 => if_neg (by omega))
      refine ⟨40 :: (l.txt ++ a), b ++ [41], ?_, ?_, ?_⟩
      · show 40 :: (l.txt ++ (r.txt ++ [41])) = _
        rw [e1]; simp
      · simp only [Tr.grown, e4]
        show 40 :: (l.txt ++ ((r.grown _ _).txt ++ [41])) = _
        rw [e2]; simp
      · have hd := dots_txt l
        simp only [dots] at e3 hd
        simp only [dots, List.countP_cons, List.countP_append, hd]
        simp; omega
theorem grown_carets (h : Nat → Tr) (B : Nat) (hB : ∀ i, (h i).carets ≤ B) : ∀ (T : Tr) (k : Nat), (T.grown h k).carets ≤ T.carets + B * (T.carets + 1)
  | .leaf, k => by simp only [Tr.grown, Tr.carets]; have := hB k; omega
  | .node l r, k => by
    have h1 := grown_carets h B hB l k
    have h2 := grown_carets h B hB r (k + (l.carets + 1))
    have e : B * ((Tr.node l r).carets + 1) = B * (l.carets + 1) + B * (r.carets + 1) := by simp only [Tr.carets, Nat.mul_add, Nat.mul_one]; omega
    rw [e]
    simp only [Tr.grown, Tr.carets]
    omega
theorem grown_one (O : Tr) (n : Nat) : ∀ (T : Tr) (k : Nat), k ≤ n → n < k + (T.carets + 1) → (T.grown (fun i => if i = n then O else .leaf) k).carets = T.carets + O.carets
  | .leaf, k, h1, h2 => by
    have : k = n := by simp only [Tr.carets] at h2; omega
    subst this
    simp [Tr.grown, Tr.carets]
  | .node l r, k, h1, h2 => by
    simp only [Tr.carets] at h2
    by_cases hl : n < k + (l.carets + 1)
    · have e4 : r.grown (fun i => if i = n then O else .leaf) (k + (l.carets + 1)) = r := grown_same _ r _ (fun i g1 g2 => if_neg (by omega))
      have := grown_one O n l k h1 hl
      simp only [Tr.grown, e4, Tr.carets, this]; omega
    · have e4 : l.grown (fun i => if i = n then O else .leaf) k = l := grown_same _ l _ (fun i g1 g2 => if_neg (by omega))
      have := grown_one O n r (k + (l.carets + 1)) (by omega) (by omega)
      simp only [Tr.grown, e4, Tr.carets, this]; omega
theorem gen_carets (i : Nat) : (gen i).1.carets = i + 2 ∧ (gen i).2.carets = i + 2 := by
  refine ⟨?_, comb_carets _⟩
  show ((comb i).grown _ 0).carets = _
  rw [grown_one _ i (comb i) 0 (Nat.zero_le _) (by rw [comb_carets]; omega), comb_carets]; rfl
end Go.Proofs.YtpmmajfdcicjiaaGreat.N
