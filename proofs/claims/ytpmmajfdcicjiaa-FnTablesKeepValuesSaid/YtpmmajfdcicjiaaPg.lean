import Derived.Test.YtpmmajfdcicjiaaBa
import Derived.Test.YtpmmajfdcicjiaaPu
import Derived.Test.YtpmmajfdcicjiaaPp
import Derived.Test.YtpmmajfdcicjiaaTs
import Derived.Test.YtpmmajfdcicjiaaPx
/- Trees in place of leaves; combs; generators: plain Lean. -/
namespace Go.Proofs.Ytpmmajfdcicjiaa.N
set_option linter.unusedVariables false
set_option linter.unusedSimpArgs false

def Tr.grown (h : Nat → Tr) : Tr → Nat → Tr
  | .leaf, k => h k
  | .node l r, k => .node (l.grown h k) (r.grown h (k + (l.carets + 1)))
def graft (T : Tr) (k : Nat) (O : Tr) : Tr := T.grown (fun i => if i = k then O else .leaf) 0
def comb : Nat → Tr
  | 0 => .leaf
  | n + 1 => .node .leaf (comb n)
theorem comb_carets : ∀ n, (comb n).carets = n
  | 0 => rfl
  | n + 1 => by simp only [comb, Tr.carets, comb_carets n]; omega
def gen (i : Nat) : Tr × Tr := (graft (comb i) i (.node (.node .leaf .leaf) .leaf), comb (i + 2))
/-- A tree grown nowhere. -/
theorem grown_same (h : Nat → Tr) : ∀ (T : Tr) (k : Nat), (∀ i, k ≤ i → i < k + (T.carets + 1) → h i = .leaf) → T.grown h k = T
  | .leaf, k, hh => hh k (Nat.le_refl _) (by simp [Tr.carets])
  | .node l r, k, hh => by
    simp only [Tr.grown]
    rw [grown_same h l k (fun i h1 h2 => hh i h1 (by simp only [Tr.carets]; omega)), grown_same h r _ (fun i h1 h2 => hh i (by omega) (by simp only [Tr.carets]; omega))]
theorem graft_txt (O : Tr) (n : Nat) : ∀ (T : Tr) (k : Nat), k ≤ n → n < k + (T.carets + 1) → ∃ a b, T.txt = a ++ 46 :: b ∧ (T.grown (fun i => if i = n then O else .leaf) k).txt = a ++ (O.txt ++ b) ∧ k + dots a = n
  | .leaf, k, h1, h2 => by
    have : k = n := by simp only [Tr.carets] at h2; omega
    subst this
    exact ⟨[], [], rfl, by simp [Tr.grown], rfl⟩
  | .node l r, k, h1, h2 => by
    by_cases hl : n < k + (l.carets + 1)
    · obtain ⟨a, b, e1, e2, e3⟩ := graft_txt O n l k h1 hl
      have e4 : r.grown (fun i => if i = n then O else .leaf) (k + (l.carets + 1)) = r := grown_same _ r _ (fun i g1 g2 => if_neg (by omega))
      refine ⟨40 :: a, b ++ (r.txt ++ [41]), ?_, ?_, ?_⟩
      · show 40 :: (l.txt ++ (r.txt ++ [41])) = _
        rw [e1]; simp
      · simp only [Tr.grown, e4]
        show 40 :: ((l.grown _ k).txt ++ (r.txt ++ [41])) = _
        rw [e2]; simp
      · simp only [dots, List.countP_cons] at e3 ⊢
        simp; omega
    · obtain ⟨a, b, e1, e2, e3⟩ := graft_txt O n r (k + (l.carets + 1)) (by omega) (by simp only [Tr.carets] at h2; omega)
      have e4 : l.grown (fun i => if i = n then O else .leaf) k = l := grown_same _ l _ (fun i g1 g2 => if_neg (by omega))
      refine ⟨40 :: (l.txt ++ a), b ++ [41], ?_, ?_, ?_⟩
      · show 40 :: (l.txt ++ (r.txt ++ [41])) = _
        rw [e1]; simp
      · simp only [Tr.grown, e4]
        show 40 :: (l.txt ++ ((r.grown _ _).txt ++ [41])) = _
        rw [e2]; simp
      · have hd := dots_txt l
        simp only [dots] at e3 hd
        simp only [dots, List.countP_cons, List.countP_append, hd]
        simp; omega
theorem grown_carets (h : Nat → Tr) (B : Nat) (hB : ∀ i, (h i).carets ≤ B) : ∀ (T : Tr) (k : Nat), (T.grown h k).carets ≤ T.carets + B * (T.carets + 1)
  | .leaf, k => by simp only [Tr.grown, Tr.carets]; have := hB k; omega
  | .node l r, k => by
    have h1 := grown_carets h B hB l k
    have h2 := grown_carets h B hB r (k + (l.carets + 1))
    have e : B * ((Tr.node l r).carets + 1) = B * (l.carets + 1) + B * (r.carets + 1) := by simp only [Tr.carets, Nat.mul_add, Nat.mul_one]; omega
    rw [e]
    simp only [Tr.grown, Tr.carets]
    omega
theorem grown_one (O : Tr) (n : Nat) : ∀ (T : Tr) (k : Nat), k ≤ n → n < k + (T.carets + 1) → (T.grown (fun i => if i = n then O else .leaf) k).carets = T.carets + O.carets
  | .leaf, k, h1, h2 => by
    have : k = n := by simp only [Tr.carets] at h2; omega
    subst this
    simp [Tr.grown, Tr.carets]
  | .node l r, k, h1, h2 => by
    simp only [Tr.carets] at h2
    by_cases hl : n < k + (l.carets + 1)
    · have e4 : r.grown (fun i => if i = n then O else .leaf) (k + (l.carets + 1)) = r := grown_same _ r _ (fun i g1 g2 => if_neg (by omega))
      have := grown_one O n l k h1 hl
      simp only [Tr.grown, e4, Tr.carets, this]; omega
    · have e4 : l.grown (fun i => if i = n then O else .leaf) k = l := grown_same _ l _ (fun i g1 g2 => if_neg (by omega))
      have := grown_one O n r (k + (l.carets + 1)) (by omega) (by omega)
      simp only [Tr.grown, e4, Tr.carets, this]; omega
theorem gen_carets (i : Nat) : (gen i).1.carets = i + 2 ∧ (gen i).2.carets = i + 2 := by
  refine ⟨?_, comb_carets _⟩
  show ((comb i).grown _ 0).carets = _
  rw [grown_one _ i (comb i) 0 (Nat.zero_le _) (by rw [comb_carets]; omega), comb_carets]; rfl
end Go.Proofs.Ytpmmajfdcicjiaa.N
