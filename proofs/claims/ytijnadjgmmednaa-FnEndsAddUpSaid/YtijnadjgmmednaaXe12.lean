import Derived.Test.YtijnadjgmmednaaXe7
import Derived.Test.YtijnadjgmmednaaXe8
/- A part of the proof: lemmas that later parts use. -/
set_option linter.unusedVariables false
set_option linter.unusedSimpArgs false
namespace Go.Proofs.Ytijnadjgmmednaa.N
def ld : Tr → Nat
  | .leaf => 0
  | .node l _ => ld l + 1
def rdp : Tr → Nat
  | .leaf => 0
  | .node _ r => rdp r + 1
theorem ld_grown (h : Nat → Tr) : ∀ (T : Tr) (k : Nat), ld (T.grown h k) = ld T + ld (h k)
  | .leaf, k => by simp [Tr.grown, ld]
  | .node l r, k => by simp only [Tr.grown, ld]; rw [ld_grown h l k]; omega
theorem rdp_grown (h : Nat → Tr) : ∀ (T : Tr) (k : Nat), rdp (T.grown h k) = rdp T + rdp (h (k + T.carets))
  | .leaf, k => by simp [Tr.grown, rdp, Tr.carets]
  | .node l r, k => by
    simp only [Tr.grown, rdp, Tr.carets]
    rw [rdp_grown h r (k + (l.carets + 1)), show k + (l.carets + 1) + r.carets = k + (1 + l.carets + r.carets) by omega]
    omega
theorem ld_fill (T : Tr) (L : List Tr) : ld (fill T L) = ld T + ld (L.getD 0 .leaf) := ld_grown _ T 0
theorem rdp_fill (T : Tr) (L : List Tr) : rdp (fill T L) = rdp T + rdp (L.getD T.carets .leaf) := by
  have := rdp_grown (fun i => L.getD i .leaf) T 0
  rw [Nat.zero_add] at this
  exact this
theorem ld_parts {t w : Tr} (h : Part t w) : ld w = ld t + ld ((partsT t w).getD 0 .leaf) := by
  have := ld_fill t (partsT t w)
  rwa [fill_parts t w h] at this
theorem rdp_parts {t w : Tr} (h : Part t w) : rdp w = rdp t + rdp ((partsT t w).getD t.carets .leaf) := by
  have := rdp_fill t (partsT t w)
  rwa [fill_parts t w h] at this
theorem ld_without : ∀ (T : Tr) (k : Nat), k ∈ expo T 0 → ld T = ld (without T k) + (if k = 0 then 1 else 0)
  | .leaf, k, h => by simp [expo] at h
  | .node l r, k, h => by
    by_cases hl : l = .leaf ∧ r = .leaf
    · obtain ⟨rfl, rfl⟩ := hl
      simp [expo] at h
      subst h
      rfl
    · rw [without_node hl]
      rcases mem_expo_node hl h with ⟨h1, h2⟩ | ⟨h1, h2⟩
      · rw [if_neg (by omega)]
        have := ld_without l k h2
        simp only [ld]
        omega
      · rw [if_pos h1]
        simp only [ld]
        rw [if_neg (by omega)]
theorem rdp_without : ∀ (T : Tr) (k : Nat), k ∈ expo T 0 → rdp T = rdp (without T k) + (if k + 1 = T.carets then 1 else 0)
  | .leaf, k, h => by simp [expo] at h
  | .node l r, k, h => by
    by_cases hl : l = .leaf ∧ r = .leaf
    · obtain ⟨rfl, rfl⟩ := hl
      simp [expo] at h
      subst h
      rfl
    · rw [without_node hl]
      rcases mem_expo_node hl h with ⟨h1, h2⟩ | ⟨h1, h2⟩
      · rw [if_neg (by omega)]
        have := expo_range l 0 k h2
        have hc : (Tr.node l r).carets = 1 + l.carets + r.carets := rfl
        rw [if_neg (show ¬ k + 1 = (Tr.node l r).carets by omega)]
        rfl
      · rw [if_pos h1]
        have := rdp_without r (k - (l.carets + 1)) h2
        have hc : (Tr.node l r).carets = 1 + l.carets + r.carets := rfl
        simp only [rdp]
        by_cases e : k - (l.carets + 1) + 1 = r.carets
        · rw [if_pos e] at this
          rw [if_pos (show k + 1 = (Tr.node l r).carets by omega)]
          omega
        · rw [if_neg e] at this
          rw [if_neg (show ¬ k + 1 = (Tr.node l r).carets by omega)]
          omega
def az (p : Tr × Tr) : Int := (ld p.1 : Int) - ld p.2
def bz (p : Tr × Tr) : Int := (rdp p.1 : Int) - rdp p.2
theorem ends_without {A B : Tr} (hc : A.carets = B.carets) {k : Nat} (h : k ∈ bothT A B) : az (without A k, without B k) = az (A, B) ∧ bz (without A k, without B k) = bz (A, B) := by
  obtain ⟨h1, h2⟩ := mem_both h
  have a1 := ld_without A k h1
  have a2 := ld_without B k h2
  have b1 := rdp_without A k h1
  have b2 := rdp_without B k h2
  rw [hc] at b1
  unfold az bz
  simp only
  constructor
  · split at a1 <;> split at a2 <;> omega
  · split at b1 <;> split at b2 <;> omega
theorem ends_redF : ∀ (n : Nat) (p : Tr × Tr), Bal p → az (redF n p) = az p ∧ bz (redF n p) = bz p
  | 0, p, _ => ⟨rfl, rfl⟩
  | n + 1, p, hb => by
    simp only [redF]
    split
    · exact ⟨rfl, rfl⟩
    · rename_i k l h
      have hk : k ∈ bothT p.1 p.2 := by rw [h]; exact List.mem_cons_self ..
      obtain ⟨h1, h2⟩ := mem_both hk
      have c1 := without_carets _ _ h1
      have c2 := without_carets _ _ h2
      have hb' : Bal (without p.1 k, without p.2 k) := by unfold Bal at *; simp only; omega
      obtain ⟨i1, i2⟩ := ends_redF n _ hb'
      obtain ⟨e1, e2⟩ := ends_without hb hk
      exact ⟨i1.trans e1, i2.trans e2⟩
theorem ends_red {p : Tr × Tr} (h : Bal p) : az (red p) = az p ∧ bz (red p) = bz p := ends_redF _ p h
theorem ends_mul {p q : Tr × Tr} (hp : Bal p) (hq : Bal q) : az (mul p q) = az p + az q ∧ bz (mul p q) = bz p + bz q := by
  have hb : Bal (mul0 p q) := by
    obtain ⟨h1, h2⟩ := mul0_carets hp hq
    unfold Bal; omega
  obtain ⟨h1, h2⟩ := ends_red hb
  have l1 := ld_parts (part_join_l p.2 q.1)
  have l2 := ld_parts (part_join_r p.2 q.1)
  have r1 := rdp_parts (part_join_l p.2 q.1)
  have r2 := rdp_parts (part_join_r p.2 q.1)
  unfold mul
  rw [h1, h2]
  unfold az bz mul0
  simp only
  rw [ld_fill, ld_fill, rdp_fill, rdp_fill]
  unfold Bal at hp hq
  rw [hp, ← hq]
  omega
end Go.Proofs.Ytijnadjgmmednaa.N
