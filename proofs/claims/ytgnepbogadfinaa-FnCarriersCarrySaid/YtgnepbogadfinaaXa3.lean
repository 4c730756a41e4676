import Derived.BigQuiet
import Derived.Deep.Draws
import Derived.Deep.OwnRows
import Derived.Deep.QuietTactic
import Derived.Deep.RegionHeld3
import Derived.Deep.RegionWith
import Derived.KernelRfl
import Derived.Lib.Hide
import Derived.Test.YtgnepbogadfinaaProg
import Derived.WalkKit
import Derived.WalkSpells
/- A part of the proof: lemmas that later parts use. -/
set_option linter.unusedVariables false
set_option linter.unusedSimpArgs false
namespace Go.Proofs.Ytgnepbogadfinaa.N
open Go.RowKit
inductive Tr where
  | leaf
  | node (l r : Tr)
def Tr.carets : Tr → Nat
  | .leaf => 0
  | .node l r => 1 + l.carets + r.carets
def Tr.depth : Tr → Nat
  | .leaf => 0
  | .node l r => max l.depth r.depth + 1
def Tr.txt : Tr → List UInt8
  | .leaf => [46]
  | .node l r => 40 :: (l.txt ++ (r.txt ++ [41]))
theorem Tr.depth_le : ∀ T : Tr, T.depth ≤ T.carets
  | .leaf => Nat.le_refl _
  | .node l r => by have := l.depth_le; have := r.depth_le; simp only [Tr.depth, Tr.carets]; omega
theorem Tr.txt_length : ∀ T : Tr, T.txt.length = 3 * T.carets + 1
  | .leaf => rfl
  | .node l r => by have := l.txt_length; have := r.txt_length; simp [Tr.txt, Tr.carets]; omega
def S (l : List UInt8) : ByteArray := ⟨l.toArray⟩
theorem S_size (l : List UInt8) : (S l).size = l.length := rfl
theorem S_append (a b : List UInt8) : S a ++ S b = S (a ++ b) := by apply ByteArray.ext; simp [S]
theorem S_extract (l : List UInt8) (i j : Nat) : (S l).extract i j = S ((l.take j).drop i) := by
  apply ByteArray.ext
  simp [S, List.drop_take]
theorem S_toList (l : List UInt8) : (S l).toList = l := ByteArray.toList_mk l
theorem S_of (s : ByteArray) : s = S s.toList := by rw [ByteArray.toList_eq]; rfl
theorem S_tail (c : UInt8) (l : List UInt8) : (S (c :: l)).extract 1 (S (c :: l)).size = S l := by rw [S_extract]; simp [S_size]
theorem S_inj {a b : List UInt8} (h : S a = S b) : a = b := by have := congrArg ByteArray.toList h; simpa [S_toList] using this
theorem S_facts (c : UInt8) (l : List UInt8) : ((S (c :: l)).toList == []) = false ∧ 0 < (S (c :: l)).size ∧ (1 : Int) ≤ (S (c :: l)).size ∧ (∀ h : 0 < (S (c :: l)).size, (((S (c :: l))[0]'h).toNat : Int) = (c.toNat : Int)) ∧ Hid ((S (c :: l)).extract 1 (S (c :: l)).size = S l) :=
  ⟨by rw [S_toList]; rfl, by simp [S_size], by simp [S_size]; omega, fun _ => rfl, S_tail c l⟩
theorem S_nil : ((S []).toList == []) = true := by rw [S_toList]; rfl
theorem byte_ne {c d : UInt8} (h : c ≠ d) : ((c.toNat : Int) == (d.toNat : Int)) = false := by
  rw [beq_eq_false_iff_ne]; intro e; exact h (UInt8.toNat_inj.1 (Int.ofNat.inj e))
theorem byte_bne {c d : UInt8} (h : c ≠ d) : ((c.toNat : Int) != (d.toNat : Int)) = true := by
  rw [bne_iff_ne]; intro e; exact h (UInt8.toNat_inj.1 (Int.ofNat.inj e))
def tx (T : Tr) : ByteArray := S T.txt
theorem tx_leaf : tx .leaf = ⟨#[46]⟩ := rfl
theorem tx_node (l r : Tr) : tx (.node l r) = ((⟨#[40]⟩ ++ tx l) ++ tx r) ++ ⟨#[41]⟩ := by
  show S _ = ((S [40] ++ S _) ++ S _) ++ S [41]
  simp only [S_append, Tr.txt]
  simp
def rd : Nat → List UInt8 → Option (Tr × List UInt8)
  | 0, _ => none
  | _ + 1, [] => none
  | n + 1, c :: l =>
    if c = 46 then some (.leaf, l) else if c = 40 then
      match rd n l with
      | none => none
      | some (a, l1) =>
        match rd n l1 with
        | some (b, 41 :: l3) => some (.node a b, l3)
        | _ => none
    else none
theorem rd_txt : ∀ (T : Tr) (n : Nat) (r : List UInt8), T.depth < n → rd n (T.txt ++ r) = some (T, r)
  | .leaf, n + 1, r, _ => by simp [Tr.txt, rd]
  | .node a b, n + 1, r, h => by
    have ha : a.depth < n := by simp only [Tr.depth] at h; omega
    have hb : b.depth < n := by simp only [Tr.depth] at h; omega
    have e : (Tr.node a b).txt ++ r = 40 :: (a.txt ++ (b.txt ++ 41 :: r)) := by simp [Tr.txt]
    rw [e]
    simp only [rd]
    rw [if_neg (by decide), if_pos trivial, rd_txt a n _ ha]
    simp only
    rw [rd_txt b n _ hb]
    rfl
theorem rd_txt' (T : Tr) (n : Nat) (h : T.depth < n) : rd n T.txt = some (T, []) := by have := rd_txt T n [] h; simpa using this
theorem rd_some : ∀ {n : Nat} {l : List UInt8} {T : Tr} {r : List UInt8}, rd n l = some (T, r) → l = T.txt ++ r ∧ T.depth < n := by
  intro n
  induction n with
  | zero => intro l T r h; simp [rd] at h
  | succ n ih =>
    intro l T r h
    cases l with
    | nil => simp [rd] at h
    | cons c l =>
      simp only [rd] at h
      split at h
      · rename_i hc; subst hc
        simp only [Option.some.injEq, Prod.mk.injEq] at h; obtain ⟨rfl, rfl⟩ := h; exact ⟨rfl, Nat.succ_pos _⟩
      · split at h
        · rename_i _ hc; subst hc
          split at h
          · simp at h
          · rename_i a l1 h1
            split at h
            · rename_i b l3 h2
              simp only [Option.some.injEq, Prod.mk.injEq] at h
              obtain ⟨rfl, rfl⟩ := h
              obtain ⟨rfl, d1⟩ := ih h1
              obtain ⟨rfl, d2⟩ := ih h2
              exact ⟨by simp [Tr.txt], by simp only [Tr.depth]; omega⟩
            · simp at h
        · simp at h
theorem rd_length {n l T r} (h : rd n l = some (T, r)) : r.length ≤ l.length := by
  obtain ⟨rfl, _⟩ := rd_some h
  simp
theorem txt_inj {a b : Tr} {r s : List UInt8} (h : a.txt ++ r = b.txt ++ s) : a = b ∧ r = s := by
  have h1 := rd_txt a (a.depth + b.depth + 1) r (by omega)
  have h2 := rd_txt b (a.depth + b.depth + 1) s (by omega)
  rw [h] at h1
  rw [h1] at h2
  simpa using h2
theorem tx_inj {a b : Tr} (h : tx a = tx b) : a = b := by
  have := S_inj h
  exact (txt_inj (r := []) (s := []) (by simpa using this)).1
def Rep (w : World) : Tr → Option Addr → Prop
  | .leaf, p => p = none
  | .node l r, p => ∃ b pl pr, p = some ⟨b, 0, none⟩ ∧ w.heap[b]? = some (.cells #[.pointer pl, .pointer pr] 88) ∧ Rep w l pl ∧ Rep w r pr
def Ext (w w' : World) : Prop := Below w.heap.size w w'
theorem Ext.refl (w : World) : Ext w w := Below.refl _ _
theorem Ext.trans {a b c : World} (h : Ext a b) (k : Ext b c) : Ext a c := Below.trans h (k.mono h.size)
theorem Ext.drewN {a b : World} (h : Ext a b) (n : Nat) : Ext a (b.drewN n) := ⟨h.os, h.tape, h.output, h.size, h.block⟩
theorem Ext.drew {a b : World} (h : Ext a b) : Ext a b.drew := ⟨h.os, h.tape, h.output, h.size, h.block⟩
theorem Ext.alloc {a b : World} (h : Ext a b) (o : Obj) : Ext a (b.alloc o) := Below.alloc h h.size o
theorem Ext.cell {a b : World} (h : Ext a b) {p : Addr} {v : Value} (hc : a.cell? p = some v) : b.cell? p = some v := (Below.cell h (World.block_lt_of_cell? a p hc)).trans hc
theorem Ext.heap {a b : World} (h : Ext a b) : a.heap.size ≤ b.heap.size := h.size
theorem Ext.at {a b : World} (h : Ext a b) {k : Nat} {o : Obj} (hc : a.heap[k]? = some o) : b.heap[k]? = some o := (h.block k (Array.getElem?_eq_some_iff.1 hc).1).trans hc
theorem Rep.ext {w w' : World} (h : Ext w w') : ∀ {T p}, Rep w T p → Rep w' T p
  | .leaf, _, hr => hr
  | .node _ _, _, ⟨b, pl, pr, e, h0, hl, hr⟩ => ⟨b, pl, pr, e, h.at h0, Rep.ext h hl, Rep.ext h hr⟩
theorem cells_of {w : World} {b : Nat} {u v : Value} {t : TypeId} (h : w.heap[b]? = some (.cells #[u, v] t)) : w.cell? ⟨b, 0, none⟩ = some u ∧ w.cell? ⟨b, 1, none⟩ = some v := by
  constructor <;> simp [World.cell?, h]
theorem Rep.open {w : World} {l r : Tr} {p : Option Addr} (h : Rep w (.node l r) p) : ∃ b pl pr, p = some ⟨b, 0, none⟩ ∧ w.cell? ⟨b, 0, none⟩ = some (.pointer pl) ∧ w.cell? ⟨b, 1, none⟩ = some (.pointer pr) ∧ Rep w l pl ∧ Rep w r pr := by
  obtain ⟨b, pl, pr, e, h0, hl, hr⟩ := h
  exact ⟨b, pl, pr, e, (cells_of h0).1, (cells_of h0).2, hl, hr⟩
theorem Rep.made' {w : World} {l r : Tr} {pl pr : Option Addr} {n : Nat} (hl : Rep w l pl) (hr : Rep w r pr) (hn : w.heap.size = n) : Rep (w.alloc (.cells #[.pointer pl, .pointer pr] 88)) (.node l r) (some ⟨n, 0, none⟩) :=
  ⟨n, pl, pr, rfl, by rw [← hn]; exact heap_alloc_new w _, hl.ext ((Ext.refl w).alloc _), hr.ext ((Ext.refl w).alloc _)⟩
theorem Rep.made {w : World} {l r : Tr} {pl pr : Option Addr} (hl : Rep w l pl) (hr : Rep w r pr) : Rep (w.alloc (.cells #[.pointer pl, .pointer pr] 88)) (.node l r) (some ⟨w.heap.size, 0, none⟩) := Rep.made' hl hr rfl
theorem Rep.far {w w' : World} {row : Option Nat} (hg : w.grownBy w' row) (hr : ∀ k, row = some k → ∃ cs e fr, w.heap[k]? = some (.cells cs e fr) ∧ e ≠ 88) : ∀ {T p}, Rep w T p → Rep w' T p
  | .leaf, _, h => h
  | .node _ _, _, ⟨b, pl, pr, e, h0, hl, hr'⟩ => ⟨b, pl, pr, e, (hg.block b (Array.getElem?_eq_some_iff.1 h0).1 (fun ek => by
      obtain ⟨cs, t, fr, h1, h2⟩ := hr b ek.symm
      rw [h1] at h0
      injection h0 with h0
      injection h0 with _ h3
      exact h2 h3)).trans h0, Rep.far hg hr hl, Rep.far hg hr hr'⟩
theorem Rep.none {w : World} {T : Tr} (h : Rep w T none) : T = .leaf := by
  cases T with
  | leaf => rfl
  | node l r => obtain ⟨_, _, _, e, _⟩ := h; cases e
theorem two_cells {w w' : World} {b : Nat} {pl pr : Option Addr} (h0 : w.cell? ⟨b, 0, none⟩ = some (.pointer pl)) (h1 : w.cell? ⟨b, 1, none⟩ = some (.pointer pr)) (h : Ext w w') : w'.cell? ⟨b, 0, none⟩ = some (.pointer pl) ∧ w'.cell? ⟨b, 1, none⟩ = some (.pointer pr) ∧ Ext w w' :=
  ⟨h.cell h0, h.cell h1, h⟩
def GivesT (w : World) (T : Tr) (e : Ending) (w' : World) : Prop := ∃ p, e = .returned (.pointer p) ∧ Rep w' T p ∧ Ext w w'
theorem max2_i (k k' : IntKind) (x y : Int) : Builtin.max2 (.int k x) (.int k' y) = pure (.int k (if x < y then y else x)) := by simp only [Builtin.max2, gt_iff_lt]
theorem max_two_ (ats : Array TypeId) (ty : TypeId) (a b : Value) : Builtin.max_ ats ty #[a, b] = (Builtin.max2 a b >>= fun s => pure s) := by simp only [Builtin.max_, List.foldlM_cons, List.foldlM_nil]
theorem wrap_ok {x : Int} (h : -9223372036854775808 ≤ x ∧ x ≤ 9223372036854775807) : IntKind.i64.wrap x = x := IntWalk.i64_in _ h
end Go.Proofs.Ytgnepbogadfinaa.N
namespace Go.Proofs.Ytgnepbogadfinaa.N
def expo : Tr → Nat → List Nat
  | .leaf, _ => []
  | .node .leaf .leaf, k => [k]
  | .node l r, k => expo l k ++ expo r (k + (l.carets + 1))
theorem expo_node {l r : Tr} (h : ¬ (l = .leaf ∧ r = .leaf)) (k : Nat) : expo (.node l r) k = expo l k ++ expo r (k + (l.carets + 1)) := by
  cases l with
  | leaf =>
    cases r with
    | leaf => exact absurd ⟨rfl, rfl⟩ h
    | node a b => simp [expo]
  | node a b => simp [expo]
def without : Tr → Nat → Tr
  | .leaf, _ => .leaf
  | .node .leaf .leaf, _ => .leaf
  | .node l r, k => if l.carets + 1 ≤ k then .node l (without r (k - (l.carets + 1))) else .node (without l k) r
theorem without_node {l r : Tr} (h : ¬ (l = .leaf ∧ r = .leaf)) (k : Nat) : without (.node l r) k = if l.carets + 1 ≤ k then .node l (without r (k - (l.carets + 1))) else .node (without l k) r := by
  cases l with
  | leaf =>
    cases r with
    | leaf => exact absurd ⟨rfl, rfl⟩ h
    | node a b => simp [without]
  | node a b => simp [without]
theorem nl_r (a b : Tr) : ¬ (Tr.leaf = .leaf ∧ Tr.node a b = .leaf) := fun h => by cases h.2
theorem nl_l (a b r : Tr) : ¬ (Tr.node a b = .leaf ∧ r = .leaf) := fun h => by cases h.1
theorem expo_shift : ∀ (T : Tr) (k j : Nat), expo T (k + j) = (expo T k).map (· + j)
  | .leaf, _, _ => rfl
  | .node .leaf .leaf, _, _ => rfl
  | .node .leaf (.node a b), k, j => by
    rw [expo_node (nl_r a b), expo_node (nl_r a b), List.map_append, expo_shift .leaf k j, ← expo_shift (.node a b), show k + j + (Tr.leaf.carets + 1) = k + (Tr.leaf.carets + 1) + j from by omega]
  | .node (.node a b) r, k, j => by
    rw [expo_node (nl_l a b r), expo_node (nl_l a b r), List.map_append, expo_shift (.node a b) k j, ← expo_shift r, show k + j + ((Tr.node a b).carets + 1) = k + ((Tr.node a b).carets + 1) + j from by omega]
theorem expo_range : ∀ (T : Tr) (k i : Nat), i ∈ expo T k → k ≤ i ∧ i < k + T.carets + 1 ∧ i + 1 ≤ k + T.carets
  | .leaf, _, _, h => by cases h
  | .node .leaf .leaf, k, i, h => by simp [expo] at h; subst h; simp [Tr.carets]; omega
  | .node .leaf (.node a b), k, i, h => by
    rw [expo_node (nl_r a b), List.mem_append] at h
    rcases h with h | h
    · cases h
    · have := expo_range _ _ _ h; have e : (Tr.node .leaf (.node a b)).carets = 1 + 0 + (Tr.node a b).carets := rfl; have e2 : Tr.leaf.carets = 0 := rfl; omega
  | .node (.node a b) r, k, i, h => by
    rw [expo_node (nl_l a b r), List.mem_append] at h
    have e : (Tr.node (.node a b) r).carets = 1 + (Tr.node a b).carets + r.carets := rfl
    rcases h with h | h
    · have := expo_range _ _ _ h; omega
    · have := expo_range _ _ _ h; omega
theorem expo_length : ∀ (T : Tr) (k : Nat), (expo T k).length ≤ T.carets
  | .leaf, _ => Nat.le_refl _
  | .node .leaf .leaf, _ => by simp [expo, Tr.carets]
  | .node .leaf (.node a b), k => by
    rw [expo_node (nl_r a b), List.length_append]; have := expo_length (.node a b) (k + (Tr.leaf.carets + 1)); simp only [expo, Tr.carets, List.length_nil] at *; omega
  | .node (.node a b) r, k => by
    rw [expo_node (nl_l a b r), List.length_append]; have h1 := expo_length (.node a b) k; have h2 := expo_length r (k + ((Tr.node a b).carets + 1)); have e : (Tr.node (.node a b) r).carets = 1 + (Tr.node a b).carets + r.carets := rfl; omega
theorem mem_expo_node {l r : Tr} (h : ¬ (l = .leaf ∧ r = .leaf)) {i : Nat} (hi : i ∈ expo (.node l r) 0) : (i < l.carets + 1 ∧ i ∈ expo l 0) ∨ (l.carets + 1 ≤ i ∧ i - (l.carets + 1) ∈ expo r 0) := by
  rw [expo_node h, List.mem_append] at hi
  rcases hi with hi | hi
  · have := expo_range _ _ _ hi; exact .inl ⟨by omega, hi⟩
  · have h2 := expo_range _ _ _ hi
    rw [expo_shift, List.mem_map] at hi
    obtain ⟨j, hj, rfl⟩ := hi
    exact .inr ⟨by omega, by rw [show j + (l.carets + 1) - (l.carets + 1) = j from by omega]; exact hj⟩
theorem without_carets : ∀ (T : Tr) (k : Nat), k ∈ expo T 0 → (without T k).carets + 1 = T.carets
  | .leaf, _, h => by cases h
  | .node .leaf .leaf, _, _ => rfl
  | .node .leaf (.node a b), k, h => by
    rcases mem_expo_node (nl_r a b) h with ⟨_, h⟩ | ⟨h1, h⟩
    · cases h
    · rw [without_node (nl_r a b), if_pos h1]; have := without_carets _ _ h; simp only [Tr.carets] at *; omega
  | .node (.node a b) r, k, h => by
    rcases mem_expo_node (nl_l a b r) h with ⟨h1, h⟩ | ⟨h1, h⟩
    · rw [without_node (nl_l a b r), if_neg (by omega)]; have := without_carets _ _ h; simp only [Tr.carets] at *; omega
    · rw [without_node (nl_l a b r), if_pos h1]; have := without_carets _ _ h; simp only [Tr.carets] at *; omega
def bothT (A B : Tr) : List Nat := (expo A 0).filter fun k => (expo B 0).contains k
theorem mem_both {A B : Tr} {k : Nat} (h : k ∈ bothT A B) : k ∈ expo A 0 ∧ k ∈ expo B 0 := by
  obtain ⟨h1, h2⟩ := List.mem_filter.1 h
  exact ⟨h1, by simpa using h2⟩
def redF : Nat → Tr × Tr → Tr × Tr
  | 0, p => p
  | n + 1, p => match bothT p.1 p.2 with
    | [] => p
    | k :: _ => redF n (without p.1 k, without p.2 k)
def red (p : Tr × Tr) : Tr × Tr := redF p.1.carets p
theorem both_zero {A B : Tr} (h : A.carets = 0) : bothT A B = [] := by
  cases A with
  | leaf => rfl
  | node l r => simp only [Tr.carets] at h; omega
theorem redF_more : ∀ (n m : Nat) (p : Tr × Tr), p.1.carets ≤ n → p.1.carets ≤ m → redF n p = redF m p := by
  intro n
  induction n with
  | zero =>
    intro m p h1 _
    have hb : bothT p.1 p.2 = [] := both_zero (by omega)
    cases m with
    | zero => rfl
    | succ m => simp only [redF, hb]
  | succ n ih =>
    intro m p h1 h2
    cases m with
    | zero =>
      have hb : bothT p.1 p.2 = [] := both_zero (by omega)
      simp only [redF, hb]
    | succ m =>
      simp only [redF]
      cases hb : bothT p.1 p.2 with
      | nil => rfl
      | cons k l =>
        have := without_carets p.1 k (mem_both (by rw [hb]; exact List.mem_cons_self)).1
        exact ih m _ (by simp only; omega) (by simp only; omega)
theorem red_nil {p : Tr × Tr} (h : bothT p.1 p.2 = []) : red p = p := by
  unfold red
  cases p.1.carets with
  | zero => rfl
  | succ n => simp only [redF, h]
theorem red_cons {p : Tr × Tr} {k : Nat} {l : List Nat} (h : bothT p.1 p.2 = k :: l) : red p = red (without p.1 k, without p.2 k) := by
  have hc := without_carets p.1 k (mem_both (by rw [h]; exact List.mem_cons_self)).1
  unfold red
  obtain ⟨n, hn⟩ : ∃ n, p.1.carets = n + 1 := ⟨p.1.carets - 1, by omega⟩
  rw [hn]
  simp only [redF, h]
  exact redF_more _ _ _ (by simp only; omega) (by simp only; omega)
theorem redF_le : ∀ (n : Nat) (p : Tr × Tr), (redF n p).1.carets ≤ p.1.carets ∧ (redF n p).2.carets ≤ p.2.carets ∧ (p.1.carets = p.2.carets → (redF n p).1.carets = (redF n p).2.carets)
  | 0, p => ⟨Nat.le_refl _, Nat.le_refl _, fun h => h⟩
  | n + 1, p => by
    simp only [redF]
    cases hb : bothT p.1 p.2 with
    | nil => exact ⟨Nat.le_refl _, Nat.le_refl _, fun h => h⟩
    | cons k l =>
      obtain ⟨m1, m2⟩ := mem_both (A := p.1) (B := p.2) (k := k) (by rw [hb]; exact List.mem_cons_self)
      have h1 := without_carets p.1 k m1
      have h2 := without_carets p.2 k m2
      obtain ⟨a, b, c⟩ := redF_le n (without p.1 k, without p.2 k)
      simp only at a b c
      exact ⟨by simp only; omega, by simp only; omega, fun h => c (by omega)⟩
theorem red_le (p : Tr × Tr) : (red p).1.carets ≤ p.1.carets ∧ (red p).2.carets ≤ p.2.carets := ⟨(redF_le _ p).1, (redF_le _ p).2.1⟩
theorem red_same {p : Tr × Tr} (h : p.1.carets = p.2.carets) : (red p).1.carets = (red p).2.carets := (redF_le _ p).2.2 h
theorem redF_both : ∀ (n : Nat) (p : Tr × Tr), p.1.carets ≤ n → bothT (redF n p).1 (redF n p).2 = []
  | 0, p, h => both_zero (by simp only [redF]; omega)
  | n + 1, p, h => by
    simp only [redF]
    cases hb : bothT p.1 p.2 with
    | nil => exact hb
    | cons k l =>
      have h1 := without_carets p.1 k (mem_both (by rw [hb]; exact List.mem_cons_self)).1
      exact redF_both n _ (by simp only; omega)
theorem red_both (p : Tr × Tr) : bothT (red p).1 (red p).2 = [] := redF_both _ _ (Nat.le_refl _)
end Go.Proofs.Ytgnepbogadfinaa.N
namespace Go.Proofs.Ytgnepbogadfinaa.N
def rot (bk : Bool) : Tr → Option Tr
  | .leaf => none
  | .node l r =>
    if bk then match r with
      | .leaf => none
      | .node b c => some (.node (.node l b) c)
    else match l with
      | .leaf => none
      | .node a b => some (.node a (.node b r))
def turnT (bk : Bool) : List UInt8 → Tr → Option Tr
  | [], T => rot bk T
  | _ :: _, .leaf => none
  | c :: l, .node a b =>
    if c = 48 then (turnT bk l a).map (fun x => .node x b)
    else if c = 49 then (turnT bk l b).map (fun x => .node a x)
    else none
def Tr.places : Tr → List UInt8 → List (List UInt8)
  | .leaf, _ => []
  | .node l r, at_ => at_ :: (l.places (at_ ++ [48]) ++ r.places (at_ ++ [49]))
def Tr.turns (bk : Bool) (T : Tr) : List (List UInt8) := (T.places []).filter fun a => (turnT bk a T).isSome
theorem rot_carets {bk : Bool} {T T' : Tr} (h : rot bk T = some T') : T'.carets = T.carets := by
  cases T with
  | leaf => simp [rot] at h
  | node l r =>
    cases bk
    · cases l with
      | leaf => simp [rot] at h
      | node a b => simp [rot] at h; subst h; simp only [Tr.carets]; omega
    · cases r with
      | leaf => simp [rot] at h
      | node a b => simp [rot] at h; subst h; simp only [Tr.carets]; omega
theorem turnT_carets {bk : Bool} : ∀ {a : List UInt8} {T T' : Tr}, turnT bk a T = some T' → T'.carets = T.carets
  | [], T, T', h => rot_carets h
  | _ :: _, .leaf, T', h => by simp [turnT] at h
  | c :: l, .node a b, T', h => by
    simp only [turnT] at h
    split at h
    · obtain ⟨x, hx, rfl⟩ := Option.map_eq_some_iff.1 h
      simp only [Tr.carets, turnT_carets hx]
    · split at h
      · obtain ⟨x, hx, rfl⟩ := Option.map_eq_some_iff.1 h
        simp only [Tr.carets, turnT_carets hx]
      · cases h
theorem places_map : ∀ (T : Tr) (a b : List UInt8), T.places (a ++ b) = (T.places b).map (a ++ ·)
  | .leaf, _, _ => rfl
  | .node l r, a, b => by
    simp only [Tr.places, List.map_cons, List.map_append, List.append_assoc]
    rw [places_map l a (b ++ [48]), places_map r a (b ++ [49])]
def Tr.step (T : Tr) : Option Tr := match T.turns false with
  | [] => none
  | a :: _ => turnT false a T
theorem filter_take {α : Type} (p : α → Bool) (l : List α) (k : Nat) (h : k < l.length) : (l.take (k + 1)).filter p = (l.take k).filter p ++ if p l[k] then [l[k]] else [] := by
  rw [List.take_add_one, List.getElem?_eq_getElem h, List.filter_append]
  simp only [Option.toList, List.filter_cons, List.filter_nil]
end Go.Proofs.Ytgnepbogadfinaa.N
namespace Go.Proofs.Ytgnepbogadfinaa.N
def exAt (p : Bool) (l : List UInt8) : Bool := p && (match l with | 46 :: 46 :: 41 :: _ => true | _ => false)
def exS : Bool → List UInt8 → Nat → List Nat
  | _, [], _ => []
  | p, c :: l, k => (if exAt p (c :: l) then [k] else []) ++ exS (c == 40) l (if c = 46 then k + 1 else k)
theorem exAt_false (l : List UInt8) : exAt false l = false := rfl
theorem exS_dot (p : Bool) (l : List UInt8) (k : Nat) : exS p (46 :: l) k = (if exAt p (46 :: l) then [k] else []) ++ exS false l (k + 1) := by
  rw [exS]; rfl
theorem exS_open (p : Bool) (l : List UInt8) (k : Nat) : exS p (40 :: l) k = exS true l k := by
  rw [exS]
  have : exAt p (40 :: l) = false := by cases p <;> rfl
  rw [this]; rfl
theorem exS_close (p : Bool) (l : List UInt8) (k : Nat) : exS p (41 :: l) k = exS false l k := by
  rw [exS]
  have : exAt p (41 :: l) = false := by cases p <;> rfl
  rw [this]; rfl
theorem txt_node_app (l r : Tr) (x : List UInt8) : (Tr.node l r).txt ++ x = 40 :: (l.txt ++ (r.txt ++ (41 :: x))) := by simp [Tr.txt]
theorem txt_head (l r : Tr) (x : List UInt8) : ∃ y, (Tr.node l r).txt ++ x = 40 :: y := ⟨_, txt_node_app l r x⟩
theorem exS_leaf (x : List UInt8) (k : Nat) : exS false (Tr.leaf.txt ++ x) k = exS false x (k + 1) := by
  show exS false (46 :: x) k = _
  rw [exS_dot, exAt_false]; rfl
theorem exS_node : ∀ (T : Tr), T ≠ .leaf → ∀ (p : Bool) (x : List UInt8) (k : Nat), exS p (T.txt ++ x) k = expo T k ++ exS false x (k + (T.carets + 1))
  | .leaf, h, _, _, _ => absurd rfl h
  | .node .leaf .leaf, _, p, x, k => by
    rw [txt_node_app, exS_open]
    show exS true (46 :: (46 :: (41 :: x))) k = _
    rw [exS_dot, exS_dot, exAt_false, exS_close]
    simp [exAt, expo, Tr.carets]
  | .node .leaf (.node a b), _, p, x, k => by
    rw [txt_node_app, exS_open]
    show exS true (46 :: ((Tr.node a b).txt ++ (41 :: x))) k = _
    have hx : exAt true (46 :: ((Tr.node a b).txt ++ (41 :: x))) = false := by
      obtain ⟨y, hy⟩ := txt_head a b (41 :: x)
      rw [hy]; rfl
    rw [exS_dot, hx, exS_node (.node a b) (by simp), exS_close, expo_node (nl_r a b)]
    simp only [expo, Tr.carets, List.nil_append, Bool.false_eq_true, if_false, Nat.zero_add]
    congr 2
    omega
  | .node (.node a b) .leaf, _, p, x, k => by
    rw [txt_node_app, exS_open, exS_node (.node a b) (by simp), exS_leaf, exS_close, expo_node (nl_l a b .leaf)]
    simp only [expo, Tr.carets, List.append_nil]
    congr 2
    omega
  | .node (.node a b) (.node c d), _, p, x, k => by
    rw [txt_node_app, exS_open, exS_node (.node a b) (by simp), exS_node (.node c d) (by simp), exS_close, expo_node (nl_l a b _), List.append_assoc]
    congr 2
    simp only [Tr.carets]
    congr 1
    omega
theorem exS_txt (T : Tr) : exS false T.txt 0 = expo T 0 := by
  cases T with
  | leaf => rfl
  | node l r =>
    have := exS_node (.node l r) (by simp) false [] 0
    rw [List.append_nil] at this
    rw [this]; simp [exS]
def dots (l : List UInt8) : Nat := l.countP (fun c => c == 46)
theorem dots_app (a b : List UInt8) : dots (a ++ b) = dots a + dots b := List.countP_append ..
theorem dots_txt : ∀ T : Tr, dots T.txt = T.carets + 1
  | .leaf => rfl
  | .node l r => by
    have h1 := dots_txt l; have h2 := dots_txt r
    simp only [dots] at h1 h2
    simp [dots, Tr.txt, Tr.carets, List.countP_cons, List.countP_append, h1, h2]; omega
theorem drop_txt : ∀ (T : Tr) (k : Nat), k ∈ expo T 0 → ∃ a b, T.txt = a ++ 40 :: 46 :: 46 :: 41 :: b ∧ (without T k).txt = a ++ 46 :: b ∧ dots a = k
  | .leaf, _, h => by cases h
  | .node .leaf .leaf, k, h => by
    simp [expo] at h
    subst h
    exact ⟨[], [], rfl, rfl, rfl⟩
  | .node .leaf (.node c d), k, h => by
    rcases mem_expo_node (nl_r c d) h with ⟨_, h⟩ | ⟨h1, h⟩
    · cases h
    · obtain ⟨a, b, e1, e2, e3⟩ := drop_txt _ _ h
      refine ⟨40 :: 46 :: a, b ++ [41], ?_, ?_, ?_⟩
      · show 40 :: (46 :: ((Tr.node c d).txt ++ [41])) = _
        rw [e1]; simp
      · rw [without_node (nl_r c d), if_pos h1]
        show 40 :: (46 :: ((without (.node c d) _).txt ++ [41])) = _
        rw [e2]; simp
      · simp only [Tr.carets] at h1 e3
        simp only [dots, List.countP_cons] at e3 ⊢
        simp; omega
  | .node (.node c d) r, k, h => by
    rcases mem_expo_node (nl_l c d r) h with ⟨h1, h⟩ | ⟨h1, h⟩
    · obtain ⟨a, b, e1, e2, e3⟩ := drop_txt _ _ h
      refine ⟨40 :: a, b ++ (r.txt ++ [41]), ?_, ?_, ?_⟩
      · show 40 :: ((Tr.node c d).txt ++ (r.txt ++ [41])) = _
        rw [e1]; simp
      · rw [without_node (nl_l c d r), if_neg (by omega)]
        show 40 :: ((without (.node c d) k).txt ++ (r.txt ++ [41])) = _
        rw [e2]; simp
      · simp only [dots, List.countP_cons] at e3 ⊢
        simp; omega
    · obtain ⟨a, b, e1, e2, e3⟩ := drop_txt _ _ h
      refine ⟨40 :: ((Tr.node c d).txt ++ a), b ++ [41], ?_, ?_, ?_⟩
      · show 40 :: ((Tr.node c d).txt ++ (r.txt ++ [41])) = _
        rw [e1]; simp
      · rw [without_node (nl_l c d r), if_pos h1]
        show 40 :: ((Tr.node c d).txt ++ ((without r _).txt ++ [41])) = _
        rw [e2]; simp
      · have hd := dots_txt (.node c d)
        simp only [dots] at e3 hd
        simp only [dots, List.countP_cons, List.countP_append, hd, e3]
        simp; omega
def prev (l : List UInt8) (i : Nat) : Bool := decide (0 < i) && l[i - 1]? == some 40
theorem prev_step (l : List UInt8) (i : Nat) (c : UInt8) (h : l[i]? = some c) : prev l (i + 1) = (c == 40) := by
  simp [prev, h]
theorem ex_test (l : List UInt8) (i : Nat) (h : i < l.length) : exAt (prev l i) (l.drop i) = decide (0 < i ∧ i + 2 < l.length ∧ (l.take (i + 3)).drop (i - 1) = [40, 46, 46, 41]) := by
  rcases Nat.eq_zero_or_pos i with h0 | h0
  · subst h0; simp [prev, exAt]
  · obtain ⟨j, rfl⟩ : ∃ j, i = j + 1 := ⟨i - 1, by omega⟩
    have hj : j < l.length := by omega
    have e0 : l.drop j = l[j] :: l.drop (j + 1) := List.drop_eq_getElem_cons hj
    have e1 : (l.take (j + 1 + 3)).drop (j + 1 - 1) = (l.drop j).take 4 := by rw [List.drop_take]; congr 1; omega
    have e2 : prev l (j + 1) = (l[j] == 40) := prev_step l j _ (List.getElem?_eq_getElem hj)
    rw [e1, e2, e0, Bool.eq_iff_iff, decide_eq_true_eq]
    have hl : (l.drop (j + 1)).length = l.length - (j + 1) := List.length_drop ..
    generalize l.drop (j + 1) = m at *
    generalize l[j] = x at *
    constructor
    · intro hh
      simp only [exAt, Bool.and_eq_true, beq_iff_eq] at hh
      obtain ⟨rfl, h2⟩ := hh
      split at h2
      · simp only [List.length_cons] at hl
        exact ⟨by omega, by omega, rfl⟩
      · cases h2
    · rintro ⟨_, h3, h4⟩
      simp only [List.take_succ_cons, List.cons.injEq] at h4
      obtain ⟨rfl, h4⟩ := h4
      match m, h4 with
      | a :: b :: c :: m', h4 =>
        simp only [List.take_succ_cons, List.take_zero, List.cons.injEq, and_true] at h4
        obtain ⟨rfl, rfl, rfl⟩ := h4
        rfl
      | [], h4 => simp at h4
      | [a], h4 => simp at h4
      | [a, b], h4 => simp at h4
theorem exS_step (l : List UInt8) (i k : Nat) (c : UInt8) (h : l[i]? = some c) : exS (prev l i) (l.drop i) k = (if exAt (prev l i) (l.drop i) then [k] else []) ++ exS (prev l (i + 1)) (l.drop (i + 1)) (if c = 46 then k + 1 else k) := by
  have hi : i < l.length := (List.getElem?_eq_some_iff.1 h).1
  have e : l.drop i = c :: l.drop (i + 1) := by rw [List.drop_eq_getElem_cons hi]; congr 1; exact (List.getElem?_eq_some_iff.1 h).2
  rw [e, exS, prev_step l i c h]
end Go.Proofs.Ytgnepbogadfinaa.N
namespace Go.Proofs.Ytgnepbogadfinaa.N
def Rev {α : Type} (l : List α) (k : Nat) (c : List α) : Prop := c.length = l.length ∧ ∀ i, i < l.length → c[i]? = if i < k ∨ l.length - k ≤ i then l[l.length - 1 - i]? else l[i]?
theorem Rev.zero {α : Type} (l : List α) : Rev l 0 l := ⟨rfl, fun i hi => by rw [if_neg (by omega)]⟩
theorem Rev.step {α : Type} {l c : List α} {k : Nat} {x y : α} (h : Rev l k c) (hk : k < l.length - 1 - k) (hx : c[k]? = some x) (hy : c[l.length - 1 - k]? = some y) : Rev l (k + 1) ((c.set k y).set (l.length - 1 - k) x) := by
  obtain ⟨h1, h2⟩ := h
  have hxx := h2 k (by omega)
  rw [if_neg (by omega), hx] at hxx
  have hyy := h2 (l.length - 1 - k) (by omega)
  rw [if_neg (by omega), hy] at hyy
  refine ⟨by simp [h1], fun i hi => ?_⟩
  rw [List.getElem?_set, List.getElem?_set]
  by_cases e1 : l.length - 1 - k = i
  · subst e1
    rw [if_pos rfl, if_pos (by simp; omega), if_pos (by omega), show l.length - 1 - (l.length - 1 - k) = k by omega, hxx]
  · rw [if_neg e1]
    by_cases e2 : k = i
    · subst e2
      rw [if_pos rfl, if_pos (by omega), if_pos (by omega), hyy]
    · rw [if_neg e2, h2 i hi]
      by_cases e3 : i < k ∨ l.length - k ≤ i
      · rw [if_pos e3, if_pos (by omega)]
      · rw [if_neg e3, if_neg (by omega)]
theorem Rev.done {α : Type} {l c : List α} {k : Nat} (h : Rev l k c) (hk : l.length ≤ 2 * k + 1) : c = l.reverse := by
  apply List.ext_getElem?
  intro i
  by_cases hi : i < l.length
  · rw [h.2 i hi, List.getElem?_reverse hi]
    by_cases e : i < k ∨ l.length - k ≤ i
    · rw [if_pos e]
    · rw [if_neg e]; congr 1; omega
  · rw [List.getElem?_eq_none (by rw [h.1]; omega), List.getElem?_eq_none (by simp; omega)]
end Go.Proofs.Ytgnepbogadfinaa.N
