import Derived.BigQuiet
import Derived.Deep.Draws
import Derived.Deep.OwnRows
import Derived.Deep.QuietTactic
import Derived.Deep.RegionHeld3
import Derived.Deep.RegionWith
import Derived.KernelRfl
import Derived.Lib.Hide
import Derived.Test.YtdcipaaclpedhaaGreatProg
import Derived.WalkKit
import Derived.WalkSpells
/- A part of the proof: lemmas that later parts use. -/
set_option linter.unusedVariables false
set_option linter.unusedSimpArgs false
namespace Go.Proofs.YtdcipaaclpedhaaGreat.N
open Go.RowKit
inductive Tr where
  | leaf
  | node (l r : Tr)
def Tr.carets : Tr → Nat
  | .leaf => 0
  | .node l r => 1 + l.carets + r.carets
def Tr.depth : Tr → Nat
  | .leaf => 0
  | .node l r => max l.depth r.depth + 1
def Tr.txt : Tr → List UInt8
  | .leaf => [46]
  | .node l r => 40 :: (l.txt ++ (r.txt ++ [41]))
theorem Tr.depth_le : ∀ T : Tr, T.depth ≤ T.carets
  | .leaf => Nat.le_refl _
  | .node l r => by have := l.depth_le; have := r.depth_le; simp only [Tr.depth, Tr.carets]; omega
theorem Tr.txt_length : ∀ T : Tr, T.txt.length = 3 * T.carets + 1
  | .leaf => rfl
  | .node l r => by have := l.txt_length; have := r.txt_length; simp [Tr.txt, Tr.carets]; omega
def S (l : List UInt8) : ByteArray := ⟨l.toArray⟩
theorem S_size (l : List UInt8) : (S l).size = l.length := rfl
theorem S_append (a b : List UInt8) : S a ++ S b = S (a ++ b) := by apply ByteArray.ext; simp [S]
theorem S_extract (l : List UInt8) (i j : Nat) : (S l).extract i j = S ((l.take j).drop i) := by
  apply ByteArray.ext
  simp [S, List.drop_take]
theorem S_toList (l : List UInt8) : (S l).toList = l := ByteArray.toList_mk l
theorem S_of (s : ByteArray) : s = S s.toList := by rw [ByteArray.toList_eq]; rfl
theorem S_tail (c : UInt8) (l : List UInt8) : (S (c :: l)).extract 1 (S (c :: l)).size = S l := by rw [S_extract]; simp [S_size]
theorem S_inj {a b : List UInt8} (h : S a = S b) : a = b := by have := congrArg ByteArray.toList h; simpa [S_toList] using this
theorem S_facts (c : UInt8) (l : List UInt8) : ((S (c :: l)).toList == []) = false ∧ 0 < (S (c :: l)).size ∧ (1 : Int) ≤ (S (c :: l)).size ∧ (∀ h : 0 < (S (c :: l)).size, (((S (c :: l))[0]'h).toNat : Int) = (c.toNat : Int)) ∧ Hid ((S (c :: l)).extract 1 (S (c :: l)).size = S l) :=
  ⟨by rw [S_toList]; rfl, by simp [S_size], by simp [S_size]; omega, fun _ => rfl, S_tail c l⟩
theorem S_nil : ((S []).toList == []) = true := by rw [S_toList]; rfl
theorem byte_ne {c d : UInt8} (h : c ≠ d) : ((c.toNat : Int) == (d.toNat : Int)) = false := by
  rw [beq_eq_false_iff_ne]; intro e; exact h (UInt8.toNat_inj.1 (Int.ofNat.inj e))
theorem byte_bne {c d : UInt8} (h : c ≠ d) : ((c.toNat : Int) != (d.toNat : Int)) = true := by
  rw [bne_iff_ne]; intro e; exact h (UInt8.toNat_inj.1 (Int.ofNat.inj e))
def tx (T : Tr) : ByteArray := S T.txt
theorem tx_leaf : tx .leaf = ⟨#[46]⟩ := rfl
theorem tx_node (l r : Tr) : tx (.node l r) = ((⟨#[40]⟩ ++ tx l) ++ tx r) ++ ⟨#[41]⟩ := by
  show S _ = ((S [40] ++ S _) ++ S _) ++ S [41]
  simp only [S_append, Tr.txt]
  simp
def rd : Nat → List UInt8 → Option (Tr × List UInt8)
  | 0, _ => none
  | _ + 1, [] => none
  | n + 1, c :: l =>
    if c = 46 then some (.leaf, l) else if c = 40 then
      match rd n l with
      | none => none
      | some (a, l1) =>
        match rd n l1 with
        | some (b, 41 :: l3) => some (.node a b, l3)
        | _ => none
    else none
theorem rd_txt : ∀ (T : Tr) (n : Nat) (r : List UInt8), T.depth < n → rd n (T.txt ++ r) = some (T, r)
  | .leaf, n + 1, r, _ => by simp [Tr.txt, rd]
  | .node a b, n + 1, r, h => by
    have ha : a.depth < n := by simp only [Tr.depth] at h; omega
    have hb : b.depth < n := by simp only [Tr.depth] at h; omega
    have e : (Tr.node a b).txt ++ r = 40 :: (a.txt ++ (b.txt ++ 41 :: r)) := by simp [Tr.txt]
    rw [e]
    simp only [rd]
    rw [if_neg (by decide), if_pos trivial, rd_txt a n _ ha]
    simp only
    rw [rd_txt b n _ hb]
    rfl
theorem rd_txt' (T : Tr) (n : Nat) (h : T.depth < n) : rd n T.txt = some (T, []) := by have := rd_txt T n [] h; simpa using this
theorem rd_some : ∀ {n : Nat} {l : List UInt8} {T : Tr} {r : List UInt8}, rd n l = some (T, r) → l = T.txt ++ r ∧ T.depth < n := by
  intro n
  induction n with
  | zero => intro l T r h; simp [rd] at h
  | succ n ih =>
    intro l T r h
    cases l with
    | nil => simp [rd] at h
    | cons c l =>
      simp only [rd] at h
      split at h
      · rename_i hc; subst hc
        simp only [Option.some.injEq, Prod.mk.injEq] at h; obtain ⟨rfl, rfl⟩ := h; exact ⟨rfl, Nat.succ_pos _⟩
      · split at h
        · rename_i _ hc; subst hc
          split at h
          · simp at h
          · rename_i a l1 h1
            split at h
            · rename_i b l3 h2
              simp only [Option.some.injEq, Prod.mk.injEq] at h
              obtain ⟨rfl, rfl⟩ := h
              obtain ⟨rfl, d1⟩ := ih h1
              obtain ⟨rfl, d2⟩ := ih h2
              exact ⟨by simp [Tr.txt], by simp only [Tr.depth]; omega⟩
            · simp at h
        · simp at h
theorem rd_length {n l T r} (h : rd n l = some (T, r)) : r.length ≤ l.length := by
  obtain ⟨rfl, _⟩ := rd_some h
  simp
theorem txt_inj {a b : Tr} {r s : List UInt8} (h : a.txt ++ r = b.txt ++ s) : a = b ∧ r = s := by
  have h1 := rd_txt a (a.depth + b.depth + 1) r (by omega)
  have h2 := rd_txt b (a.depth + b.depth + 1) s (by omega)
  rw [h] at h1
  rw [h1] at h2
  simpa using h2
theorem tx_inj {a b : Tr} (h : tx a = tx b) : a = b := by
  have := S_inj h
  exact (txt_inj (r := []) (s := []) (by simpa using this)).1
def Rep (w : World) : Tr → Option Addr → Prop
  | .leaf, p => p = none
  | .node l r, p => ∃ b pl pr, p = some ⟨b, 0, none⟩ ∧ w.heap[b]? = some (.cells #[.pointer pl, .pointer pr] 94) ∧ Rep w l pl ∧ Rep w r pr
def Ext (w w' : World) : Prop := Below w.heap.size w w'
theorem Ext.refl (w : World) : Ext w w := Below.refl _ _
theorem Ext.trans {a b c : World} (h : Ext a b) (k : Ext b c) : Ext a c := Below.trans h (k.mono h.size)
theorem Ext.drewN {a b : World} (h : Ext a b) (n : Nat) : Ext a (b.drewN n) := ⟨h.os, h.tape, h.output, h.size, h.block⟩
theorem Ext.drew {a b : World} (h : Ext a b) : Ext a b.drew := ⟨h.os, h.tape, h.output, h.size, h.block⟩
theorem Ext.alloc {a b : World} (h : Ext a b) (o : Obj) : Ext a (b.alloc o) := Below.alloc h h.size o
theorem Ext.cell {a b : World} (h : Ext a b) {p : Addr} {v : Value} (hc : a.cell? p = some v) : b.cell? p = some v := (Below.cell h (World.block_lt_of_cell? a p hc)).trans hc
theorem Ext.heap {a b : World} (h : Ext a b) : a.heap.size ≤ b.heap.size := h.size
theorem Ext.at {a b : World} (h : Ext a b) {k : Nat} {o : Obj} (hc : a.heap[k]? = some o) : b.heap[k]? = some o := (h.block k (Array.getElem?_eq_some_iff.1 hc).1).trans hc
theorem Rep.ext {w w' : World} (h : Ext w w') : ∀ {T p}, Rep w T p → Rep w' T p
  | .leaf, _, hr => hr
  | .node _ _, _, ⟨b, pl, pr, e, h0, hl, hr⟩ => ⟨b, pl, pr, e, h.at h0, Rep.ext h hl, Rep.ext h hr⟩
theorem cells_of {w : World} {b : Nat} {u v : Value} {t : TypeId} (h : w.heap[b]? = some (.cells #[u, v] t)) : w.cell? ⟨b, 0, none⟩ = some u ∧ w.cell? ⟨b, 1, none⟩ = some v := by
  constructor <;> simp [World.cell?, h]
theorem Rep.open {w : World} {l r : Tr} {p : Option Addr} (h : Rep w (.node l r) p) : ∃ b pl pr, p = some ⟨b, 0, none⟩ ∧ w.cell? ⟨b, 0, none⟩ = some (.pointer pl) ∧ w.cell? ⟨b, 1, none⟩ = some (.pointer pr) ∧ Rep w l pl ∧ Rep w r pr := by
  obtain ⟨b, pl, pr, e, h0, hl, hr⟩ := h
  exact ⟨b, pl, pr, e, (cells_of h0).1, (cells_of h0).2, hl, hr⟩
theorem Rep.made' {w : World} {l r : Tr} {pl pr : Option Addr} {n : Nat} (hl : Rep w l pl) (hr : Rep w r pr) (hn : w.heap.size = n) : Rep (w.alloc (.cells #[.pointer pl, .pointer pr] 94)) (.node l r) (some ⟨n, 0, none⟩) :=
  ⟨n, pl, pr, rfl, by rw [← hn]; exact heap_alloc_new w _, hl.ext ((Ext.refl w).alloc _), hr.ext ((Ext.refl w).alloc _)⟩
theorem Rep.made {w : World} {l r : Tr} {pl pr : Option Addr} (hl : Rep w l pl) (hr : Rep w r pr) : Rep (w.alloc (.cells #[.pointer pl, .pointer pr] 94)) (.node l r) (some ⟨w.heap.size, 0, none⟩) := Rep.made' hl hr rfl
theorem Rep.far {w w' : World} {row : Option Nat} (hg : w.grownBy w' row) (hr : ∀ k, row = some k → ∃ cs e fr, w.heap[k]? = some (.cells cs e fr) ∧ e ≠ 94) : ∀ {T p}, Rep w T p → Rep w' T p
  | .leaf, _, h => h
  | .node _ _, _, ⟨b, pl, pr, e, h0, hl, hr'⟩ => ⟨b, pl, pr, e, (hg.block b (Array.getElem?_eq_some_iff.1 h0).1 (fun ek => by
      obtain ⟨cs, t, fr, h1, h2⟩ := hr b ek.symm
      rw [h1] at h0
      injection h0 with h0
      injection h0 with _ h3
      exact h2 h3)).trans h0, Rep.far hg hr hl, Rep.far hg hr hr'⟩
theorem Rep.none {w : World} {T : Tr} (h : Rep w T none) : T = .leaf := by
  cases T with
  | leaf => rfl
  | node l r => obtain ⟨_, _, _, e, _⟩ := h; cases e
theorem two_cells {w w' : World} {b : Nat} {pl pr : Option Addr} (h0 : w.cell? ⟨b, 0, none⟩ = some (.pointer pl)) (h1 : w.cell? ⟨b, 1, none⟩ = some (.pointer pr)) (h : Ext w w') : w'.cell? ⟨b, 0, none⟩ = some (.pointer pl) ∧ w'.cell? ⟨b, 1, none⟩ = some (.pointer pr) ∧ Ext w w' :=
  ⟨h.cell h0, h.cell h1, h⟩
theorem four_cells {w w' : World} {a b : Nat} {u0 u1 v0 v1 : Value} (h0 : w.cell? ⟨a, 0, none⟩ = some u0) (h1 : w.cell? ⟨a, 1, none⟩ = some u1) (g0 : w.cell? ⟨b, 0, none⟩ = some v0) (g1 : w.cell? ⟨b, 1, none⟩ = some v1) (h : Ext w w') :
    w'.cell? ⟨a, 0, none⟩ = some u0 ∧ w'.cell? ⟨a, 1, none⟩ = some u1 ∧ w'.cell? ⟨b, 0, none⟩ = some v0 ∧ w'.cell? ⟨b, 1, none⟩ = some v1 ∧ Ext w w' :=
  ⟨h.cell h0, h.cell h1, h.cell g0, h.cell g1, h⟩
def GivesT (w : World) (T : Tr) (e : Ending) (w' : World) : Prop := ∃ p, e = .returned (.pointer p) ∧ Rep w' T p ∧ Ext w w'
theorem max2_i (k k' : IntKind) (x y : Int) : Builtin.max2 (.int k x) (.int k' y) = pure (.int k (if x < y then y else x)) := by simp only [Builtin.max2, gt_iff_lt]
theorem max_two_ (ats : Array TypeId) (ty : TypeId) (a b : Value) : Builtin.max_ ats ty #[a, b] = (Builtin.max2 a b >>= fun s => pure s) := by simp only [Builtin.max_, List.foldlM_cons, List.foldlM_nil]
theorem wrap_ok {x : Int} (h : -9223372036854775808 ≤ x ∧ x ≤ 9223372036854775807) : IntKind.i64.wrap x = x := IntWalk.i64_in _ h
end Go.Proofs.YtdcipaaclpedhaaGreat.N
namespace Go.Proofs.YtdcipaaclpedhaaGreat.N
def expo : Tr → Nat → List Nat
  | .leaf, _ => []
  | .node .leaf .leaf, k => [k]
  | .node l r, k => expo l k ++ expo r (k + (l.carets + 1))
theorem expo_node {l r : Tr} (h : ¬ (l = .leaf ∧ r = .leaf)) (k : Nat) : expo (.node l r) k = expo l k ++ expo r (k + (l.carets + 1)) := by
  cases l with
  | leaf =>
    cases r with
    | leaf => exact absurd ⟨rfl, rfl⟩ h
    | node a b => simp [expo]
  | node a b => simp [expo]
def without : Tr → Nat → Tr
  | .leaf, _ => .leaf
  | .node .leaf .leaf, _ => .leaf
  | .node l r, k => if l.carets + 1 ≤ k then .node l (without r (k - (l.carets + 1))) else .node (without l k) r
theorem without_node {l r : Tr} (h : ¬ (l = .leaf ∧ r = .leaf)) (k : Nat) : without (.node l r) k = if l.carets + 1 ≤ k then .node l (without r (k - (l.carets + 1))) else .node (without l k) r := by
  cases l with
  | leaf =>
    cases r with
    | leaf => exact absurd ⟨rfl, rfl⟩ h
    | node a b => simp [without]
  | node a b => simp [without]
theorem nl_r (a b : Tr) : ¬ (Tr.leaf = .leaf ∧ Tr.node a b = .leaf) := fun h => by cases h.2
theorem nl_l (a b r : Tr) : ¬ (Tr.node a b = .leaf ∧ r = .leaf) := fun h => by cases h.1
theorem expo_shift : ∀ (T : Tr) (k j : Nat), expo T (k + j) = (expo T k).map (· + j)
  | .leaf, _, _ => rfl
  | .node .leaf .leaf, _, _ => rfl
  | .node .leaf (.node a b), k, j => by
    rw [expo_node (nl_r a b), expo_node (nl_r a b), List.map_append, expo_shift .leaf k j, ← expo_shift (.node a b), show k + j + (Tr.leaf.carets + 1) = k + (Tr.leaf.carets + 1) + j from by omega]
  | .node (.node a b) r, k, j => by
    rw [expo_node (nl_l a b r), expo_node (nl_l a b r), List.map_append, expo_shift (.node a b) k j, ← expo_shift r, show k + j + ((Tr.node a b).carets + 1) = k + ((Tr.node a b).carets + 1) + j from by omega]
theorem expo_range : ∀ (T : Tr) (k i : Nat), i ∈ expo T k → k ≤ i ∧ i < k + T.carets + 1 ∧ i + 1 ≤ k + T.carets
  | .leaf, _, _, h => by cases h
  | .node .leaf .leaf, k, i, h => by simp [expo] at h; subst h; simp [Tr.carets]; omega
  | .node .leaf (.node a b), k, i, h => by
    rw [expo_node (nl_r a b), List.mem_append] at h
    rcases h with h | h
    · cases h
    · have := expo_range _ _ _ h; have e : (Tr.node .leaf (.node a b)).carets = 1 + 0 + (Tr.node a b).carets := rfl; have e2 : Tr.leaf.carets = 0 := rfl; omega
  | .node (.node a b) r, k, i, h => by
    rw [expo_node (nl_l a b r), List.mem_append] at h
    have e : (Tr.node (.node a b) r).carets = 1 + (Tr.node a b).carets + r.carets := rfl
    rcases h with h | h
    · have := expo_range _ _ _ h; omega
    · have := expo_range _ _ _ h; omega
theorem expo_length : ∀ (T : Tr) (k : Nat), (expo T k).length ≤ T.carets
  | .leaf, _ => Nat.le_refl _
  | .node .leaf .leaf, _ => by simp [expo, Tr.carets]
  | .node .leaf (.node a b), k => by
    rw [expo_node (nl_r a b), List.length_append]; have := expo_length (.node a b) (k + (Tr.leaf.carets + 1)); simp only [expo, Tr.carets, List.length_nil] at *; omega
  | .node (.node a b) r, k => by
    rw [expo_node (nl_l a b r), List.length_append]; have h1 := expo_length (.node a b) k; have h2 := expo_length r (k + ((Tr.node a b).carets + 1)); have e : (Tr.node (.node a b) r).carets = 1 + (Tr.node a b).carets + r.carets := rfl; omega
theorem mem_expo_node {l r : Tr} (h : ¬ (l = .leaf ∧ r = .leaf)) {i : Nat} (hi : i ∈ expo (.node l r) 0) : (i < l.carets + 1 ∧ i ∈ expo l 0) ∨ (l.carets + 1 ≤ i ∧ i - (l.carets + 1) ∈ expo r 0) := by
  rw [expo_node h, List.mem_append] at hi
  rcases hi with hi | hi
  · have := expo_range _ _ _ hi; exact .inl ⟨by omega, hi⟩
  · have h2 := expo_range _ _ _ hi
    rw [expo_shift, List.mem_map] at hi
    obtain ⟨j, hj, rfl⟩ := hi
    exact .inr ⟨by omega, by rw [show j + (l.carets + 1) - (l.carets + 1) = j from by omega]; exact hj⟩
theorem without_carets : ∀ (T : Tr) (k : Nat), k ∈ expo T 0 → (without T k).carets + 1 = T.carets
  | .leaf, _, h => by cases h
  | .node .leaf .leaf, _, _ => rfl
  | .node .leaf (.node a b), k, h => by
    rcases mem_expo_node (nl_r a b) h with ⟨_, h⟩ | ⟨h1, h⟩
    · cases h
    · rw [without_node (nl_r a b), if_pos h1]; have := without_carets _ _ h; simp only [Tr.carets] at *; omega
  | .node (.node a b) r, k, h => by
    rcases mem_expo_node (nl_l a b r) h with ⟨h1, h⟩ | ⟨h1, h⟩
    · rw [without_node (nl_l a b r), if_neg (by omega)]; have := without_carets _ _ h; simp only [Tr.carets] at *; omega
    · rw [without_node (nl_l a b r), if_pos h1]; have := without_carets _ _ h; simp only [Tr.carets] at *; omega
def bothT (A B : Tr) : List Nat := (expo A 0).filter fun k => (expo B 0).contains k
theorem mem_both {A B : Tr} {k : Nat} (h : k ∈ bothT A B) : k ∈ expo A 0 ∧ k ∈ expo B 0 := by
  obtain ⟨h1, h2⟩ := List.mem_filter.1 h
  exact ⟨h1, by simpa using h2⟩
theorem both_length (A B : Tr) : (bothT A B).length ≤ A.carets := Nat.le_trans (List.length_filter_le _ _) (expo_length A 0)
def redF : Nat → Tr × Tr → Tr × Tr
  | 0, p => p
  | n + 1, p => match bothT p.1 p.2 with
    | [] => p
    | k :: _ => redF n (without p.1 k, without p.2 k)
def red (p : Tr × Tr) : Tr × Tr := redF p.1.carets p
theorem both_zero {A B : Tr} (h : A.carets = 0) : bothT A B = [] := by
  cases A with
  | leaf => rfl
  | node l r => simp only [Tr.carets] at h; omega
theorem redF_more : ∀ (n m : Nat) (p : Tr × Tr), p.1.carets ≤ n → p.1.carets ≤ m → redF n p = redF m p := by
  intro n
  induction n with
  | zero =>
    intro m p h1 _
    have hb : bothT p.1 p.2 = [] := both_zero (by omega)
    cases m with
    | zero => rfl
    | succ m => simp only [redF, hb]
  | succ n ih =>
    intro m p h1 h2
    cases m with
    | zero =>
      have hb : bothT p.1 p.2 = [] := both_zero (by omega)
      simp only [redF, hb]
    | succ m =>
      simp only [redF]
      cases hb : bothT p.1 p.2 with
      | nil => rfl
      | cons k l =>
        have := without_carets p.1 k (mem_both (by rw [hb]; exact List.mem_cons_self)).1
        exact ih m _ (by simp only; omega) (by simp only; omega)
theorem red_nil {p : Tr × Tr} (h : bothT p.1 p.2 = []) : red p = p := by
  unfold red
  cases p.1.carets with
  | zero => rfl
  | succ n => simp only [redF, h]
theorem red_cons {p : Tr × Tr} {k : Nat} {l : List Nat} (h : bothT p.1 p.2 = k :: l) : red p = red (without p.1 k, without p.2 k) := by
  have hc := without_carets p.1 k (mem_both (by rw [h]; exact List.mem_cons_self)).1
  unfold red
  obtain ⟨n, hn⟩ : ∃ n, p.1.carets = n + 1 := ⟨p.1.carets - 1, by omega⟩
  rw [hn]
  simp only [redF, h]
  exact redF_more _ _ _ (by simp only; omega) (by simp only; omega)
theorem redF_le : ∀ (n : Nat) (p : Tr × Tr), (redF n p).1.carets ≤ p.1.carets ∧ (redF n p).2.carets ≤ p.2.carets ∧ (p.1.carets = p.2.carets → (redF n p).1.carets = (redF n p).2.carets)
  | 0, p => ⟨Nat.le_refl _, Nat.le_refl _, fun h => h⟩
  | n + 1, p => by
    simp only [redF]
    cases hb : bothT p.1 p.2 with
    | nil => exact ⟨Nat.le_refl _, Nat.le_refl _, fun h => h⟩
    | cons k l =>
      obtain ⟨m1, m2⟩ := mem_both (A := p.1) (B := p.2) (k := k) (by rw [hb]; exact List.mem_cons_self)
      have h1 := without_carets p.1 k m1
      have h2 := without_carets p.2 k m2
      obtain ⟨a, b, c⟩ := redF_le n (without p.1 k, without p.2 k)
      simp only at a b c
      exact ⟨by simp only; omega, by simp only; omega, fun h => c (by omega)⟩
theorem red_le (p : Tr × Tr) : (red p).1.carets ≤ p.1.carets ∧ (red p).2.carets ≤ p.2.carets := ⟨(redF_le _ p).1, (redF_le _ p).2.1⟩
theorem red_same {p : Tr × Tr} (h : p.1.carets = p.2.carets) : (red p).1.carets = (red p).2.carets := (redF_le _ p).2.2 h
theorem redF_both : ∀ (n : Nat) (p : Tr × Tr), p.1.carets ≤ n → bothT (redF n p).1 (redF n p).2 = []
  | 0, p, h => both_zero (by simp only [redF]; omega)
  | n + 1, p, h => by
    simp only [redF]
    cases hb : bothT p.1 p.2 with
    | nil => exact hb
    | cons k l =>
      have h1 := without_carets p.1 k (mem_both (by rw [hb]; exact List.mem_cons_self)).1
      exact redF_both n _ (by simp only; omega)
theorem red_both (p : Tr × Tr) : bothT (red p).1 (red p).2 = [] := redF_both _ _ (Nat.le_refl _)
end Go.Proofs.YtdcipaaclpedhaaGreat.N
namespace Go.Proofs.YtdcipaaclpedhaaGreat.N
def rot (bk : Bool) : Tr → Option Tr
  | .leaf => none
  | .node l r =>
    if bk then match r with
      | .leaf => none
      | .node b c => some (.node (.node l b) c)
    else match l with
      | .leaf => none
      | .node a b => some (.node a (.node b r))
def turnT (bk : Bool) : List UInt8 → Tr → Option Tr
  | [], T => rot bk T
  | _ :: _, .leaf => none
  | c :: l, .node a b =>
    if c = 48 then (turnT bk l a).map (fun x => .node x b)
    else if c = 49 then (turnT bk l b).map (fun x => .node a x)
    else none
def Tr.places : Tr → List UInt8 → List (List UInt8)
  | .leaf, _ => []
  | .node l r, at_ => at_ :: (l.places (at_ ++ [48]) ++ r.places (at_ ++ [49]))
def Tr.turns (bk : Bool) (T : Tr) : List (List UInt8) := (T.places []).filter fun a => (turnT bk a T).isSome
theorem rot_carets {bk : Bool} {T T' : Tr} (h : rot bk T = some T') : T'.carets = T.carets := by
  cases T with
  | leaf => simp [rot] at h
  | node l r =>
    cases bk
    · cases l with
      | leaf => simp [rot] at h
      | node a b => simp [rot] at h; subst h; simp only [Tr.carets]; omega
    · cases r with
      | leaf => simp [rot] at h
      | node a b => simp [rot] at h; subst h; simp only [Tr.carets]; omega
theorem turnT_carets {bk : Bool} : ∀ {a : List UInt8} {T T' : Tr}, turnT bk a T = some T' → T'.carets = T.carets
  | [], T, T', h => rot_carets h
  | _ :: _, .leaf, T', h => by simp [turnT] at h
  | c :: l, .node a b, T', h => by
    simp only [turnT] at h
    split at h
    · obtain ⟨x, hx, rfl⟩ := Option.map_eq_some_iff.1 h
      simp only [Tr.carets, turnT_carets hx]
    · split at h
      · obtain ⟨x, hx, rfl⟩ := Option.map_eq_some_iff.1 h
        simp only [Tr.carets, turnT_carets hx]
      · cases h
theorem places_map : ∀ (T : Tr) (a b : List UInt8), T.places (a ++ b) = (T.places b).map (a ++ ·)
  | .leaf, _, _ => rfl
  | .node l r, a, b => by
    simp only [Tr.places, List.map_cons, List.map_append, List.append_assoc]
    rw [places_map l a (b ++ [48]), places_map r a (b ++ [49])]
def Tr.step (T : Tr) : Option Tr := match T.turns false with
  | [] => none
  | a :: _ => turnT false a T
theorem filter_take {α : Type} (p : α → Bool) (l : List α) (k : Nat) (h : k < l.length) : (l.take (k + 1)).filter p = (l.take k).filter p ++ if p l[k] then [l[k]] else [] := by
  rw [List.take_add_one, List.getElem?_eq_getElem h, List.filter_append]
  simp only [Option.toList, List.filter_cons, List.filter_nil]
end Go.Proofs.YtdcipaaclpedhaaGreat.N
namespace Go.Proofs.YtdcipaaclpedhaaGreat.N
def exAt (p : Bool) (l : List UInt8) : Bool := p && (match l with | 46 :: 46 :: 41 :: _ => true | _ => false)
def exS : Bool → List UInt8 → Nat → List Nat
  | _, [], _ => []
  | p, c :: l, k => (if exAt p (c :: l) then [k] else []) ++ exS (c == 40) l (if c = 46 then k + 1 else k)
theorem exAt_false (l : List UInt8) : exAt false l = false := rfl
theorem exS_dot (p : Bool) (l : List UInt8) (k : Nat) : exS p (46 :: l) k = (if exAt p (46 :: l) then [k] else []) ++ exS false l (k + 1) := by
  rw [exS]; rfl
theorem exS_open (p : Bool) (l : List UInt8) (k : Nat) : exS p (40 :: l) k = exS true l k := by
  rw [exS]
  have : exAt p (40 :: l) = false := by cases p <;> rfl
  rw [this]; rfl
theorem exS_close (p : Bool) (l : List UInt8) (k : Nat) : exS p (41 :: l) k = exS false l k := by
  rw [exS]
  have : exAt p (41 :: l) = false := by cases p <;> rfl
  rw [this]; rfl
theorem txt_node_app (l r : Tr) (x : List UInt8) : (Tr.node l r).txt ++ x = 40 :: (l.txt ++ (r.txt ++ (41 :: x))) := by simp [Tr.txt]
theorem txt_head (l r : Tr) (x : List UInt8) : ∃ y, (Tr.node l r).txt ++ x = 40 :: y := ⟨_, txt_node_app l r x⟩
theorem exS_leaf (x : List UInt8) (k : Nat) : exS false (Tr.leaf.txt ++ x) k = exS false x (k + 1) := by
  show exS false (46 :: x) k = _
  rw [exS_dot, exAt_false]; rfl
theorem exS_node : ∀ (T : Tr), T ≠ .leaf → ∀ (p : Bool) (x : List UInt8) (k : Nat), exS p (T.txt ++ x) k = expo T k ++ exS false x (k + (T.carets + 1))
  | .leaf, h, _, _, _ => absurd rfl h
  | .node .leaf .leaf, _, p, x, k => by
    rw [txt_node_app, exS_open]
    show exS true (46 :: (46 :: (41 :: x))) k = _
    rw [exS_dot, exS_dot, exAt_false, exS_close]
    simp [exAt, expo, Tr.carets]
  | .node .leaf (.node a b), _, p, x, k => by
    rw [txt_node_app, exS_open]
    show exS true (46 :: ((Tr.node a b).txt ++ (41 :: x))) k = _
    have hx : exAt true (46 :: ((Tr.node a b).txt ++ (41 :: x))) = false := by
      obtain ⟨y, hy⟩ := txt_head a b (41 :: x)
      rw [hy]; rfl
    rw [exS_dot, hx, exS_node (.node a b) (by simp), exS_close, expo_node (nl_r a b)]
    simp only [expo, Tr.carets, List.nil_append, Bool.false_eq_true, if_false, Nat.zero_add]
    congr 2
    omega
  | .node (.node a b) .leaf, _, p, x, k => by
    rw [txt_node_app, exS_open, exS_node (.node a b) (by simp), exS_leaf, exS_close, expo_node (nl_l a b .leaf)]
    simp only [expo, Tr.carets, List.append_nil]
    congr 2
    omega
  | .node (.node a b) (.node c d), _, p, x, k => by
    rw [txt_node_app, exS_open, exS_node (.node a b) (by simp), exS_node (.node c d) (by simp), exS_close, expo_node (nl_l a b _), List.append_assoc]
    congr 2
    simp only [Tr.carets]
    congr 1
    omega
theorem exS_txt (T : Tr) : exS false T.txt 0 = expo T 0 := by
  cases T with
  | leaf => rfl
  | node l r =>
    have := exS_node (.node l r) (by simp) false [] 0
    rw [List.append_nil] at this
    rw [this]; simp [exS]
def dots (l : List UInt8) : Nat := l.countP (fun c => c == 46)
theorem dots_app (a b : List UInt8) : dots (a ++ b) = dots a + dots b := List.countP_append ..
theorem dots_txt : ∀ T : Tr, dots T.txt = T.carets + 1
  | .leaf => rfl
  | .node l r => by
    have h1 := dots_txt l; have h2 := dots_txt r
    simp only [dots] at h1 h2
    simp [dots, Tr.txt, Tr.carets, List.countP_cons, List.countP_append, h1, h2]; omega
theorem drop_txt : ∀ (T : Tr) (k : Nat), k ∈ expo T 0 → ∃ a b, T.txt = a ++ 40 :: 46 :: 46 :: 41 :: b ∧ (without T k).txt = a ++ 46 :: b ∧ dots a = k
  | .leaf, _, h => by cases h
  | .node .leaf .leaf, k, h => by
    simp [expo] at h
    subst h
    exact ⟨[], [], rfl, rfl, rfl⟩
  | .node .leaf (.node c d), k, h => by
    rcases mem_expo_node (nl_r c d) h with ⟨_, h⟩ | ⟨h1, h⟩
    · cases h
    · obtain ⟨a, b, e1, e2, e3⟩ := drop_txt _ _ h
      refine ⟨40 :: 46 :: a, b ++ [41], ?_, ?_, ?_⟩
      · show 40 :: (46 :: ((Tr.node c d).txt ++ [41])) = _
        rw [e1]; simp
      · rw [without_node (nl_r c d), if_pos h1]
        show 40 :: (46 :: ((without (.node c d) _).txt ++ [41])) = _
        rw [e2]; simp
      · simp only [Tr.carets] at h1 e3
        simp only [dots, List.countP_cons] at e3 ⊢
        simp; omega
  | .node (.node c d) r, k, h => by
    rcases mem_expo_node (nl_l c d r) h with ⟨h1, h⟩ | ⟨h1, h⟩
    · obtain ⟨a, b, e1, e2, e3⟩ := drop_txt _ _ h
      refine ⟨40 :: a, b ++ (r.txt ++ [41]), ?_, ?_, ?_⟩
      · show 40 :: ((Tr.node c d).txt ++ (r.txt ++ [41])) = _
        rw [e1]; simp
      · rw [without_node (nl_l c d r), if_neg (by omega)]
        show 40 :: ((without (.node c d) k).txt ++ (r.txt ++ [41])) = _
        rw [e2]; simp
      · simp only [dots, List.countP_cons] at e3 ⊢
        simp; omega
    · obtain ⟨a, b, e1, e2, e3⟩ := drop_txt _ _ h
      refine ⟨40 :: ((Tr.node c d).txt ++ a), b ++ [41], ?_, ?_, ?_⟩
      · show 40 :: ((Tr.node c d).txt ++ (r.txt ++ [41])) = _
        rw [e1]; simp
      · rw [without_node (nl_l c d r), if_pos h1]
        show 40 :: ((Tr.node c d).txt ++ ((without r _).txt ++ [41])) = _
        rw [e2]; simp
      · have hd := dots_txt (.node c d)
        simp only [dots] at e3 hd
        simp only [dots, List.countP_cons, List.countP_append, hd, e3]
        simp; omega
def prev (l : List UInt8) (i : Nat) : Bool := decide (0 < i) && l[i - 1]? == some 40
theorem prev_step (l : List UInt8) (i : Nat) (c : UInt8) (h : l[i]? = some c) : prev l (i + 1) = (c == 40) := by
  simp [prev, h]
theorem ex_test (l : List UInt8) (i : Nat) (h : i < l.length) : exAt (prev l i) (l.drop i) = decide (0 < i ∧ i + 2 < l.length ∧ (l.take (i + 3)).drop (i - 1) = [40, 46, 46, 41]) := by
  rcases Nat.eq_zero_or_pos i with h0 | h0
  · subst h0; simp [prev, exAt]
  · obtain ⟨j, rfl⟩ : ∃ j, i = j + 1 := ⟨i - 1, by omega⟩
    have hj : j < l.length := by omega
    have e0 : l.drop j = l[j] :: l.drop (j + 1) := List.drop_eq_getElem_cons hj
    have e1 : (l.take (j + 1 + 3)).drop (j + 1 - 1) = (l.drop j).take 4 := by rw [List.drop_take]; congr 1; omega
    have e2 : prev l (j + 1) = (l[j] == 40) := prev_step l j _ (List.getElem?_eq_getElem hj)
    rw [e1, e2, e0, Bool.eq_iff_iff, decide_eq_true_eq]
    have hl : (l.drop (j + 1)).length = l.length - (j + 1) := List.length_drop ..
    generalize l.drop (j + 1) = m at *
    generalize l[j] = x at *
    constructor
    · intro hh
      simp only [exAt, Bool.and_eq_true, beq_iff_eq] at hh
      obtain ⟨rfl, h2⟩ := hh
      split at h2
      · simp only [List.length_cons] at hl
        exact ⟨by omega, by omega, rfl⟩
      · cases h2
    · rintro ⟨_, h3, h4⟩
      simp only [List.take_succ_cons, List.cons.injEq] at h4
      obtain ⟨rfl, h4⟩ := h4
      match m, h4 with
      | a :: b :: c :: m', h4 =>
        simp only [List.take_succ_cons, List.take_zero, List.cons.injEq, and_true] at h4
        obtain ⟨rfl, rfl, rfl⟩ := h4
        rfl
      | [], h4 => simp at h4
      | [a], h4 => simp at h4
      | [a, b], h4 => simp at h4
theorem exS_step (l : List UInt8) (i k : Nat) (c : UInt8) (h : l[i]? = some c) : exS (prev l i) (l.drop i) k = (if exAt (prev l i) (l.drop i) then [k] else []) ++ exS (prev l (i + 1)) (l.drop (i + 1)) (if c = 46 then k + 1 else k) := by
  have hi : i < l.length := (List.getElem?_eq_some_iff.1 h).1
  have e : l.drop i = c :: l.drop (i + 1) := by rw [List.drop_eq_getElem_cons hi]; congr 1; exact (List.getElem?_eq_some_iff.1 h).2
  rw [e, exS, prev_step l i c h]
end Go.Proofs.YtdcipaaclpedhaaGreat.N
namespace Go.Proofs.YtdcipaaclpedhaaGreat.N
def Tr.grown (h : Nat → Tr) : Tr → Nat → Tr
  | .leaf, k => h k
  | .node l r, k => .node (l.grown h k) (r.grown h (k + (l.carets + 1)))
def graft (T : Tr) (k : Nat) (O : Tr) : Tr := T.grown (fun i => if i = k then O else .leaf) 0
def comb : Nat → Tr
  | 0 => .leaf
  | n + 1 => .node .leaf (comb n)
theorem comb_carets : ∀ n, (comb n).carets = n
  | 0 => rfl
  | n + 1 => by simp only [comb, Tr.carets, comb_carets n]; omega
def gen (i : Nat) : Tr × Tr := (graft (comb i) i (.node (.node .leaf .leaf) .leaf), comb (i + 2))
theorem grown_same (h : Nat → Tr) : ∀ (T : Tr) (k : Nat), (∀ i, k ≤ i → i < k + (T.carets + 1) → h i = .leaf) → T.grown h k = T
  | .leaf, k, hh => hh k (Nat.le_refl _) (by simp [Tr.carets])
  | .node l r, k, hh => by
    simp only [Tr.grown]
    rw [grown_same h l k (fun i h1 h2 => hh i h1 (by simp only [Tr.carets]; omega)), grown_same h r _ (fun i h1 h2 => hh i (by omega) (by simp only [Tr.carets]; omega))]
theorem graft_txt (O : Tr) (n : Nat) : ∀ (T : Tr) (k : Nat), k ≤ n → n < k + (T.carets + 1) → ∃ a b, T.txt = a ++ 46 :: b ∧ (T.grown (fun i => if i = n then O else .leaf) k).txt = a ++ (O.txt ++ b) ∧ k + dots a = n
  | .leaf, k, h1, h2 => by
    have : k = n := by simp only [Tr.carets] at h2; omega
    subst this
    exact ⟨[], [], rfl, by simp [Tr.grown], rfl⟩
  | .node l r, k, h1, h2 => by
    by_cases hl : n < k + (l.carets + 1)
    · obtain ⟨a, b, e1, e2, e3⟩ := graft_txt O n l k h1 hl
      have e4 : r.grown (fun i => if i = n then O else .leaf) (k + (l.carets + 1)) = r := grown_same _ r _ (fun i g1 g2 => if_neg (by omega))
      refine ⟨40 :: a, b ++ (r.txt ++ [41]), ?_, ?_, ?_⟩
      · show 40 :: (l.txt ++ (r.txt ++ [41])) = _
        rw [e1]; simp
      · simp only [Tr.grown, e4]
        show 40 :: ((l.grown _ k).txt ++ (r.txt ++ [41])) = _
        rw [e2]; simp
      · simp only [dots, List.countP_cons] at e3 ⊢
        simp; omega
    · obtain ⟨a, b, e1, e2, e3⟩ := graft_txt O n r (k + (l.carets + 1)) (by omega) (by simp only [Tr.carets] at h2; omega)
      have e4 : l.grown (fun i => if i = n then O else .leaf) k = l := grown_same _ l _ (fun i g1 g2 => if_neg (by omega))
      refine ⟨40 :: (l.txt ++ a), b ++ [41], ?_, ?_, ?_⟩
      · show 40 :: (l.txt ++ (r.txt ++ [41])) = _
        rw [e1]; simp
      · simp only [Tr.grown, e4]
        show 40 :: (l.txt ++ ((r.grown _ _).txt ++ [41])) = _
        rw [e2]; simp
      · have hd := dots_txt l
        simp only [dots] at e3 hd
        simp only [dots, List.countP_cons, List.countP_append, hd]
        simp; omega
theorem grown_one (O : Tr) (n : Nat) : ∀ (T : Tr) (k : Nat), k ≤ n → n < k + (T.carets + 1) → (T.grown (fun i => if i = n then O else .leaf) k).carets = T.carets + O.carets
  | .leaf, k, h1, h2 => by
    have : k = n := by simp only [Tr.carets] at h2; omega
    subst this
    simp [Tr.grown, Tr.carets]
  | .node l r, k, h1, h2 => by
    simp only [Tr.carets] at h2
    by_cases hl : n < k + (l.carets + 1)
    · have e4 : r.grown (fun i => if i = n then O else .leaf) (k + (l.carets + 1)) = r := grown_same _ r _ (fun i g1 g2 => if_neg (by omega))
      have := grown_one O n l k h1 hl
      simp only [Tr.grown, e4, Tr.carets, this]; omega
    · have e4 : l.grown (fun i => if i = n then O else .leaf) k = l := grown_same _ l _ (fun i g1 g2 => if_neg (by omega))
      have := grown_one O n r (k + (l.carets + 1)) (by omega) (by omega)
      simp only [Tr.grown, e4, Tr.carets, this]; omega
theorem gen_carets (i : Nat) : (gen i).1.carets = i + 2 ∧ (gen i).2.carets = i + 2 := by
  refine ⟨?_, comb_carets _⟩
  show ((comb i).grown _ 0).carets = _
  rw [grown_one _ i (comb i) 0 (Nat.zero_le _) (by rw [comb_carets]; omega), comb_carets]; rfl
end Go.Proofs.YtdcipaaclpedhaaGreat.N
namespace Go.Proofs.YtdcipaaclpedhaaGreat.N
def fillP : List UInt8 → List ByteArray → List UInt8
  | [], _ => []
  | c :: l, ps => if c = 46 then (match ps with | p :: ps' => p.toList ++ fillP l ps' | [] => fillP l []) else c :: fillP l ps
theorem fillP_dot (l : List UInt8) (p : ByteArray) (ps : List ByteArray) : fillP (46 :: l) (p :: ps) = p.toList ++ fillP l ps := by simp [fillP]
theorem fillP_other (c : UInt8) (l : List UInt8) (ps : List ByteArray) (h : c ≠ 46) : fillP (c :: l) ps = c :: fillP l ps := by simp [fillP, h]
theorem fill_step_dot (l : List UInt8) (ps : List ByteArray) (j k : Nat) (hj : l[j]? = some 46) (hk : k < ps.length) : fillP (l.drop j) (ps.drop k) = ps[k].toList ++ fillP (l.drop (j + 1)) (ps.drop (k + 1)) := by
  obtain ⟨h1, h2⟩ := List.getElem?_eq_some_iff.1 hj
  rw [List.drop_eq_getElem_cons h1, List.drop_eq_getElem_cons hk, h2, fillP_dot]
theorem fill_step_other (l : List UInt8) (ps : List ByteArray) (j k : Nat) (c : UInt8) (hj : l[j]? = some c) (hc : c ≠ 46) : fillP (l.drop j) (ps.drop k) = c :: fillP (l.drop (j + 1)) (ps.drop k) := by
  obtain ⟨h1, h2⟩ := List.getElem?_eq_some_iff.1 hj
  rw [List.drop_eq_getElem_cons h1, h2, fillP_other _ _ _ hc]
theorem dots_lt (l : List UInt8) (j : Nat) (hj : l[j]? = some 46) : dots (l.take j) < dots l := by
  obtain ⟨h1, h2⟩ := List.getElem?_eq_some_iff.1 hj
  have h3 := List.take_append_drop j l
  rw [List.drop_eq_getElem_cons h1, h2] at h3
  have h4 : dots l = dots (l.take j) + dots (46 :: l.drop (j + 1)) := by rw [← dots_app, h3]
  have h6 : dots (46 :: l.drop (j + 1)) = dots (l.drop (j + 1)) + 1 := by simp [dots]
  omega
end Go.Proofs.YtdcipaaclpedhaaGreat.N
namespace Go.Proofs.YtdcipaaclpedhaaGreat.N
theorem both_nil {A B : Tr} : bothT A B = [] ↔ ∀ k, k ∈ expo A 0 → k ∈ expo B 0 → False := by
  unfold bothT
  rw [List.filter_eq_nil_iff]
  constructor
  · intro h k h1 h2; exact h k h1 (by simpa using h2)
  · intro h k h1 h2; exact h k h1 (by simpa using h2)
def join : Tr → Tr → Tr
  | .leaf, b => b
  | .node l r, .leaf => .node l r
  | .node l r, .node a b => .node (join l a) (join r b)
def Part : Tr → Tr → Prop
  | .leaf, _ => True
  | .node _ _, .leaf => False
  | .node l r, .node a b => Part l a ∧ Part r b
theorem part_refl : ∀ T : Tr, Part T T
  | .leaf => trivial
  | .node l r => ⟨part_refl l, part_refl r⟩
theorem part_join_l : ∀ a b : Tr, Part a (join a b)
  | .leaf, b => trivial
  | .node l r, .leaf => part_refl (.node l r)
  | .node l r, .node a b => ⟨part_join_l l a, part_join_l r b⟩
theorem part_join_r : ∀ a b : Tr, Part b (join a b)
  | .leaf, b => part_refl b
  | .node l r, .leaf => trivial
  | .node l r, .node a b => ⟨part_join_r l a, part_join_r r b⟩
theorem join_carets : ∀ a b : Tr, (join a b).carets ≤ a.carets + b.carets
  | .leaf, b => by simp only [join, Tr.carets]; omega
  | .node l r, .leaf => by simp only [join, Tr.carets]; omega
  | .node l r, .node a b => by have := join_carets l a; have := join_carets r b; simp only [join, Tr.carets]; omega
def partsT : Tr → Tr → List Tr
  | .leaf, w => [w]
  | .node _ _, .leaf => []
  | .node l r, .node a b => partsT l a ++ partsT r b
theorem parts_length : ∀ t w : Tr, Part t w → (partsT t w).length = t.carets + 1
  | .leaf, w, _ => rfl
  | .node _ _, .leaf, h => h.elim
  | .node l r, .node a b, h => by simp only [partsT, List.length_append, parts_length l a h.1, parts_length r b h.2, Tr.carets]; omega
def sumc (L : List Tr) : Nat := (L.map Tr.carets).sum
theorem sumc_append (a b : List Tr) : sumc (a ++ b) = sumc a + sumc b := by simp [sumc]
theorem sumc_cons (a : Tr) (b : List Tr) : sumc (a :: b) = a.carets + sumc b := by simp [sumc]
theorem parts_sum : ∀ t w : Tr, Part t w → t.carets + sumc (partsT t w) = w.carets
  | .leaf, w, _ => by simp [partsT, sumc, Tr.carets]
  | .node _ _, .leaf, h => h.elim
  | .node l r, .node a b, h => by have := parts_sum l a h.1; have := parts_sum r b h.2; simp only [partsT, sumc_append, Tr.carets]; omega
theorem sumc_mem {L : List Tr} {t : Tr} (h : t ∈ L) : t.carets ≤ sumc L := by
  induction L with
  | nil => cases h
  | cons a L ih =>
    rw [sumc_cons]
    rcases List.mem_cons.1 h with rfl | h
    · omega
    · have := ih h; omega
theorem parts_le {t w p : Tr} (h : Part t w) (hp : p ∈ partsT t w) : p.carets ≤ w.carets := by have := sumc_mem hp; have := parts_sum t w h; omega
def fill (T : Tr) (L : List Tr) : Tr := T.grown (fun i => L.getD i .leaf) 0
theorem grown_sum (L : List Tr) : ∀ (T : Tr) (k : Nat), k + T.carets < L.length → (T.grown (fun i => L.getD i .leaf) k).carets = T.carets + sumc ((L.drop k).take (T.carets + 1))
  | .leaf, k, h => by
    simp only [Tr.carets] at h
    rw [List.drop_eq_getElem_cons (by omega)]
    simp only [Tr.grown, Tr.carets, List.take_succ_cons, List.take_zero, sumc_cons]
    rw [List.getD_eq_getElem?_getD, List.getElem?_eq_getElem (by omega)]
    simp [sumc]
  | .node l r, k, h => by
    simp only [Tr.carets] at h
    have h1 := grown_sum L l k (by omega)
    have h2 := grown_sum L r (k + (l.carets + 1)) (by omega)
    have e : (Tr.node l r).carets + 1 = (l.carets + 1) + (r.carets + 1) := by simp only [Tr.carets]; omega
    rw [e, List.take_add, sumc_append, List.drop_drop]
    simp only [Tr.grown, Tr.carets]
    omega
theorem fill_carets (T : Tr) (L : List Tr) (h : L.length = T.carets + 1) : (fill T L).carets = T.carets + sumc L := by
  unfold fill
  rw [grown_sum L T 0 (by omega), List.drop_zero, List.take_of_length_le (by omega)]
theorem fill_txt (L : List Tr) : ∀ (T : Tr) (k : Nat) (x : List UInt8), k + T.carets < L.length → fillP (T.txt ++ x) ((L.drop k).map tx) = (T.grown (fun i => L.getD i .leaf) k).txt ++ fillP x ((L.drop (k + (T.carets + 1))).map tx)
  | .leaf, k, x, h => by
    simp only [Tr.carets] at h
    rw [List.drop_eq_getElem_cons (show k < L.length by omega), List.map_cons]
    show fillP (46 :: x) _ = _
    rw [fillP_dot]
    simp only [Tr.grown, Tr.carets, Nat.zero_add]
    rw [List.getD_eq_getElem?_getD, List.getElem?_eq_getElem (by omega), show (tx L[k]).toList = L[k].txt from S_toList _]
    rfl
  | .node l r, k, x, h => by
    simp only [Tr.carets] at h
    rw [txt_node_app, fillP_other _ _ _ (by decide), fill_txt L l k _ (by omega), fill_txt L r (k + (l.carets + 1)) _ (by omega), fillP_other _ _ _ (by decide)]
    have e : k + (l.carets + 1) + (r.carets + 1) = k + ((Tr.node l r).carets + 1) := by simp only [Tr.carets]; omega
    rw [e]
    simp [Tr.grown, Tr.txt]
theorem fillP_txt (T : Tr) (L : List Tr) (h : L.length = T.carets + 1) : fillP T.txt (L.map tx) = (fill T L).txt := by
  have := fill_txt L T 0 [] (by omega)
  rw [List.append_nil, List.drop_zero] at this
  rw [this]
  simp [fill, fillP]
def addrs : Tr → List UInt8 → List (List UInt8)
  | .leaf, a => [a]
  | .node l r, a => addrs l (a ++ [48]) ++ addrs r (a ++ [49])
def atT : List UInt8 → Tr → Option Tr
  | [], t => some t
  | _ :: _, .leaf => none
  | c :: l, .node a b => if c = 48 then atT l a else if c = 49 then atT l b else none
theorem addrs_length : ∀ (T : Tr) (a : List UInt8), (addrs T a).length = T.carets + 1
  | .leaf, _ => rfl
  | .node l r, a => by simp only [addrs, List.length_append, addrs_length l, addrs_length r, Tr.carets]; omega
theorem addrs_pre : ∀ (T : Tr) (p a : List UInt8), addrs T (p ++ a) = (addrs T a).map (p ++ ·)
  | .leaf, p, a => rfl
  | .node l r, p, a => by simp only [addrs, List.map_append, List.append_assoc, addrs_pre l p, addrs_pre r p]
theorem addrs_depth : ∀ (T : Tr) (a x : List UInt8), x ∈ addrs T a → x.length ≤ a.length + T.depth
  | .leaf, a, x, h => by simp [addrs] at h; subst h; simp [Tr.depth]
  | .node l r, a, x, h => by
    simp only [addrs, List.mem_append] at h
    simp only [Tr.depth]
    rcases h with h | h
    · have := addrs_depth l _ x h; simp at this; omega
    · have := addrs_depth r _ x h; simp at this; omega
theorem at_parts : ∀ (t w : Tr), Part t w → ∀ (i : Nat) (a : List UInt8), (addrs t [])[i]? = some a → atT a w = (partsT t w)[i]?
  | .leaf, w, _, i, a, h => by
    cases i with
    | zero => simp [addrs] at h; subst h; rfl
    | succ i => simp [addrs] at h
  | .node _ _, .leaf, h, _, _, _ => h.elim
  | .node l r, .node a b, h, i, x, hx => by
    simp only [addrs, List.nil_append] at hx
    rw [show addrs l [48] = (addrs l []).map ([48] ++ ·) from addrs_pre l [48] [], show addrs r [49] = (addrs r []).map ([49] ++ ·) from addrs_pre r [49] [], List.getElem?_append] at hx
    simp only [List.length_map, addrs_length] at hx
    simp only [partsT]
    rw [List.getElem?_append, parts_length l a h.1]
    split at hx
    · rename_i hi
      rw [if_pos hi]
      rw [List.getElem?_map, Option.map_eq_some_iff] at hx
      obtain ⟨y, hy, rfl⟩ := hx
      have := at_parts l a h.1 i y hy
      simpa [atT] using this
    · rename_i hi
      rw [if_neg hi]
      rw [List.getElem?_map, Option.map_eq_some_iff] at hx
      obtain ⟨y, hy, rfl⟩ := hx
      have := at_parts r b h.2 _ y hy
      simpa [atT] using this
def mul0 (p q : Tr × Tr) : Tr × Tr := (fill p.1 (partsT p.2 (join p.2 q.1)), fill q.2 (partsT q.1 (join p.2 q.1)))
def mul (p q : Tr × Tr) : Tr × Tr := red (mul0 p q)
theorem mul0_carets {p q : Tr × Tr} (hp : p.1.carets = p.2.carets) (hq : q.1.carets = q.2.carets) : (mul0 p q).1.carets = (join p.2 q.1).carets ∧ (mul0 p q).2.carets = (join p.2 q.1).carets := by
  have h1 := part_join_l p.2 q.1
  have h2 := part_join_r p.2 q.1
  have l1 := parts_length _ _ h1
  have l2 := parts_length _ _ h2
  have s1 := parts_sum _ _ h1
  have s2 := parts_sum _ _ h2
  unfold mul0
  simp only
  rw [fill_carets _ _ (by omega), fill_carets _ _ (by omega)]
  omega
theorem mul_carets {p q : Tr × Tr} (hp : p.1.carets = p.2.carets) (hq : q.1.carets = q.2.carets) : (mul p q).1.carets = (mul p q).2.carets ∧ (mul p q).2.carets ≤ p.2.carets + q.1.carets := by
  obtain ⟨h1, h2⟩ := mul0_carets hp hq
  have h3 := red_same (p := mul0 p q) (by rw [h1, h2])
  have h4 := red_le (mul0 p q)
  have h5 := join_carets p.2 q.1
  unfold mul
  exact ⟨h3, by omega⟩
end Go.Proofs.YtdcipaaclpedhaaGreat.N
namespace Go.Proofs.YtdcipaaclpedhaaGreat.N
abbrev Str := Nat → Bool
def scons (b : Bool) (s : Str) : Str := fun n => match n with | 0 => b | n + 1 => s n
def stail (s : Str) : Str := fun n => s (n + 1)
def sapp : List Bool → Str → Str
  | [], s => s
  | b :: l, s => scons b (sapp l s)
theorem scons_head (b : Bool) (s : Str) : scons b s 0 = b := rfl
theorem stail_scons (b : Bool) (s : Str) : stail (scons b s) = s := rfl
theorem scons_eta (s : Str) : scons (s 0) (stail s) = s := by funext n; cases n <;> rfl
theorem scons_inj {a b : Bool} {s t : Str} (h : scons a s = scons b t) : a = b ∧ s = t := ⟨congrFun h 0, by have := congrArg stail h; exact this⟩
theorem sapp_app (a b : List Bool) (s : Str) : sapp (a ++ b) s = sapp a (sapp b s) := by
  induction a with
  | nil => rfl
  | cons x a ih => simp only [List.cons_append, sapp, ih]
theorem sapp_cancel : ∀ (a b : List Bool), (∀ s, sapp a s = sapp b s) → a = b
  | [], [], _ => rfl
  | [], x :: b, h => by have := congrFun (h (fun _ => !x)) 0; simp [sapp, scons] at this
  | x :: a, [], h => by have := congrFun (h (fun _ => !x)) 0; simp [sapp, scons] at this
  | x :: a, y :: b, h => by
    have h0 := (scons_inj (h fun _ => true)).1
    rw [h0, sapp_cancel a b fun s => (scons_inj (h s)).2]
def adr : Tr → Nat → List Bool
  | .leaf, _ => []
  | .node l r, k => if k < l.carets + 1 then false :: adr l k else true :: adr r (k - (l.carets + 1))
def find : Tr → Str → Nat × Str
  | .leaf, s => (0, s)
  | .node l r, s => if s 0 = false then find l (stail s) else ((find r (stail s)).1 + (l.carets + 1), (find r (stail s)).2)
theorem find_le : ∀ (T : Tr) (s : Str), (find T s).1 ≤ T.carets
  | .leaf, s => Nat.le_refl _
  | .node l r, s => by
    have := find_le l (stail s)
    have := find_le r (stail s)
    simp only [find, Tr.carets]
    split
    · omega
    · simp only; omega
theorem adr_find : ∀ (T : Tr) (s : Str), sapp (adr T (find T s).1) (find T s).2 = s
  | .leaf, s => rfl
  | .node l r, s => by
    have h1 := find_le l (stail s)
    simp only [find]
    split
    · rename_i h
      simp only [adr]
      rw [if_pos (by omega)]
      simp only [sapp, adr_find l (stail s)]
      rw [← h, scons_eta]
    · rename_i h
      simp only [adr]
      rw [if_neg (by omega), Nat.add_sub_cancel]
      simp only [sapp, adr_find r (stail s)]
      rw [← show s 0 = true by cases e : s 0 with | true => rfl | false => exact absurd e h, scons_eta]
theorem find_adr : ∀ (T : Tr) (k : Nat) (s : Str), k ≤ T.carets → find T (sapp (adr T k) s) = (k, s)
  | .leaf, k, s, h => by
    have : k = 0 := by simp only [Tr.carets] at h; omega
    subst this; rfl
  | .node l r, k, s, h => by
    simp only [Tr.carets] at h
    simp only [adr]
    split
    · rename_i hk
      simp only [sapp, find, scons_head, stail_scons, if_true]
      exact find_adr l k s (by omega)
    · rename_i hk
      simp only [sapp, find, scons_head, stail_scons, Bool.true_eq_false, if_false]
      rw [find_adr r _ s (by omega)]
      simp only [Prod.mk.injEq, and_true]; omega
def act (p : Tr × Tr) (s : Str) : Str := sapp (adr p.2 (find p.1 s).1) (find p.1 s).2
theorem act_at (p : Tr × Tr) (k : Nat) (hk : k ≤ p.1.carets) (s : Str) : act p (sapp (adr p.1 k) s) = sapp (adr p.2 k) s := by
  unfold act; rw [find_adr p.1 k s hk]
def off (L : List Tr) : Nat → Nat
  | 0 => 0
  | k + 1 => off L k + ((L.getD k .leaf).carets + 1)
theorem off_grown (L : List Tr) : ∀ (T : Tr) (k : Nat), off L (k + (T.carets + 1)) = off L k + ((T.grown (fun i => L.getD i .leaf) k).carets + 1)
  | .leaf, k => rfl
  | .node l r, k => by
    have h1 := off_grown L l k
    have h2 := off_grown L r (k + (l.carets + 1))
    simp only [Tr.grown, Tr.carets]
    rw [show k + (1 + l.carets + r.carets + 1) = k + (l.carets + 1) + (r.carets + 1) by omega, h2, h1]; omega
theorem off_mono (L : List Tr) : ∀ (j k : Nat), off L k ≤ off L (k + j)
  | 0, k => Nat.le_refl _
  | j + 1, k => by
    have := off_mono L j k
    rw [← Nat.add_assoc]; simp only [off]; omega
theorem off_lt (L : List Tr) {k m : Nat} (h : k < m) : off L k + ((L.getD k .leaf).carets + 1) ≤ off L m := by
  have := off_mono L (m - (k + 1)) (k + 1)
  rw [show k + 1 + (m - (k + 1)) = m by omega] at this
  simpa [off] using this
theorem grown_adr (L : List Tr) : ∀ (T : Tr) (b k j : Nat), k ≤ T.carets → j ≤ (L.getD (b + k) .leaf).carets → adr (T.grown (fun i => L.getD i .leaf) b) (off L (b + k) - off L b + j) = adr T k ++ adr (L.getD (b + k) .leaf) j
  | .leaf, b, k, j, hk, hj => by
    have : k = 0 := by simp only [Tr.carets] at hk; omega
    subst this
    simp [Tr.grown, adr]
  | .node l r, b, k, j, hk, hj => by
    simp only [Tr.carets] at hk
    have ho := off_grown L l b
    have h0 := off_mono L k b
    simp only [Tr.grown, adr]
    by_cases h : k < l.carets + 1
    · have h1 := off_lt L (show b + k < b + (l.carets + 1) by omega)
      rw [if_pos (by omega), if_pos h, grown_adr L l b k j (by omega) hj]; rfl
    · have h1 := off_mono L (k - (l.carets + 1)) (b + (l.carets + 1))
      rw [show b + (l.carets + 1) + (k - (l.carets + 1)) = b + k by omega] at h1
      rw [if_neg (by omega), if_neg h]
      have := grown_adr L r (b + (l.carets + 1)) (k - (l.carets + 1)) j (by omega) (by rw [show b + (l.carets + 1) + (k - (l.carets + 1)) = b + k by omega]; exact hj)
      rw [show b + (l.carets + 1) + (k - (l.carets + 1)) = b + k by omega] at this
      rw [List.cons_append, ← this]
      congr 2
      omega
theorem fill_adr (L : List Tr) (T : Tr) (k j : Nat) (hk : k ≤ T.carets) (hj : j ≤ (L.getD k .leaf).carets) : adr (fill T L) (off L k + j) = adr T k ++ adr (L.getD k .leaf) j := by
  have := grown_adr L T 0 k j hk (by rw [Nat.zero_add]; exact hj)
  rw [Nat.zero_add, show off L 0 = 0 from rfl, Nat.sub_zero] at this
  exact this
theorem fill_off (L : List Tr) (T : Tr) : off L (T.carets + 1) = (fill T L).carets + 1 := by
  have := off_grown L T 0
  rw [Nat.zero_add, show off L 0 = 0 from rfl, Nat.zero_add] at this
  exact this
theorem off_split (L : List Tr) : ∀ (n i : Nat), i < off L n → ∃ k j, k < n ∧ j ≤ (L.getD k .leaf).carets ∧ i = off L k + j
  | 0, i, h => by simp [off] at h
  | n + 1, i, h => by
    by_cases hi : i < off L n
    · obtain ⟨k, j, h1, h2, h3⟩ := off_split L n i hi
      exact ⟨k, j, by omega, h2, h3⟩
    · simp only [off] at h
      exact ⟨n, i - off L n, by omega, by omega, by omega⟩
theorem grown_append (A B : List Tr) : ∀ (T : Tr) (k : Nat), k + T.carets < A.length → T.grown (fun i => (A ++ B).getD i .leaf) k = T.grown (fun i => A.getD i .leaf) k
  | .leaf, k, h => by simp only [Tr.grown, List.getD_eq_getElem?_getD]; rw [List.getElem?_append_left (by omega)]
  | .node l r, k, h => by
    simp only [Tr.carets] at h
    simp only [Tr.grown]
    rw [grown_append A B l k (by omega), grown_append A B r _ (by omega)]
theorem grown_behind (A B : List Tr) : ∀ (T : Tr) (k : Nat), T.grown (fun i => (A ++ B).getD i .leaf) (A.length + k) = T.grown (fun i => B.getD i .leaf) k
  | .leaf, k => by simp only [Tr.grown, List.getD_eq_getElem?_getD]; rw [List.getElem?_append_right (by omega), Nat.add_sub_cancel_left]
  | .node l r, k => by
    simp only [Tr.grown]
    rw [grown_behind A B l k, Nat.add_assoc, grown_behind A B r _]
theorem fill_parts : ∀ (t w : Tr), Part t w → fill t (partsT t w) = w
  | .leaf, w, _ => rfl
  | .node _ _, .leaf, h => h.elim
  | .node l r, .node a b, h => by
    have l1 := parts_length l a h.1
    have i1 := fill_parts l a h.1
    have i2 := fill_parts r b h.2
    unfold fill at i1 i2 ⊢
    simp only [partsT, Tr.grown]
    rw [grown_append _ _ l 0 (by omega), i1]
    have := grown_behind (partsT l a) (partsT r b) r 0
    rw [Nat.add_zero, l1] at this
    rw [Nat.zero_add, this, i2]
theorem act_mul0 (p q : Tr × Tr) (hp : p.1.carets = p.2.carets) (hq : q.1.carets = q.2.carets) (s : Str) : act (mul0 p q) s = act q (act p s) := by
  have P1 := part_join_l p.2 q.1
  have P2 := part_join_r p.2 q.1
  have F1 := fill_parts _ _ P1
  have F2 := fill_parts _ _ P2
  unfold mul0
  generalize join p.2 q.1 = J at *
  generalize partsT p.2 J = P at *
  generalize partsT q.1 J = Q at *
  obtain ⟨k, hk, t, rfl⟩ : ∃ k, k ≤ p.1.carets ∧ ∃ t, s = sapp (adr p.1 k) t := ⟨_, find_le p.1 s, _, (adr_find p.1 s).symm⟩
  rw [act_at p k hk]
  obtain ⟨j, hj, u, rfl⟩ : ∃ j, j ≤ (P.getD k .leaf).carets ∧ ∃ u, t = sapp (adr (P.getD k .leaf) j) u := ⟨_, find_le _ t, _, (adr_find _ t).symm⟩
  rw [← sapp_app, ← fill_adr P p.1 k j hk hj, ← sapp_app, ← fill_adr P p.2 k j (by omega) hj, F1]
  have b1 := off_lt P (show k < p.2.carets + 1 by omega)
  rw [fill_off, F1] at b1
  have b2 := off_lt P (show k < p.1.carets + 1 by omega)
  rw [fill_off] at b2
  obtain ⟨m, i, hm, hi, e⟩ := off_split Q (q.1.carets + 1) (off P k + j) (by rw [fill_off, F2]; omega)
  rw [act_at (fill p.1 P, fill q.2 Q) (off P k + j) (by simp only; omega)]
  simp only
  rw [e, fill_adr Q q.2 m i (by omega) hi, show adr J (off Q m + i) = adr q.1 m ++ adr (Q.getD m .leaf) i by rw [← fill_adr Q q.1 m i (by omega) hi, F2], sapp_app, sapp_app, act_at q m (by omega)]
theorem carets_zero {T : Tr} (h : T.carets = 0) : T = .leaf := by
  cases T with
  | leaf => rfl
  | node l r => simp only [Tr.carets] at h; omega
theorem expo_adr : ∀ (T : Tr) (k : Nat), k ∈ expo T 0 → adr T k = adr (without T k) k ++ [false] ∧ adr T (k + 1) = adr (without T k) k ++ [true] ∧ (∀ i, i < k → adr T i = adr (without T k) i) ∧ (∀ i, k + 1 < i → i ≤ T.carets → adr T i = adr (without T k) (i - 1))
  | .leaf, _, h => by cases h
  | .node l r, k, h => by
    by_cases hl : l = .leaf ∧ r = .leaf
    · obtain ⟨rfl, rfl⟩ := hl
      simp only [expo, List.mem_singleton] at h
      subst h
      exact ⟨rfl, rfl, fun i hi => by omega, fun i hi h2 => by simp only [Tr.carets] at h2; omega⟩
    · rcases mem_expo_node hl h with ⟨h1, h2⟩ | ⟨h1, h2⟩
      · obtain ⟨a1, a2, a3, a4⟩ := expo_adr l k h2
        have hc := without_carets l k h2
        have hr := expo_range l 0 k h2
        rw [without_node hl, if_neg (by omega)]
        simp only [adr]
        refine ⟨?_, ?_, fun i hi => ?_, fun i hi hi2 => ?_⟩
        · rw [if_pos (by omega), if_pos (by omega), a1]; rfl
        · rw [if_pos (by omega), if_pos (by omega), a2]; rfl
        · rw [if_pos (by omega), if_pos (by omega), a3 i hi]
        · by_cases hi3 : i < l.carets + 1
          · rw [if_pos hi3, if_pos (by omega), a4 i hi (by omega)]
          · rw [if_neg hi3, if_neg (by omega)]
            congr 2; omega
      · obtain ⟨a1, a2, a3, a4⟩ := expo_adr r (k - (l.carets + 1)) h2
        rw [without_node hl, if_pos h1]
        simp only [adr]
        refine ⟨?_, ?_, fun i hi => ?_, fun i hi hi2 => ?_⟩
        · rw [if_neg (by omega), if_neg (by omega), a1]; rfl
        · rw [if_neg (by omega), if_neg (by omega), show k + 1 - (l.carets + 1) = k - (l.carets + 1) + 1 by omega, a2]; rfl
        · by_cases hi3 : i < l.carets + 1
          · rw [if_pos hi3, if_pos hi3]
          · rw [if_neg hi3, if_neg hi3, a3 _ (by omega)]
        · simp only [Tr.carets] at hi2
          rw [if_neg (by omega), if_neg (by omega), a4 _ (by omega) (by omega)]
          congr 2; omega
theorem cons_snoc {a b : Bool} {x w : List Bool} (h : a :: x = w ++ [b]) : (w = [] ∧ a = b ∧ x = []) ∨ ∃ v, w = a :: v ∧ x = v ++ [b] := by
  cases w with
  | nil => simp at h; exact .inl ⟨rfl, h.1, h.2⟩
  | cons c w => simp at h; exact .inr ⟨w, by rw [h.1], h.2⟩
theorem adr_nil_first : ∀ {T : Tr} {k : Nat}, adr T k = [] → T = .leaf
  | .leaf, _, _ => rfl
  | .node l r, k, h => by simp only [adr] at h; split at h <;> cases h
theorem adr_expo : ∀ (T : Tr) (k : Nat) (w : List Bool), k + 1 ≤ T.carets → adr T k = w ++ [false] → adr T (k + 1) = w ++ [true] → k ∈ expo T 0
  | .leaf, k, w, h, _, _ => by simp only [Tr.carets] at h; omega
  | .node l r, k, w, h, h1, h2 => by
    by_cases hl : l = .leaf ∧ r = .leaf
    · obtain ⟨rfl, rfl⟩ := hl
      have : k = 0 := by simp only [Tr.carets] at h; omega
      subst this
      simp [expo]
    · rw [expo_node hl]
      simp only [Tr.carets] at h
      simp only [adr] at h1 h2
      rw [List.mem_append]
      by_cases ha : k + 1 < l.carets + 1
      · left
        rw [if_pos (by omega)] at h1
        rw [if_pos ha] at h2
        rcases cons_snoc h1 with ⟨rfl, _, _⟩ | ⟨v, rfl, hv⟩
        · simp at h2
        · exact adr_expo l k v (by omega) hv (by simpa using h2)
      · by_cases hb : k < l.carets + 1
        · exfalso
          rw [if_pos hb] at h1
          rw [if_neg ha] at h2
          rcases cons_snoc h1 with ⟨rfl, _, h3⟩ | ⟨v, rfl, hv⟩
          · simp at h2
            exact hl ⟨adr_nil_first h3, adr_nil_first h2⟩
          · simp at h2
        · right
          rw [if_neg hb] at h1
          rw [if_neg ha] at h2
          have e : 0 + (l.carets + 1) = l.carets + 1 := by omega
          rw [← e, expo_shift, List.mem_map]
          refine ⟨k - (l.carets + 1), ?_, by omega⟩
          rcases cons_snoc h1 with ⟨rfl, h3, _⟩ | ⟨v, rfl, hv⟩
          · cases h3
          · exact adr_expo r _ v (by omega) hv (by rw [show k - (l.carets + 1) + 1 = k + 1 - (l.carets + 1) by omega]; simpa using h2)
theorem expo_some' : ∀ (T : Tr), T ≠ .leaf → ∃ k, k ∈ expo T 0
  | .leaf, h => absurd rfl h
  | .node .leaf .leaf, _ => ⟨0, by simp [expo]⟩
  | .node (.node a b) r, _ => by
    obtain ⟨k, hk⟩ := expo_some' (.node a b) (by simp)
    exact ⟨k, by rw [expo_node (nl_l a b r)]; exact List.mem_append_left _ hk⟩
  | .node .leaf (.node a b), _ => by
    obtain ⟨k, hk⟩ := expo_some' (.node a b) (by simp)
    refine ⟨k + (Tr.leaf.carets + 1), ?_⟩
    rw [expo_node (nl_r a b), Nat.zero_add]
    refine List.mem_append_right _ ?_
    have := expo_shift (.node a b) 0 (Tr.leaf.carets + 1)
    rw [Nat.zero_add] at this
    rw [this]
    exact List.mem_map_of_mem hk
theorem expo_some (l r : Tr) : ∃ k, k ∈ expo (.node l r) 0 := expo_some' _ (by simp)
def Bal (p : Tr × Tr) : Prop := p.1.carets = p.2.carets
theorem act_without (A B : Tr) (hc : A.carets = B.carets) (k : Nat) (h : k ∈ bothT A B) (s : Str) : act (without A k, without B k) s = act (A, B) s := by
  obtain ⟨hA, hB⟩ := mem_both h
  obtain ⟨a1, a2, a3, a4⟩ := expo_adr A k hA
  obtain ⟨b1, b2, b3, b4⟩ := expo_adr B k hB
  have cA := without_carets A k hA
  have cB := without_carets B k hB
  have rA := expo_range A 0 k hA
  obtain ⟨i, hi, t, rfl⟩ : ∃ i, i ≤ A.carets ∧ ∃ t, s = sapp (adr A i) t := ⟨_, find_le A s, _, (adr_find A s).symm⟩
  rw [act_at (A, B) i hi]
  simp only
  have key : ∀ j u, j ≤ (without A k).carets → act (without A k, without B k) (sapp (adr (without A k) j) u) = sapp (adr (without B k) j) u := fun j u hj => act_at (without A k, without B k) j hj u
  rcases Nat.lt_trichotomy i k with h1 | h1 | h1
  · rw [a3 i h1, b3 i h1, key i t (by omega)]
  · subst h1
    rw [a1, b1, sapp_app, sapp_app, key _ _ (by omega)]
  · by_cases h2 : i = k + 1
    · subst h2
      rw [a2, b2, sapp_app, sapp_app, key _ _ (by omega)]
    · rw [a4 i (by omega) hi, b4 i (by omega) (by omega), key _ _ (by omega)]
theorem act_redF : ∀ (n : Nat) (p : Tr × Tr), Bal p → ∀ s, act (redF n p) s = act p s
  | 0, p, _, s => rfl
  | n + 1, p, h, s => by
    simp only [redF]
    cases hb : bothT p.1 p.2 with
    | nil => rfl
    | cons k l =>
      have hk : k ∈ bothT p.1 p.2 := by rw [hb]; exact List.mem_cons_self
      obtain ⟨hA, hB⟩ := mem_both hk
      have cA := without_carets p.1 k hA
      have cB := without_carets p.2 k hB
      unfold Bal at h
      simp only
      rw [act_redF n (without p.1 k, without p.2 k) (by unfold Bal; simp only; omega) s, act_without p.1 p.2 h k hk s]
theorem act_red {p : Tr × Tr} (h : Bal p) (s : Str) : act (red p) s = act p s := act_redF _ p h s
theorem Bal.red {p : Tr × Tr} (h : Bal p) : Bal (red p) := red_same h
theorem Bal.mul {p q : Tr × Tr} (hp : Bal p) (hq : Bal q) : Bal (mul p q) := (mul_carets hp hq).1
theorem act_mul {p q : Tr × Tr} (hp : Bal p) (hq : Bal q) (s : Str) : act (mul p q) s = act q (act p s) := by
  unfold mul
  obtain ⟨h1, h2⟩ := mul0_carets hp hq
  rw [act_red (by unfold Bal; rw [h1, h2]), act_mul0 p q hp hq]
def Sub (T : Tr) (v : List Bool) (i : Nat) (U : Tr) : Prop := i + U.carets ≤ T.carets ∧ ∀ m, m ≤ U.carets → adr T (i + m) = v ++ adr U m
theorem Sub.refl (T : Tr) : Sub T [] 0 T := ⟨by omega, fun m _ => by rw [Nat.zero_add]; rfl⟩
theorem Sub.left {T : Tr} {v : List Bool} {i : Nat} {l r : Tr} (h : Sub T v i (.node l r)) : Sub T (v ++ [false]) i l := by
  obtain ⟨h1, h2⟩ := h
  simp only [Tr.carets] at h1 h2
  refine ⟨by omega, fun m hm => ?_⟩
  rw [h2 m (by omega)]
  simp only [adr]
  rw [if_pos (by omega)]
  simp
theorem Sub.right {T : Tr} {v : List Bool} {i : Nat} {l r : Tr} (h : Sub T v i (.node l r)) : Sub T (v ++ [true]) (i + (l.carets + 1)) r := by
  obtain ⟨h1, h2⟩ := h
  simp only [Tr.carets] at h1 h2
  refine ⟨by omega, fun m hm => ?_⟩
  rw [Nat.add_assoc, h2 _ (by omega)]
  simp only [adr]
  rw [if_neg (by omega), Nat.add_sub_cancel_left]
  simp
theorem not_solid {p q : Tr × Tr} {v : List Bool} {i j : Nat} {l r : Tr} (hq : Bal q) (hb : bothT q.1 q.2 = []) (ha : ∀ s, act p s = act q s) (h1 : Sub p.1 v i .leaf) (h2 : Sub q.1 v j (.node l r)) : False := by
  have hv : adr p.1 i = v := by have := h1.2 0 (Nat.le_refl _); simpa [adr] using this
  have hi : i ≤ p.1.carets := by have := h1.1; simp only [Tr.carets] at this; omega
  have key : ∀ m, m ≤ (Tr.node l r).carets → adr q.2 (j + m) = adr p.2 i ++ adr (.node l r) m := fun m hm => sapp_cancel _ _ fun s => by
    have e1 := act_at q (j + m) (by have := h2.1; omega) s
    have e2 := act_at p i hi (sapp (adr (.node l r) m) s)
    rw [hv, ← sapp_app, ← h2.2 m hm, ha, e1] at e2
    rw [sapp_app]; exact e2
  obtain ⟨k, hk⟩ := expo_some l r
  have kr := expo_range _ _ _ hk
  obtain ⟨a1, a2, _, _⟩ := expo_adr _ _ hk
  have hle := h2.1
  unfold Bal at hq
  have m1 : j + k ∈ expo q.1 0 := adr_expo q.1 (j + k) (v ++ adr (without (.node l r) k) k) (by omega) (by rw [h2.2 k (by omega), a1, List.append_assoc]) (by rw [Nat.add_assoc, h2.2 (k + 1) (by omega), a2, List.append_assoc])
  have m2 : j + k ∈ expo q.2 0 := adr_expo q.2 (j + k) (adr p.2 i ++ adr (without (.node l r) k) k) (by omega) (by rw [key k (by omega), a1, List.append_assoc]) (by rw [Nat.add_assoc, key (k + 1) (by omega), a2, List.append_assoc])
  exact both_nil.1 hb _ m1 m2
theorem same_sub {p q : Tr × Tr} (hp : Bal p) (hq : Bal q) (bp : bothT p.1 p.2 = []) (bq : bothT q.1 q.2 = []) (ha : ∀ s, act p s = act q s) : ∀ (U V : Tr) (v : List Bool) (i j : Nat), Sub p.1 v i U → Sub q.1 v j V → U = V
  | .leaf, .leaf, _, _, _, _, _ => rfl
  | .leaf, .node l r, v, i, j, h1, h2 => (not_solid hq bq ha h1 h2).elim
  | .node l r, .leaf, v, i, j, h1, h2 => (not_solid hp bp (fun s => (ha s).symm) h2 h1).elim
  | .node l r, .node a b, v, i, j, h1, h2 => by
    rw [same_sub hp hq bp bq ha l a _ _ _ h1.left h2.left, same_sub hp hq bp bq ha r b _ _ _ h1.right h2.right]
theorem adr_inj : ∀ (A B : Tr), A.carets = B.carets → (∀ k, k ≤ A.carets → adr A k = adr B k) → A = B
  | .leaf, B, h, _ => (carets_zero h.symm).symm
  | .node l r, .leaf, h, _ => by simp only [Tr.carets] at h; omega
  | .node l r, .node a b, h, hk => by
    simp only [Tr.carets] at h hk
    have hc : l.carets = a.carets := by
      rcases Nat.lt_trichotomy l.carets a.carets with h1 | h1 | h1
      · have := hk (l.carets + 1) (by omega)
        simp only [adr] at this
        rw [if_neg (by omega), if_pos (by omega)] at this
        simp at this
      · exact h1
      · have := hk (a.carets + 1) (by omega)
        simp only [adr] at this
        rw [if_pos (by omega), if_neg (by omega)] at this
        simp at this
    rw [adr_inj l a hc fun k hl => by
        have := hk k (by omega)
        simp only [adr] at this
        rw [if_pos (by omega), if_pos (by omega)] at this
        simpa using this,
      adr_inj r b (by omega) fun k hl => by
        have := hk (k + (l.carets + 1)) (by omega)
        simp only [adr] at this
        rw [if_neg (by omega), if_neg (by omega), hc, Nat.add_sub_cancel] at this
        simpa using this]
theorem pair_ext {p q : Tr × Tr} (hp : Bal p) (hq : Bal q) (bp : bothT p.1 p.2 = []) (bq : bothT q.1 q.2 = []) (ha : ∀ s, act p s = act q s) : p = q := by
  have h1 : p.1 = q.1 := same_sub hp hq bp bq ha p.1 q.1 [] 0 0 (Sub.refl _) (Sub.refl _)
  obtain ⟨A, B⟩ := p
  obtain ⟨C, D⟩ := q
  simp only at h1
  subst h1
  unfold Bal at hp hq
  simp only at hp hq
  rw [adr_inj B D (by omega) fun k hk => sapp_cancel _ _ fun s => by
    have e1 := act_at (A, B) k (by simp only; omega) s
    have e2 := act_at (A, D) k (by simp only; omega) s
    rw [ha, e2] at e1
    exact e1.symm]
theorem red_ext {p q : Tr × Tr} (hp : Bal p) (hq : Bal q) (ha : ∀ s, act p s = act q s) : red p = red q :=
  pair_ext hp.red hq.red (red_both p) (red_both q) fun s => by rw [act_red hp, act_red hq, ha]
def one : Tr × Tr := (.leaf, .leaf)
theorem Bal.one : Bal one := rfl
theorem act_one (s : Str) : act one s = s := rfl
theorem mul_ext {p q r t : Tr × Tr} (hp : Bal p) (hq : Bal q) (hr : Bal r) (ht : Bal t) (h : ∀ s, act q (act p s) = act t (act r s)) : mul p q = mul r t :=
  pair_ext (hp.mul hq) (hr.mul ht) (red_both _) (red_both _) fun s => by rw [act_mul hp hq, act_mul hr ht, h]
theorem mul_assoc {p q r : Tr × Tr} (hp : Bal p) (hq : Bal q) (hr : Bal r) : mul (mul p q) r = mul p (mul q r) :=
  mul_ext (hp.mul hq) hr hp (hq.mul hr) fun s => by rw [act_mul hp hq, act_mul hq hr]
theorem mul_one {p : Tr × Tr} (hp : Bal p) : mul p one = red p :=
  pair_ext (hp.mul Bal.one) hp.red (red_both _) (red_both _) fun s => by rw [act_mul hp Bal.one, act_red hp, act_one]
theorem one_mul {p : Tr × Tr} (hp : Bal p) : mul one p = red p :=
  pair_ext (Bal.one.mul hp) hp.red (red_both _) (red_both _) fun s => by rw [act_mul Bal.one hp, act_red hp, act_one]
theorem mul_red_l {p q : Tr × Tr} (hp : Bal p) (hq : Bal q) : mul (red p) q = mul p q := mul_ext hp.red hq hp hq fun s => by rw [act_red hp]
theorem mul_red_r {p q : Tr × Tr} (hp : Bal p) (hq : Bal q) : mul p (red q) = mul p q := mul_ext hp hq.red hp hq fun s => by rw [act_red hq]
end Go.Proofs.YtdcipaaclpedhaaGreat.N
namespace Go.Proofs.YtdcipaaclpedhaaGreat.N
def Rev {α : Type} (l : List α) (k : Nat) (c : List α) : Prop := c.length = l.length ∧ ∀ i, i < l.length → c[i]? = if i < k ∨ l.length - k ≤ i then l[l.length - 1 - i]? else l[i]?
theorem Rev.zero {α : Type} (l : List α) : Rev l 0 l := ⟨rfl, fun i hi => by rw [if_neg (by omega)]⟩
theorem Rev.step {α : Type} {l c : List α} {k : Nat} {x y : α} (h : Rev l k c) (hk : k < l.length - 1 - k) (hx : c[k]? = some x) (hy : c[l.length - 1 - k]? = some y) : Rev l (k + 1) ((c.set k y).set (l.length - 1 - k) x) := by
  obtain ⟨h1, h2⟩ := h
  have hxx := h2 k (by omega)
  rw [if_neg (by omega), hx] at hxx
  have hyy := h2 (l.length - 1 - k) (by omega)
  rw [if_neg (by omega), hy] at hyy
  refine ⟨by simp [h1], fun i hi => ?_⟩
  rw [List.getElem?_set, List.getElem?_set]
  by_cases e1 : l.length - 1 - k = i
  · subst e1
    rw [if_pos rfl, if_pos (by simp; omega), if_pos (by omega), show l.length - 1 - (l.length - 1 - k) = k by omega, hxx]
  · rw [if_neg e1]
    by_cases e2 : k = i
    · subst e2
      rw [if_pos rfl, if_pos (by omega), if_pos (by omega), hyy]
    · rw [if_neg e2, h2 i hi]
      by_cases e3 : i < k ∨ l.length - k ≤ i
      · rw [if_pos e3, if_pos (by omega)]
      · rw [if_neg e3, if_neg (by omega)]
theorem Rev.done {α : Type} {l c : List α} {k : Nat} (h : Rev l k c) (hk : l.length ≤ 2 * k + 1) : c = l.reverse := by
  apply List.ext_getElem?
  intro i
  by_cases hi : i < l.length
  · rw [h.2 i hi, List.getElem?_reverse hi]
    by_cases e : i < k ∨ l.length - k ≤ i
    · rw [if_pos e]
    · rw [if_neg e]; congr 1; omega
  · rw [List.getElem?_eq_none (by rw [h.1]; omega), List.getElem?_eq_none (by simp; omega)]
end Go.Proofs.YtdcipaaclpedhaaGreat.N
namespace Go.Proofs.YtdcipaaclpedhaaGreat.N
def blt (a b : ByteArray) : Bool := Op.bytesLess a.toList b.toList
theorem bl_irrefl : ∀ l : List UInt8, Op.bytesLess l l = false
  | [] => rfl
  | a :: l => by simp [Op.bytesLess, bl_irrefl l, UInt8.lt_irrefl]
theorem bl_trans : ∀ a b c : List UInt8, Op.bytesLess a b = true → Op.bytesLess b c = true → Op.bytesLess a c = true
  | _, [], _, h, _ => by cases ‹List UInt8› <;> simp [Op.bytesLess] at h
  | _, _ :: _, [], _, h => by simp [Op.bytesLess] at h
  | [], _ :: _, _ :: _, _, _ => rfl
  | x :: a, y :: b, z :: c, h1, h2 => by
    simp only [Op.bytesLess, Bool.or_eq_true, decide_eq_true_eq, Bool.and_eq_true, beq_iff_eq] at h1 h2 ⊢
    rcases h1 with h1 | ⟨rfl, h1⟩
    · rcases h2 with h2 | ⟨rfl, h2⟩
      · exact .inl (UInt8.lt_trans h1 h2)
      · exact .inl h1
    · rcases h2 with h2 | ⟨rfl, h2⟩
      · exact .inl h2
      · exact .inr ⟨rfl, bl_trans a b c h1 h2⟩
theorem bl_total : ∀ a b : List UInt8, Op.bytesLess a b = false → Op.bytesLess b a = false → a = b
  | [], [], _, _ => rfl
  | [], _ :: _, h, _ => by simp [Op.bytesLess] at h
  | _ :: _, [], _, h => by simp [Op.bytesLess] at h
  | x :: a, y :: b, h1, h2 => by
    simp only [Op.bytesLess, Bool.or_eq_false_iff, decide_eq_false_iff_not, Bool.and_eq_false_imp, beq_iff_eq] at h1 h2
    have e : x = y := UInt8.le_antisymm (UInt8.not_lt.1 h2.1) (UInt8.not_lt.1 h1.1)
    subst e
    rw [bl_total a b (h1.2 rfl) (h2.2 rfl)]
theorem ba_ext {a b : ByteArray} (h : a.toList = b.toList) : a = b := by
  rw [S_of a, h, ← S_of b]
theorem blt_irrefl (a : ByteArray) : blt a a = false := bl_irrefl _
theorem blt_trans {a b c : ByteArray} (h1 : blt a b = true) (h2 : blt b c = true) : blt a c = true := bl_trans _ _ _ h1 h2
theorem blt_total {a b : ByteArray} (h1 : blt a b = false) (h2 : blt b a = false) : a = b := ba_ext (bl_total _ _ h1 h2)
theorem blt_ntrans {a b c : ByteArray} (h1 : blt a b = false) (h2 : blt b c = false) : blt a c = false := by
  cases h : blt a c with
  | false => rfl
  | true =>
    cases h3 : blt b a with
    | true => rw [blt_trans h3 h] at h2; cases h2
    | false => rw [blt_total h1 h3, h2] at h; cases h
def ins (x : ByteArray) : List ByteArray → List ByteArray
  | [] => [x]
  | y :: l => if blt y x then y :: ins x l else x :: y :: l
theorem ins_perm (x : ByteArray) : ∀ l, (ins x l).Perm (x :: l)
  | [] => List.Perm.refl _
  | y :: l => by
    simp only [ins]
    split
    · exact (List.Perm.cons y (ins_perm x l)).trans (List.Perm.swap x y l)
    · exact List.Perm.refl _
def Srt (l : List ByteArray) : Prop := l.Pairwise fun a b => blt b a = false
theorem ins_srt (x : ByteArray) : ∀ l, Srt l → Srt (ins x l)
  | [], _ => List.pairwise_singleton _ _
  | y :: l, h => by
    have h' := List.pairwise_cons.1 h
    simp only [ins]
    split
    · rename_i hy
      refine List.pairwise_cons.2 ⟨fun z hz => ?_, ins_srt x l h'.2⟩
      rcases List.mem_cons.1 ((ins_perm x l).mem_iff.1 hz) with rfl | hz
      · cases hc : blt z y with
        | false => rfl
        | true => have := blt_trans hc hy; rw [blt_irrefl] at this; cases this
      · exact h'.1 z hz
    · rename_i hy
      have hy : blt y x = false := by simpa using hy
      refine List.pairwise_cons.2 ⟨fun z hz => ?_, h⟩
      rcases List.mem_cons.1 hz with rfl | hz
      · exact hy
      · exact blt_ntrans (h'.1 z hz) hy
def srt (l : List ByteArray) : List ByteArray := l.foldl (fun acc x => ins x acc) []
theorem srt_snoc (l : List ByteArray) (x : ByteArray) : srt (l ++ [x]) = ins x (srt l) := by simp [srt, List.foldl_append]
theorem foldl_ins_perm : ∀ (l acc : List ByteArray), (l.foldl (fun acc x => ins x acc) acc).Perm (acc ++ l)
  | [], acc => by simp
  | x :: l, acc => by
    refine (foldl_ins_perm l (ins x acc)).trans ?_
    refine ((ins_perm x acc).append_right l).trans ?_
    exact (List.perm_middle (a := x) (l₁ := acc) (l₂ := l)).symm
theorem foldl_ins_srt : ∀ (l acc : List ByteArray), Srt acc → Srt (l.foldl (fun acc x => ins x acc) acc)
  | [], _, h => h
  | x :: l, acc, h => foldl_ins_srt l _ (ins_srt x acc h)
theorem srt_perm (l : List ByteArray) : (srt l).Perm l := foldl_ins_perm l []
theorem srt_srt (l : List ByteArray) : Srt (srt l) := foldl_ins_srt l [] List.Pairwise.nil
theorem srt_length (l : List ByteArray) : (srt l).length = l.length := (srt_perm l).length_eq
theorem srt_unique : ∀ (a b : List ByteArray), a.Perm b → Srt a → Srt b → a = b
  | [], b, h, _, _ => (List.nil_perm.1 h).symm
  | x :: a, [], h, _, _ => by cases List.perm_nil.1 h
  | x :: a, y :: b, h, h1, h2 => by
    have h1' := List.pairwise_cons.1 h1
    have h2' := List.pairwise_cons.1 h2
    have e : x = y := by
      rcases List.mem_cons.1 (h.mem_iff.1 (List.mem_cons_self (a := x) (l := a))) with e | m1
      · exact e
      · rcases List.mem_cons.1 (h.mem_iff.2 (List.mem_cons_self (a := y) (l := b))) with e | m2
        · exact e.symm
        · exact blt_total (h2'.1 x m1) (h1'.1 y m2) |>.symm ▸ rfl
    subst e
    rw [srt_unique a b (List.Perm.cons_inv h) h1'.2 h2'.2]
def moves (bk : Bool) (T : Tr) : List Tr := (T.turns bk).filterMap fun a => turnT bk a T
def near0 (T : Tr) : List Tr := moves false T ++ moves true T
end Go.Proofs.YtdcipaaclpedhaaGreat.N
namespace Go.Proofs.YtdcipaaclpedhaaGreat.N
def insT (x : Tr) : List Tr → List Tr
  | [] => [x]
  | y :: l => if blt (tx y) (tx x) then y :: insT x l else x :: y :: l
def srtT (l : List Tr) : List Tr := l.foldl (fun acc x => insT x acc) []
theorem insT_tx (x : Tr) : ∀ l, (insT x l).map tx = ins (tx x) (l.map tx)
  | [] => rfl
  | y :: l => by simp only [insT, ins, List.map_cons]; split <;> simp [insT_tx x l]
theorem insT_perm (x : Tr) : ∀ l, (insT x l).Perm (x :: l)
  | [] => List.Perm.refl _
  | y :: l => by
    simp only [insT]
    split
    · exact (List.Perm.cons y (insT_perm x l)).trans (List.Perm.swap x y l)
    · exact List.Perm.refl _
theorem foldl_insT_tx : ∀ (l acc : List Tr), (l.foldl (fun acc x => insT x acc) acc).map tx = (l.map tx).foldl (fun acc x => ins x acc) (acc.map tx)
  | [], acc => rfl
  | x :: l, acc => by simp only [List.foldl_cons, List.map_cons]; rw [foldl_insT_tx l, insT_tx]
theorem srtT_tx (l : List Tr) : (srtT l).map tx = srt (l.map tx) := foldl_insT_tx l []
theorem foldl_insT_perm : ∀ (l acc : List Tr), (l.foldl (fun acc x => insT x acc) acc).Perm (acc ++ l)
  | [], acc => by simp
  | x :: l, acc => by
    refine (foldl_insT_perm l (insT x acc)).trans ?_
    refine ((insT_perm x acc).append_right l).trans ?_
    exact (List.perm_middle (a := x) (l₁ := acc) (l₂ := l)).symm
theorem srtT_perm (l : List Tr) : (srtT l).Perm l := foldl_insT_perm l []
def rawJ (A : List Tr) (B : List Tr) : List Tr := A.flatMap fun a => B.map fun b => .node a b
def raw (f : Nat → List Tr) (n k : Nat) : List Tr := (List.range k).flatMap fun i => rawJ (f i) (f (n - 1 - i))
theorem raw_succ (f : Nat → List Tr) (n k : Nat) : raw f n (k + 1) = raw f n k ++ rawJ (f k) (f (n - 1 - k)) := by simp [raw, List.range_succ, List.flatMap_append]
theorem raw_congr {f g : Nat → List Tr} {n : Nat} (h : ∀ i, i < n → f i = g i) : ∀ k, k ≤ n → raw f n k = raw g n k
  | 0, _ => rfl
  | k + 1, hk => by rw [raw_succ, raw_succ, raw_congr h k (by omega), h k (by omega), h (n - 1 - k) (by omega)]
theorem rawJ_take (A B : List Tr) (i : Nat) (a : Tr) (h : A[i]? = some a) : rawJ (A.take (i + 1)) B = rawJ (A.take i) B ++ B.map fun b => .node a b := by
  rw [List.take_add_one, h]; simp [rawJ, List.flatMap_append]
theorem mapN_take (a : Tr) (B : List Tr) (j : Nat) (b : Tr) (h : B[j]? = some b) : (B.take (j + 1)).map (Tr.node a) = (B.take j).map (Tr.node a) ++ [.node a b] := by
  rw [List.take_add_one, h]; simp
theorem rawJ_length (A B : List Tr) : (rawJ A B).length = A.length * B.length := by
  unfold rawJ
  induction A with
  | nil => simp
  | cons a A ih => simp [List.flatMap_cons, ih, Nat.add_mul, Nat.add_comm]
def tab : Nat → List (List Tr)
  | 0 => [[.leaf]]
  | n + 1 => tab n ++ [srtT (raw (fun i => (tab n)[i]?.getD []) (n + 1) (n + 1))]
def TL (n : Nat) : List Tr := (tab n)[n]?.getD []
theorem tab_length : ∀ n, (tab n).length = n + 1
  | 0 => rfl
  | n + 1 => by simp [tab, tab_length n]
theorem tab_get : ∀ n i, i ≤ n → (tab n)[i]? = some (TL i)
  | 0, i, h => by obtain rfl : i = 0 := by omega
                  rfl
  | n + 1, i, h => by
    rcases Nat.lt_or_ge i (n + 1) with h1 | h1
    · rw [tab, List.getElem?_append_left (by rw [tab_length]; exact h1)]; exact tab_get n i (by omega)
    · obtain rfl : i = n + 1 := by omega
      unfold TL
      rw [tab, List.getElem?_append_right (by rw [tab_length]; exact Nat.le_refl _), tab_length, Nat.sub_self]
      rfl
theorem TL_zero : TL 0 = [.leaf] := rfl
theorem TL_succ (n : Nat) : TL (n + 1) = srtT (raw TL (n + 1) (n + 1)) := by
  have h := tab_get (n + 1) (n + 1) (Nat.le_refl _)
  rw [tab, List.getElem?_append_right (by rw [tab_length]; exact Nat.le_refl _), tab_length, Nat.sub_self] at h
  have h := (Option.some.inj h).symm
  rw [h]
  congr 1
  exact raw_congr (fun i hi => by show ((tab n)[i]?).getD [] = TL i; rw [tab_get n i (by omega)]; rfl) _ (Nat.le_refl _)
theorem tab_eq : ∀ n, tab n = (List.range (n + 1)).map TL := by
  intro n
  apply List.ext_getElem?
  intro i
  by_cases h : i < n + 1
  · rw [tab_get n i (by omega), List.getElem?_map, List.getElem?_range h]; rfl
  · rw [List.getElem?_eq_none (by rw [tab_length]; omega), List.getElem?_eq_none (by simp; omega)]
theorem TL_carets : ∀ n, ∀ T ∈ TL n, T.carets = n
  | 0, T, h => by
    rw [TL_zero, List.mem_singleton] at h
    subst h; rfl
  | n + 1, T, h => by
    rw [TL_succ] at h
    have h := (srtT_perm _).mem_iff.1 h
    unfold raw rawJ at h
    obtain ⟨i, hi, h⟩ := List.mem_flatMap.1 h
    obtain ⟨a, ha, h⟩ := List.mem_flatMap.1 h
    obtain ⟨b, hb, rfl⟩ := List.mem_map.1 h
    have hi := List.mem_range.1 hi
    have h1 := TL_carets i a ha
    have h2 := TL_carets (n + 1 - 1 - i) b hb
    simp only [Tr.carets]
    omega
theorem raw_length_succ (f : Nat → List Tr) (n k : Nat) : (raw f n (k + 1)).length = (raw f n k).length + (f k).length * (f (n - 1 - k)).length := by rw [raw_succ, List.length_append, rawJ_length]
theorem TL_length_succ (n : Nat) : (TL (n + 1)).length = (raw TL (n + 1) (n + 1)).length := by rw [TL_succ]; exact (srtT_perm _).length_eq
theorem TL_lens : (TL 0).length = 1 ∧ (TL 1).length = 1 ∧ (TL 2).length = 2 ∧ (TL 3).length = 5 ∧ (TL 4).length = 14 := by
  have h0 : (TL 0).length = 1 := rfl
  have r0 : ∀ n, (raw TL n 0).length = 0 := fun n => rfl
  have h1 : (TL 1).length = 1 := by rw [TL_length_succ, raw_length_succ, r0, h0]
  have h2 : (TL 2).length = 2 := by rw [TL_length_succ, raw_length_succ, raw_length_succ, r0, h0, h1]
  have h3 : (TL 3).length = 5 := by rw [TL_length_succ, raw_length_succ, raw_length_succ, raw_length_succ, r0, h0, h1, h2]
  have h4 : (TL 4).length = 14 := by rw [TL_length_succ, raw_length_succ, raw_length_succ, raw_length_succ, raw_length_succ, r0, h0, h1, h2, h3]
  exact ⟨h0, h1, h2, h3, h4⟩
theorem TL_le (n : Nat) (h : n ≤ 4) : (TL n).length ≤ 14 := by
  obtain ⟨h0, h1, h2, h3, h4⟩ := TL_lens
  rcases (by omega : n = 0 ∨ n = 1 ∨ n = 2 ∨ n = 3 ∨ n = 4) with rfl | rfl | rfl | rfl | rfl <;> omega
theorem raw_le (n k : Nat) (hn : n ≤ 4) (hk : k ≤ n) : (raw TL n k).length ≤ k * 196 := by
  induction k with
  | zero => simp [raw]
  | succ k ih =>
    rw [raw_length_succ]
    have h1 := TL_le k (by omega)
    have h2 := TL_le (n - 1 - k) (by omega)
    have h3 := Nat.mul_le_mul h1 h2
    have := ih (by omega)
    omega
theorem TL_lens8 : (TL 5).length = 42 ∧ (TL 6).length = 132 ∧ (TL 7).length = 429 ∧ (TL 8).length = 1430 := by
  obtain ⟨h0, h1, h2, h3, h4⟩ := TL_lens
  have r0 : ∀ n, (raw TL n 0).length = 0 := fun n => rfl
  have h5 : (TL 5).length = 42 := by rw [TL_length_succ, raw_length_succ, raw_length_succ, raw_length_succ, raw_length_succ, raw_length_succ, r0, h0, h1, h2, h3, h4]
  have h6 : (TL 6).length = 132 := by rw [TL_length_succ, raw_length_succ, raw_length_succ, raw_length_succ, raw_length_succ, raw_length_succ, raw_length_succ, r0, h0, h1, h2, h3, h4, h5]
  have h7 : (TL 7).length = 429 := by rw [TL_length_succ, raw_length_succ, raw_length_succ, raw_length_succ, raw_length_succ, raw_length_succ, raw_length_succ, raw_length_succ, r0, h0, h1, h2, h3, h4, h5, h6]
  have h8 : (TL 8).length = 1430 := by rw [TL_length_succ, raw_length_succ, raw_length_succ, raw_length_succ, raw_length_succ, raw_length_succ, raw_length_succ, raw_length_succ, raw_length_succ, r0, h0, h1, h2, h3, h4, h5, h6, h7]
  exact ⟨h5, h6, h7, h8⟩
theorem TL_le8 (n : Nat) (h : n ≤ 8) : (TL n).length ≤ 1430 := by
  obtain ⟨h5, h6, h7, h8⟩ := TL_lens8
  by_cases h4 : n ≤ 4
  · have := TL_le n h4; omega
  · rcases (by omega : n = 5 ∨ n = 6 ∨ n = 7 ∨ n = 8) with rfl | rfl | rfl | rfl <;> omega
theorem raw_le8 (n k : Nat) (hn : n ≤ 8) (hk : k ≤ n) : (raw TL n k).length ≤ k * 2044900 := by
  induction k with
  | zero => simp [raw]
  | succ k ih =>
    rw [raw_length_succ]
    have h1 := TL_le8 k (by omega)
    have h2 := TL_le8 (n - 1 - k) (by omega)
    have h3 := Nat.mul_le_mul h1 h2
    have := ih (by omega)
    omega
theorem ins_back (t : ByteArray) (s : List ByteArray) (j : Nat) (hs : Srt s) (hj : j ≤ s.length) (h1 : ∀ i y, j ≤ i → s[i]? = some y → blt t y = true) (h2 : ∀ y, 0 < j → s[j - 1]? = some y → blt t y = false) : s.take j ++ t :: s.drop j = ins t s := by
  refine srt_unique _ _ ?_ ?_ (ins_srt t s hs)
  · refine List.Perm.trans ?_ (ins_perm t s).symm
    refine List.perm_middle.trans ?_
    rw [List.take_append_drop]
  · have hs' : (s.take j ++ s.drop j).Pairwise fun a b => blt b a = false := by rw [List.take_append_drop]; exact hs
    have hp := List.pairwise_append.1 hs'
    unfold Srt
    rw [List.pairwise_append]
    refine ⟨hp.1, List.pairwise_cons.2 ⟨fun y hy => ?_, hp.2.1⟩, fun a ha b hb => ?_⟩
    · obtain ⟨i, hi, rfl⟩ := List.mem_iff_getElem.1 hy
      have hi2 : j + i < s.length := by rw [List.length_drop] at hi; omega
      have h9 : (s.drop j)[i] = s[j + i] := List.getElem_drop ..
      rw [h9]
      have := h1 (j + i) _ (by omega) (List.getElem?_eq_getElem hi2)
      cases hc : blt s[j + i] t with
      | false => rfl
      | true => have h3 := blt_trans this hc; rw [blt_irrefl] at h3; cases h3
    · rcases List.mem_cons.1 hb with rfl | hb
      · have hj0 : 0 < j := by
          rcases Nat.eq_zero_or_pos j with rfl | h
          · rw [List.take_zero] at ha; cases ha
          · exact h
        have hk := List.getElem?_eq_getElem (show j - 1 < s.length by omega)
        have h3 := h2 _ hj0 hk
        obtain ⟨i, hi, rfl⟩ := List.mem_iff_getElem.1 ha
        rw [List.length_take] at hi
        rw [List.getElem_take]
        rcases Nat.lt_or_ge i (j - 1) with h4 | h4
        · have h5 := List.pairwise_iff_getElem.1 hs i (j - 1) (by omega) (by omega) h4
          exact blt_ntrans h3 h5
        · obtain rfl : i = j - 1 := by omega
          exact h3
      · exact hp.2.2 a ha b hb
end Go.Proofs.YtdcipaaclpedhaaGreat.N
namespace Go.Proofs.YtdcipaaclpedhaaGreat.N
theorem rot_back {bk : Bool} {T U : Tr} (h : rot bk T = some U) : rot (!bk) U = some T := by
  cases T with
  | leaf => simp [rot] at h
  | node l r =>
    cases bk
    · cases l with
      | leaf => simp [rot] at h
      | node a b => simp [rot] at h; subst h; rfl
    · cases r with
      | leaf => simp [rot] at h
      | node a b => simp [rot] at h; subst h; rfl
theorem turnT_back {bk : Bool} : ∀ {a : List UInt8} {T U : Tr}, turnT bk a T = some U → turnT (!bk) a U = some T
  | [], T, U, h => rot_back h
  | _ :: _, .leaf, U, h => by simp [turnT] at h
  | c :: l, .node a b, U, h => by
    simp only [turnT] at h
    split at h
    · rename_i hc
      obtain ⟨x, hx, rfl⟩ := Option.map_eq_some_iff.1 h
      simp only [turnT, if_pos hc, turnT_back hx, Option.map_some]
    · rename_i hc
      split at h
      · rename_i hd
        obtain ⟨x, hx, rfl⟩ := Option.map_eq_some_iff.1 h
        simp only [turnT, if_neg hc, if_pos hd, turnT_back hx, Option.map_some]
      · cases h
theorem turnT_place {bk : Bool} : ∀ {a : List UInt8} {T U : Tr}, turnT bk a T = some U → a ∈ T.places []
  | [], .leaf, U, h => by simp [turnT, rot] at h
  | [], .node l r, U, h => by simp [Tr.places]
  | _ :: _, .leaf, U, h => by simp [turnT] at h
  | c :: l, .node a b, U, h => by
    have h1 : a.places [48] = (a.places []).map (48 :: ·) := by have := places_map a [48] []; simpa using this
    have h2 : b.places [49] = (b.places []).map (49 :: ·) := by have := places_map b [49] []; simpa using this
    simp only [Tr.places, List.nil_append, h1, h2]
    simp only [turnT] at h
    split at h
    · rename_i hc
      obtain ⟨x, hx, rfl⟩ := Option.map_eq_some_iff.1 h
      subst hc
      have := turnT_place hx
      simp [this]
    · split at h
      · rename_i hd
        obtain ⟨x, hx, rfl⟩ := Option.map_eq_some_iff.1 h
        subst hd
        have := turnT_place hx
        simp [this]
      · cases h
theorem mem_turns {bk : Bool} {a : List UInt8} {T U : Tr} (h : turnT bk a T = some U) : a ∈ T.turns bk := List.mem_filter.2 ⟨turnT_place h, by rw [h]; rfl⟩
theorem mem_moves {bk : Bool} {T U : Tr} : U ∈ moves bk T ↔ ∃ a, turnT bk a T = some U :=
  ⟨fun h => let ⟨a, _, h⟩ := List.mem_filterMap.1 h; ⟨a, h⟩, fun ⟨a, h⟩ => List.mem_filterMap.2 ⟨a, mem_turns h, h⟩⟩
theorem mem_near {T U : Tr} : U ∈ near0 T ↔ ∃ bk a, turnT bk a T = some U := by
  unfold near0
  rw [List.mem_append, mem_moves, mem_moves]
  constructor
  · rintro (⟨a, h⟩ | ⟨a, h⟩)
    · exact ⟨_, a, h⟩
    · exact ⟨_, a, h⟩
  · rintro ⟨bk, a, h⟩
    cases bk
    · exact .inl ⟨a, h⟩
    · exact .inr ⟨a, h⟩
theorem near_symm {T U : Tr} (h : U ∈ near0 T) : T ∈ near0 U := by
  obtain ⟨bk, a, h⟩ := mem_near.1 h
  exact mem_near.2 ⟨!bk, a, turnT_back h⟩
end Go.Proofs.YtdcipaaclpedhaaGreat.N
namespace Go.Proofs.YtdcipaaclpedhaaGreat.N
def Way : Nat → Tr → Tr → Prop
  | 0, T, U => U = T
  | k + 1, T, U => ∃ M, Way k T M ∧ U ∈ near0 M
theorem near_carets {T U : Tr} (h : U ∈ near0 T) : U.carets = T.carets := by
  obtain ⟨bk, a, h⟩ := mem_near.1 h
  exact turnT_carets h
theorem Way.one {T U : Tr} (h : U ∈ near0 T) : Way 1 T U := ⟨T, rfl, h⟩
theorem Way.trans {j : Nat} {T M : Tr} (h : Way j T M) : ∀ {k : Nat} {U : Tr}, Way k M U → Way (j + k) T U
  | 0, U, e => by cases (show U = M from e); exact h
  | k + 1, U, ⟨V, h1, h2⟩ => ⟨V, h.trans h1, h2⟩
theorem Way.symm : ∀ {k : Nat} {T U : Tr}, Way k T U → Way k U T
  | 0, T, U, e => (show U = T from e).symm
  | k + 1, T, U, ⟨M, h1, h2⟩ => by
    have := (Way.one (near_symm h2)).trans h1.symm
    rwa [Nat.add_comm] at this
theorem Way.carets : ∀ {k : Nat} {T U : Tr}, Way k T U → U.carets = T.carets
  | 0, T, U, e => by cases (show U = T from e); rfl
  | k + 1, T, U, ⟨M, h1, h2⟩ => (near_carets h2).trans h1.carets
def Dist (T U : Tr) (k : Nat) : Prop := Way k T U ∧ ∀ j, Way j T U → k ≤ j
theorem dist_least {T U : Tr} : ∀ (n k : Nat), k ≤ n → Way k T U → ∃ j, j ≤ k ∧ Dist T U j
  | 0, k, hk, h => ⟨k, Nat.le_refl _, h, fun j _ => by omega⟩
  | n + 1, k, hk, h => by
    by_cases hl : ∃ j, j < k ∧ Way j T U
    · obtain ⟨j, hj, hw⟩ := hl
      obtain ⟨i, hi, hd⟩ := dist_least n j (by omega) hw
      exact ⟨i, by omega, hd⟩
    · exact ⟨k, Nat.le_refl _, h, fun j hw => Nat.le_of_not_lt fun hj => hl ⟨j, hj, hw⟩⟩
theorem Way.dist {T U : Tr} {k : Nat} (h : Way k T U) : ∃ j, j ≤ k ∧ Dist T U j := dist_least k k (Nat.le_refl _) h
theorem Dist.symm {T U : Tr} {k : Nat} (h : Dist T U k) : Dist U T k := ⟨h.1.symm, fun j hj => h.2 j hj.symm⟩
theorem Dist.near {T M U : Tr} {k : Nat} (h : Dist T M k) (hn : U ∈ near0 M) : ∃ j, j ≤ k + 1 ∧ Dist T U j := Way.dist ⟨M, h.1, hn⟩
theorem dist_self (T : Tr) : Dist T T 0 := ⟨rfl, fun _ _ => Nat.zero_le _⟩
structure BF (T : Tr) (K : List Tr) (p : Nat) (g : Tr → Nat) : Prop where
  right : ∀ U, U ∈ K → Dist T U (g U)
  start : T ∈ K
  nodup : K.Nodup
  ord : ∃ d q, p ≤ q ∧ (∀ i, ∀ h : i < K.length, p ≤ i → i < q → g K[i] = d) ∧ (∀ i, ∀ h : i < K.length, q ≤ i → g K[i] = d + 1) ∧ (∀ U j, j ≤ d → Dist T U j → U ∈ K)
  closed : ∀ i, ∀ h : i < K.length, i < p → ∀ V ∈ near0 K[i], V ∈ K
structure BG (T : Tr) (K : List Tr) (p : Nat) (g : Tr → Nat) (L : List Tr) (H : Tr) (d : Nat) : Prop where
  right : ∀ U, U ∈ K → Dist T U (g U)
  start : T ∈ K
  nodup : K.Nodup
  head : K[p]? = some H
  told : g H = d
  ord : ∃ q, p < q ∧ (∀ i, ∀ h : i < K.length, p ≤ i → i < q → g K[i] = d) ∧ (∀ i, ∀ h : i < K.length, q ≤ i → g K[i] = d + 1) ∧ (∀ U j, j ≤ d → Dist T U j → U ∈ K)
  closed : ∀ i, ∀ h : i < K.length, i < p → ∀ V ∈ near0 K[i], V ∈ K
  done : ∀ V ∈ L, V ∈ K
theorem BF.first (T : Tr) (g : Tr → Nat) (hg : g T = 0) : BF T [T] 0 g where
  right := fun U h => by cases List.mem_singleton.1 h; rw [hg]; exact dist_self _
  start := List.mem_singleton.2 rfl
  nodup := by simp
  ord := ⟨0, 1, by omega, fun i h _ _ => by
      have : i = 0 := by simp at h; exact h
      subst this; exact hg, fun i h hi => by simp at h; omega, fun U j hj hd => by
      have : j = 0 := by omega
      subst this
      exact List.mem_singleton.2 (show U = T from hd.1)⟩
  closed := fun i _ h => by omega
theorem BG.new {T : Tr} {K : List Tr} {p d : Nat} {g g' : Tr → Nat} {L : List Tr} {H : Tr} (h : BG T K p g L H d) {V : Tr} (hV : ¬ V ∈ K) (hn : V ∈ near0 H) (hg : ∀ U, U ∈ K → g' U = g U) (hgV : g' V = d + 1) :
    BG T (K ++ [V]) p g' (L ++ [V]) H d := by
  have hp : p < K.length := (List.getElem?_eq_some_iff.1 h.head).1
  have hH : K[p] = H := (List.getElem?_eq_some_iff.1 h.head).2
  have hHK : H ∈ K := hH ▸ List.getElem_mem hp
  obtain ⟨q, h1, h2, h3, h4⟩ := h.ord
  have hdV : Dist T V (d + 1) := by
    obtain ⟨j, hj, hd⟩ := Dist.near (h.told ▸ h.right H hHK) hn
    by_cases hjd : j ≤ d
    · exact absurd (h4 V j hjd hd) hV
    · have : j = d + 1 := by omega
      exact this ▸ hd
  have sub : ∀ U, U ∈ K → U ∈ K ++ [V] := fun U hU => List.mem_append_left _ hU
  have hat : ∀ i, ∀ hi : i < (K ++ [V]).length, (∃ hK : i < K.length, (K ++ [V])[i] = K[i]) ∨ (i = K.length ∧ (K ++ [V])[i] = V) := fun i hi => by
    by_cases hK : i < K.length
    · exact .inl ⟨hK, List.getElem_append_left hK⟩
    · have : i = K.length := by simp at hi; omega
      subst this
      exact .inr ⟨rfl, by simp⟩
  refine ⟨fun U hU => ?_, sub _ h.start, ?_, ?_, (hg H hHK).trans h.told, ⟨min q K.length, by omega, fun i hi hpi hiq => ?_, fun i hi hiq => ?_, fun U j hj hd => sub _ (h4 U j hj hd)⟩, fun i hi hip W hW => ?_, fun U hU => ?_⟩
  · rcases List.mem_append.1 hU with hU | hU
    · rw [hg U hU]; exact h.right U hU
    · cases List.mem_singleton.1 hU; rw [hgV]; exact hdV
  · exact List.nodup_append.2 ⟨h.nodup, by simp, fun x hx y hy e => hV (by cases List.mem_singleton.1 hy; exact e ▸ hx)⟩
  · rw [List.getElem?_append_left hp]; exact h.head
  · rcases hat i hi with ⟨hK, e⟩ | ⟨e, _⟩
    · rw [e, hg _ (List.getElem_mem hK)]; exact h2 i hK hpi (by omega)
    · omega
  · rcases hat i hi with ⟨hK, e⟩ | ⟨_, e⟩
    · rw [e, hg _ (List.getElem_mem hK)]; exact h3 i hK (by omega)
    · rw [e, hgV]
  · rcases hat i hi with ⟨hK, e⟩ | ⟨e, _⟩
    · rw [e] at hW; exact sub _ (h.closed i hK hip W hW)
    · omega
  · rcases List.mem_append.1 hU with hU | hU
    · exact sub _ (h.done U hU)
    · exact List.mem_append_right _ hU
theorem BF.all {T : Tr} {K : List Tr} {p : Nat} {g : Tr → Nat} (h : BF T K p g) (hp : K.length ≤ p) : ∀ {k : Nat} {U : Tr}, Way k T U → U ∈ K
  | 0, U, e => by cases (show U = T from e); exact h.start
  | k + 1, U, ⟨M, h1, h2⟩ => by
    obtain ⟨i, hi, e⟩ := List.getElem_of_mem (h.all hp h1)
    subst e
    exact h.closed i hi (by omega) U h2
theorem BF.carets {T : Tr} {K : List Tr} {p : Nat} {g : Tr → Nat} (h : BF T K p g) {U : Tr} (hU : U ∈ K) : U.carets = T.carets := (h.right U hU).1.carets
theorem BG.carets {T : Tr} {K : List Tr} {p d : Nat} {g : Tr → Nat} {L : List Tr} {H : Tr} (h : BG T K p g L H d) {U : Tr} (hU : U ∈ K) : U.carets = T.carets := (h.right U hU).1.carets
structure LV (T : Tr) (r : Nat) (R S : List Tr) : Prop where
  all : ∀ U, U ∈ R ↔ ∃ j, j ≤ r ∧ Way j T U
  last : ∀ U, U ∈ S ↔ Dist T U r
theorem LV.first (T : Tr) : LV T 0 [T] [T] where
  all := fun U => ⟨fun h => ⟨0, Nat.le_refl _, List.mem_singleton.1 h⟩, fun ⟨j, hj, h⟩ => by
    have : j = 0 := by omega
    subst this; exact List.mem_singleton.2 h⟩
  last := fun U => ⟨fun h => by cases List.mem_singleton.1 h; exact dist_self _, fun h => List.mem_singleton.2 (show U = T from h.1)⟩
end Go.Proofs.YtdcipaaclpedhaaGreat.N
