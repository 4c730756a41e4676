import Derived.BigQuiet
import Derived.Deep.Draws
import Derived.Deep.OwnRows
import Derived.Deep.QuietTactic
import Derived.Deep.RegionHeld3
import Derived.Deep.RegionWith
import Derived.KernelRfl
import Derived.Lib.Hide
import Derived.Test.YtijnadjgmmednaaProg
import Derived.WalkKit
import Derived.WalkSpells
/- A part of the proof: lemmas that later parts use. -/
set_option linter.unusedVariables false
set_option linter.unusedSimpArgs false
namespace Go.Proofs.Ytijnadjgmmednaa.N
open Go.RowKit
inductive Tr where
  | leaf
  | node (l r : Tr)
def Tr.carets : Tr → Nat
  | .leaf => 0
  | .node l r => 1 + l.carets + r.carets
def Tr.depth : Tr → Nat
  | .leaf => 0
  | .node l r => max l.depth r.depth + 1
def Tr.txt : Tr → List UInt8
  | .leaf => [46]
  | .node l r => 40 :: (l.txt ++ (r.txt ++ [41]))
theorem Tr.depth_le : ∀ T : Tr, T.depth ≤ T.carets
  | .leaf => Nat.le_refl _
  | .node l r => by have := l.depth_le; have := r.depth_le; simp only [Tr.depth, Tr.carets]; omega
theorem Tr.txt_length : ∀ T : Tr, T.txt.length = 3 * T.carets + 1
  | .leaf => rfl
  | .node l r => by have := l.txt_length; have := r.txt_length; simp [Tr.txt, Tr.carets]; omega
def S (l : List UInt8) : ByteArray := ⟨l.toArray⟩
theorem S_size (l : List UInt8) : (S l).size = l.length := rfl
theorem S_append (a b : List UInt8) : S a ++ S b = S (a ++ b) := by apply ByteArray.ext; simp [S]
theorem S_extract (l : List UInt8) (i j : Nat) : (S l).extract i j = S ((l.take j).drop i) := by
  apply ByteArray.ext
  simp [S, List.drop_take]
theorem S_toList (l : List UInt8) : (S l).toList = l := ByteArray.toList_mk l
theorem S_of (s : ByteArray) : s = S s.toList := by rw [ByteArray.toList_eq]; rfl
theorem S_tail (c : UInt8) (l : List UInt8) : (S (c :: l)).extract 1 (S (c :: l)).size = S l := by rw [S_extract]; simp [S_size]
theorem S_inj {a b : List UInt8} (h : S a = S b) : a = b := by have := congrArg ByteArray.toList h; simpa [S_toList] using this
theorem S_facts (c : UInt8) (l : List UInt8) : ((S (c :: l)).toList == []) = false ∧ 0 < (S (c :: l)).size ∧ (1 : Int) ≤ (S (c :: l)).size ∧ (∀ h : 0 < (S (c :: l)).size, (((S (c :: l))[0]'h).toNat : Int) = (c.toNat : Int)) ∧ Hid ((S (c :: l)).extract 1 (S (c :: l)).size = S l) :=
  ⟨by rw [S_toList]; rfl, by simp [S_size], by simp [S_size]; omega, fun _ => rfl, S_tail c l⟩
theorem S_nil : ((S []).toList == []) = true := by rw [S_toList]; rfl
theorem byte_ne {c d : UInt8} (h : c ≠ d) : ((c.toNat : Int) == (d.toNat : Int)) = false := by
  rw [beq_eq_false_iff_ne]; intro e; exact h (UInt8.toNat_inj.1 (Int.ofNat.inj e))
theorem byte_bne {c d : UInt8} (h : c ≠ d) : ((c.toNat : Int) != (d.toNat : Int)) = true := by
  rw [bne_iff_ne]; intro e; exact h (UInt8.toNat_inj.1 (Int.ofNat.inj e))
def tx (T : Tr) : ByteArray := S T.txt
theorem tx_leaf : tx .leaf = ⟨#[46]⟩ := rfl
theorem tx_node (l r : Tr) : tx (.node l r) = ((⟨#[40]⟩ ++ tx l) ++ tx r) ++ ⟨#[41]⟩ := by
  show S _ = ((S [40] ++ S _) ++ S _) ++ S [41]
  simp only [S_append, Tr.txt]
  simp
def rd : Nat → List UInt8 → Option (Tr × List UInt8)
  | 0, _ => none
  | _ + 1, [] => none
  | n + 1, c :: l =>
    if c = 46 then some (.leaf, l) else if c = 40 then
      match rd n l with
      | none => none
      | some (a, l1) =>
        match rd n l1 with
        | some (b, 41 :: l3) => some (.node a b, l3)
        | _ => none
    else none
theorem rd_txt : ∀ (T : Tr) (n : Nat) (r : List UInt8), T.depth < n → rd n (T.txt ++ r) = some (T, r)
  | .leaf, n + 1, r, _ => by simp [Tr.txt, rd]
  | .node a b, n + 1, r, h => by
    have ha : a.depth < n := by simp only [Tr.depth] at h; omega
    have hb : b.depth < n := by simp only [Tr.depth] at h; omega
    have e : (Tr.node a b).txt ++ r = 40 :: (a.txt ++ (b.txt ++ 41 :: r)) := by simp [Tr.txt]
    rw [e]
    simp only [rd]
    rw [if_neg (by decide), if_pos trivial, rd_txt a n _ ha]
    simp only
    rw [rd_txt b n _ hb]
    rfl
theorem rd_txt' (T : Tr) (n : Nat) (h : T.depth < n) : rd n T.txt = some (T, []) := by have := rd_txt T n [] h; simpa using this
theorem rd_some : ∀ {n : Nat} {l : List UInt8} {T : Tr} {r : List UInt8}, rd n l = some (T, r) → l = T.txt ++ r ∧ T.depth < n := by
  intro n
  induction n with
  | zero => intro l T r h; simp [rd] at h
  | succ n ih =>
    intro l T r h
    cases l with
    | nil => simp [rd] at h
    | cons c l =>
      simp only [rd] at h
      split at h
      · rename_i hc; subst hc
        simp only [Option.some.injEq, Prod.mk.injEq] at h; obtain ⟨rfl, rfl⟩ := h; exact ⟨rfl, Nat.succ_pos _⟩
      · split at h
        · rename_i _ hc; subst hc
          split at h
          · simp at h
          · rename_i a l1 h1
            split at h
            · rename_i b l3 h2
              simp only [Option.some.injEq, Prod.mk.injEq] at h
              obtain ⟨rfl, rfl⟩ := h
              obtain ⟨rfl, d1⟩ := ih h1
              obtain ⟨rfl, d2⟩ := ih h2
              exact ⟨by simp [Tr.txt], by simp only [Tr.depth]; omega⟩
            · simp at h
        · simp at h
theorem rd_length {n l T r} (h : rd n l = some (T, r)) : r.length ≤ l.length := by
  obtain ⟨rfl, _⟩ := rd_some h
  simp
theorem txt_inj {a b : Tr} {r s : List UInt8} (h : a.txt ++ r = b.txt ++ s) : a = b ∧ r = s := by
  have h1 := rd_txt a (a.depth + b.depth + 1) r (by omega)
  have h2 := rd_txt b (a.depth + b.depth + 1) s (by omega)
  rw [h] at h1
  rw [h1] at h2
  simpa using h2
theorem tx_inj {a b : Tr} (h : tx a = tx b) : a = b := by
  have := S_inj h
  exact (txt_inj (r := []) (s := []) (by simpa using this)).1
def Rep (w : World) : Tr → Option Addr → Prop
  | .leaf, p => p = none
  | .node l r, p => ∃ b pl pr, p = some ⟨b, 0, none⟩ ∧ w.heap[b]? = some (.cells #[.pointer pl, .pointer pr] 147) ∧ Rep w l pl ∧ Rep w r pr
def Ext (w w' : World) : Prop := Below w.heap.size w w'
theorem Ext.refl (w : World) : Ext w w := Below.refl _ _
theorem Ext.trans {a b c : World} (h : Ext a b) (k : Ext b c) : Ext a c := Below.trans h (k.mono h.size)
theorem Ext.drewN {a b : World} (h : Ext a b) (n : Nat) : Ext a (b.drewN n) := ⟨h.os, h.tape, h.output, h.size, h.block⟩
theorem Ext.drew {a b : World} (h : Ext a b) : Ext a b.drew := ⟨h.os, h.tape, h.output, h.size, h.block⟩
theorem Ext.alloc {a b : World} (h : Ext a b) (o : Obj) : Ext a (b.alloc o) := Below.alloc h h.size o
theorem Ext.cell {a b : World} (h : Ext a b) {p : Addr} {v : Value} (hc : a.cell? p = some v) : b.cell? p = some v := (Below.cell h (World.block_lt_of_cell? a p hc)).trans hc
theorem Ext.heap {a b : World} (h : Ext a b) : a.heap.size ≤ b.heap.size := h.size
theorem Ext.at {a b : World} (h : Ext a b) {k : Nat} {o : Obj} (hc : a.heap[k]? = some o) : b.heap[k]? = some o := (h.block k (Array.getElem?_eq_some_iff.1 hc).1).trans hc
theorem Rep.ext {w w' : World} (h : Ext w w') : ∀ {T p}, Rep w T p → Rep w' T p
  | .leaf, _, hr => hr
  | .node _ _, _, ⟨b, pl, pr, e, h0, hl, hr⟩ => ⟨b, pl, pr, e, h.at h0, Rep.ext h hl, Rep.ext h hr⟩
theorem cells_of {w : World} {b : Nat} {u v : Value} {t : TypeId} (h : w.heap[b]? = some (.cells #[u, v] t)) : w.cell? ⟨b, 0, none⟩ = some u ∧ w.cell? ⟨b, 1, none⟩ = some v := by
  constructor <;> simp [World.cell?, h]
theorem Rep.open {w : World} {l r : Tr} {p : Option Addr} (h : Rep w (.node l r) p) : ∃ b pl pr, p = some ⟨b, 0, none⟩ ∧ w.cell? ⟨b, 0, none⟩ = some (.pointer pl) ∧ w.cell? ⟨b, 1, none⟩ = some (.pointer pr) ∧ Rep w l pl ∧ Rep w r pr := by
  obtain ⟨b, pl, pr, e, h0, hl, hr⟩ := h
  exact ⟨b, pl, pr, e, (cells_of h0).1, (cells_of h0).2, hl, hr⟩
theorem Rep.made' {w : World} {l r : Tr} {pl pr : Option Addr} {n : Nat} (hl : Rep w l pl) (hr : Rep w r pr) (hn : w.heap.size = n) : Rep (w.alloc (.cells #[.pointer pl, .pointer pr] 147)) (.node l r) (some ⟨n, 0, none⟩) :=
  ⟨n, pl, pr, rfl, by rw [← hn]; exact heap_alloc_new w _, hl.ext ((Ext.refl w).alloc _), hr.ext ((Ext.refl w).alloc _)⟩
theorem Rep.made {w : World} {l r : Tr} {pl pr : Option Addr} (hl : Rep w l pl) (hr : Rep w r pr) : Rep (w.alloc (.cells #[.pointer pl, .pointer pr] 147)) (.node l r) (some ⟨w.heap.size, 0, none⟩) := Rep.made' hl hr rfl
theorem Rep.far {w w' : World} {row : Option Nat} (hg : w.grownBy w' row) (hr : ∀ k, row = some k → ∃ cs e fr, w.heap[k]? = some (.cells cs e fr) ∧ e ≠ 147) : ∀ {T p}, Rep w T p → Rep w' T p
  | .leaf, _, h => h
  | .node _ _, _, ⟨b, pl, pr, e, h0, hl, hr'⟩ => ⟨b, pl, pr, e, (hg.block b (Array.getElem?_eq_some_iff.1 h0).1 (fun ek => by
      obtain ⟨cs, t, fr, h1, h2⟩ := hr b ek.symm
      rw [h1] at h0
      injection h0 with h0
      injection h0 with _ h3
      exact h2 h3)).trans h0, Rep.far hg hr hl, Rep.far hg hr hr'⟩
theorem Rep.none {w : World} {T : Tr} (h : Rep w T none) : T = .leaf := by
  cases T with
  | leaf => rfl
  | node l r => obtain ⟨_, _, _, e, _⟩ := h; cases e
theorem two_cells {w w' : World} {b : Nat} {pl pr : Option Addr} (h0 : w.cell? ⟨b, 0, none⟩ = some (.pointer pl)) (h1 : w.cell? ⟨b, 1, none⟩ = some (.pointer pr)) (h : Ext w w') : w'.cell? ⟨b, 0, none⟩ = some (.pointer pl) ∧ w'.cell? ⟨b, 1, none⟩ = some (.pointer pr) ∧ Ext w w' :=
  ⟨h.cell h0, h.cell h1, h⟩
theorem four_cells {w w' : World} {a b : Nat} {u0 u1 v0 v1 : Value} (h0 : w.cell? ⟨a, 0, none⟩ = some u0) (h1 : w.cell? ⟨a, 1, none⟩ = some u1) (g0 : w.cell? ⟨b, 0, none⟩ = some v0) (g1 : w.cell? ⟨b, 1, none⟩ = some v1) (h : Ext w w') :
    w'.cell? ⟨a, 0, none⟩ = some u0 ∧ w'.cell? ⟨a, 1, none⟩ = some u1 ∧ w'.cell? ⟨b, 0, none⟩ = some v0 ∧ w'.cell? ⟨b, 1, none⟩ = some v1 ∧ Ext w w' :=
  ⟨h.cell h0, h.cell h1, h.cell g0, h.cell g1, h⟩
def GivesT (w : World) (T : Tr) (e : Ending) (w' : World) : Prop := ∃ p, e = .returned (.pointer p) ∧ Rep w' T p ∧ Ext w w'
theorem wrap_ok {x : Int} (h : -9223372036854775808 ≤ x ∧ x ≤ 9223372036854775807) : IntKind.i64.wrap x = x := IntWalk.i64_in _ h
end Go.Proofs.Ytijnadjgmmednaa.N
namespace Go.Proofs.Ytijnadjgmmednaa.N
def rot (bk : Bool) : Tr → Option Tr
  | .leaf => none
  | .node l r =>
    if bk then match r with
      | .leaf => none
      | .node b c => some (.node (.node l b) c)
    else match l with
      | .leaf => none
      | .node a b => some (.node a (.node b r))
def turnT (bk : Bool) : List UInt8 → Tr → Option Tr
  | [], T => rot bk T
  | _ :: _, .leaf => none
  | c :: l, .node a b =>
    if c = 48 then (turnT bk l a).map (fun x => .node x b)
    else if c = 49 then (turnT bk l b).map (fun x => .node a x)
    else none
def Tr.places : Tr → List UInt8 → List (List UInt8)
  | .leaf, _ => []
  | .node l r, at_ => at_ :: (l.places (at_ ++ [48]) ++ r.places (at_ ++ [49]))
def Tr.turns (bk : Bool) (T : Tr) : List (List UInt8) := (T.places []).filter fun a => (turnT bk a T).isSome
theorem rot_carets {bk : Bool} {T T' : Tr} (h : rot bk T = some T') : T'.carets = T.carets := by
  cases T with
  | leaf => simp [rot] at h
  | node l r =>
    cases bk
    · cases l with
      | leaf => simp [rot] at h
      | node a b => simp [rot] at h; subst h; simp only [Tr.carets]; omega
    · cases r with
      | leaf => simp [rot] at h
      | node a b => simp [rot] at h; subst h; simp only [Tr.carets]; omega
theorem turnT_carets {bk : Bool} : ∀ {a : List UInt8} {T T' : Tr}, turnT bk a T = some T' → T'.carets = T.carets
  | [], T, T', h => rot_carets h
  | _ :: _, .leaf, T', h => by simp [turnT] at h
  | c :: l, .node a b, T', h => by
    simp only [turnT] at h
    split at h
    · obtain ⟨x, hx, rfl⟩ := Option.map_eq_some_iff.1 h
      simp only [Tr.carets, turnT_carets hx]
    · split at h
      · obtain ⟨x, hx, rfl⟩ := Option.map_eq_some_iff.1 h
        simp only [Tr.carets, turnT_carets hx]
      · cases h
theorem places_map : ∀ (T : Tr) (a b : List UInt8), T.places (a ++ b) = (T.places b).map (a ++ ·)
  | .leaf, _, _ => rfl
  | .node l r, a, b => by
    simp only [Tr.places, List.map_cons, List.map_append, List.append_assoc]
    rw [places_map l a (b ++ [48]), places_map r a (b ++ [49])]
def Tr.step (T : Tr) : Option Tr := match T.turns false with
  | [] => none
  | a :: _ => turnT false a T
theorem filter_take {α : Type} (p : α → Bool) (l : List α) (k : Nat) (h : k < l.length) : (l.take (k + 1)).filter p = (l.take k).filter p ++ if p l[k] then [l[k]] else [] := by
  rw [List.take_add_one, List.getElem?_eq_getElem h, List.filter_append]
  simp only [Option.toList, List.filter_cons, List.filter_nil]
end Go.Proofs.Ytijnadjgmmednaa.N
namespace Go.Proofs.Ytijnadjgmmednaa.N
def expo : Tr → Nat → List Nat
  | .leaf, _ => []
  | .node .leaf .leaf, k => [k]
  | .node l r, k => expo l k ++ expo r (k + (l.carets + 1))
theorem expo_node {l r : Tr} (h : ¬ (l = .leaf ∧ r = .leaf)) (k : Nat) : expo (.node l r) k = expo l k ++ expo r (k + (l.carets + 1)) := by
  cases l with
  | leaf =>
    cases r with
    | leaf => exact absurd ⟨rfl, rfl⟩ h
    | node a b => simp [expo]
  | node a b => simp [expo]
def without : Tr → Nat → Tr
  | .leaf, _ => .leaf
  | .node .leaf .leaf, _ => .leaf
  | .node l r, k => if l.carets + 1 ≤ k then .node l (without r (k - (l.carets + 1))) else .node (without l k) r
theorem without_node {l r : Tr} (h : ¬ (l = .leaf ∧ r = .leaf)) (k : Nat) : without (.node l r) k = if l.carets + 1 ≤ k then .node l (without r (k - (l.carets + 1))) else .node (without l k) r := by
  cases l with
  | leaf =>
    cases r with
    | leaf => exact absurd ⟨rfl, rfl⟩ h
    | node a b => simp [without]
  | node a b => simp [without]
theorem nl_r (a b : Tr) : ¬ (Tr.leaf = .leaf ∧ Tr.node a b = .leaf) := fun h => by cases h.2
theorem nl_l (a b r : Tr) : ¬ (Tr.node a b = .leaf ∧ r = .leaf) := fun h => by cases h.1
theorem expo_shift : ∀ (T : Tr) (k j : Nat), expo T (k + j) = (expo T k).map (· + j)
  | .leaf, _, _ => rfl
  | .node .leaf .leaf, _, _ => rfl
  | .node .leaf (.node a b), k, j => by
    rw [expo_node (nl_r a b), expo_node (nl_r a b), List.map_append, expo_shift .leaf k j, ← expo_shift (.node a b), show k + j + (Tr.leaf.carets + 1) = k + (Tr.leaf.carets + 1) + j from by omega]
  | .node (.node a b) r, k, j => by
    rw [expo_node (nl_l a b r), expo_node (nl_l a b r), List.map_append, expo_shift (.node a b) k j, ← expo_shift r, show k + j + ((Tr.node a b).carets + 1) = k + ((Tr.node a b).carets + 1) + j from by omega]
theorem expo_range : ∀ (T : Tr) (k i : Nat), i ∈ expo T k → k ≤ i ∧ i < k + T.carets + 1 ∧ i + 1 ≤ k + T.carets
  | .leaf, _, _, h => by cases h
  | .node .leaf .leaf, k, i, h => by simp [expo] at h; subst h; simp [Tr.carets]; omega
  | .node .leaf (.node a b), k, i, h => by
    rw [expo_node (nl_r a b), List.mem_append] at h
    rcases h with h | h
    · cases h
    · have := expo_range _ _ _ h; have e : (Tr.node .leaf (.node a b)).carets = 1 + 0 + (Tr.node a b).carets := rfl; have e2 : Tr.leaf.carets = 0 := rfl; omega
  | .node (.node a b) r, k, i, h => by
    rw [expo_node (nl_l a b r), List.mem_append] at h
    have e : (Tr.node (.node a b) r).carets = 1 + (Tr.node a b).carets + r.carets := rfl
    rcases h with h | h
    · have := expo_range _ _ _ h; omega
    · have := expo_range _ _ _ h; omega
theorem expo_length : ∀ (T : Tr) (k : Nat), (expo T k).length ≤ T.carets
  | .leaf, _ => Nat.le_refl _
  | .node .leaf .leaf, _ => by simp [expo, Tr.carets]
  | .node .leaf (.node a b), k => by
    rw [expo_node (nl_r a b), List.length_append]; have := expo_length (.node a b) (k + (Tr.leaf.carets + 1)); simp only [expo, Tr.carets, List.length_nil] at *; omega
  | .node (.node a b) r, k => by
    rw [expo_node (nl_l a b r), List.length_append]; have h1 := expo_length (.node a b) k; have h2 := expo_length r (k + ((Tr.node a b).carets + 1)); have e : (Tr.node (.node a b) r).carets = 1 + (Tr.node a b).carets + r.carets := rfl; omega
theorem mem_expo_node {l r : Tr} (h : ¬ (l = .leaf ∧ r = .leaf)) {i : Nat} (hi : i ∈ expo (.node l r) 0) : (i < l.carets + 1 ∧ i ∈ expo l 0) ∨ (l.carets + 1 ≤ i ∧ i - (l.carets + 1) ∈ expo r 0) := by
  rw [expo_node h, List.mem_append] at hi
  rcases hi with hi | hi
  · have := expo_range _ _ _ hi; exact .inl ⟨by omega, hi⟩
  · have h2 := expo_range _ _ _ hi
    rw [expo_shift, List.mem_map] at hi
    obtain ⟨j, hj, rfl⟩ := hi
    exact .inr ⟨by omega, by rw [show j + (l.carets + 1) - (l.carets + 1) = j from by omega]; exact hj⟩
theorem without_carets : ∀ (T : Tr) (k : Nat), k ∈ expo T 0 → (without T k).carets + 1 = T.carets
  | .leaf, _, h => by cases h
  | .node .leaf .leaf, _, _ => rfl
  | .node .leaf (.node a b), k, h => by
    rcases mem_expo_node (nl_r a b) h with ⟨_, h⟩ | ⟨h1, h⟩
    · cases h
    · rw [without_node (nl_r a b), if_pos h1]; have := without_carets _ _ h; simp only [Tr.carets] at *; omega
  | .node (.node a b) r, k, h => by
    rcases mem_expo_node (nl_l a b r) h with ⟨h1, h⟩ | ⟨h1, h⟩
    · rw [without_node (nl_l a b r), if_neg (by omega)]; have := without_carets _ _ h; simp only [Tr.carets] at *; omega
    · rw [without_node (nl_l a b r), if_pos h1]; have := without_carets _ _ h; simp only [Tr.carets] at *; omega
def bothT (A B : Tr) : List Nat := (expo A 0).filter fun k => (expo B 0).contains k
theorem mem_both {A B : Tr} {k : Nat} (h : k ∈ bothT A B) : k ∈ expo A 0 ∧ k ∈ expo B 0 := by
  obtain ⟨h1, h2⟩ := List.mem_filter.1 h
  exact ⟨h1, by simpa using h2⟩
def redF : Nat → Tr × Tr → Tr × Tr
  | 0, p => p
  | n + 1, p => match bothT p.1 p.2 with
    | [] => p
    | k :: _ => redF n (without p.1 k, without p.2 k)
def red (p : Tr × Tr) : Tr × Tr := redF p.1.carets p
theorem both_zero {A B : Tr} (h : A.carets = 0) : bothT A B = [] := by
  cases A with
  | leaf => rfl
  | node l r => simp only [Tr.carets] at h; omega
theorem redF_more : ∀ (n m : Nat) (p : Tr × Tr), p.1.carets ≤ n → p.1.carets ≤ m → redF n p = redF m p := by
  intro n
  induction n with
  | zero =>
    intro m p h1 _
    have hb : bothT p.1 p.2 = [] := both_zero (by omega)
    cases m with
    | zero => rfl
    | succ m => simp only [redF, hb]
  | succ n ih =>
    intro m p h1 h2
    cases m with
    | zero =>
      have hb : bothT p.1 p.2 = [] := both_zero (by omega)
      simp only [redF, hb]
    | succ m =>
      simp only [redF]
      cases hb : bothT p.1 p.2 with
      | nil => rfl
      | cons k l =>
        have := without_carets p.1 k (mem_both (by rw [hb]; exact List.mem_cons_self)).1
        exact ih m _ (by simp only; omega) (by simp only; omega)
theorem red_nil {p : Tr × Tr} (h : bothT p.1 p.2 = []) : red p = p := by
  unfold red
  cases p.1.carets with
  | zero => rfl
  | succ n => simp only [redF, h]
theorem red_cons {p : Tr × Tr} {k : Nat} {l : List Nat} (h : bothT p.1 p.2 = k :: l) : red p = red (without p.1 k, without p.2 k) := by
  have hc := without_carets p.1 k (mem_both (by rw [h]; exact List.mem_cons_self)).1
  unfold red
  obtain ⟨n, hn⟩ : ∃ n, p.1.carets = n + 1 := ⟨p.1.carets - 1, by omega⟩
  rw [hn]
  simp only [redF, h]
  exact redF_more _ _ _ (by simp only; omega) (by simp only; omega)
theorem redF_le : ∀ (n : Nat) (p : Tr × Tr), (redF n p).1.carets ≤ p.1.carets ∧ (redF n p).2.carets ≤ p.2.carets ∧ (p.1.carets = p.2.carets → (redF n p).1.carets = (redF n p).2.carets)
  | 0, p => ⟨Nat.le_refl _, Nat.le_refl _, fun h => h⟩
  | n + 1, p => by
    simp only [redF]
    cases hb : bothT p.1 p.2 with
    | nil => exact ⟨Nat.le_refl _, Nat.le_refl _, fun h => h⟩
    | cons k l =>
      obtain ⟨m1, m2⟩ := mem_both (A := p.1) (B := p.2) (k := k) (by rw [hb]; exact List.mem_cons_self)
      have h1 := without_carets p.1 k m1
      have h2 := without_carets p.2 k m2
      obtain ⟨a, b, c⟩ := redF_le n (without p.1 k, without p.2 k)
      simp only at a b c
      exact ⟨by simp only; omega, by simp only; omega, fun h => c (by omega)⟩
theorem red_le (p : Tr × Tr) : (red p).1.carets ≤ p.1.carets ∧ (red p).2.carets ≤ p.2.carets := ⟨(redF_le _ p).1, (redF_le _ p).2.1⟩
theorem red_same {p : Tr × Tr} (h : p.1.carets = p.2.carets) : (red p).1.carets = (red p).2.carets := (redF_le _ p).2.2 h
theorem redF_both : ∀ (n : Nat) (p : Tr × Tr), p.1.carets ≤ n → bothT (redF n p).1 (redF n p).2 = []
  | 0, p, h => both_zero (by simp only [redF]; omega)
  | n + 1, p, h => by
    simp only [redF]
    cases hb : bothT p.1 p.2 with
    | nil => exact hb
    | cons k l =>
      have h1 := without_carets p.1 k (mem_both (by rw [hb]; exact List.mem_cons_self)).1
      exact redF_both n _ (by simp only; omega)
theorem red_both (p : Tr × Tr) : bothT (red p).1 (red p).2 = [] := redF_both _ _ (Nat.le_refl _)
end Go.Proofs.Ytijnadjgmmednaa.N
