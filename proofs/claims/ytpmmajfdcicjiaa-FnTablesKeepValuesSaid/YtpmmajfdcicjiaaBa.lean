import Derived.Test.YtpmmajfdcicjiaaProg
import Derived.WalkKit
import Derived.Deep.QuietTactic
import Derived.BigQuiet
import Derived.Deep.RegionHeld3
import Derived.Deep.RegionWith
import Derived.Deep.Draws
import Derived.Deep.OwnRows
import Derived.WalkSpells
import Derived.Lib.Hide
import Derived.KernelRfl
/- Trees, their texts, and how a tree lies in memory: what all walks of this seat use. No condition. -/
namespace Go.Proofs.Ytpmmajfdcicjiaa.N
open Go.RowKit
set_option linter.unusedVariables false
set_option linter.unusedSimpArgs false

/-! ### Trees and their texts -/
inductive Tr where
  | leaf
  | node (l r : Tr)

def Tr.carets : Tr → Nat
  | .leaf => 0
  | .node l r => 1 + l.carets + r.carets
def Tr.depth : Tr → Nat
  | .leaf => 0
  | .node l r => max l.depth r.depth + 1
def Tr.txt : Tr → List UInt8
  | .leaf => [46]
  | .node l r => 40 :: (l.txt ++ (r.txt ++ [41]))
theorem Tr.depth_le : ∀ T : Tr, T.depth ≤ T.carets
  | .leaf => Nat.le_refl _
  | .node l r => by have := l.depth_le; have := r.depth_le; simp only [Tr.depth, Tr.carets]; omega
theorem Tr.txt_length : ∀ T : Tr, T.txt.length = 3 * T.carets + 1
  | .leaf => rfl
  | .node l r => by have := l.txt_length; have := r.txt_length; simp [Tr.txt, Tr.carets]; omega

/-- A string of bytes. -/
def S (l : List UInt8) : ByteArray := ⟨l.toArray⟩
theorem S_size (l : List UInt8) : (S l).size = l.length := rfl
theorem S_append (a b : List UInt8) : S a ++ S b = S (a ++ b) := by apply ByteArray.ext; simp [S]
theorem S_extract (l : List UInt8) (i j : Nat) : (S l).extract i j = S ((l.take j).drop i) := by
  apply ByteArray.ext
  simp [S, List.drop_take]
theorem S_toList (l : List UInt8) : (S l).toList = l := ByteArray.toList_mk l
theorem S_of (s : ByteArray) : s = S s.toList := by rw [ByteArray.toList_eq]; rfl
theorem S_tail (c : UInt8) (l : List UInt8) : (S (c :: l)).extract 1 (S (c :: l)).size = S l := by rw [S_extract]; simp [S_size]
theorem S_inj {a b : List UInt8} (h : S a = S b) : a = b := by have := congrArg ByteArray.toList h; simpa [S_toList] using this
theorem S_facts (c : UInt8) (l : List UInt8) : ((S (c :: l)).toList == []) = false ∧ 0 < (S (c :: l)).size ∧ (1 : Int) ≤ (S (c :: l)).size ∧ (∀ h : 0 < (S (c :: l)).size, (((S (c :: l))[0]'h).toNat : Int) = (c.toNat : Int)) ∧ Hid ((S (c :: l)).extract 1 (S (c :: l)).size = S l) :=
  ⟨by rw [S_toList]; rfl, by simp [S_size], by simp [S_size]; omega, fun _ => rfl, S_tail c l⟩
theorem S_nil : ((S []).toList == []) = true := by rw [S_toList]; rfl
theorem byte_ne {c d : UInt8} (h : c ≠ d) : ((c.toNat : Int) == (d.toNat : Int)) = false := by
  rw [beq_eq_false_iff_ne]; intro e; exact h (UInt8.toNat_inj.1 (Int.ofNat.inj e))
theorem byte_bne {c d : UInt8} (h : c ≠ d) : ((c.toNat : Int) != (d.toNat : Int)) = true := by
  rw [bne_iff_ne]; intro e; exact h (UInt8.toNat_inj.1 (Int.ofNat.inj e))

/-- A string of text T. -/
def tx (T : Tr) : ByteArray := S T.txt
theorem tx_leaf : tx .leaf = ⟨#[46]⟩ := rfl
theorem tx_node (l r : Tr) : tx (.node l r) = ((⟨#[40]⟩ ++ tx l) ++ tx r) ++ ⟨#[41]⟩ := by
  show S _ = ((S [40] ++ S _) ++ S _) ++ S [41]
  simp only [S_append, Tr.txt]
  simp

/-! ### Reading -/
def rd : Nat → List UInt8 → Option (Tr × List UInt8)
  | 0, _ => none
  | _ + 1, [] => none
  | n + 1, c :: l =>
    if c = 46 then some (.leaf, l) else if c = 40 then
      match rd n l with
      | none => none
      | some (a, l1) =>
        match rd n l1 with
        | some (b, 41 :: l3) => some (.node a b, l3)
        | _ => none
    else none

theorem rd_txt : ∀ (T : Tr) (n : Nat) (r : List UInt8), T.depth < n → rd n (T.txt ++ r) = some (T, r)
  | .leaf, n + 1, r, _ => by simp [Tr.txt, rd]
  | .node a b, n + 1, r, h => by
    have ha : a.depth < n := by simp only [Tr.depth] at h; omega
    have hb : b.depth < n := by simp only [Tr.depth] at h; omega
    have e : (Tr.node a b).txt ++ r = 40 :: (a.txt ++ (b.txt ++ 41 :: r)) := by simp [Tr.txt]
    rw [e]
    simp only [rd]
    rw [if_neg (by decide), if_pos trivial, rd_txt a n _ ha]
    simp only
    rw [rd_txt b n _ hb]
    rfl

theorem rd_txt' (T : Tr) (n : Nat) (h : T.depth < n) : rd n T.txt = some (T, []) := by have := rd_txt T n [] h; simpa using this

theorem rd_some : ∀ {n : Nat} {l : List UInt8} {T : Tr} {r : List UInt8}, rd n l = some (T, r) → l = T.txt ++ r ∧ T.depth < n := by
  intro n
  induction n with
  | zero => intro l T r h; simp [rd] at h
  | succ n ih =>
    intro l T r h
    cases l with
    | nil => simp [rd] at h
    | cons c l =>
      simp only [rd] at h
      split at h
      · rename_i hc; subst hc
        simp only [Option.some.injEq, Prod.mk.injEq] at h; obtain ⟨rfl, rfl⟩ := h; exact ⟨rfl, Nat.succ_pos _⟩
      · split at h
        · rename_i _ hc; subst hc
          split at h
          · simp at h
          · rename_i a l1 h1
            split at h
            · rename_i b l3 h2
              simp only [Option.some.injEq, Prod.mk.injEq] at h
              obtain ⟨rfl, rfl⟩ := h
              obtain ⟨rfl, d1⟩ := ih h1
              obtain ⟨rfl, d2⟩ := ih h2
              exact ⟨by simp [Tr.txt], by simp only [Tr.depth]; omega⟩
            · simp at h
        · simp at h

theorem rd_length {n l T r} (h : rd n l = some (T, r)) : r.length ≤ l.length := by
  obtain ⟨rfl, _⟩ := rd_some h
  simp

theorem txt_inj {a b : Tr} {r s : List UInt8} (h : a.txt ++ r = b.txt ++ s) : a = b ∧ r = s := by
  have h1 := rd_txt a (a.depth + b.depth + 1) r (by omega)
  have h2 := rd_txt b (a.depth + b.depth + 1) s (by omega)
  rw [h] at h1
  rw [h1] at h2
  simpa using h2
theorem tx_inj {a b : Tr} (h : tx a = tx b) : a = b := by
  have := S_inj h
  exact (txt_inj (r := []) (s := []) (by simpa using this)).1

/-- The text is that of a tree with at most 8 carets. -/
def IsT (l : List UInt8) (T : Tr) : Prop := l = T.txt ∧ T.carets ≤ 8

/-! ### Memory -/
/-- Tree T lies in the world at p. -/
def Rep (w : World) : Tr → Option Addr → Prop
  | .leaf, p => p = none
  | .node l r, p => ∃ b pl pr, p = some ⟨b, 0, none⟩ ∧ w.heap[b]? = some (.cells #[.pointer pl, .pointer pr] 162) ∧ Rep w l pl ∧ Rep w r pr

/-- The world has only grown. -/
def Ext (w w' : World) : Prop := Below w.heap.size w w'
theorem Ext.refl (w : World) : Ext w w := Below.refl _ _
theorem Ext.trans {a b c : World} (h : Ext a b) (k : Ext b c) : Ext a c := Below.trans h (k.mono h.size)
theorem Ext.drewN {a b : World} (h : Ext a b) (n : Nat) : Ext a (b.drewN n) := ⟨h.os, h.tape, h.output, h.size, h.block⟩
theorem Ext.drew {a b : World} (h : Ext a b) : Ext a b.drew := ⟨h.os, h.tape, h.output, h.size, h.block⟩
theorem Ext.alloc {a b : World} (h : Ext a b) (o : Obj) : Ext a (b.alloc o) := Below.alloc h h.size o
theorem Ext.cell {a b : World} (h : Ext a b) {p : Addr} {v : Value} (hc : a.cell? p = some v) : b.cell? p = some v := (Below.cell h (World.block_lt_of_cell? a p hc)).trans hc
theorem Ext.heap {a b : World} (h : Ext a b) : a.heap.size ≤ b.heap.size := h.size

theorem Ext.at {a b : World} (h : Ext a b) {k : Nat} {o : Obj} (hc : a.heap[k]? = some o) : b.heap[k]? = some o := (h.block k (Array.getElem?_eq_some_iff.1 hc).1).trans hc
theorem Rep.ext {w w' : World} (h : Ext w w') : ∀ {T p}, Rep w T p → Rep w' T p
  | .leaf, _, hr => hr
  | .node _ _, _, ⟨b, pl, pr, e, h0, hl, hr⟩ => ⟨b, pl, pr, e, h.at h0, Rep.ext h hl, Rep.ext h hr⟩
theorem cells_of {w : World} {b : Nat} {u v : Value} {t : TypeId} (h : w.heap[b]? = some (.cells #[u, v] t)) : w.cell? ⟨b, 0, none⟩ = some u ∧ w.cell? ⟨b, 1, none⟩ = some v := by
  constructor <;> simp [World.cell?, h]
/-- A caret's two cells, and its sides. -/
theorem Rep.open {w : World} {l r : Tr} {p : Option Addr} (h : Rep w (.node l r) p) : ∃ b pl pr, p = some ⟨b, 0, none⟩ ∧ w.cell? ⟨b, 0, none⟩ = some (.pointer pl) ∧ w.cell? ⟨b, 1, none⟩ = some (.pointer pr) ∧ Rep w l pl ∧ Rep w r pr := by
  obtain ⟨b, pl, pr, e, h0, hl, hr⟩ := h
  exact ⟨b, pl, pr, e, (cells_of h0).1, (cells_of h0).2, hl, hr⟩
theorem Rep.made' {w : World} {l r : Tr} {pl pr : Option Addr} {n : Nat} (hl : Rep w l pl) (hr : Rep w r pr) (hn : w.heap.size = n) : Rep (w.alloc (.cells #[.pointer pl, .pointer pr] 162)) (.node l r) (some ⟨n, 0, none⟩) :=
  ⟨n, pl, pr, rfl, by rw [← hn]; exact heap_alloc_new w _, hl.ext ((Ext.refl w).alloc _), hr.ext ((Ext.refl w).alloc _)⟩
theorem Rep.made {w : World} {l r : Tr} {pl pr : Option Addr} (hl : Rep w l pl) (hr : Rep w r pr) : Rep (w.alloc (.cells #[.pointer pl, .pointer pr] 162)) (.node l r) (some ⟨w.heap.size, 0, none⟩) := Rep.made' hl hr rfl
/-- A tree stays while a block of another element type is written. -/
theorem Rep.far {w w' : World} {row : Option Nat} (hg : w.grownBy w' row) (hr : ∀ k, row = some k → ∃ cs e fr, w.heap[k]? = some (.cells cs e fr) ∧ e ≠ 162) : ∀ {T p}, Rep w T p → Rep w' T p
  | .leaf, _, h => h
  | .node _ _, _, ⟨b, pl, pr, e, h0, hl, hr'⟩ => ⟨b, pl, pr, e, (hg.block b (Array.getElem?_eq_some_iff.1 h0).1 (fun ek => by
      obtain ⟨cs, t, fr, h1, h2⟩ := hr b ek.symm
      rw [h1] at h0
      injection h0 with h0
      injection h0 with _ h3
      exact h2 h3)).trans h0, Rep.far hg hr hl, Rep.far hg hr hr'⟩
theorem Rep.none {w : World} {T : Tr} (h : Rep w T none) : T = .leaf := by
  cases T with
  | leaf => rfl
  | node l r => obtain ⟨_, _, _, e, _⟩ := h; cases e
theorem two_cells {w w' : World} {b : Nat} {pl pr : Option Addr} (h0 : w.cell? ⟨b, 0, none⟩ = some (.pointer pl)) (h1 : w.cell? ⟨b, 1, none⟩ = some (.pointer pr)) (h : Ext w w') : w'.cell? ⟨b, 0, none⟩ = some (.pointer pl) ∧ w'.cell? ⟨b, 1, none⟩ = some (.pointer pr) ∧ Ext w w' :=
  ⟨h.cell h0, h.cell h1, h⟩

theorem four_cells {w w' : World} {a b : Nat} {u0 u1 v0 v1 : Value} (h0 : w.cell? ⟨a, 0, none⟩ = some u0) (h1 : w.cell? ⟨a, 1, none⟩ = some u1) (g0 : w.cell? ⟨b, 0, none⟩ = some v0) (g1 : w.cell? ⟨b, 1, none⟩ = some v1) (h : Ext w w') :
    w'.cell? ⟨a, 0, none⟩ = some u0 ∧ w'.cell? ⟨a, 1, none⟩ = some u1 ∧ w'.cell? ⟨b, 0, none⟩ = some v0 ∧ w'.cell? ⟨b, 1, none⟩ = some v1 ∧ Ext w w' :=
  ⟨h.cell h0, h.cell h1, h.cell g0, h.cell g1, h⟩

/-! ### What calls give -/
/-- A value, the world grown. -/
def Gives (w : World) (v : Value) (e : Ending) (w' : World) : Prop := e = .returned v ∧ Ext w w'
/-- A tree. -/
def GivesT (w : World) (T : Tr) (e : Ending) (w' : World) : Prop := ∃ p, e = .returned (.pointer p) ∧ Rep w' T p ∧ Ext w w'
theorem ret_int {k : IntKind} {a b : Int} (h : a = b) : Ending.returned (.int k a) = .returned (.int k b) := by rw [h]
theorem ret2_int {k : IntKind} {a b : Int} {v : Value} (h : a = b) : Ending.returned (.tuple #[.int k a, v]) = .returned (.tuple #[.int k b, v]) := by rw [h]
/-! ### The built-in max -/
theorem max2_i (k k' : IntKind) (x y : Int) : Builtin.max2 (.int k x) (.int k' y) = pure (.int k (if x < y then y else x)) := by simp only [Builtin.max2, gt_iff_lt]
theorem max_two_ (ats : Array TypeId) (ty : TypeId) (a b : Value) : Builtin.max_ ats ty #[a, b] = (Builtin.max2 a b >>= fun s => pure s) := by simp only [Builtin.max_, List.foldlM_cons, List.foldlM_nil]
theorem wrap_ok {x : Int} (h : -9223372036854775808 ≤ x ∧ x ≤ 9223372036854775807) : IntKind.i64.wrap x = x := IntWalk.i64_in _ h
end Go.Proofs.Ytpmmajfdcicjiaa.N
