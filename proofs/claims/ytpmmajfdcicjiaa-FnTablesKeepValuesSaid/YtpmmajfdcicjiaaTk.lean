import Derived.Test.YtpmmajfdcicjiaaBa
import Derived.Test.YtpmmajfdcicjiaaPu
import Derived.Test.YtpmmajfdcicjiaaSl
import Derived.Test.YtpmmajfdcicjiaaProg
import Derived.Test.YtpmmajfdcicjiaaTn
import Derived.Test.YtpmmajfdcicjiaaTs
import Derived.Test.YtpmmajfdcicjiaaPp
import Derived.Test.YtpmmajfdcicjiaaPg
import Derived.Test.YtpmmajfdcicjiaaPb
import Derived.Test.YtpmmajfdcicjiaaPh
import Derived.Test.YtpmmajfdcicjiaaWl
import Derived.Test.YtpmmajfdcicjiaaT3
import Derived.Test.YtpmmajfdcicjiaaTp
import Derived.Test.YtpmmajfdcicjiaaTr
import Derived.Test.YtpmmajfdcicjiaaTu
import Derived.Test.YtpmmajfdcicjiaaTg
import Derived.Test.YtpmmajfdcicjiaaTj
import Derived.Deep.LoopGhost
import Derived.Deep.RegionHeld3
import Derived.Deep.QuietTactic
import Derived.StillTailTactics
/- Products and conjugates of pairs, as the program has them. -/
namespace Go.Proofs.Ytpmmajfdcicjiaa.N
open Go.RowKit
set_option linter.unusedVariables false
set_option linter.unusedSimpArgs false

theorem boxQQ_facts (w : World) (a b c d x y : Value) (t u : TypeId) :
    Ext w (((w.alloc (.cells #[a, b] t)).alloc (.cells #[c, d] t)).alloc (.cells #[x, y] u)) ∧
    (((w.alloc (.cells #[a, b] t)).alloc (.cells #[c, d] t)).alloc (.cells #[x, y] u)).cell? ⟨w.heap.size, 0, none⟩ = some a ∧
    (((w.alloc (.cells #[a, b] t)).alloc (.cells #[c, d] t)).alloc (.cells #[x, y] u)).cell? ⟨w.heap.size, 1, none⟩ = some b ∧
    (((w.alloc (.cells #[a, b] t)).alloc (.cells #[c, d] t)).alloc (.cells #[x, y] u)).cell? ⟨w.heap.size + 1, 0, none⟩ = some c ∧
    (((w.alloc (.cells #[a, b] t)).alloc (.cells #[c, d] t)).alloc (.cells #[x, y] u)).cell? ⟨w.heap.size + 1, 1, none⟩ = some d ∧
    Two (((w.alloc (.cells #[a, b] t)).alloc (.cells #[c, d] t)).alloc (.cells #[x, y] u)) (w.heap.size + 1 + 1) u := by
  have h0 := (((Ext.refl (w.alloc (.cells #[a, b] t))).alloc (.cells #[c, d] t)).alloc (.cells #[x, y] u)).at (heap_alloc_new w (.cells #[a, b] t))
  have h1 := ((Ext.refl ((w.alloc (.cells #[a, b] t)).alloc (.cells #[c, d] t))).alloc (.cells #[x, y] u)).at (heap_alloc_new (w.alloc (.cells #[a, b] t)) (.cells #[c, d] t))
  rw [show (w.alloc (.cells #[a, b] t)).heap.size = w.heap.size + 1 by simp] at h1
  exact ⟨(((Ext.refl w).alloc _).alloc _).alloc _, (cells_of h0).1, (cells_of h0).2, (cells_of h1).1, (cells_of h1).2, Two.new _ _ _ _ (by simp)⟩
set_option maxHeartbeats 3200000 in
set_option maxRecDepth 100000 in
theorem times_calls (A B C D : Tr) (hAB : A.carets = B.carets) (hCD : C.carets = D.carets) (hB : B.carets < 100000) (hC : C.carets < 100000) (pa pb pc pd : Option Addr) (w : World) (ra : Rep w A pa) (rb : Rep w B pb) (rc : Rep w C pc) (rd : Rep w D pd) :
    Calls Try.prog 141 #[.agg #[.pointer pa, .pointer pb], .agg #[.pointer pc, .pointer pd]] w (GivesP w (mul (A, B) (C, D)).1 (mul (A, B) (C, D)).2) := by
  obtain ⟨X0, c0, c1, c2, c3, t0⟩ := boxQQ_facts w (.pointer pa) (.pointer pb) (.pointer pc) (.pointer pd) (.pointer none) (.pointer none) 93 93
  have C1 := Lib.hid (fun W (h : Ext w W) => join_calls B C pb pc W (rb.ext h) (rc.ext h))
  have C2 := Lib.hid (fun pw W (h : Ext w W) hw => parts_calls B (join B C) (part_join_l B C) (by omega) pb pw W (rb.ext h) hw)
  have C3 := Lib.hid (fun pw W (h : Ext w W) hw => parts_calls C (join B C) (part_join_r B C) (by omega) pc pw W (rc.ext h) hw)
  have C4 := Lib.hid (fun cap W (h : Ext w W) hk => grown_calls (fun i => (partsT B (join B C)).getD i .leaf) (B.carets + 1) 203 cap A pa 0 W (by omega) (by omega) (ra.ext h) hk)
  have C5 := Lib.hid (fun cap W (h : Ext w W) hk => grown_calls (fun i => (partsT C (join B C)).getD i .leaf) (C.carets + 1) 203 cap D pd 0 W (by omega) (by omega) (rd.ext h) hk)
  obtain ⟨mc1, mc2⟩ := mul0_carets (p := (A, B)) (q := (C, D)) hAB hCD
  have jc := join_carets B C
  have C6 := Lib.hid (fun p1 p2 W => reduced_calls (mul0 (A, B) (C, D)).1 (mul0 (A, B) (C, D)).2 (by rw [mc1]; simp only; omega) (by rw [mc2]; simp only; omega) p1 p2 W)
  have EM : Hid (GivesP w (mul (A, B) (C, D)).1 (mul (A, B) (C, D)).2 = GivesP w (red ((mul0 (A, B) (C, D)).1, (mul0 (A, B) (C, D)).2)).1 (red ((mul0 (A, B) (C, D)).1, (mul0 (A, B) (C, D)).2)).2) := rfl
  rw [EM.out]
  change Hid (∀ (cap : Array Value) (W : World), Ext w W → Clo W _ _ _ cap → Calls _ _ _ W (GivesT W (mul0 (A, B) (C, D)).1)) at C4
  change Hid (∀ (cap : Array Value) (W : World), Ext w W → Clo W _ _ _ cap → Calls _ _ _ W (GivesT W (mul0 (A, B) (C, D)).2)) at C5
  generalize (red ((mul0 (A, B) (C, D)).1, (mul0 (A, B) (C, D)).2)).1 = Z1 at *
  generalize (red ((mul0 (A, B) (C, D)).1, (mul0 (A, B) (C, D)).2)).2 = Z2 at *
  generalize (mul0 (A, B) (C, D)).1 = Y1 at *
  generalize (mul0 (A, B) (C, D)).2 = Y2 at *
  have X0 := Lib.hid X0
  clear hAB hCD hB hC ra rb rc rd mc1 mc2 jc EM
  go_enter Try.func141, Try.ntmps141
  go_wp2_with fail
  generalize ((w.alloc (.cells #[.pointer pa, .pointer pb] 93)).alloc (.cells #[.pointer pc, .pointer pd] 93)).alloc (.cells #[.pointer none, .pointer none] 93) = W at *
  refine (C1.out _ X0.out).mono ?_
  rintro e w1 ⟨pw, rfl, rw1, x1⟩
  have X1 := Lib.hid (X0.out.trans x1)
  have c0 := x1.cell c0
  have c1 := x1.cell c1
  have c2 := x1.cell c2
  have c3 := x1.cell c3
  have T1 := Lib.hid (t0.ext x1)
  have RW := Lib.hid rw1
  clear t0 x1 rw1
  go_wp2_with fail
  go_region_held3 (fun w' => w'.cell? ⟨w.heap.size, 0, none⟩ = some (.pointer pa) ∧ w'.cell? ⟨w.heap.size, 1, none⟩ = some (.pointer pb) ∧ Ext w1 w')
    (first | with_reducible exact two_cells c0 c1 (Ext.refl _).drew | with_reducible exact two_cells c0 c1 x3 | with_reducible exact two_cells c0 c1 x2 | fail)
    (first
      | (go_at_call 187; refine (C2.out pw _ (X1.out.trans (Ext.refl _).drew) (RW.out.ext (Ext.refl _).drew)).mono ?_; rintro e w2 ⟨b1, b2, rfl, cl, hx2⟩; have x2 := (Ext.refl w1).drew.trans hx2)
      | (go_at_call 179; refine (C4.out _ _ (X1.out.trans x2) cl).mono ?_; rintro e w3 ⟨y1, rfl, ry1, hx3⟩; have x3 := x2.trans hx3)
      | fail)
  have X3 := Lib.hid (X1.out.trans x3)
  have c2 := x3.cell c2
  have c3 := x3.cell c3
  have T3 := Lib.hid (T1.out.ext x3)
  have RW3 := Lib.hid (RW.out.ext x3)
  have RY1 := Lib.hid ry1
  clear x3 x2 hx2 hx3 cl ry1
  go_wp2_with fail
  go_region_held3 (fun w' => w'.cell? ⟨w.heap.size + 1, 0, none⟩ = some (.pointer pc) ∧ w'.cell? ⟨w.heap.size + 1, 1, none⟩ = some (.pointer pd) ∧ Ext w3 w')
    (first | with_reducible exact two_cells c2 c3 (Ext.refl _).drew | with_reducible exact two_cells c2 c3 x5 | with_reducible exact two_cells c2 c3 x4 | fail)
    (first
      | (go_at_call 187; refine (C3.out pw _ (X3.out.trans (Ext.refl _).drew) (RW3.out.ext (Ext.refl _).drew)).mono ?_; rintro e w4 ⟨b1, b2, rfl, cl, hx4⟩; have x4 := (Ext.refl w3).drew.trans hx4)
      | (go_at_call 179; refine (C5.out _ _ (X3.out.trans x4) cl).mono ?_; rintro e w5 ⟨y2, rfl, ry2, hx5⟩; have x5 := x4.trans hx5)
      | fail)
  have X5 := Lib.hid (X3.out.trans x5)
  have T5 := Lib.hid (T3.out.ext x5)
  have RY1 := Lib.hid (RY1.out.ext x5)
  have RY2 := Lib.hid ry2
  clear x5 x4 hx4 hx5 cl ry2
  go_wp2_with fail
  refine (C6.out y1 y2 _ RY1.out RY2.out).mono ?_
  rintro e w6 ⟨z1, z2, rfl, rz1, rz2, x6⟩
  have T6 := T5.out.ext x6
  obtain ⟨u, v, k0, k1, f0, f1⟩ := T6.facts
  have T6 := Lib.hid T6
  have X6 := Lib.hid (X5.out.trans x6)
  have R6 := Lib.hid (And.intro rz1 rz2)
  clear x6 rz1 rz2
  go_wp2_with fail
  have HH := set2_heap T6.out (.pointer z1) (.pointer z2)
  have Q1 := Rep.set2 T6.out (by decide) (.pointer z1) (.pointer z2) R6.out.1
  have Q2 := Rep.set2 T6.out (by decide) (.pointer z1) (.pointer z2) R6.out.2
  have XX := X6.out.set2 (g := w.heap.size + 1 + 1) (by omega) (.pointer z1) (.pointer z2)
  change bodyPost _ _ _ _ _ (N.set2 _ (w.heap.size + 1 + 1) (.pointer z1) (.pointer z2))
  obtain ⟨hc0, hc1⟩ := cells_of HH
  generalize N.set2 _ (w.heap.size + 1 + 1) (.pointer z1) (.pointer z2) = W3 at *
  exact bodyPost_ret (v := .agg #[.pointer z1, .pointer z2]) (by simp [results, Try.results141, go_sem, hc0, hc1]) rfl ⟨z1, z2, rfl, Q1, Q2, XX⟩

set_option maxHeartbeats 3200000 in
theorem inverse_calls (pa pb : Option Addr) (w : World) :
    Calls Try.prog 139 #[.agg #[.pointer pa, .pointer pb]] w fun e w' => e = .returned (.agg #[.pointer pb, .pointer pa]) ∧ Ext w w' := by
  have X2 := Lib.hid (((Ext.refl w).alloc (.cells #[.pointer pa, .pointer pb] 93)).alloc (.cells #[.pointer pb, .pointer pa] 93))
  have HH := heap_alloc_new (w.alloc (.cells #[.pointer pa, .pointer pb] 93)) (.cells #[.pointer pb, .pointer pa] 93)
  rw [show (w.alloc (.cells #[.pointer pa, .pointer pb] 93)).heap.size = w.heap.size + 1 by simp] at HH
  obtain ⟨hc0, hc1⟩ := cells_of HH
  go_enter Try.func139, Try.ntmps139
  go_wp2_with fail
  exact bodyPost_ret (v := .agg #[.pointer pb, .pointer pa]) (by simp [results, Try.results139, go_sem, hc0, hc1]) rfl ⟨rfl, X2.out⟩

/-- The conjugate of p by q. -/
def conj (p q : Tr × Tr) : Tr × Tr := mul (mul (q.2, q.1) p) q
theorem conj_carets {p q : Tr × Tr} (hp : p.1.carets = p.2.carets) (hq : q.1.carets = q.2.carets) : (conj p q).1.carets = (conj p q).2.carets ∧ (conj p q).2.carets ≤ q.1.carets + p.1.carets + q.1.carets := by
  have h1 := mul_carets (p := (q.2, q.1)) (q := p) hq.symm hp
  have h2 := mul_carets (p := mul (q.2, q.1) p) (q := q) h1.1 hq
  simp only at h1
  exact ⟨h2.1, by have := h2.2; unfold conj; omega⟩
theorem quad_ext {w0 W W' : World} {a b : Nat} {u0 u1 v0 v1 : Value}
    (h : W.cell? ⟨a, 0, none⟩ = some u0 ∧ W.cell? ⟨a, 1, none⟩ = some u1 ∧ W.cell? ⟨b, 0, none⟩ = some v0 ∧ W.cell? ⟨b, 1, none⟩ = some v1 ∧ Ext w0 W) (hx : Ext W W') :
    W'.cell? ⟨a, 0, none⟩ = some u0 ∧ W'.cell? ⟨a, 1, none⟩ = some u1 ∧ W'.cell? ⟨b, 0, none⟩ = some v0 ∧ W'.cell? ⟨b, 1, none⟩ = some v1 ∧ Ext w0 W' :=
  ⟨hx.cell h.1, hx.cell h.2.1, hx.cell h.2.2.1, hx.cell h.2.2.2.1, h.2.2.2.2.trans hx⟩
theorem quad_far {w0 W : World} {a b g : Nat} {u0 u1 v0 v1 : Value} (x y : Value)
    (h : W.cell? ⟨a, 0, none⟩ = some u0 ∧ W.cell? ⟨a, 1, none⟩ = some u1 ∧ W.cell? ⟨b, 0, none⟩ = some v0 ∧ W.cell? ⟨b, 1, none⟩ = some v1 ∧ Ext w0 W) (ha : a ≠ g) (hb : b ≠ g) (hg : w0.heap.size ≤ g) :
    ((W.setCell ⟨g, 0, none⟩ x).setCell ⟨g, 1, none⟩ y).cell? ⟨a, 0, none⟩ = some u0 ∧ ((W.setCell ⟨g, 0, none⟩ x).setCell ⟨g, 1, none⟩ y).cell? ⟨a, 1, none⟩ = some u1 ∧ ((W.setCell ⟨g, 0, none⟩ x).setCell ⟨g, 1, none⟩ y).cell? ⟨b, 0, none⟩ = some v0 ∧ ((W.setCell ⟨g, 0, none⟩ x).setCell ⟨g, 1, none⟩ y).cell? ⟨b, 1, none⟩ = some v1 ∧ Ext w0 ((W.setCell ⟨g, 0, none⟩ x).setCell ⟨g, 1, none⟩ y) :=
  ⟨set2_far ha x y h.1, set2_far ha x y h.2.1, set2_far hb x y h.2.2.1, set2_far hb x y h.2.2.2.1, h.2.2.2.2.set2 hg x y⟩
