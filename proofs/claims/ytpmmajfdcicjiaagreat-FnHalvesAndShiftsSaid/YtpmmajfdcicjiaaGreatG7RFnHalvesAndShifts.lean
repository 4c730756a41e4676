import Derived.Test.YtpmmajfdcicjiaaGreatG1RFnHalvesAndShifts
import Derived.Test.YtpmmajfdcicjiaaGreatG2RFnHalvesAndShifts
import Derived.Test.YtpmmajfdcicjiaaGreatProg
import Derived.Test.YtpmmajfdcicjiaaGreatG5RFnHalvesAndShifts
import Derived.Test.YtpmmajfdcicjiaaGreatG3RFnHalvesAndShifts
import Derived.Test.YtpmmajfdcicjiaaGreatG6RFnHalvesAndShifts
import Derived.Deep.LoopGhost
import Derived.StillTailTactics
/- Pairs as values: drop, reduced, plain and their kin. -/
namespace Go.Proofs.YtpmmajfdcicjiaaGreat.N
open Go.RowKit
set_option linter.unusedVariables false
set_option linter.unusedSimpArgs false

theorem Ext.setCell {a b : World} (h : Ext a b) {p : Addr} (hp : a.heap.size ≤ p.block) (u : Value) : Ext a (b.setCell p u) := Below.setCell h hp u
theorem Ext.old {a b : World} (h : Ext a b) {k : Nat} (hk : k < a.heap.size) : b.heap[k]? = a.heap[k]? := h.block k hk
theorem Ext.frozen {a b : World} (h : Ext a b) {p : Addr} (hp : p.block < a.heap.size) : b.frozen? p = a.frozen? p := Below.frozen h hp
/-- A block of two cells, as a store finds it. -/
structure Two (w : World) (g : Nat) (t : TypeId) : Prop where
  at_ : ∃ u v, w.heap[g]? = some (.cells #[u, v] t)
theorem Two.ext {w w' : World} {g t} (h : Two w g t) (hx : Ext w w') : Two w' g t := ⟨let ⟨u, v, e⟩ := h.at_; ⟨u, v, hx.at e⟩⟩
theorem Two.new (w : World) {n : Nat} (u v : Value) (t : TypeId) (h : w.heap.size = n) : Two (w.alloc (.cells #[u, v] t)) n t := ⟨u, v, h ▸ heap_alloc_new w _⟩
theorem Two.facts {w : World} {g t} (h : Two w g t) : ∃ u v, w.cell? ⟨g, 0, none⟩ = some u ∧ w.cell? ⟨g, 1, none⟩ = some v ∧ w.frozen? ⟨g, 0, none⟩ = false ∧ w.frozen? ⟨g, 1, none⟩ = false := by
  obtain ⟨u, v, e⟩ := h.at_
  exact ⟨u, v, (cells_of e).1, (cells_of e).2, by simp [World.frozen?, e], by simp [World.frozen?, e]⟩
/-- The two cells of a struct set. -/
def set2 (w : World) (g : Nat) (a b : Value) : World := (w.setCell ⟨g, 0, none⟩ a).setCell ⟨g, 1, none⟩ b
theorem set2_heap {w : World} {g t} (h : Two w g t) (a b : Value) : (set2 w g a b).heap[g]? = some (.cells #[a, b] t) := by
  obtain ⟨u, v, e⟩ := h.at_
  have h1 := heap_setCell_same w g 0 #[u, v] t a e
  have h2 := heap_setCell_same (w.setCell ⟨g, 0, none⟩ a) g 1 _ t b h1
  exact h2
theorem set2_other {w : World} {g k : Nat} (hk : k ≠ g) (a b : Value) : (set2 w g a b).heap[k]? = w.heap[k]? := by
  unfold set2
  rw [Below.heap_setCell _ _ _ _ (by exact hk), Below.heap_setCell _ _ _ _ (by exact hk)]
theorem set2_far {w : World} {g : Nat} {q : Addr} {x : Value} (hq : q.block ≠ g) (a b : Value) (h : w.cell? q = some x) : (set2 w g a b).cell? q = some x := (World.cell?_of_block (set2_other hq a b)).trans h
theorem Ext.set2 {a w : World} (h : Ext a w) {g : Nat} (hg : a.heap.size ≤ g) (u v : Value) : Ext a (N.set2 w g u v) := (h.setCell (p := ⟨g, 0, none⟩) hg u).setCell (p := ⟨g, 1, none⟩) hg v
theorem Rep.set2 {w : World} {g t} (h : Two w g t) (ht : t ≠ 79) (a b : Value) : ∀ {T p}, Rep w T p → Rep (N.set2 w g a b) T p
  | .leaf, _, hr => hr
  | .node _ _, _, ⟨c, pl, pr, e, h0, hl, hr⟩ => ⟨c, pl, pr, e, by
      rw [set2_other (fun e2 => by
        obtain ⟨u, v, e3⟩ := h.at_
        rw [← e2, h0] at e3
        injection e3 with e3
        injection e3 with _ e4
        exact ht e4.symm)]; exact h0, Rep.set2 h ht a b hl, Rep.set2 h ht a b hr⟩
theorem two_cells_set {w0 W : World} {b g : Nat} {u0 u1 : Value} (a v : Value) (c0 : W.cell? ⟨b, 0, none⟩ = some u0) (c1 : W.cell? ⟨b, 1, none⟩ = some u1) (hne : b ≠ g) (hx : Ext w0 W) (hg : w0.heap.size ≤ g) :
    (set2 W g a v).cell? ⟨b, 0, none⟩ = some u0 ∧ (set2 W g a v).cell? ⟨b, 1, none⟩ = some u1 ∧ Ext w0 (set2 W g a v) :=
  ⟨(World.cell?_of_block (set2_other hne a v)).trans c0, (World.cell?_of_block (set2_other hne a v)).trans c1, hx.set2 hg a v⟩
/-- A tree stays while cells of a block beyond are set. -/
theorem Rep.set {w : World} {q : Addr} {u : Value} (hq : ∀ l r, w.heap[q.block]? ≠ some (.cells #[l, r] 79)) : ∀ {T p}, Rep w T p → Rep (w.setCell q u) T p
  | .leaf, _, hr => hr
  | .node _ _, _, ⟨b, pl, pr, e, h0, hl, hr⟩ => ⟨b, pl, pr, e, by
      rw [Below.heap_setCell _ _ _ _ (fun e2 => hq _ _ (e2 ▸ h0))]; exact h0, Rep.set hq hl, Rep.set hq hr⟩
/-- A pair that is given back. -/
def GivesP (w : World) (A B : Tr) (e : Ending) (w' : World) : Prop := ∃ pa pb, e = .returned (.agg #[.pointer pa, .pointer pb]) ∧ Rep w' A pa ∧ Rep w' B pb ∧ Ext w w'

set_option maxHeartbeats 3200000 in
set_option maxRecDepth 100000 in
theorem drop_calls (A B : Tr) (k : Nat) (hA : A.carets < 10000000) (hB : B.carets < 10000000) (kA : k ∈ expo A 0) (kB : k ∈ expo B 0) (pa pb : Option Addr) (w : World) (ra : Rep w A pa) (rb : Rep w B pb) :
    Calls Tryz.prog 102 #[.agg #[.pointer pa, .pointer pb], .int .i64 k] w (GivesP w (without A k) (without B k)) := by
  have X1 := Lib.hid ((Ext.refl w).alloc (.cells #[.pointer pa, .pointer pb] 67))
  have X2 := Lib.hid (X1.out.alloc (.cells #[.pointer none, .pointer none] 67))
  have C1 := fun W (hx : Ext w W) => without_calls A k pa W (by omega) kA (ra.ext hx)
  have C2 := fun W (hx : Ext w W) => without_calls B k pb W (by omega) kB (rb.ext hx)
  have c0 : ((w.alloc (.cells #[.pointer pa, .pointer pb] 67)).alloc (.cells #[.pointer none, .pointer none] 67)).cell? ⟨w.heap.size, 0, none⟩ = some (.pointer pa) := by go_simp
  have c1 : ((w.alloc (.cells #[.pointer pa, .pointer pb] 67)).alloc (.cells #[.pointer none, .pointer none] 67)).cell? ⟨w.heap.size, 1, none⟩ = some (.pointer pb) := by go_simp
  have t0 : Two ((w.alloc (.cells #[.pointer pa, .pointer pb] 67)).alloc (.cells #[.pointer none, .pointer none] 67)) (w.heap.size + 1) 67 := ⟨_, _, by
    have := heap_alloc_new (w.alloc (.cells #[.pointer pa, .pointer pb] 67)) (.cells #[.pointer none, .pointer none] 67)
    simpa using this⟩
  clear kA kB ra rb hA hB
  go_enter Tryz.func102, Tryz.ntmps102
  go_wp2_with fail
  generalize (w.alloc (.cells #[.pointer pa, .pointer pb] 67)).alloc (.cells #[.pointer none, .pointer none] 67) = W at *
  go_region_held3 (fun w' => w'.cell? ⟨w.heap.size, 0, none⟩ = some (.pointer pa) ∧ w'.cell? ⟨w.heap.size, 1, none⟩ = some (.pointer pb) ∧ Ext w w')
    (first | exact ⟨c0, c1, X2.out.drew⟩ | exact two_cells_set _ _ (x3.cell c0) (x3.cell c1) (by omega) (X2.out.trans x3) (by omega) | exact ⟨x3.cell c0, x3.cell c1, X2.out.trans x3⟩ | exact ⟨x1.cell c0, x1.cell c1, X2.out.trans x1⟩ | fail)
    (first
      | (go_at_call_of 138 (Value.pointer pa); refine (C1 _ (X2.out.trans (Ext.refl W).drew)).mono ?_; rintro e w1 ⟨p1, rfl, r1, hx1⟩; have x1 := (Ext.refl W).drew.trans hx1)
      | (go_at_call_of 138 (Value.pointer pb); refine (C2 _ (X2.out.trans x1)).mono ?_; rintro e w3 ⟨p3, rfl, r3, hx3⟩; have x3 := x1.trans hx3; obtain ⟨u, v, k0, k1, f0, f1⟩ := (t0.ext x3).facts)
      | fail)
  have T3 := t0.ext x3
  have HH := set2_heap T3 (.pointer p1) (.pointer p3)
  have R1 := Rep.set2 T3 (by decide) (.pointer p1) (.pointer p3) (r1.ext hx3)
  have R3 := Rep.set2 T3 (by decide) (.pointer p1) (.pointer p3) r3
  have XX := (X2.out.trans x3).set2 (g := w.heap.size + 1) (by omega) (.pointer p1) (.pointer p3)
  change Exit.then _ _ _ _ (N.set2 w3 (w.heap.size + 1) (.pointer p1) (.pointer p3))
  obtain ⟨hc0, hc1⟩ := cells_of HH
  generalize N.set2 w3 (w.heap.size + 1) (.pointer p1) (.pointer p3) = W3 at *
  go_wp2_with fail
  exact bodyPost_ret (v := .agg #[.pointer p1, .pointer p3]) (by simp [results, Tryz.results102, go_sem, hc0, hc1]) rfl ⟨p1, p3, rfl, R1, R3, XX⟩

set_option maxHeartbeats 3200000 in
set_option maxRecDepth 100000 in
theorem reduced_calls (A B : Tr) (hA : A.carets < 10000000) (hB : B.carets < 10000000) (pa pb : Option Addr) (w : World) (ra : Rep w A pa) (rb : Rep w B pb) :
    Calls Tryz.prog 49 #[.agg #[.pointer pa, .pointer pb]] w (GivesP w (red (A, B)).1 (red (A, B)).2) := by
  have X1 := Lib.hid ((Ext.refl w).alloc (.cells #[.pointer pa, .pointer pb] 67))
  have X2 := Lib.hid (X1.out.alloc (.cells #[.pointer none, .pointer none] 67))
  have B0 : Hid (((w.alloc (.cells #[.pointer pa, .pointer pb] 67)).alloc (.cells #[.pointer none, .pointer none] 67)).heap[w.heap.size]? = some (.cells #[.pointer pa, .pointer pb] 67)) := ((Ext.refl _).alloc _).at (heap_alloc_new w _)
  have t0 : Hid (Two ((w.alloc (.cells #[.pointer pa, .pointer pb] 67)).alloc (.cells #[.pointer none, .pointer none] 67)) (w.heap.size + 1) 67) := ⟨_, _, by
    have := heap_alloc_new (w.alloc (.cells #[.pointer pa, .pointer pb] 67)) (.cells #[.pointer none, .pointer none] 67)
    simpa using this⟩
  have RA := Lib.hid (ra.ext X2.out)
  have RB := Lib.hid (rb.ext X2.out)
  have LE := Lib.hid (And.intro hA hB)
  clear hA hB ra rb
  go_enter Tryz.func49, Tryz.ntmps49
  go_wp2_with fail
  generalize (w.alloc (.cells #[.pointer pa, .pointer pb] 67)).alloc (.cells #[.pointer none, .pointer none] 67) = W at *
  go_loopg [3] A.carets (fun f v3 wr => ∃ (C D : Tr) (qa qb : Option Addr), Hid (C.carets = f) ∧ Hid (C.carets < 10000000 ∧ D.carets < 10000000) ∧ Hid (red (C, D) = red (A, B)) ∧ Hid (wr.heap[w.heap.size]? = some (.cells #[.pointer qa, .pointer qb] 67)) ∧ Hid (Two wr (w.heap.size + 1) 67) ∧ Hid (Rep wr C qa) ∧ Hid (Rep wr D qb) ∧ Hid (Ext w wr))
  case atStart => exact ⟨A, B, pa, pb, rfl, LE.out, rfl, B0.out, t0.out, RA.out, RB.out, X2.out⟩
  case round =>
    obtain ⟨C, D, qa, qb, HF, HL, HR, HB, HT, HC, HD, HX⟩ := hrel
    obtain ⟨c0, c1⟩ := cells_of HB.out
    have CB := both_calls C D HL.out.1 HL.out.2 qa qb wr HC.out HD.out
    cases hb : bothT C D with
    | nil =>
      rw [hb] at CB
      have CB := Lib.hid CB
      have RN : Hid (red (A, B) = (C, D)) := by show _ = _; rw [← HR.out, red_nil hb]
      clear hb
      go_wp2_with fail
      refine CB.out.mono ?_
      rintro e w1 ⟨v1, rfl, o1, x1⟩
      obtain ⟨A1, n1, e1, _⟩ := o1.reads
      subst e1
      have X1 := Lib.hid x1
      obtain ⟨d0, d1⟩ := cells_of (x1.at HB.out)
      obtain ⟨u, v, k0, k1, f0, f1⟩ := (HT.out.ext x1).facts
      clear o1 x1 c0 c1
      go_wp2_with fail
      have T3 := HT.out.ext X1.out
      have HH := set2_heap T3 (.pointer qa) (.pointer qb)
      have R1 := Rep.set2 T3 (by decide) (.pointer qa) (.pointer qb) (HC.out.ext X1.out)
      have R3 := Rep.set2 T3 (by decide) (.pointer qa) (.pointer qb) (HD.out.ext X1.out)
      have XX := (HX.out.trans X1.out).set2 (g := w.heap.size + 1) (by omega) (.pointer qa) (.pointer qb)
      change bodyPost _ _ _ _ _ (N.set2 w1 (w.heap.size + 1) (.pointer qa) (.pointer qb))
      obtain ⟨hc0, hc1⟩ := cells_of HH
      generalize N.set2 w1 (w.heap.size + 1) (.pointer qa) (.pointer qb) = W3 at *
      refine bodyPost_ret (v := .agg #[.pointer qa, .pointer qb]) (by simp [results, Tryz.results49, go_sem, hc0, hc1]) rfl ?_
      rw [RN.out]
      exact ⟨qa, qb, rfl, R1, R3, XX⟩
    | cons k l =>
      rw [hb] at CB
      have CB := Lib.hid CB
      have MB := Lib.hid (mem_both (A := C) (B := D) (k := k) (by rw [hb]; exact List.mem_cons_self))
      have RN : Hid (red (without C k, without D k) = red (A, B)) := by show _ = _; rw [← HR.out]; exact (red_cons (p := (C, D)) hb).symm
      have LC := Lib.hid (And.intro (without_carets C k MB.out.1) (without_carets D k MB.out.2))
      clear hb
      go_wp2_with fail
      refine CB.out.mono ?_
      rintro e w1 ⟨v1, rfl, o1, x1⟩
      obtain ⟨A1, n1, e1, _, rd⟩ := o1.reads
      subst e1
      rw [nats_length] at *
      obtain ⟨ad, hA1, ca⟩ := rd (by simp)
      subst hA1
      have c2 : w1.cell? ad = some (.int .i64 k) := ca 0 _ (nats_get (k :: l) 0 (by simp))
      have X1 := Lib.hid x1
      obtain ⟨d0, d1⟩ := cells_of (x1.at HB.out)
      have CD := fun W' (hx : Ext w1 W') => drop_calls C D k HL.out.1 HL.out.2 MB.out.1 MB.out.2 qa qb W' (HC.out.ext (x1.trans hx)) (HD.out.ext (x1.trans hx))
      have hlen : 0 < (k :: l).length := by simp
      clear o1 x1 c0 c1 rd ca
      generalize (k :: l).length = m at *
      have t1 : ((m : Int) == 0) = false := by rw [beq_eq_false_iff_ne]; omega
      have t2 : (0 : Int) < m := by omega
      go_wp2_with fail
      go_still_tail 4, (by kernel_rfl)
      go_wp2_with fail
      refine (CD _ (Ext.refl _).drew).mono ?_
      rintro e w2 ⟨p1, p2, rfl, r1, r2, hx2⟩
      have x2 : Ext w1 w2 := (Ext.refl _).drew.trans hx2
      have X2 := Lib.hid (X1.out.trans x2)
      have TB : Hid (Two w2 w.heap.size 67) := ⟨_, _, X2.out.at HB.out⟩
      obtain ⟨u, v, k0, k1, f0, f1⟩ := TB.out.facts
      clear CD hx2 x2
      go_wp2_with fail
      have R1 := Lib.hid (Rep.set2 TB.out (by decide) (.pointer p1) (.pointer p2) r1)
      have R2 := Lib.hid (Rep.set2 TB.out (by decide) (.pointer p1) (.pointer p2) r2)
      have XX := Lib.hid ((HX.out.trans X2.out).set2 (g := w.heap.size) (Nat.le_refl _) (.pointer p1) (.pointer p2))
      have HH := Lib.hid (set2_heap TB.out (.pointer p1) (.pointer p2))
      have T3 : Hid (Two (N.set2 w2 w.heap.size (.pointer p1) (.pointer p2)) (w.heap.size + 1) 67) := by
        obtain ⟨u, v, e⟩ := HT.out.ext X2.out
        exact ⟨u, v, by rw [set2_other (by omega)]; exact e⟩
      clear r1 r2 k0 k1 f0 f1
      go_roundg (without C k).carets
      · exact ⟨without C k, without D k, p1, p2, rfl, ⟨by have := LC.out; have := HL.out; omega, by have := LC.out; have := HL.out; omega⟩, RN.out, HH.out, T3.out, R1.out, R2.out, XX.out⟩
      · have := LC.out
        have := HF.out
        omega
end Go.Proofs.YtpmmajfdcicjiaaGreat.N
/- Pairs told, read, put together. -/
namespace Go.Proofs.YtpmmajfdcicjiaaGreat.N
open Go.RowKit
set_option linter.unusedVariables false
set_option linter.unusedSimpArgs false

set_option maxHeartbeats 3200000 in
set_option maxRecDepth 100000 in
theorem plain_calls (A B : Tr) (hA : A.carets < 100000000) (hB : B.carets < 100000000) (pa pb : Option Addr) (w : World) (ra : Rep w A pa) (rb : Rep w B pb) :
    Calls Tryz.prog 51 #[.agg #[.pointer pa, .pointer pb]] w fun e w' => e = .returned (.agg #[.string (tx A), .string (tx B)]) ∧ Ext w w' := by
  have X1 := Lib.hid ((Ext.refl w).alloc (.cells #[.pointer pa, .pointer pb] 67))
  have X2 := Lib.hid (X1.out.alloc (.cells #[.string ⟨#[]⟩, .string ⟨#[]⟩] 25))
  have C1 := fun W (hx : Ext w W) => text_calls A pa W (by omega) (ra.ext hx)
  have C2 := fun W (hx : Ext w W) => text_calls B pb W (by omega) (rb.ext hx)
  have c0 : ((w.alloc (.cells #[.pointer pa, .pointer pb] 67)).alloc (.cells #[.string ⟨#[]⟩, .string ⟨#[]⟩] 25)).cell? ⟨w.heap.size, 0, none⟩ = some (.pointer pa) := by go_simp
  have c1 : ((w.alloc (.cells #[.pointer pa, .pointer pb] 67)).alloc (.cells #[.string ⟨#[]⟩, .string ⟨#[]⟩] 25)).cell? ⟨w.heap.size, 1, none⟩ = some (.pointer pb) := by go_simp
  have t0 : Two ((w.alloc (.cells #[.pointer pa, .pointer pb] 67)).alloc (.cells #[.string ⟨#[]⟩, .string ⟨#[]⟩] 25)) (w.heap.size + 1) 25 := ⟨_, _, by
    have := heap_alloc_new (w.alloc (.cells #[.pointer pa, .pointer pb] 67)) (.cells #[.string ⟨#[]⟩, .string ⟨#[]⟩] 25)
    simpa using this⟩
  clear ra rb hA hB
  go_enter Tryz.func51, Tryz.ntmps51
  go_wp2_with fail
  generalize (w.alloc (.cells #[.pointer pa, .pointer pb] 67)).alloc (.cells #[.string ⟨#[]⟩, .string ⟨#[]⟩] 25) = W at *
  go_region_held3 (fun w' => w'.cell? ⟨w.heap.size, 0, none⟩ = some (.pointer pa) ∧ w'.cell? ⟨w.heap.size, 1, none⟩ = some (.pointer pb) ∧ Ext w w')
    (first | exact ⟨c0, c1, X2.out.drew⟩ | exact ⟨c0, c1, X2.out.drewN _⟩ | exact two_cells_set _ _ (w0 := w) (W := W.drewN _) c0 c1 (by omega) (X2.out.drewN _) (by omega) | fail)
    (first
      | (go_at_call_of 103 (Value.pointer pa); refine (C1 _ X2.out.drew).mono ?_; rintro e w1 ⟨rfl, n1, rfl⟩)
      | (go_at_call_of 103 (Value.pointer pb); refine (C2 _ (X2.out.drewN _)).mono ?_; rintro e w3 ⟨rfl, n3, rfl⟩; obtain ⟨u, v, k0, k1, f0, f1⟩ := (t0.ext ((Ext.refl W).drewN (1 + n1 + n3))).facts)
      | fail)
  have x3 := (Ext.refl W).drewN (1 + n1 + n3)
  have T3 := t0.ext x3
  have HH := set2_heap T3 (.string (tx A)) (.string (tx B))
  have XX := (X2.out.trans x3).set2 (g := w.heap.size + 1) (by omega) (.string (tx A)) (.string (tx B))
  change Exit.then _ _ _ _ (N.set2 _ (w.heap.size + 1) (.string (tx A)) (.string (tx B)))
  obtain ⟨hc0, hc1⟩ := cells_of HH
  generalize N.set2 _ (w.heap.size + 1) (.string (tx A)) (.string (tx B)) = W3 at *
  go_wp2_with fail
  exact bodyPost_ret (v := .agg #[.string (tx A), .string (tx B)]) (by simp [results, Tryz.results51, go_sem, hc0, hc1]) rfl ⟨rfl, XX⟩

/-- What a pair boxed and a pair of texts not yet laid give. -/
theorem box_facts (w : World) (pa pb : Option Addr) (s t : ByteArray) :
    Ext w ((w.alloc (.cells #[.pointer pa, .pointer pb] 67)).alloc (.cells #[.string s, .string t] 25)) ∧
    ((w.alloc (.cells #[.pointer pa, .pointer pb] 67)).alloc (.cells #[.string s, .string t] 25)).cell? ⟨w.heap.size, 0, none⟩ = some (.pointer pa) ∧
    ((w.alloc (.cells #[.pointer pa, .pointer pb] 67)).alloc (.cells #[.string s, .string t] 25)).cell? ⟨w.heap.size, 1, none⟩ = some (.pointer pb) ∧
    Two ((w.alloc (.cells #[.pointer pa, .pointer pb] 67)).alloc (.cells #[.string s, .string t] 25)) (w.heap.size + 1) 25 :=
  ⟨((Ext.refl w).alloc _).alloc _, by go_simp, by go_simp, ⟨_, _, by
    have := heap_alloc_new (w.alloc (.cells #[.pointer pa, .pointer pb] 67)) (.cells #[.string s, .string t] 25)
    simpa using this⟩⟩
set_option maxHeartbeats 3200000 in
set_option maxRecDepth 100000 in
theorem fits_yes (A B : Tr) (hA : A.carets ≤ 8) (hB : B.carets < 100000000) (pa pb : Option Addr) (w : World) (ra : Rep w A pa) (rb : Rep w B pb) :
    Calls Tryz.prog 43 #[.agg #[.pointer pa, .pointer pb]] w fun e w' => e = .returned (.tuple #[.agg #[.string (tx A), .string (tx B)], .bool true]) ∧ Ext w w' := by
  obtain ⟨X2, c0, c1, t0⟩ := box_facts w pa pb ⟨#[]⟩ ⟨#[]⟩
  have X2 := Lib.hid X2
  have C1 := fun W (hx : Ext w W) => carets_calls A pa W (by omega) (ra.ext hx)
  have C2 := fun W (hx : Ext w W) => plain_calls A B (by omega) hB pa pb W (ra.ext hx) (rb.ext hx)
  have b0 : (A.carets : Int) ≤ 8 := by omega
  clear ra rb hA hB
  go_enter Tryz.func43, Tryz.ntmps43
  go_wp2_with fail
  generalize (w.alloc (.cells #[.pointer pa, .pointer pb] 67)).alloc (.cells #[.string ⟨#[]⟩, .string ⟨#[]⟩] 25) = W at *
  refine (C1 _ X2.out).mono ?_
  rintro e w1 ⟨rfl, n1, rfl⟩
  go_wp2_with fail
  refine (C2 _ (X2.out.drewN _)).mono ?_
  rintro e w3 ⟨rfl, hx3⟩
  have x3 := ((Ext.refl W).drewN _).trans hx3
  obtain ⟨u, v, k0, k1, f0, f1⟩ := (t0.ext x3).facts
  clear hx3
  go_wp2_with fail
  have T3 := t0.ext x3
  have HH := set2_heap T3 (.string (tx A)) (.string (tx B))
  have XX := (X2.out.trans x3).set2 (g := w.heap.size + 1) (by omega) (.string (tx A)) (.string (tx B))
  change bodyPost _ _ _ _ _ (N.set2 _ (w.heap.size + 1) (.string (tx A)) (.string (tx B)))
  obtain ⟨hc0, hc1⟩ := cells_of HH
  generalize N.set2 _ (w.heap.size + 1) (.string (tx A)) (.string (tx B)) = W3 at *
  exact bodyPost_ret (v := .tuple #[.agg #[.string (tx A), .string (tx B)], .bool true]) (by simp [results, Tryz.results43, go_sem, hc0, hc1]) rfl ⟨rfl, XX⟩
set_option maxHeartbeats 3200000 in
set_option maxRecDepth 100000 in
theorem fits_no (A B : Tr) (hA : 8 < A.carets) (hB : A.carets < 100000000) (pa pb : Option Addr) (w : World) (ra : Rep w A pa) :
    Calls Tryz.prog 43 #[.agg #[.pointer pa, .pointer pb]] w fun e w' => e = .returned (.tuple #[.agg #[.string ⟨#[]⟩, .string ⟨#[]⟩], .bool false]) ∧ Ext w w' := by
  obtain ⟨X2, c0, c1, t0⟩ := box_facts w pa pb ⟨#[]⟩ ⟨#[]⟩
  have X2 := Lib.hid X2
  have C1 := fun W (hx : Ext w W) => carets_calls A pa W (by omega) (ra.ext hx)
  have b0 : (8 : Int) < (A.carets : Int) := by omega
  clear ra hA hB
  go_enter Tryz.func43, Tryz.ntmps43
  go_wp2_with fail
  generalize (w.alloc (.cells #[.pointer pa, .pointer pb] 67)).alloc (.cells #[.string ⟨#[]⟩, .string ⟨#[]⟩] 25) = W at *
  refine (C1 _ (by first | exact X2.out.drew | exact X2.out)).mono ?_
  rintro e w1 ⟨rfl, n1, rfl⟩
  have x3 := (Ext.refl W).drewN n1
  obtain ⟨u, v, k0, k1, f0, f1⟩ := (t0.ext x3).facts
  go_wp2_with fail
  have T3 := t0.ext x3
  have HH := set2_heap T3 (.string ⟨#[]⟩) (.string ⟨#[]⟩)
  have XX := (X2.out.trans x3).set2 (g := w.heap.size + 1) (by omega) (.string ⟨#[]⟩) (.string ⟨#[]⟩)
  change bodyPost _ _ _ _ _ (N.set2 _ (w.heap.size + 1) (.string ⟨#[]⟩) (.string ⟨#[]⟩))
  obtain ⟨hc0, hc1⟩ := cells_of HH
  generalize N.set2 _ (w.heap.size + 1) (.string ⟨#[]⟩) (.string ⟨#[]⟩) = W3 at *
  exact bodyPost_ret (v := .tuple #[.agg #[.string ⟨#[]⟩, .string ⟨#[]⟩], .bool false]) (by simp [results, Tryz.results43, go_sem, hc0, hc1]) rfl ⟨rfl, XX⟩

set_option maxHeartbeats 3200000 in
set_option maxRecDepth 100000 in
theorem halves_calls (A B C D : Tr) (hA : A.carets + C.carets < 1000000) (hB : B.carets + D.carets < 1000000) (pa pb pc pd : Option Addr) (w : World) (ra : Rep w A pa) (rb : Rep w B pb) (rc : Rep w C pc) (rd : Rep w D pd) :
    Calls Tryz.prog 42 #[.agg #[.pointer pa, .pointer pb], .agg #[.pointer pc, .pointer pd]] w (GivesP w (red (.node A C, .node B D)).1 (red (.node A C, .node B D)).2) := by
  have X3 := Lib.hid ((((Ext.refl w).alloc (.cells #[.pointer pa, .pointer pb] 67)).alloc (.cells #[.pointer pc, .pointer pd] 67)).alloc (.cells #[.pointer none, .pointer none] 67))
  have X5 := Lib.hid ((X3.out.alloc (.cells #[.pointer pa, .pointer pc] 79)).alloc (.cells #[.pointer pb, .pointer pd] 79))
  have R1 := Lib.hid (((Rep.made' (n := w.heap.size + 3) (ra.ext X3.out) (rc.ext X3.out) (by simp)).ext ((Ext.refl _).alloc (.cells #[.pointer pb, .pointer pd] 79))))
  have R2 := Lib.hid (Rep.made' (n := w.heap.size + 4) (rb.ext (X3.out.alloc (.cells #[.pointer pa, .pointer pc] 79))) (rd.ext (X3.out.alloc (.cells #[.pointer pa, .pointer pc] 79))) (by simp))
  have C1 := Lib.hid (fun W => reduced_calls (.node A C) (.node B D) (by simp only [Tr.carets]; omega) (by simp only [Tr.carets]; omega) (some ⟨w.heap.size + 3, 0, none⟩) (some ⟨w.heap.size + 4, 0, none⟩) W)
  have t0 : Hid (Two (((((w.alloc (.cells #[.pointer pa, .pointer pb] 67)).alloc (.cells #[.pointer pc, .pointer pd] 67)).alloc (.cells #[.pointer none, .pointer none] 67)).alloc (.cells #[.pointer pa, .pointer pc] 79)).alloc (.cells #[.pointer pb, .pointer pd] 79)) (w.heap.size + 2) 67) := (show Two _ _ _ from ⟨_, _, by
    have := heap_alloc_new ((w.alloc (.cells #[.pointer pa, .pointer pb] 67)).alloc (.cells #[.pointer pc, .pointer pd] 67)) (.cells #[.pointer none, .pointer none] 67)
    simpa using this⟩).ext (((Ext.refl _).alloc _).alloc _)
  clear ra rb rc rd hA hB
  go_enter Tryz.func42, Tryz.ntmps42
  go_wp2_with fail
  generalize ((((w.alloc (.cells #[.pointer pa, .pointer pb] 67)).alloc (.cells #[.pointer pc, .pointer pd] 67)).alloc (.cells #[.pointer none, .pointer none] 67)).alloc (.cells #[.pointer pa, .pointer pc] 79)).alloc (.cells #[.pointer pb, .pointer pd] 79) = W at *
  refine (C1.out _ R1.out R2.out).mono ?_
  rintro e w3 ⟨p1, p2, rfl, r1, r2, x3⟩
  obtain ⟨u, v, k0, k1, f0, f1⟩ := (t0.out.ext x3).facts
  go_wp2_with fail
  have T3 := t0.out.ext x3
  have HH := set2_heap T3 (.pointer p1) (.pointer p2)
  have Q1 := Rep.set2 T3 (by decide) (.pointer p1) (.pointer p2) r1
  have Q2 := Rep.set2 T3 (by decide) (.pointer p1) (.pointer p2) r2
  have XX := (X5.out.trans x3).set2 (g := w.heap.size + 2) (by omega) (.pointer p1) (.pointer p2)
  change bodyPost _ _ _ _ _ (N.set2 _ (w.heap.size + 2) (.pointer p1) (.pointer p2))
  obtain ⟨hc0, hc1⟩ := cells_of HH
  generalize N.set2 _ (w.heap.size + 2) (.pointer p1) (.pointer p2) = W3 at *
  exact bodyPost_ret (v := .agg #[.pointer p1, .pointer p2]) (by simp [results, Tryz.results42, go_sem, hc0, hc1]) rfl ⟨p1, p2, rfl, Q1, Q2, XX⟩

/-- Two texts of a pair. -/
def Good (s t : ByteArray) : Prop := ∃ A B, s = tx A ∧ t = tx B ∧ A.carets = B.carets ∧ B.carets ≤ 8
theorem parse_any (s : ByteArray) (w : World) : Calls Tryz.prog 94 #[.string s] w fun e w' => ∃ p b, e = .returned (.tuple #[.pointer p, .bool b]) ∧ Ext w w' ∧ Hid (b = true → ∃ T, s = tx T ∧ T.carets ≤ 8 ∧ Rep w' T p) ∧ Hid (b = false → ¬ ∃ T, s = tx T ∧ T.carets ≤ 8) := by
  by_cases h : ∃ T, s = tx T ∧ T.carets ≤ 8
  · obtain ⟨T, rfl, hT⟩ := h
    refine (parse_yes T w hT).mono ?_
    rintro e w' ⟨p, rfl, hr, hx⟩
    exact ⟨p, true, rfl, hx, (fun _ => ⟨T, rfl, hT, hr⟩), (fun h => by cases h)⟩
  · refine (parse_no s w h).mono ?_
    rintro e w' ⟨rfl, hx⟩
    exact ⟨none, false, rfl, hx, (fun h => by cases h), fun _ => h⟩
def PairPost (w : World) (s t : ByteArray) (e : Ending) (w' : World) : Prop := ∃ pa pb b, e = .returned (.tuple #[.agg #[.pointer pa, .pointer pb], .bool b]) ∧ Ext w w' ∧ Hid (b = true → ∃ A B, s = tx A ∧ t = tx B ∧ A.carets = B.carets ∧ B.carets ≤ 8 ∧ Rep w' A pa ∧ Rep w' B pb) ∧ Hid (b = false → ¬ Good s t)
set_option maxHeartbeats 3200000 in
set_option maxRecDepth 100000 in
theorem pairOf_calls (s t : ByteArray) (w : World) :
    Calls Tryz.prog 48 #[.agg #[.string s, .string t]] w (PairPost w s t) := by
  have X2 := Lib.hid (((Ext.refl w).alloc (.cells #[.string s, .string t] 25)).alloc (.cells #[.pointer none, .pointer none] 67))
  have c0 : ((w.alloc (.cells #[.string s, .string t] 25)).alloc (.cells #[.pointer none, .pointer none] 67)).cell? ⟨w.heap.size, 0, none⟩ = some (.string s) := by go_simp
  have c1 : ((w.alloc (.cells #[.string s, .string t] 25)).alloc (.cells #[.pointer none, .pointer none] 67)).cell? ⟨w.heap.size, 1, none⟩ = some (.string t) := by go_simp
  have t0 : Two ((w.alloc (.cells #[.string s, .string t] 25)).alloc (.cells #[.pointer none, .pointer none] 67)) (w.heap.size + 1) 67 := ⟨_, _, by
    have := heap_alloc_new (w.alloc (.cells #[.string s, .string t] 25)) (.cells #[.pointer none, .pointer none] 67)
    simpa using this⟩
  go_enter Tryz.func48, Tryz.ntmps48
  go_wp2_with fail
  generalize (w.alloc (.cells #[.string s, .string t] 25)).alloc (.cells #[.pointer none, .pointer none] 67) = W at *
  refine (parse_any s _).mono ?_
  rintro e w1 ⟨pa, b1, rfl, x1, y1, n1⟩
  have d1 := x1.cell c1
  have T1 := t0.ext x1
  have X3 := Lib.hid (X2.out.trans x1)
  clear c0 c1 t0
  go_wp2_with fail
  refine (parse_any t _).mono ?_
  rintro e w2 ⟨pb, b2, rfl, x2, y2, n2⟩
  have X4 := Lib.hid (X3.out.trans x2)
  have T2 := T1.ext x2
  obtain ⟨u, v, k0, k1, f0, f1⟩ := T2.facts
  have T2 := Lib.hid T2
  have x2 := Lib.hid x2
  clear d1 T1 x1
  cases b1 with
  | false =>
    have NG : Hid (¬ Good s t) := by
      rintro ⟨A, B, rfl, rfl, h1, h2⟩
      exact n1.out rfl ⟨A, rfl, by omega⟩
    clear y1 n1 y2 n2
    go_wp2_with fail
    have HH := set2_heap T2.out (.pointer pa) (.pointer pb)
    have XX := X4.out.set2 (g := w.heap.size + 1) (by omega) (.pointer pa) (.pointer pb)
    change bodyPost _ _ _ _ _ (N.set2 _ (w.heap.size + 1) (.pointer pa) (.pointer pb))
    obtain ⟨hc0, hc1⟩ := cells_of HH
    generalize N.set2 _ (w.heap.size + 1) (.pointer pa) (.pointer pb) = W3 at *
    exact bodyPost_ret (v := .tuple #[.agg #[.pointer pa, .pointer pb], .bool false]) (by simp [results, Tryz.results48, go_sem, hc0, hc1]) rfl ⟨_, _, _, rfl, XX, (fun h => by cases h), fun _ => NG.out⟩
  | true =>
    have Y1 := y1.out rfl
    cases b2 with
    | false =>
      have NG : Hid (¬ Good s t) := by
        rintro ⟨A, B, rfl, rfl, h1, h2⟩
        exact n2.out rfl ⟨B, rfl, h2⟩
      clear y1 n1 y2 n2 Y1
      go_wp2_with fail
      have HH := set2_heap T2.out (.pointer pa) (.pointer pb)
      have XX := X4.out.set2 (g := w.heap.size + 1) (by omega) (.pointer pa) (.pointer pb)
      change bodyPost _ _ _ _ _ (N.set2 _ (w.heap.size + 1) (.pointer pa) (.pointer pb))
      obtain ⟨hc0, hc1⟩ := cells_of HH
      generalize N.set2 _ (w.heap.size + 1) (.pointer pa) (.pointer pb) = W3 at *
      exact bodyPost_ret (v := .tuple #[.agg #[.pointer pa, .pointer pb], .bool false]) (by simp [results, Tryz.results48, go_sem, hc0, hc1]) rfl ⟨_, _, _, rfl, XX, (fun h => by cases h), fun _ => NG.out⟩
    | true =>
      obtain ⟨B, hB, lB, rB⟩ := y2.out rfl
      obtain ⟨A, hA, lA, rA⟩ := Y1
      subst hA hB
      have rA := rA.ext x2.out
      have C1 := fun W (hx : Ext w2 W) => carets_calls A pa W (by omega) (rA.ext hx)
      have C2 := fun W (hx : Ext w2 W) => carets_calls B pb W (by omega) (rB.ext hx)
      have RA := Lib.hid rA
      have RB := Lib.hid rB
      have LL := Lib.hid (And.intro lA lB)
      clear y1 n1 y2 n2 rA rB lA lB
      have YY : Hid ((((A.carets : Int) == (B.carets : Int)) = true) → A.carets = B.carets) := by
        intro h; have := eq_of_beq h; omega
      have NN : Hid ((((A.carets : Int) == (B.carets : Int)) = false) → ¬ Good (tx A) (tx B)) := by
        rintro h ⟨A', B', h1, h2, h3, _⟩
        obtain rfl := tx_inj h1
        obtain rfl := tx_inj h2
        rw [h3] at h
        simp at h
      go_wp2_with fail
      refine (C1 _ (Ext.refl _)).mono ?_
      rintro e w3 ⟨rfl, m1, rfl⟩
      go_wp2_with fail
      refine (C2 _ ((Ext.refl _).drewN _)).mono ?_
      rintro e w3 ⟨rfl, m2, rfl⟩
      go_wp2_with fail
      have x3 := (Ext.refl w2).drewN (m1 + m2)
      have T3 := T2.out.ext x3
      have HH := set2_heap T3 (.pointer pa) (.pointer pb)
      have XX := (X4.out.trans x3).set2 (g := w.heap.size + 1) (by omega) (.pointer pa) (.pointer pb)
      have Q1 := Rep.set2 T3 (by decide) (.pointer pa) (.pointer pb) (RA.out.ext x3)
      have Q2 := Rep.set2 T3 (by decide) (.pointer pa) (.pointer pb) (RB.out.ext x3)
      change bodyPost _ _ _ _ _ (N.set2 (w2.drewN (m1 + m2)) (w.heap.size + 1) (.pointer pa) (.pointer pb))
      obtain ⟨hc0, hc1⟩ := cells_of HH
      generalize N.set2 _ (w.heap.size + 1) (.pointer pa) (.pointer pb) = W3 at *
      generalize ((A.carets : Int) == (B.carets : Int)) = bb at *
      exact bodyPost_ret (v := .tuple #[.agg #[.pointer pa, .pointer pb], .bool bb]) (by simp [results, Tryz.results48, go_sem, hc0, hc1]) rfl ⟨_, _, _, rfl, XX, (fun h => ⟨A, B, rfl, rfl, YY.out h, LL.out.2, Q1, Q2⟩), fun h => NN.out h⟩

def emptyP : Value := .agg #[.string ⟨#[]⟩, .string ⟨#[]⟩]
/-- A pair of trees told, if it is not too great. -/
def ifP (p : Tr × Tr) : Value := if p.1.carets ≤ 8 then .tuple #[.agg #[.string (tx p.1), .string (tx p.2)], .bool true] else .tuple #[emptyP, .bool false]
theorem ifP_two (p : Tr × Tr) : ∃ s t b, ifP p = .tuple #[.agg #[.string s, .string t], .bool b] := by
  unfold ifP; split
  · exact ⟨_, _, _, rfl⟩
  · exact ⟨_, _, _, rfl⟩
/-- What the two trees of a pair give. -/
theorem Good.leq {s t : ByteArray} (h : Good s t) : ∃ A B, s = tx A ∧ t = tx B ∧ A.carets = B.carets ∧ B.carets ≤ 8 := h
theorem fits_calls (A B : Tr) (hA : A.carets < 100000000) (hB : B.carets < 100000000) (pa pb : Option Addr) (w : World) (ra : Rep w A pa) (rb : Rep w B pb) :
    Calls Tryz.prog 43 #[.agg #[.pointer pa, .pointer pb]] w fun e w' => e = .returned (ifP (A, B)) ∧ Ext w w' := by
  by_cases h : A.carets ≤ 8
  · rw [show ifP (A, B) = _ from if_pos h]; exact fits_yes A B h hB pa pb w ra rb
  · rw [show ifP (A, B) = _ from if_neg h]; exact fits_no A B (by omega) hA pa pb w ra
/-- What two texts boxed, and a result not yet laid, give. -/
theorem boxS_facts (w : World) (s t : ByteArray) (x y : Value) (ty : TypeId) :
    Ext w ((w.alloc (.cells #[.string s, .string t] 25)).alloc (.cells #[x, y] ty)) ∧
    Two ((w.alloc (.cells #[.string s, .string t] 25)).alloc (.cells #[x, y] ty)) (w.heap.size + 1) ty :=
  ⟨((Ext.refl w).alloc _).alloc _, ⟨_, _, by
    have := heap_alloc_new (w.alloc (.cells #[.string s, .string t] 25)) (.cells #[x, y] ty)
    simpa using this⟩⟩
theorem pairOf_yes (A B : Tr) (hc : A.carets = B.carets) (hB : B.carets ≤ 8) (w : World) : Calls Tryz.prog 48 #[.agg #[.string (tx A), .string (tx B)]] w fun e w' => ∃ pa pb, e = .returned (.tuple #[.agg #[.pointer pa, .pointer pb], .bool true]) ∧ Rep w' A pa ∧ Rep w' B pb ∧ Ext w w' := by
  refine (pairOf_calls _ _ w).mono ?_
  rintro e w1 ⟨pa, pb, b, rfl, x1, y1, n1⟩
  cases b with
  | false => exact absurd ⟨A, B, rfl, rfl, hc, hB⟩ (n1.out rfl)
  | true =>
    obtain ⟨A', B', hA, hB', h1, h2, rA, rB⟩ := y1.out rfl
    obtain rfl := tx_inj hA
    obtain rfl := tx_inj hB'
    exact ⟨pa, pb, rfl, rA, rB, x1⟩
theorem pairOf_no (s t : ByteArray) (h : ¬ Good s t) (w : World) : Calls Tryz.prog 48 #[.agg #[.string s, .string t]] w fun e w' => ∃ pa pb, e = .returned (.tuple #[.agg #[.pointer pa, .pointer pb], .bool false]) ∧ Ext w w' := by
  refine (pairOf_calls _ _ w).mono ?_
  rintro e w1 ⟨pa, pb, b, rfl, x1, y1, n1⟩
  cases b with
  | true =>
    obtain ⟨A', B', hA, hB', h1, h2, rA, rB⟩ := y1.out rfl
    exact absurd ⟨A', B', hA, hB', h1, h2⟩ h
  | false => exact ⟨pa, pb, rfl, x1⟩
set_option maxHeartbeats 3200000 in
set_option maxRecDepth 100000 in
theorem ShiftPair_yes (A B : Tr) (hc : A.carets = B.carets) (hB : B.carets ≤ 8) (w : World) :
    Calls Tryz.prog 17 #[.agg #[.string (tx A), .string (tx B)]] w fun e w' => e = .returned (ifP (red (.node .leaf A, .node .leaf B))) ∧ Ext w w' := by
  obtain ⟨X2, t0⟩ := boxS_facts w (tx A) (tx B) (.string ⟨#[]⟩) (.string ⟨#[]⟩) 25
  have X2 := Lib.hid X2
  have C1 := Lib.hid (pairOf_yes A B hc hB)
  have C2 := Lib.hid (fun pa pb W => halves_calls .leaf .leaf A B (by simp only [Tr.carets]; omega) (by simp only [Tr.carets]; omega) none none pa pb W rfl rfl)
  have LE := red_le (.node .leaf A, .node .leaf B)
  have C3 := Lib.hid (fun pa pb W => fits_calls (red (.node .leaf A, .node .leaf B)).1 (red (.node .leaf A, .node .leaf B)).2 (by simp only [Tr.carets] at LE; omega) (by simp only [Tr.carets] at LE; omega) pa pb W)
  obtain ⟨s, t, b, hb⟩ := ifP_two (red (.node .leaf A, .node .leaf B))
  rw [show ((red (.node .leaf A, .node .leaf B)).1, (red (.node .leaf A, .node .leaf B)).2) = red (.node .leaf A, .node .leaf B) from rfl, hb] at C3
  rw [hb]
  clear hc hB LE hb
  go_enter Tryz.func17, Tryz.ntmps17
  go_wp2_with fail
  generalize (w.alloc (.cells #[.string (tx A), .string (tx B)] 25)).alloc (.cells #[.string ⟨#[]⟩, .string ⟨#[]⟩] 25) = W at *
  refine (C1.out _).mono ?_
  rintro e w1 ⟨pa, pb, rfl, rA, rB, x1⟩
  have X1 := Lib.hid (x1.alloc (.cells #[.pointer pa, .pointer pb] 67))
  have RA := Lib.hid (rA.ext ((Ext.refl w1).alloc (.cells #[.pointer pa, .pointer pb] 67)))
  have RB := Lib.hid (rB.ext ((Ext.refl w1).alloc (.cells #[.pointer pa, .pointer pb] 67)))
  have T0 := Lib.hid (t0.ext X1.out)
  clear rA rB t0 x1
  go_wp2_with fail
  generalize w1.alloc (.cells #[.pointer pa, .pointer pb] 67) = W1 at *
  refine (C2.out pa pb _ RA.out RB.out).mono ?_
  rintro e w2 ⟨p1, p2, rfl, r1, r2, x2⟩
  have X2' := Lib.hid (X1.out.trans x2)
  have R1 := Lib.hid r1
  have R2 := Lib.hid r2
  clear r1 r2
  have T2 := Lib.hid (T0.out.ext x2)
  clear x2
  go_wp2_with fail
  refine (C3.out p1 p2 _ R1.out R2.out).mono ?_
  rintro e w3 ⟨rfl, x3⟩
  have X3 := Lib.hid (X2'.out.trans x3)
  have T3 := T2.out.ext x3
  obtain ⟨u, v, k0, k1, f0, f1⟩ := T3.facts
  have T3 := Lib.hid T3
  clear x3
  go_wp2_with fail
  have HH := set2_heap T3.out (.string s) (.string t)
  have XX := (X2.out.trans X3.out).set2 (g := w.heap.size + 1) (by omega) (.string s) (.string t)
  change bodyPost _ _ _ _ _ (N.set2 _ (w.heap.size + 1) (.string s) (.string t))
  obtain ⟨hc0, hc1⟩ := cells_of HH
  generalize N.set2 _ (w.heap.size + 1) (.string s) (.string t) = W3 at *
  exact bodyPost_ret (v := .tuple #[.agg #[.string s, .string t], .bool b]) (by simp [results, Tryz.results17, go_sem, hc0, hc1]) rfl ⟨rfl, XX⟩
set_option maxHeartbeats 3200000 in
set_option maxRecDepth 100000 in
theorem ShiftPair_no (s t : ByteArray) (h : ¬ Good s t) (w : World) :
    Calls Tryz.prog 17 #[.agg #[.string s, .string t]] w fun e w' => e = .returned (.tuple #[emptyP, .bool false]) ∧ Ext w w' := by
  obtain ⟨X2, t0⟩ := boxS_facts w s t (.string ⟨#[]⟩) (.string ⟨#[]⟩) 25
  have X2 := Lib.hid X2
  have C1 := Lib.hid (pairOf_no s t h)
  clear h
  go_enter Tryz.func17, Tryz.ntmps17
  go_wp2_with fail
  generalize (w.alloc (.cells #[.string s, .string t] 25)).alloc (.cells #[.string ⟨#[]⟩, .string ⟨#[]⟩] 25) = W at *
  refine (C1.out _).mono ?_
  rintro e w1 ⟨pa, pb, rfl, x1⟩
  have X1 := Lib.hid (x1.alloc (.cells #[.pointer pa, .pointer pb] 67))
  have T3 := t0.ext X1.out
  obtain ⟨u, v, k0, k1, f0, f1⟩ := T3.facts
  have T3 := Lib.hid T3
  clear t0 x1
  go_wp2_with fail
  have HH := set2_heap T3.out (.string ⟨#[]⟩) (.string ⟨#[]⟩)
  have XX := (X2.out.trans X1.out).set2 (g := w.heap.size + 1) (by omega) (.string ⟨#[]⟩) (.string ⟨#[]⟩)
  change bodyPost _ _ _ _ _ (N.set2 _ (w.heap.size + 1) (.string ⟨#[]⟩) (.string ⟨#[]⟩))
  obtain ⟨hc0, hc1⟩ := cells_of HH
  generalize N.set2 _ (w.heap.size + 1) (.string ⟨#[]⟩) (.string ⟨#[]⟩) = W3 at *
  exact bodyPost_ret (v := .tuple #[emptyP, .bool false]) (by simp [results, Tryz.results17, go_sem, hc0, hc1, emptyP]) rfl ⟨rfl, XX⟩
end Go.Proofs.YtpmmajfdcicjiaaGreat.N
