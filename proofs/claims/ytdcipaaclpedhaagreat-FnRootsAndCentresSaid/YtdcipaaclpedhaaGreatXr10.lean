import Derived.StillTailTactics
import Derived.Test.YtdcipaaclpedhaaGreatXr9
/- A part of the proof: lemmas that later parts use. -/
set_option linter.unusedVariables false
set_option linter.unusedSimpArgs false
namespace Go.Proofs.YtdcipaaclpedhaaGreat.N
open Go.RowKit
theorem Ext.setCell {a b : World} (h : Ext a b) {p : Addr} (hp : a.heap.size ≤ p.block) (u : Value) : Ext a (b.setCell p u) := Below.setCell h hp u
theorem Ext.frozen {a b : World} (h : Ext a b) {p : Addr} (hp : p.block < a.heap.size) : b.frozen? p = a.frozen? p := Below.frozen h hp
structure Two (w : World) (g : Nat) (t : TypeId) : Prop where
  at_ : ∃ u v, w.heap[g]? = some (.cells #[u, v] t)
theorem Two.ext {w w' : World} {g t} (h : Two w g t) (hx : Ext w w') : Two w' g t := ⟨let ⟨u, v, e⟩ := h.at_; ⟨u, v, hx.at e⟩⟩
theorem Two.new (w : World) {n : Nat} (u v : Value) (t : TypeId) (h : w.heap.size = n) : Two (w.alloc (.cells #[u, v] t)) n t := ⟨u, v, h ▸ heap_alloc_new w _⟩
theorem Two.facts {w : World} {g t} (h : Two w g t) : ∃ u v, w.cell? ⟨g, 0, none⟩ = some u ∧ w.cell? ⟨g, 1, none⟩ = some v ∧ w.frozen? ⟨g, 0, none⟩ = false ∧ w.frozen? ⟨g, 1, none⟩ = false := by
  obtain ⟨u, v, e⟩ := h.at_
  exact ⟨u, v, (cells_of e).1, (cells_of e).2, by simp [World.frozen?, e], by simp [World.frozen?, e]⟩
def set2 (w : World) (g : Nat) (a b : Value) : World := (w.setCell ⟨g, 0, none⟩ a).setCell ⟨g, 1, none⟩ b
theorem set2_heap {w : World} {g t} (h : Two w g t) (a b : Value) : (set2 w g a b).heap[g]? = some (.cells #[a, b] t) := by
  obtain ⟨u, v, e⟩ := h.at_
  have h1 := heap_setCell_same w g 0 #[u, v] t a e
  have h2 := heap_setCell_same (w.setCell ⟨g, 0, none⟩ a) g 1 _ t b h1
  exact h2
theorem set2_other {w : World} {g k : Nat} (hk : k ≠ g) (a b : Value) : (set2 w g a b).heap[k]? = w.heap[k]? := by
  unfold set2
  rw [Below.heap_setCell _ _ _ _ (by exact hk), Below.heap_setCell _ _ _ _ (by exact hk)]
theorem set2_far {w : World} {g : Nat} {q : Addr} {x : Value} (hq : q.block ≠ g) (a b : Value) (h : w.cell? q = some x) : (set2 w g a b).cell? q = some x := (World.cell?_of_block (set2_other hq a b)).trans h
theorem Ext.set2 {a w : World} (h : Ext a w) {g : Nat} (hg : a.heap.size ≤ g) (u v : Value) : Ext a (N.set2 w g u v) := (h.setCell (p := ⟨g, 0, none⟩) hg u).setCell (p := ⟨g, 1, none⟩) hg v
theorem Rep.set2 {w : World} {g t} (h : Two w g t) (ht : t ≠ 94) (a b : Value) : ∀ {T p}, Rep w T p → Rep (N.set2 w g a b) T p
  | .leaf, _, hr => hr
  | .node _ _, _, ⟨c, pl, pr, e, h0, hl, hr⟩ => ⟨c, pl, pr, e, by
      rw [set2_other (fun e2 => by
        obtain ⟨u, v, e3⟩ := h.at_
        rw [← e2, h0] at e3
        injection e3 with e3
        injection e3 with _ e4
        exact ht e4.symm)]; exact h0, Rep.set2 h ht a b hl, Rep.set2 h ht a b hr⟩
theorem two_cells_set {w0 W : World} {b g : Nat} {u0 u1 : Value} (a v : Value) (c0 : W.cell? ⟨b, 0, none⟩ = some u0) (c1 : W.cell? ⟨b, 1, none⟩ = some u1) (hne : b ≠ g) (hx : Ext w0 W) (hg : w0.heap.size ≤ g) :
    (set2 W g a v).cell? ⟨b, 0, none⟩ = some u0 ∧ (set2 W g a v).cell? ⟨b, 1, none⟩ = some u1 ∧ Ext w0 (set2 W g a v) :=
  ⟨(World.cell?_of_block (set2_other hne a v)).trans c0, (World.cell?_of_block (set2_other hne a v)).trans c1, hx.set2 hg a v⟩
theorem Rep.set {w : World} {q : Addr} {u : Value} (hq : ∀ l r, w.heap[q.block]? ≠ some (.cells #[l, r] 94)) : ∀ {T p}, Rep w T p → Rep (w.setCell q u) T p
  | .leaf, _, hr => hr
  | .node _ _, _, ⟨b, pl, pr, e, h0, hl, hr⟩ => ⟨b, pl, pr, e, by
      rw [Below.heap_setCell _ _ _ _ (fun e2 => hq _ _ (e2 ▸ h0))]; exact h0, Rep.set hq hl, Rep.set hq hr⟩
def GivesP (w : World) (A B : Tr) (e : Ending) (w' : World) : Prop := ∃ pa pb, e = .returned (.agg #[.pointer pa, .pointer pb]) ∧ Rep w' A pa ∧ Rep w' B pb ∧ Ext w w'
set_option maxHeartbeats 3200000 in
set_option maxRecDepth 100000 in
theorem drop_calls (A B : Tr) (k : Nat) (hA : A.carets < 10000000) (hB : B.carets < 10000000) (kA : k ∈ expo A 0) (kB : k ∈ expo B 0) (pa pb : Option Addr) (w : World) (ra : Rep w A pa) (rb : Rep w B pb) :
    Calls Tryz.prog 59 #[.agg #[.pointer pa, .pointer pb], .int .i64 k] w (GivesP w (without A k) (without B k)) := by
  have X1 := Lib.hid ((Ext.refl w).alloc (.cells #[.pointer pa, .pointer pb] 57))
  have X2 := Lib.hid (X1.out.alloc (.cells #[.pointer none, .pointer none] 57))
  have C1 := fun W (hx : Ext w W) => without_calls A k pa W (by omega) kA (ra.ext hx)
  have C2 := fun W (hx : Ext w W) => without_calls B k pb W (by omega) kB (rb.ext hx)
  have c0 : ((w.alloc (.cells #[.pointer pa, .pointer pb] 57)).alloc (.cells #[.pointer none, .pointer none] 57)).cell? ⟨w.heap.size, 0, none⟩ = some (.pointer pa) := by go_simp
  have c1 : ((w.alloc (.cells #[.pointer pa, .pointer pb] 57)).alloc (.cells #[.pointer none, .pointer none] 57)).cell? ⟨w.heap.size, 1, none⟩ = some (.pointer pb) := by go_simp
  have t0 : Two ((w.alloc (.cells #[.pointer pa, .pointer pb] 57)).alloc (.cells #[.pointer none, .pointer none] 57)) (w.heap.size + 1) 57 := ⟨_, _, by
    have := heap_alloc_new (w.alloc (.cells #[.pointer pa, .pointer pb] 57)) (.cells #[.pointer none, .pointer none] 57)
    simpa using this⟩
  clear kA kB ra rb hA hB
  go_enter Tryz.func59, Tryz.ntmps59
  go_wp2_with fail
  generalize (w.alloc (.cells #[.pointer pa, .pointer pb] 57)).alloc (.cells #[.pointer none, .pointer none] 57) = W at *
  go_region_held3 (fun w' => w'.cell? ⟨w.heap.size, 0, none⟩ = some (.pointer pa) ∧ w'.cell? ⟨w.heap.size, 1, none⟩ = some (.pointer pb) ∧ Ext w w')
    (first | exact ⟨c0, c1, X2.out.drew⟩ | exact two_cells_set _ _ (x3.cell c0) (x3.cell c1) (by omega) (X2.out.trans x3) (by omega) | exact ⟨x3.cell c0, x3.cell c1, X2.out.trans x3⟩ | exact ⟨x1.cell c0, x1.cell c1, X2.out.trans x1⟩ | fail)
    (first
      | (go_at_call_of 82 (Value.pointer pa); refine (C1 _ (X2.out.trans (Ext.refl W).drew)).mono ?_; rintro e w1 ⟨p1, rfl, r1, hx1⟩; have x1 := (Ext.refl W).drew.trans hx1)
      | (go_at_call_of 82 (Value.pointer pb); refine (C2 _ (X2.out.trans x1)).mono ?_; rintro e w3 ⟨p3, rfl, r3, hx3⟩; have x3 := x1.trans hx3; obtain ⟨u, v, k0, k1, f0, f1⟩ := (t0.ext x3).facts)
      | fail)
  have T3 := t0.ext x3
  have HH := set2_heap T3 (.pointer p1) (.pointer p3)
  have R1 := Rep.set2 T3 (by decide) (.pointer p1) (.pointer p3) (r1.ext hx3)
  have R3 := Rep.set2 T3 (by decide) (.pointer p1) (.pointer p3) r3
  have XX := (X2.out.trans x3).set2 (g := w.heap.size + 1) (by omega) (.pointer p1) (.pointer p3)
  change Exit.then _ _ _ _ (N.set2 w3 (w.heap.size + 1) (.pointer p1) (.pointer p3))
  obtain ⟨hc0, hc1⟩ := cells_of HH
  generalize N.set2 w3 (w.heap.size + 1) (.pointer p1) (.pointer p3) = W3 at *
  go_wp2_with fail
  exact bodyPost_ret (v := .agg #[.pointer p1, .pointer p3]) (by simp [results, Tryz.results59, go_sem, hc0, hc1]) rfl ⟨p1, p3, rfl, R1, R3, XX⟩
set_option maxHeartbeats 3200000 in
set_option maxRecDepth 100000 in
theorem reduced_calls (A B : Tr) (hA : A.carets < 10000000) (hB : B.carets < 10000000) (pa pb : Option Addr) (w : World) (ra : Rep w A pa) (rb : Rep w B pb) :
    Calls Tryz.prog 31 #[.agg #[.pointer pa, .pointer pb]] w (GivesP w (red (A, B)).1 (red (A, B)).2) := by
  have X1 := Lib.hid ((Ext.refl w).alloc (.cells #[.pointer pa, .pointer pb] 57))
  have X2 := Lib.hid (X1.out.alloc (.cells #[.pointer none, .pointer none] 57))
  have B0 : Hid (((w.alloc (.cells #[.pointer pa, .pointer pb] 57)).alloc (.cells #[.pointer none, .pointer none] 57)).heap[w.heap.size]? = some (.cells #[.pointer pa, .pointer pb] 57)) := ((Ext.refl _).alloc _).at (heap_alloc_new w _)
  have t0 : Hid (Two ((w.alloc (.cells #[.pointer pa, .pointer pb] 57)).alloc (.cells #[.pointer none, .pointer none] 57)) (w.heap.size + 1) 57) := ⟨_, _, by
    have := heap_alloc_new (w.alloc (.cells #[.pointer pa, .pointer pb] 57)) (.cells #[.pointer none, .pointer none] 57)
    simpa using this⟩
  have RA := Lib.hid (ra.ext X2.out)
  have RB := Lib.hid (rb.ext X2.out)
  have LE := Lib.hid (And.intro hA hB)
  clear hA hB ra rb
  go_enter Tryz.func31, Tryz.ntmps31
  go_wp2_with fail
  generalize (w.alloc (.cells #[.pointer pa, .pointer pb] 57)).alloc (.cells #[.pointer none, .pointer none] 57) = W at *
  go_loopg [3] A.carets (fun f v3 wr => ∃ (C D : Tr) (qa qb : Option Addr), Hid (C.carets = f) ∧ Hid (C.carets < 10000000 ∧ D.carets < 10000000) ∧ Hid (red (C, D) = red (A, B)) ∧ Hid (wr.heap[w.heap.size]? = some (.cells #[.pointer qa, .pointer qb] 57)) ∧ Hid (Two wr (w.heap.size + 1) 57) ∧ Hid (Rep wr C qa) ∧ Hid (Rep wr D qb) ∧ Hid (Ext w wr))
  case atStart => exact ⟨A, B, pa, pb, rfl, LE.out, rfl, B0.out, t0.out, RA.out, RB.out, X2.out⟩
  case round =>
    obtain ⟨C, D, qa, qb, HF, HL, HR, HB, HT, HC, HD, HX⟩ := hrel
    obtain ⟨c0, c1⟩ := cells_of HB.out
    have CB := both_calls C D HL.out.1 HL.out.2 qa qb wr HC.out HD.out
    cases hb : bothT C D with
    | nil =>
      rw [hb] at CB
      have CB := Lib.hid CB
      have RN : Hid (red (A, B) = (C, D)) := by show _ = _; rw [← HR.out, red_nil hb]
      clear hb
      go_wp2_with fail
      refine CB.out.mono ?_
      rintro e w1 ⟨v1, rfl, o1, x1⟩
      obtain ⟨A1, n1, e1, _⟩ := o1.reads
      subst e1
      have X1 := Lib.hid x1
      obtain ⟨d0, d1⟩ := cells_of (x1.at HB.out)
      obtain ⟨u, v, k0, k1, f0, f1⟩ := (HT.out.ext x1).facts
      clear o1 x1 c0 c1
      go_wp2_with fail
      have T3 := HT.out.ext X1.out
      have HH := set2_heap T3 (.pointer qa) (.pointer qb)
      have R1 := Rep.set2 T3 (by decide) (.pointer qa) (.pointer qb) (HC.out.ext X1.out)
      have R3 := Rep.set2 T3 (by decide) (.pointer qa) (.pointer qb) (HD.out.ext X1.out)
      have XX := (HX.out.trans X1.out).set2 (g := w.heap.size + 1) (by omega) (.pointer qa) (.pointer qb)
      change bodyPost _ _ _ _ _ (N.set2 w1 (w.heap.size + 1) (.pointer qa) (.pointer qb))
      obtain ⟨hc0, hc1⟩ := cells_of HH
      generalize N.set2 w1 (w.heap.size + 1) (.pointer qa) (.pointer qb) = W3 at *
      refine bodyPost_ret (v := .agg #[.pointer qa, .pointer qb]) (by simp [results, Tryz.results31, go_sem, hc0, hc1]) rfl ?_
      rw [RN.out]
      exact ⟨qa, qb, rfl, R1, R3, XX⟩
    | cons k l =>
      rw [hb] at CB
      have CB := Lib.hid CB
      have MB := Lib.hid (mem_both (A := C) (B := D) (k := k) (by rw [hb]; exact List.mem_cons_self))
      have RN : Hid (red (without C k, without D k) = red (A, B)) := by show _ = _; rw [← HR.out]; exact (red_cons (p := (C, D)) hb).symm
      have LC := Lib.hid (And.intro (without_carets C k MB.out.1) (without_carets D k MB.out.2))
      clear hb
      go_wp2_with fail
      refine CB.out.mono ?_
      rintro e w1 ⟨v1, rfl, o1, x1⟩
      obtain ⟨A1, n1, e1, _, rd⟩ := o1.reads
      subst e1
      rw [nats_length] at *
      obtain ⟨ad, hA1, ca⟩ := rd (by simp)
      subst hA1
      have c2 : w1.cell? ad = some (.int .i64 k) := ca 0 _ (nats_get (k :: l) 0 (by simp))
      have X1 := Lib.hid x1
      obtain ⟨d0, d1⟩ := cells_of (x1.at HB.out)
      have CD := fun W' (hx : Ext w1 W') => drop_calls C D k HL.out.1 HL.out.2 MB.out.1 MB.out.2 qa qb W' (HC.out.ext (x1.trans hx)) (HD.out.ext (x1.trans hx))
      have hlen : 0 < (k :: l).length := by simp
      clear o1 x1 c0 c1 rd ca
      generalize (k :: l).length = m at *
      have t1 : ((m : Int) == 0) = false := by rw [beq_eq_false_iff_ne]; omega
      have t2 : (0 : Int) < m := by omega
      go_wp2_with fail
      go_still_tail 4, (by kernel_rfl)
      go_wp2_with fail
      refine (CD _ (Ext.refl _).drew).mono ?_
      rintro e w2 ⟨p1, p2, rfl, r1, r2, hx2⟩
      have x2 : Ext w1 w2 := (Ext.refl _).drew.trans hx2
      have X2 := Lib.hid (X1.out.trans x2)
      have TB : Hid (Two w2 w.heap.size 57) := ⟨_, _, X2.out.at HB.out⟩
      obtain ⟨u, v, k0, k1, f0, f1⟩ := TB.out.facts
      clear CD hx2 x2
      go_wp2_with fail
      have R1 := Lib.hid (Rep.set2 TB.out (by decide) (.pointer p1) (.pointer p2) r1)
      have R2 := Lib.hid (Rep.set2 TB.out (by decide) (.pointer p1) (.pointer p2) r2)
      have XX := Lib.hid ((HX.out.trans X2.out).set2 (g := w.heap.size) (Nat.le_refl _) (.pointer p1) (.pointer p2))
      have HH := Lib.hid (set2_heap TB.out (.pointer p1) (.pointer p2))
      have T3 : Hid (Two (N.set2 w2 w.heap.size (.pointer p1) (.pointer p2)) (w.heap.size + 1) 57) := by
        obtain ⟨u, v, e⟩ := HT.out.ext X2.out
        exact ⟨u, v, by rw [set2_other (by omega)]; exact e⟩
      clear r1 r2 k0 k1 f0 f1
      go_roundg (without C k).carets
      · exact ⟨without C k, without D k, p1, p2, rfl, ⟨by have := LC.out; have := HL.out; omega, by have := LC.out; have := HL.out; omega⟩, RN.out, HH.out, T3.out, R1.out, R2.out, XX.out⟩
      · have := LC.out
        have := HF.out
        omega
end Go.Proofs.YtdcipaaclpedhaaGreat.N
namespace Go.Proofs.YtdcipaaclpedhaaGreat.N
open Go.RowKit
set_option maxHeartbeats 3200000 in
set_option maxRecDepth 100000 in
theorem plain_calls (A B : Tr) (hA : A.carets < 100000000) (hB : B.carets < 100000000) (pa pb : Option Addr) (w : World) (ra : Rep w A pa) (rb : Rep w B pb) :
    Calls Tryz.prog 41 #[.agg #[.pointer pa, .pointer pb]] w fun e w' => e = .returned (.agg #[.string (tx A), .string (tx B)]) ∧ Ext w w' := by
  have X1 := Lib.hid ((Ext.refl w).alloc (.cells #[.pointer pa, .pointer pb] 57))
  have X2 := Lib.hid (X1.out.alloc (.cells #[.string ⟨#[]⟩, .string ⟨#[]⟩] 25))
  have C1 := fun W (hx : Ext w W) => text_calls A pa W (by omega) (ra.ext hx)
  have C2 := fun W (hx : Ext w W) => text_calls B pb W (by omega) (rb.ext hx)
  have c0 : ((w.alloc (.cells #[.pointer pa, .pointer pb] 57)).alloc (.cells #[.string ⟨#[]⟩, .string ⟨#[]⟩] 25)).cell? ⟨w.heap.size, 0, none⟩ = some (.pointer pa) := by go_simp
  have c1 : ((w.alloc (.cells #[.pointer pa, .pointer pb] 57)).alloc (.cells #[.string ⟨#[]⟩, .string ⟨#[]⟩] 25)).cell? ⟨w.heap.size, 1, none⟩ = some (.pointer pb) := by go_simp
  have t0 : Two ((w.alloc (.cells #[.pointer pa, .pointer pb] 57)).alloc (.cells #[.string ⟨#[]⟩, .string ⟨#[]⟩] 25)) (w.heap.size + 1) 25 := ⟨_, _, by
    have := heap_alloc_new (w.alloc (.cells #[.pointer pa, .pointer pb] 57)) (.cells #[.string ⟨#[]⟩, .string ⟨#[]⟩] 25)
    simpa using this⟩
  clear ra rb hA hB
  go_enter Tryz.func41, Tryz.ntmps41
  go_wp2_with fail
  generalize (w.alloc (.cells #[.pointer pa, .pointer pb] 57)).alloc (.cells #[.string ⟨#[]⟩, .string ⟨#[]⟩] 25) = W at *
  go_region_held3 (fun w' => w'.cell? ⟨w.heap.size, 0, none⟩ = some (.pointer pa) ∧ w'.cell? ⟨w.heap.size, 1, none⟩ = some (.pointer pb) ∧ Ext w w')
    (first | exact ⟨c0, c1, X2.out.drew⟩ | exact ⟨c0, c1, X2.out.drewN _⟩ | exact two_cells_set _ _ (w0 := w) (W := W.drewN _) c0 c1 (by omega) (X2.out.drewN _) (by omega) | fail)
    (first
      | (go_at_call_of 60 (Value.pointer pa); refine (C1 _ X2.out.drew).mono ?_; rintro e w1 ⟨rfl, n1, rfl⟩)
      | (go_at_call_of 60 (Value.pointer pb); refine (C2 _ (X2.out.drewN _)).mono ?_; rintro e w3 ⟨rfl, n3, rfl⟩; obtain ⟨u, v, k0, k1, f0, f1⟩ := (t0.ext ((Ext.refl W).drewN (1 + n1 + n3))).facts)
      | fail)
  have x3 := (Ext.refl W).drewN (1 + n1 + n3)
  have T3 := t0.ext x3
  have HH := set2_heap T3 (.string (tx A)) (.string (tx B))
  have XX := (X2.out.trans x3).set2 (g := w.heap.size + 1) (by omega) (.string (tx A)) (.string (tx B))
  change Exit.then _ _ _ _ (N.set2 _ (w.heap.size + 1) (.string (tx A)) (.string (tx B)))
  obtain ⟨hc0, hc1⟩ := cells_of HH
  generalize N.set2 _ (w.heap.size + 1) (.string (tx A)) (.string (tx B)) = W3 at *
  go_wp2_with fail
  exact bodyPost_ret (v := .agg #[.string (tx A), .string (tx B)]) (by simp [results, Tryz.results41, go_sem, hc0, hc1]) rfl ⟨rfl, XX⟩
theorem box_facts (w : World) (pa pb : Option Addr) (s t : ByteArray) :
    Ext w ((w.alloc (.cells #[.pointer pa, .pointer pb] 57)).alloc (.cells #[.string s, .string t] 25)) ∧
    ((w.alloc (.cells #[.pointer pa, .pointer pb] 57)).alloc (.cells #[.string s, .string t] 25)).cell? ⟨w.heap.size, 0, none⟩ = some (.pointer pa) ∧
    ((w.alloc (.cells #[.pointer pa, .pointer pb] 57)).alloc (.cells #[.string s, .string t] 25)).cell? ⟨w.heap.size, 1, none⟩ = some (.pointer pb) ∧
    Two ((w.alloc (.cells #[.pointer pa, .pointer pb] 57)).alloc (.cells #[.string s, .string t] 25)) (w.heap.size + 1) 25 :=
  ⟨((Ext.refl w).alloc _).alloc _, by go_simp, by go_simp, ⟨_, _, by
    have := heap_alloc_new (w.alloc (.cells #[.pointer pa, .pointer pb] 57)) (.cells #[.string s, .string t] 25)
    simpa using this⟩⟩
set_option maxHeartbeats 3200000 in
set_option maxRecDepth 100000 in
theorem fits_yes (A B : Tr) (hA : A.carets ≤ 8) (hB : B.carets < 100000000) (pa pb : Option Addr) (w : World) (ra : Rep w A pa) (rb : Rep w B pb) :
    Calls Tryz.prog 43 #[.agg #[.pointer pa, .pointer pb]] w fun e w' => e = .returned (.tuple #[.agg #[.string (tx A), .string (tx B)], .bool true]) ∧ Ext w w' := by
  obtain ⟨X2, c0, c1, t0⟩ := box_facts w pa pb ⟨#[]⟩ ⟨#[]⟩
  have X2 := Lib.hid X2
  have C1 := fun W (hx : Ext w W) => carets_calls A pa W (by omega) (ra.ext hx)
  have C2 := fun W (hx : Ext w W) => plain_calls A B (by omega) hB pa pb W (ra.ext hx) (rb.ext hx)
  have b0 : (A.carets : Int) ≤ 8 := by omega
  clear ra rb hA hB
  go_enter Tryz.func43, Tryz.ntmps43
  go_wp2_with fail
  generalize (w.alloc (.cells #[.pointer pa, .pointer pb] 57)).alloc (.cells #[.string ⟨#[]⟩, .string ⟨#[]⟩] 25) = W at *
  refine (C1 _ X2.out).mono ?_
  rintro e w1 ⟨rfl, n1, rfl⟩
  go_wp2_with fail
  refine (C2 _ (X2.out.drewN _)).mono ?_
  rintro e w3 ⟨rfl, hx3⟩
  have x3 := ((Ext.refl W).drewN _).trans hx3
  obtain ⟨u, v, k0, k1, f0, f1⟩ := (t0.ext x3).facts
  clear hx3
  go_wp2_with fail
  have T3 := t0.ext x3
  have HH := set2_heap T3 (.string (tx A)) (.string (tx B))
  have XX := (X2.out.trans x3).set2 (g := w.heap.size + 1) (by omega) (.string (tx A)) (.string (tx B))
  change bodyPost _ _ _ _ _ (N.set2 _ (w.heap.size + 1) (.string (tx A)) (.string (tx B)))
  obtain ⟨hc0, hc1⟩ := cells_of HH
  generalize N.set2 _ (w.heap.size + 1) (.string (tx A)) (.string (tx B)) = W3 at *
  exact bodyPost_ret (v := .tuple #[.agg #[.string (tx A), .string (tx B)], .bool true]) (by simp [results, Tryz.results43, go_sem, hc0, hc1]) rfl ⟨rfl, XX⟩
set_option maxHeartbeats 3200000 in
set_option maxRecDepth 100000 in
theorem fits_no (A B : Tr) (hA : 8 < A.carets) (hB : A.carets < 100000000) (pa pb : Option Addr) (w : World) (ra : Rep w A pa) :
    Calls Tryz.prog 43 #[.agg #[.pointer pa, .pointer pb]] w fun e w' => e = .returned (.tuple #[.agg #[.string ⟨#[]⟩, .string ⟨#[]⟩], .bool false]) ∧ Ext w w' := by
  obtain ⟨X2, c0, c1, t0⟩ := box_facts w pa pb ⟨#[]⟩ ⟨#[]⟩
  have X2 := Lib.hid X2
  have C1 := fun W (hx : Ext w W) => carets_calls A pa W (by omega) (ra.ext hx)
  have b0 : (8 : Int) < (A.carets : Int) := by omega
  clear ra hA hB
  go_enter Tryz.func43, Tryz.ntmps43
  go_wp2_with fail
  generalize (w.alloc (.cells #[.pointer pa, .pointer pb] 57)).alloc (.cells #[.string ⟨#[]⟩, .string ⟨#[]⟩] 25) = W at *
  refine (C1 _ (by first | exact X2.out.drew | exact X2.out)).mono ?_
  rintro e w1 ⟨rfl, n1, rfl⟩
  have x3 := (Ext.refl W).drewN n1
  obtain ⟨u, v, k0, k1, f0, f1⟩ := (t0.ext x3).facts
  go_wp2_with fail
  have T3 := t0.ext x3
  have HH := set2_heap T3 (.string ⟨#[]⟩) (.string ⟨#[]⟩)
  have XX := (X2.out.trans x3).set2 (g := w.heap.size + 1) (by omega) (.string ⟨#[]⟩) (.string ⟨#[]⟩)
  change bodyPost _ _ _ _ _ (N.set2 _ (w.heap.size + 1) (.string ⟨#[]⟩) (.string ⟨#[]⟩))
  obtain ⟨hc0, hc1⟩ := cells_of HH
  generalize N.set2 _ (w.heap.size + 1) (.string ⟨#[]⟩) (.string ⟨#[]⟩) = W3 at *
  exact bodyPost_ret (v := .tuple #[.agg #[.string ⟨#[]⟩, .string ⟨#[]⟩], .bool false]) (by simp [results, Tryz.results43, go_sem, hc0, hc1]) rfl ⟨rfl, XX⟩
def Good (s t : ByteArray) : Prop := ∃ A B, s = tx A ∧ t = tx B ∧ A.carets = B.carets ∧ B.carets ≤ 8
theorem parse_any (s : ByteArray) (w : World) : Calls Tryz.prog 46 #[.string s] w fun e w' => ∃ p b, e = .returned (.tuple #[.pointer p, .bool b]) ∧ Ext w w' ∧ Hid (b = true → ∃ T, s = tx T ∧ T.carets ≤ 8 ∧ Rep w' T p) ∧ Hid (b = false → ¬ ∃ T, s = tx T ∧ T.carets ≤ 8) := by
  by_cases h : ∃ T, s = tx T ∧ T.carets ≤ 8
  · obtain ⟨T, rfl, hT⟩ := h
    refine (parse_yes T w hT).mono ?_
    rintro e w' ⟨p, rfl, hr, hx⟩
    exact ⟨p, true, rfl, hx, (fun _ => ⟨T, rfl, hT, hr⟩), (fun h => by cases h)⟩
  · refine (parse_no s w h).mono ?_
    rintro e w' ⟨rfl, hx⟩
    exact ⟨none, false, rfl, hx, (fun h => by cases h), fun _ => h⟩
def PairPost (w : World) (s t : ByteArray) (e : Ending) (w' : World) : Prop := ∃ pa pb b, e = .returned (.tuple #[.agg #[.pointer pa, .pointer pb], .bool b]) ∧ Ext w w' ∧ Hid (b = true → ∃ A B, s = tx A ∧ t = tx B ∧ A.carets = B.carets ∧ B.carets ≤ 8 ∧ Rep w' A pa ∧ Rep w' B pb) ∧ Hid (b = false → ¬ Good s t)
set_option maxHeartbeats 3200000 in
set_option maxRecDepth 100000 in
theorem pairOf_calls (s t : ByteArray) (w : World) :
    Calls Tryz.prog 30 #[.agg #[.string s, .string t]] w (PairPost w s t) := by
  have X2 := Lib.hid (((Ext.refl w).alloc (.cells #[.string s, .string t] 25)).alloc (.cells #[.pointer none, .pointer none] 57))
  have c0 : ((w.alloc (.cells #[.string s, .string t] 25)).alloc (.cells #[.pointer none, .pointer none] 57)).cell? ⟨w.heap.size, 0, none⟩ = some (.string s) := by go_simp
  have c1 : ((w.alloc (.cells #[.string s, .string t] 25)).alloc (.cells #[.pointer none, .pointer none] 57)).cell? ⟨w.heap.size, 1, none⟩ = some (.string t) := by go_simp
  have t0 : Two ((w.alloc (.cells #[.string s, .string t] 25)).alloc (.cells #[.pointer none, .pointer none] 57)) (w.heap.size + 1) 57 := ⟨_, _, by
    have := heap_alloc_new (w.alloc (.cells #[.string s, .string t] 25)) (.cells #[.pointer none, .pointer none] 57)
    simpa using this⟩
  go_enter Tryz.func30, Tryz.ntmps30
  go_wp2_with fail
  generalize (w.alloc (.cells #[.string s, .string t] 25)).alloc (.cells #[.pointer none, .pointer none] 57) = W at *
  refine (parse_any s _).mono ?_
  rintro e w1 ⟨pa, b1, rfl, x1, y1, n1⟩
  have d1 := x1.cell c1
  have T1 := t0.ext x1
  have X3 := Lib.hid (X2.out.trans x1)
  clear c0 c1 t0
  go_wp2_with fail
  refine (parse_any t _).mono ?_
  rintro e w2 ⟨pb, b2, rfl, x2, y2, n2⟩
  have X4 := Lib.hid (X3.out.trans x2)
  have T2 := T1.ext x2
  obtain ⟨u, v, k0, k1, f0, f1⟩ := T2.facts
  have T2 := Lib.hid T2
  have x2 := Lib.hid x2
  clear d1 T1 x1
  cases b1 with
  | false =>
    have NG : Hid (¬ Good s t) := by
      rintro ⟨A, B, rfl, rfl, h1, h2⟩
      exact n1.out rfl ⟨A, rfl, by omega⟩
    clear y1 n1 y2 n2
    go_wp2_with fail
    have HH := set2_heap T2.out (.pointer pa) (.pointer pb)
    have XX := X4.out.set2 (g := w.heap.size + 1) (by omega) (.pointer pa) (.pointer pb)
    change bodyPost _ _ _ _ _ (N.set2 _ (w.heap.size + 1) (.pointer pa) (.pointer pb))
    obtain ⟨hc0, hc1⟩ := cells_of HH
    generalize N.set2 _ (w.heap.size + 1) (.pointer pa) (.pointer pb) = W3 at *
    exact bodyPost_ret (v := .tuple #[.agg #[.pointer pa, .pointer pb], .bool false]) (by simp [results, Tryz.results30, go_sem, hc0, hc1]) rfl ⟨_, _, _, rfl, XX, (fun h => by cases h), fun _ => NG.out⟩
  | true =>
    have Y1 := y1.out rfl
    cases b2 with
    | false =>
      have NG : Hid (¬ Good s t) := by
        rintro ⟨A, B, rfl, rfl, h1, h2⟩
        exact n2.out rfl ⟨B, rfl, h2⟩
      clear y1 n1 y2 n2 Y1
      go_wp2_with fail
      have HH := set2_heap T2.out (.pointer pa) (.pointer pb)
      have XX := X4.out.set2 (g := w.heap.size + 1) (by omega) (.pointer pa) (.pointer pb)
      change bodyPost _ _ _ _ _ (N.set2 _ (w.heap.size + 1) (.pointer pa) (.pointer pb))
      obtain ⟨hc0, hc1⟩ := cells_of HH
      generalize N.set2 _ (w.heap.size + 1) (.pointer pa) (.pointer pb) = W3 at *
      exact bodyPost_ret (v := .tuple #[.agg #[.pointer pa, .pointer pb], .bool false]) (by simp [results, Tryz.results30, go_sem, hc0, hc1]) rfl ⟨_, _, _, rfl, XX, (fun h => by cases h), fun _ => NG.out⟩
    | true =>
      obtain ⟨B, hB, lB, rB⟩ := y2.out rfl
      obtain ⟨A, hA, lA, rA⟩ := Y1
      subst hA hB
      have rA := rA.ext x2.out
      have C1 := fun W (hx : Ext w2 W) => carets_calls A pa W (by omega) (rA.ext hx)
      have C2 := fun W (hx : Ext w2 W) => carets_calls B pb W (by omega) (rB.ext hx)
      have RA := Lib.hid rA
      have RB := Lib.hid rB
      have LL := Lib.hid (And.intro lA lB)
      clear y1 n1 y2 n2 rA rB lA lB
      have YY : Hid ((((A.carets : Int) == (B.carets : Int)) = true) → A.carets = B.carets) := by
        intro h; have := eq_of_beq h; omega
      have NN : Hid ((((A.carets : Int) == (B.carets : Int)) = false) → ¬ Good (tx A) (tx B)) := by
        rintro h ⟨A', B', h1, h2, h3, _⟩
        obtain rfl := tx_inj h1
        obtain rfl := tx_inj h2
        rw [h3] at h
        simp at h
      go_wp2_with fail
      refine (C1 _ (Ext.refl _)).mono ?_
      rintro e w3 ⟨rfl, m1, rfl⟩
      go_wp2_with fail
      refine (C2 _ ((Ext.refl _).drewN _)).mono ?_
      rintro e w3 ⟨rfl, m2, rfl⟩
      go_wp2_with fail
      have x3 := (Ext.refl w2).drewN (m1 + m2)
      have T3 := T2.out.ext x3
      have HH := set2_heap T3 (.pointer pa) (.pointer pb)
      have XX := (X4.out.trans x3).set2 (g := w.heap.size + 1) (by omega) (.pointer pa) (.pointer pb)
      have Q1 := Rep.set2 T3 (by decide) (.pointer pa) (.pointer pb) (RA.out.ext x3)
      have Q2 := Rep.set2 T3 (by decide) (.pointer pa) (.pointer pb) (RB.out.ext x3)
      change bodyPost _ _ _ _ _ (N.set2 (w2.drewN (m1 + m2)) (w.heap.size + 1) (.pointer pa) (.pointer pb))
      obtain ⟨hc0, hc1⟩ := cells_of HH
      generalize N.set2 _ (w.heap.size + 1) (.pointer pa) (.pointer pb) = W3 at *
      generalize ((A.carets : Int) == (B.carets : Int)) = bb at *
      exact bodyPost_ret (v := .tuple #[.agg #[.pointer pa, .pointer pb], .bool bb]) (by simp [results, Tryz.results30, go_sem, hc0, hc1]) rfl ⟨_, _, _, rfl, XX, (fun h => ⟨A, B, rfl, rfl, YY.out h, LL.out.2, Q1, Q2⟩), fun h => NN.out h⟩
def emptyP : Value := .agg #[.string ⟨#[]⟩, .string ⟨#[]⟩]
def ifP (p : Tr × Tr) : Value := if p.1.carets ≤ 8 then .tuple #[.agg #[.string (tx p.1), .string (tx p.2)], .bool true] else .tuple #[emptyP, .bool false]
theorem ifP_two (p : Tr × Tr) : ∃ s t b, ifP p = .tuple #[.agg #[.string s, .string t], .bool b] := by
  unfold ifP; split
  · exact ⟨_, _, _, rfl⟩
  · exact ⟨_, _, _, rfl⟩
theorem fits_calls (A B : Tr) (hA : A.carets < 100000000) (hB : B.carets < 100000000) (pa pb : Option Addr) (w : World) (ra : Rep w A pa) (rb : Rep w B pb) :
    Calls Tryz.prog 43 #[.agg #[.pointer pa, .pointer pb]] w fun e w' => e = .returned (ifP (A, B)) ∧ Ext w w' := by
  by_cases h : A.carets ≤ 8
  · rw [show ifP (A, B) = _ from if_pos h]; exact fits_yes A B h hB pa pb w ra rb
  · rw [show ifP (A, B) = _ from if_neg h]; exact fits_no A B (by omega) hA pa pb w ra
theorem boxS_facts (w : World) (s t : ByteArray) (x y : Value) (ty : TypeId) :
    Ext w ((w.alloc (.cells #[.string s, .string t] 25)).alloc (.cells #[x, y] ty)) ∧
    Two ((w.alloc (.cells #[.string s, .string t] 25)).alloc (.cells #[x, y] ty)) (w.heap.size + 1) ty :=
  ⟨((Ext.refl w).alloc _).alloc _, ⟨_, _, by
    have := heap_alloc_new (w.alloc (.cells #[.string s, .string t] 25)) (.cells #[x, y] ty)
    simpa using this⟩⟩
theorem pairOf_yes (A B : Tr) (hc : A.carets = B.carets) (hB : B.carets ≤ 8) (w : World) : Calls Tryz.prog 30 #[.agg #[.string (tx A), .string (tx B)]] w fun e w' => ∃ pa pb, e = .returned (.tuple #[.agg #[.pointer pa, .pointer pb], .bool true]) ∧ Rep w' A pa ∧ Rep w' B pb ∧ Ext w w' := by
  refine (pairOf_calls _ _ w).mono ?_
  rintro e w1 ⟨pa, pb, b, rfl, x1, y1, n1⟩
  cases b with
  | false => exact absurd ⟨A, B, rfl, rfl, hc, hB⟩ (n1.out rfl)
  | true =>
    obtain ⟨A', B', hA, hB', h1, h2, rA, rB⟩ := y1.out rfl
    obtain rfl := tx_inj hA
    obtain rfl := tx_inj hB'
    exact ⟨pa, pb, rfl, rA, rB, x1⟩
theorem pairOf_no (s t : ByteArray) (h : ¬ Good s t) (w : World) : Calls Tryz.prog 30 #[.agg #[.string s, .string t]] w fun e w' => ∃ pa pb, e = .returned (.tuple #[.agg #[.pointer pa, .pointer pb], .bool false]) ∧ Ext w w' := by
  refine (pairOf_calls _ _ w).mono ?_
  rintro e w1 ⟨pa, pb, b, rfl, x1, y1, n1⟩
  cases b with
  | true =>
    obtain ⟨A', B', hA, hB', h1, h2, rA, rB⟩ := y1.out rfl
    exact absurd ⟨A', B', hA, hB', h1, h2⟩ h
  | false => exact ⟨pa, pb, rfl, x1⟩
end Go.Proofs.YtdcipaaclpedhaaGreat.N
namespace Go.Proofs.YtdcipaaclpedhaaGreat.N
open Go.RowKit
def TwoL (xs : List Int) : Prop := ∀ x ∈ xs, x ≠ 0 ∧ -2 ≤ x ∧ x ≤ 2
instance (xs : List Int) : Decidable (TwoL xs) := by unfold TwoL; infer_instance
def LetL (m : Int) (xs : List Int) : Prop := ∀ x ∈ xs, x ≠ 0 ∧ -m - 1 ≤ x ∧ x ≤ m + 1
instance (m : Int) (xs : List Int) : Decidable (LetL m xs) := by unfold LetL; infer_instance
section
attribute [local go_sem] max2_i max_two_
end
end Go.Proofs.YtdcipaaclpedhaaGreat.N
namespace Go.Proofs.YtdcipaaclpedhaaGreat.N
open Go.RowKit
def Run (F : FuncId) : Prop := ∀ args w, (callFunc F args).run Tryz.prog w = .ok (.enter F args) w
theorem run_of {f : FuncId} {fn : Func} (hf : Tryz.prog.funcs[f]? = some fn) (hname : (fn.name == "runtime.NumGoroutine") = false) (hb : fn.body.isNone = false) : Run f := by
  intro args w
  have h1 : fn.name ≠ "runtime.NumGoroutine" := by simpa using hname
  obtain ⟨c, hc⟩ := Option.isSome_iff_exists.1 (by cases h : fn.body <;> simp_all : fn.body.isSome = true)
  simp [callFunc, hf, h1, hc]
structure Clo (w : World) (N : Nat) (h : Nat → Tr) (F : FuncId) (cap : Array Value) : Prop where
  run : Run F
  call : ∀ k, k < N → ∀ w', Ext w w' → Calls Tryz.prog F (#[.int .i64 k] ++ cap) w' (GivesT w' (h k))
theorem Clo.ext {w w' : World} {N h F cap} (k : Clo w N h F cap) (hx : Ext w w') : Clo w' N h F cap := ⟨k.run, fun i hi w2 h2 => k.call i hi w2 (hx.trans h2)⟩
set_option maxHeartbeats 1600000 in
set_option maxRecDepth 100000 in
theorem grown_calls (h : Nat → Tr) (N : Nat) (F : FuncId) (cap : Array Value) (T : Tr) : ∀ (p : Option Addr) (k : Nat) (w : World), k + T.carets < N → N < 1000000000 → Rep w T p →
    Clo w N h F cap →
    Calls Tryz.prog 62 #[.pointer p, .int .i64 k, .func (.func F) #[] cap] w (GivesT w (T.grown h k)) := by
  induction T with
  | leaf =>
    rintro v k w hk hN rfl hC
    have HC := Lib.hid hC
    clear hC
    go_enter Tryz.func62, Tryz.ntmps62
    go_wp2_with fail
    rw [HC.out.run]
    refine (HC.out.call k (by simp only [Tr.carets] at hk; omega) _ (Ext.refl _)).mono ?_
    rintro e w' ⟨v, rfl, hv, hx⟩
    have HV := Lib.hid (And.intro hv hx)
    clear hv hx
    go_wp2_with fail
    go_ret
    exact ⟨v, rfl, HV.out.1, HV.out.2⟩
  | node l r ihl ihr =>
    rintro p k w hk hN hr hC
    obtain ⟨b, pl, pr, rfl, h0, h1, hl, hr'⟩ := hr.open
    have HC := Lib.hid hC
    have e1 : 0 ≤ (l.carets : Int) ∧ (k : Int) + l.carets + 1 < 1000000000 := by simp only [Tr.carets] at hk; omega
    have W1 : Hid ((k : Int) + (l.carets + 1) = ((k + (l.carets + 1) : Nat) : Int)) := by show _ = _; omega
    have W2 : IntKind.i64.wrap ((k : Int) + (l.carets + 1)) = (k : Int) + (l.carets + 1) := wrap_ok (by omega)
    have HL := Lib.hid hl
    have HR := Lib.hid hr'
    have HK : Hid (k + l.carets < N ∧ k + (l.carets + 1) + r.carets < N ∧ l.carets < 1000000000) := by simp only [Tr.carets] at hk; exact ⟨by omega, by omega, by omega⟩
    clear hC hk hl hr hr'
    go_enter Tryz.func62, Tryz.ntmps62
    go_wp2_with fail
    go_region_held3 (fun w' => w'.cell? ⟨b, 0, none⟩ = some (.pointer pl) ∧ w'.cell? ⟨b, 1, none⟩ = some (.pointer pr) ∧ Ext w w')
      (first | exact two_cells h0 h1 (Ext.drew (Ext.refl _)) | exact two_cells h0 h1 (x3.alloc _) | exact two_cells h0 h1 x3 | exact two_cells h0 h1 x2 | exact two_cells h0 h1 x1 | fail)
      (first
      | (go_at_call_of 62 (Value.pointer pl); refine (ihl _ _ _ HK.out.1 hN (HL.out.ext (Ext.refl _).drew) (HC.out.ext (Ext.refl _).drew)).mono ?_; rintro e w1 ⟨v1, rfl, r1, hx1⟩; have x1 := (Ext.refl w).drew.trans hx1)
      | (go_at_call 83; refine (leaves_calls l _ _ HK.out.2.2 (HL.out.ext x1)).mono ?_; rintro e w2 ⟨rfl, n2, rfl⟩; have x2 := x1.drewN n2)
      | (go_at_call_of 62 (Value.pointer pr); rw [W1.out]; refine (ihr _ _ _ HK.out.2.1 hN (HR.out.ext x2) (HC.out.ext x2)).mono ?_; rintro e w3 ⟨v3, rfl, r3, hx3⟩; have x3 := x2.trans hx3)
      | fail)
    go_wp2_with fail
    go_ret
    exact ⟨_, rfl, Rep.made ((r1.ext ((Ext.refl _).drewN n2)).ext hx3) r3, x3.alloc _⟩
end Go.Proofs.YtdcipaaclpedhaaGreat.N
namespace Go.Proofs.YtdcipaaclpedhaaGreat.N
open Go.RowKit
set_option maxHeartbeats 3200000 in
set_option maxRecDepth 100000 in
theorem join_calls (A : Tr) : ∀ (B : Tr) (pa pb : Option Addr) (w : World), Rep w A pa → Rep w B pb →
    Calls Tryz.prog 61 #[.pointer pa, .pointer pb] w (GivesT w (join A B)) := by
  induction A with
  | leaf =>
    rintro B pa pb w rfl hb
    have HB := Lib.hid hb
    clear hb
    go_enter Tryz.func61, Tryz.ntmps61
    go_wp2_with fail
    go_ret
    exact ⟨pb, rfl, HB.out, Ext.refl _⟩
  | node l r ihl ihr =>
    intro B pa pb w ha hb
    cases B with
    | leaf =>
      obtain rfl := hb
      have HA := Lib.hid ha
      obtain ⟨b, pl, pr, rfl, _, _, _, _⟩ := ha.open
      clear ha
      go_enter Tryz.func61, Tryz.ntmps61
      go_wp2_with fail
      go_ret
      exact ⟨_, rfl, HA.out, Ext.refl _⟩
    | node x y =>
      obtain ⟨a, pl, pr, rfl, h0, h1, hl, hr⟩ := ha.open
      obtain ⟨b, ql, qr, rfl, g0, g1, gl, gr⟩ := hb.open
      have HL := Lib.hid (And.intro hl gl)
      have HR := Lib.hid (And.intro hr gr)
      clear ha hb hl hr gl gr
      go_enter Tryz.func61, Tryz.ntmps61
      go_wp2_with fail
      go_region_held3 (fun w' => w'.cell? ⟨a, 0, none⟩ = some (.pointer pl) ∧ w'.cell? ⟨a, 1, none⟩ = some (.pointer pr) ∧ w'.cell? ⟨b, 0, none⟩ = some (.pointer ql) ∧ w'.cell? ⟨b, 1, none⟩ = some (.pointer qr) ∧ Ext w w')
        (first | with_reducible exact four_cells h0 h1 g0 g1 (Ext.drew (Ext.refl _)) | with_reducible exact four_cells h0 h1 g0 g1 (x3.alloc _) | with_reducible exact four_cells h0 h1 g0 g1 x3 | with_reducible exact four_cells h0 h1 g0 g1 x1 | fail)
        (first
        | (go_at_call_of 61 (Value.pointer pl); refine (ihl _ _ _ _ (HL.out.1.ext (Ext.refl _).drew) (HL.out.2.ext (Ext.refl _).drew)).mono ?_; rintro e w1 ⟨v1, rfl, r1, hx1⟩; have x1 := (Ext.refl w).drew.trans hx1)
        | (go_at_call_of 61 (Value.pointer pr); refine (ihr _ _ _ _ (HR.out.1.ext x1) (HR.out.2.ext x1)).mono ?_; rintro e w3 ⟨v3, rfl, r3, hx3⟩; have x3 := x1.trans hx3)
        | fail)
      go_wp2_with fail
      go_ret
      exact ⟨_, rfl, Rep.made (r1.ext hx3) r3, x3.alloc _⟩
set_option maxHeartbeats 3200000 in
set_option maxRecDepth 100000 in
theorem addresses_calls (T : Tr) : ∀ (a : List UInt8) (s : ByteArray) (p : Option Addr) (w : World), T.carets < 10000000 → a.length + T.carets < 100000000 → s = S a → Rep w T p →
    Calls Tryz.prog 84 #[.pointer p, .string s] w (GivesS w (addrs T a)) := by
  induction T with
  | leaf =>
    intro a s p w _ _ hs hr
    obtain rfl := hr
    have OL : Hid (Own (w.alloc (.cells #[.string s] 9)) w.heap.size 9 (.slice (some ⟨w.heap.size, 0, none⟩) 1 1) (sls [a])) := by
      have := Own.lit w w.heap.size 9 #[.string s] (Nat.le_refl _) (by show 1 ≤ maxLen; decide)
      subst hs; exact this
    have XL := Lib.hid ((Ext.refl w).alloc (.cells #[.string s] 9))
    clear hs
    go_enter Tryz.func84, Tryz.ntmps84
    go_wp2_with fail
    go_ret
    exact ⟨_, rfl, OL.out, XL.out⟩
  | node l r ihl ihr =>
    intro a s p w hc hl hs hr
    have op := hr.open
    clear hr
    obtain ⟨b, pl, pr, rfl, h0, h1, hl', hr'⟩ := op
    have e0 : Hid (s ++ ⟨#[48]⟩ = S (a ++ [48])) := by subst hs; exact S_append a [48]
    have e1 : Hid (s ++ ⟨#[49]⟩ = S (a ++ [49])) := by subst hs; exact S_append a [49]
    have z : s.size ≤ 100000000 := by subst hs; rw [S_size]; omega
    have z1 : (9223372036854775807 < s.size + 1) = False := eq_false (by omega)
    have H := Lib.hid (And.intro hl' hr')
    have hcc : (Tr.node l r).carets = 1 + l.carets + r.carets := rfl
    have HC : Hid (l.carets < 10000000 ∧ (a ++ [48]).length + l.carets < 100000000 ∧ r.carets < 10000000 ∧ (a ++ [49]).length + r.carets < 100000000) := ⟨by omega, by simp; omega, by omega, by simp; omega⟩
    have L2 : Hid (((sls (addrs l (a ++ [48]))).length + (sls (addrs r (a ++ [49]))).length) * 16 ≤ 140737488355328) := by rw [sls_length, sls_length, addrs_length, addrs_length]; show _ ≤ _; omega
    clear hl' hr' hs hc hl hcc
    go_enter Tryz.func84, Tryz.ntmps84
    go_wp2_with fail
    go_region_held3 (fun w' => w'.cell? ⟨b, 0, none⟩ = some (.pointer pl) ∧ w'.cell? ⟨b, 1, none⟩ = some (.pointer pr) ∧ Ext w w')
      (first | with_reducible exact two_cells h0 h1 (Ext.drew (Ext.refl _)) | with_reducible exact two_cells h0 h1 x4 | with_reducible exact two_cells h0 h1 x3 | with_reducible exact two_cells h0 h1 x1 | fail)
      (first
        | (go_at_call_of 84 (Value.pointer pl); refine (ihl _ _ _ _ HC.out.1 HC.out.2.1 e0.out (H.out.1.ext (Ext.refl _).drew)).mono ?_; rintro e w1 ⟨v1, rfl, o1, hx1⟩; have x1 : Ext w w1 := (Ext.refl w).drew.trans hx1)
        | (go_at_call_of 84 (Value.pointer pr); refine (ihr _ _ _ _ HC.out.2.2.1 HC.out.2.2.2 e1.out (H.out.2.ext x1)).mono ?_; rintro e w3 ⟨v3, rfl, o3, hx3⟩; have x3 := x1.trans hx3)
        | (refine step_app (by rfl) (.tmp 15) (.tmp 22) 78 (by rfl) w.heap.size 9 (.string ⟨#[]⟩) 16 Tryz.underlying78 infoStr rfl (by omega) _ _ (sls (addrs l (a ++ [48]))) (sls (addrs r (a ++ [49]))) (by rfl) (by rfl) (o1.ext hx3) o3.reads (sls_one _) L2.out x3.size ?_; intro v4 w4 o4 g4 _; have x4 := x3.grown g4 (o1.ext hx3).lo) | fail)
    go_wp2_with fail
    go_ret
    refine ⟨_, rfl, ?_, x4⟩
    rw [sls_append] at o4
    exact o4
set_option maxHeartbeats 3200000 in
set_option maxRecDepth 100000 in
theorem at_calls (T V : Tr) (l : List UInt8) (hl : l.length < 1000000) (hat : atT l T = some V) (p : Option Addr) (w : World) (hr : Rep w T p) :
    Calls Tryz.prog 86 #[.pointer p, .string (S l)] w fun e w' => ∃ q, e = .returned (.tuple #[.pointer q, .bool true]) ∧ Rep w V q ∧ w = w' := by
  have A0 := Lib.hid (And.intro hat hr)
  clear hat hr
  go_enter Tryz.func86, Tryz.ntmps86
  go_wp2_with fail
  go_loop [9, 0] (fun i t => ∃ (j : Nat) (U : Tr) (q : Option Addr), j ≤ l.length ∧ i = .int .i64 j ∧ t = .pointer q ∧ Hid (Rep w U q) ∧ Hid (atT (l.drop j) U = some V)) (fun i _ => l.length - (intOf i).toNat)
  case atStart => exact ⟨0, T, p, Nat.zero_le _, rfl, rfl, A0.out.2, A0.out.1⟩
  case round =>
    obtain ⟨j, U, q, hj, rfl, rfl, HR, HA⟩ := hrel
    by_cases hlt : j < l.length
    · obtain ⟨c, hc⟩ : ∃ c, l[j]? = some c := ⟨_, List.getElem?_eq_getElem hlt⟩
      have hD : l.drop j = c :: l.drop (j + 1) := by
        obtain ⟨g1, g2⟩ := List.getElem?_eq_some_iff.1 hc
        rw [List.drop_eq_getElem_cons g1, g2]
      have h1 : (j : Int) < (S l).size := by show (j : Int) < (l.length : Nat); omega
      have h0 : (0 : Int) ≤ j := by omega
      obtain ⟨x1, x2⟩ := s_at (S l) j c (by rw [S_toList]; exact hc)
      have HA2 := HA.out
      rw [hD] at HA2
      cases U with
      | leaf => simp [atT] at HA2
      | node a b =>
        obtain ⟨bb, pl, pr, rfl, c0, c1, rl, rr⟩ := HR.out.open
        simp only [atT] at HA2
        by_cases k1 : c = 48
        · subst k1
          rw [if_pos rfl] at HA2
          have t1 : (((48 : UInt8).toNat : Int) == 48) = true := rfl
          have RL := Lib.hid rl
          have HA3 := Lib.hid HA2
          clear HA2 hc hD rl rr HR HA
          go_wp2_with fail
          exact ⟨⟨j + 1, a, pl, by omega, by go_num, rfl, RL.out, HA3.out⟩, by simp [intOf]; omega⟩
        · rw [if_neg k1] at HA2
          by_cases k2 : c = 49
          · subst k2
            rw [if_pos rfl] at HA2
            have t1 : (((49 : UInt8).toNat : Int) == 48) = false := rfl
            have t2 : (((49 : UInt8).toNat : Int) == 49) = true := rfl
            have RL := Lib.hid rr
            have HA3 := Lib.hid HA2
            clear HA2 hc hD rl rr HR HA k1
            go_wp2_with fail
            exact ⟨⟨j + 1, b, pr, by omega, by go_num, rfl, RL.out, HA3.out⟩, by simp [intOf]; omega⟩
          · rw [if_neg k2] at HA2
            cases HA2
    · have h1 : ((S l).size : Int) ≤ j := by show ((l.length : Nat) : Int) ≤ j; omega
      have HV : Hid (Rep w V q) := by
        have := HA.out
        rw [List.drop_eq_nil_of_le (by omega)] at this
        cases U with
        | leaf => cases this; exact HR.out
        | node a b => cases this; exact HR.out
      go_wp2_with fail
      go_ret2
      exact ⟨q, rfl, HV.out, rfl⟩
theorem three_cells {w w' : World} {a b c : Addr} {x y z : Value} (h0 : w.cell? a = some x) (h1 : w.cell? b = some y) (h2 : w.cell? c = some z) (h : Ext w w') : w'.cell? a = some x ∧ w'.cell? b = some y ∧ w'.cell? c = some z ∧ Ext w w' := ⟨h.cell h0, h.cell h1, h.cell h2, h⟩
set_option maxHeartbeats 3200000 in
set_option maxRecDepth 100000 in
theorem partsClo (T W0 : Tr) (hP : Part T W0) (hd : T.depth < 1000000) (pw : Option Addr) (v : Value) (b c : Nat) (w : World) (hb : w.cell? ⟨b, 0, none⟩ = some (.pointer pw)) (hc : w.cell? ⟨c, 0, none⟩ = some v) (hv : Reads w v (sls (addrs T []))) (hw : Rep w W0 pw) :
    Clo w (T.carets + 1) (fun i => (partsT T W0).getD i .leaf) 85 #[.pointer (some ⟨b, 0, none⟩), .pointer (some ⟨c, 0, none⟩)] := by
  refine ⟨run_of Tryz.func85 (by kernel_rfl) (by kernel_rfl), fun k hk w' hx => ?_⟩
  have hk1 : k < (addrs T []).length := by rw [addrs_length]; exact hk
  obtain ⟨x, hx1⟩ : ∃ x, (addrs T [])[k]? = some x := ⟨_, List.getElem?_eq_getElem hk1⟩
  have hxl : x.length < 1000000 := by have := addrs_depth T [] x (List.mem_of_getElem? hx1); simp at this; omega
  have hk2 : k < (partsT T W0).length := by rw [parts_length T W0 hP]; exact hk
  have hat : atT x W0 = some ((partsT T W0).getD k .leaf) := by
    rw [at_parts T W0 hP k x hx1, List.getD_eq_getElem?_getD, List.getElem?_eq_getElem hk2]; rfl
  obtain ⟨A, cp, rfl, _, rd⟩ := hv.ext hx
  rw [sls_length] at *
  obtain ⟨ad, rfl, ca⟩ := rd (by omega)
  have c3 := ca k (.string (S x)) (by simp only [sls, List.getElem?_map, hx1, Option.map_some])
  have hb := hx.cell hb
  have hc := hx.cell hc
  have C1 := Lib.hid (fun W (h : Ext w' W) => at_calls W0 _ x hxl hat pw W ((hw.ext hx).ext h))
  have h0 : (0 : Int) ≤ k := by omega
  have h1 : (k : Int) < (addrs T []).length := by omega
  show Calls Tryz.prog 85 #[.int .i64 k, .pointer (some ⟨b, 0, none⟩), .pointer (some ⟨c, 0, none⟩)] w' (GivesT w' ((partsT T W0).getD k .leaf))
  generalize (partsT T W0).getD k .leaf = V at *
  generalize (addrs T []).length = m at *
  clear hx rd ca hx1 hat hk1 hk2 hk hw hv
  go_enter Tryz.func85, Tryz.ntmps85
  go_wp2_with fail
  go_region_held3 (fun w2 => w2.cell? ⟨b, 0, none⟩ = some (.pointer pw) ∧ w2.cell? ⟨c, 0, none⟩ = some (.slice (some ad) m cp) ∧ w2.cell? (ad.add k) = some (.string (S x)) ∧ Ext w' w2)
    (first | with_reducible exact three_cells hb hc c3 (Ext.refl _).drew | exact three_cells hb hc c3 (Ext.refl _).drew | fail)
    (first | (go_at_call 86; refine (C1.out _ (Ext.refl _).drew).mono ?_; rintro e w3 ⟨q, rfl, rq, rfl⟩) | fail)
  go_wp2_with fail
  go_ret
  exact ⟨q, rfl, rq, (Ext.refl _).drew⟩
set_option maxHeartbeats 3200000 in
set_option maxRecDepth 100000 in
theorem parts_calls (T W0 : Tr) (hP : Part T W0) (hT : T.carets < 1000000) (pt pw : Option Addr) (w : World) (ht : Rep w T pt) (hw : Rep w W0 pw) :
    Calls Tryz.prog 63 #[.pointer pt, .pointer pw] w fun e w' => ∃ b c, e = .returned (.func (.func 85) #[] #[.pointer (some ⟨b, 0, none⟩), .pointer (some ⟨c, 0, none⟩)]) ∧ Clo w' (T.carets + 1) (fun i => (partsT T W0).getD i .leaf) 85 #[.pointer (some ⟨b, 0, none⟩), .pointer (some ⟨c, 0, none⟩)] ∧ Ext w w' := by
  have X1 := Lib.hid ((Ext.refl w).alloc (.cells #[.pointer pw] 55))
  have c0 : (w.alloc (.cells #[.pointer pw] 55)).cell? ⟨w.heap.size, 0, none⟩ = some (.pointer pw) := by go_simp
  have C1 := Lib.hid (fun W (h : Ext w W) => addresses_calls T [] ⟨#[]⟩ pt W (by omega) (by simp; omega) rfl (ht.ext h))
  have HW := Lib.hid hw
  have PC := Lib.hid (partsClo T W0 hP (by have := T.depth_le; omega) pw)
  clear hP ht hw
  go_enter Tryz.func63, Tryz.ntmps63
  go_wp2_with fail
  generalize w.alloc (.cells #[.pointer pw] 55) = W at *
  refine (C1.out _ X1.out).mono ?_
  rintro e w1 ⟨v, rfl, o1, x1⟩
  have X2 := Lib.hid ((X1.out.trans x1).alloc (.cells #[v] 78))
  have c1 : (w1.alloc (.cells #[v] 78)).cell? ⟨w1.heap.size, 0, none⟩ = some v := by go_simp
  have c0 := (x1.alloc (.cells #[v] 78)).cell c0
  have O1 := Lib.hid (o1.reads.ext ((Ext.refl w1).alloc (.cells #[v] 78)))
  obtain ⟨A, cp, rfl, _, _⟩ := o1.reads
  rw [sls_length] at *
  clear o1 x1
  go_wp2_with fail
  go_ret
  exact ⟨_, _, rfl, PC.out _ _ _ _ c0 c1 O1.out (HW.out.ext X2.out), X2.out⟩
end Go.Proofs.YtdcipaaclpedhaaGreat.N
namespace Go.Proofs.YtdcipaaclpedhaaGreat.N
open Go.RowKit
theorem boxQQ_facts (w : World) (a b c d x y : Value) (t u : TypeId) :
    Ext w (((w.alloc (.cells #[a, b] t)).alloc (.cells #[c, d] t)).alloc (.cells #[x, y] u)) ∧
    (((w.alloc (.cells #[a, b] t)).alloc (.cells #[c, d] t)).alloc (.cells #[x, y] u)).cell? ⟨w.heap.size, 0, none⟩ = some a ∧
    (((w.alloc (.cells #[a, b] t)).alloc (.cells #[c, d] t)).alloc (.cells #[x, y] u)).cell? ⟨w.heap.size, 1, none⟩ = some b ∧
    (((w.alloc (.cells #[a, b] t)).alloc (.cells #[c, d] t)).alloc (.cells #[x, y] u)).cell? ⟨w.heap.size + 1, 0, none⟩ = some c ∧
    (((w.alloc (.cells #[a, b] t)).alloc (.cells #[c, d] t)).alloc (.cells #[x, y] u)).cell? ⟨w.heap.size + 1, 1, none⟩ = some d ∧
    Two (((w.alloc (.cells #[a, b] t)).alloc (.cells #[c, d] t)).alloc (.cells #[x, y] u)) (w.heap.size + 1 + 1) u := by
  have h0 := (((Ext.refl (w.alloc (.cells #[a, b] t))).alloc (.cells #[c, d] t)).alloc (.cells #[x, y] u)).at (heap_alloc_new w (.cells #[a, b] t))
  have h1 := ((Ext.refl ((w.alloc (.cells #[a, b] t)).alloc (.cells #[c, d] t))).alloc (.cells #[x, y] u)).at (heap_alloc_new (w.alloc (.cells #[a, b] t)) (.cells #[c, d] t))
  rw [show (w.alloc (.cells #[a, b] t)).heap.size = w.heap.size + 1 by simp] at h1
  exact ⟨(((Ext.refl w).alloc _).alloc _).alloc _, (cells_of h0).1, (cells_of h0).2, (cells_of h1).1, (cells_of h1).2, Two.new _ _ _ _ (by simp)⟩
set_option maxHeartbeats 3200000 in
set_option maxRecDepth 100000 in
theorem times_calls (A B C D : Tr) (hAB : A.carets = B.carets) (hCD : C.carets = D.carets) (hB : B.carets < 100000) (hC : C.carets < 100000) (pa pb pc pd : Option Addr) (w : World) (ra : Rep w A pa) (rb : Rep w B pb) (rc : Rep w C pc) (rd : Rep w D pd) :
    Calls Tryz.prog 34 #[.agg #[.pointer pa, .pointer pb], .agg #[.pointer pc, .pointer pd]] w (GivesP w (mul (A, B) (C, D)).1 (mul (A, B) (C, D)).2) := by
  obtain ⟨X0, c0, c1, c2, c3, t0⟩ := boxQQ_facts w (.pointer pa) (.pointer pb) (.pointer pc) (.pointer pd) (.pointer none) (.pointer none) 57 57
  have C1 := Lib.hid (fun W (h : Ext w W) => join_calls B C pb pc W (rb.ext h) (rc.ext h))
  have C2 := Lib.hid (fun pw W (h : Ext w W) hw => parts_calls B (join B C) (part_join_l B C) (by omega) pb pw W (rb.ext h) hw)
  have C3 := Lib.hid (fun pw W (h : Ext w W) hw => parts_calls C (join B C) (part_join_r B C) (by omega) pc pw W (rc.ext h) hw)
  have C4 := Lib.hid (fun cap W (h : Ext w W) hk => grown_calls (fun i => (partsT B (join B C)).getD i .leaf) (B.carets + 1) 85 cap A pa 0 W (by omega) (by omega) (ra.ext h) hk)
  have C5 := Lib.hid (fun cap W (h : Ext w W) hk => grown_calls (fun i => (partsT C (join B C)).getD i .leaf) (C.carets + 1) 85 cap D pd 0 W (by omega) (by omega) (rd.ext h) hk)
  obtain ⟨mc1, mc2⟩ := mul0_carets (p := (A, B)) (q := (C, D)) hAB hCD
  have jc := join_carets B C
  have C6 := Lib.hid (fun p1 p2 W => reduced_calls (mul0 (A, B) (C, D)).1 (mul0 (A, B) (C, D)).2 (by rw [mc1]; simp only; omega) (by rw [mc2]; simp only; omega) p1 p2 W)
  have EM : Hid (GivesP w (mul (A, B) (C, D)).1 (mul (A, B) (C, D)).2 = GivesP w (red ((mul0 (A, B) (C, D)).1, (mul0 (A, B) (C, D)).2)).1 (red ((mul0 (A, B) (C, D)).1, (mul0 (A, B) (C, D)).2)).2) := rfl
  rw [EM.out]
  change Hid (∀ (cap : Array Value) (W : World), Ext w W → Clo W _ _ _ cap → Calls _ _ _ W (GivesT W (mul0 (A, B) (C, D)).1)) at C4
  change Hid (∀ (cap : Array Value) (W : World), Ext w W → Clo W _ _ _ cap → Calls _ _ _ W (GivesT W (mul0 (A, B) (C, D)).2)) at C5
  generalize (red ((mul0 (A, B) (C, D)).1, (mul0 (A, B) (C, D)).2)).1 = Z1 at *
  generalize (red ((mul0 (A, B) (C, D)).1, (mul0 (A, B) (C, D)).2)).2 = Z2 at *
  generalize (mul0 (A, B) (C, D)).1 = Y1 at *
  generalize (mul0 (A, B) (C, D)).2 = Y2 at *
  have X0 := Lib.hid X0
  clear hAB hCD hB hC ra rb rc rd mc1 mc2 jc EM
  go_enter Tryz.func34, Tryz.ntmps34
  go_wp2_with fail
  generalize ((w.alloc (.cells #[.pointer pa, .pointer pb] 57)).alloc (.cells #[.pointer pc, .pointer pd] 57)).alloc (.cells #[.pointer none, .pointer none] 57) = W at *
  refine (C1.out _ X0.out).mono ?_
  rintro e w1 ⟨pw, rfl, rw1, x1⟩
  have X1 := Lib.hid (X0.out.trans x1)
  have c0 := x1.cell c0
  have c1 := x1.cell c1
  have c2 := x1.cell c2
  have c3 := x1.cell c3
  have T1 := Lib.hid (t0.ext x1)
  have RW := Lib.hid rw1
  clear t0 x1 rw1
  go_wp2_with fail
  go_region_held3 (fun w' => w'.cell? ⟨w.heap.size, 0, none⟩ = some (.pointer pa) ∧ w'.cell? ⟨w.heap.size, 1, none⟩ = some (.pointer pb) ∧ Ext w1 w')
    (first | with_reducible exact two_cells c0 c1 (Ext.refl _).drew | with_reducible exact two_cells c0 c1 x3 | with_reducible exact two_cells c0 c1 x2 | fail)
    (first
      | (go_at_call 63; refine (C2.out pw _ (X1.out.trans (Ext.refl _).drew) (RW.out.ext (Ext.refl _).drew)).mono ?_; rintro e w2 ⟨b1, b2, rfl, cl, hx2⟩; have x2 := (Ext.refl w1).drew.trans hx2)
      | (go_at_call 62; refine (C4.out _ _ (X1.out.trans x2) cl).mono ?_; rintro e w3 ⟨y1, rfl, ry1, hx3⟩; have x3 := x2.trans hx3)
      | fail)
  have X3 := Lib.hid (X1.out.trans x3)
  have c2 := x3.cell c2
  have c3 := x3.cell c3
  have T3 := Lib.hid (T1.out.ext x3)
  have RW3 := Lib.hid (RW.out.ext x3)
  have RY1 := Lib.hid ry1
  clear x3 x2 hx2 hx3 cl ry1
  go_wp2_with fail
  go_region_held3 (fun w' => w'.cell? ⟨w.heap.size + 1, 0, none⟩ = some (.pointer pc) ∧ w'.cell? ⟨w.heap.size + 1, 1, none⟩ = some (.pointer pd) ∧ Ext w3 w')
    (first | with_reducible exact two_cells c2 c3 (Ext.refl _).drew | with_reducible exact two_cells c2 c3 x5 | with_reducible exact two_cells c2 c3 x4 | fail)
    (first
      | (go_at_call 63; refine (C3.out pw _ (X3.out.trans (Ext.refl _).drew) (RW3.out.ext (Ext.refl _).drew)).mono ?_; rintro e w4 ⟨b1, b2, rfl, cl, hx4⟩; have x4 := (Ext.refl w3).drew.trans hx4)
      | (go_at_call 62; refine (C5.out _ _ (X3.out.trans x4) cl).mono ?_; rintro e w5 ⟨y2, rfl, ry2, hx5⟩; have x5 := x4.trans hx5)
      | fail)
  have X5 := Lib.hid (X3.out.trans x5)
  have T5 := Lib.hid (T3.out.ext x5)
  have RY1 := Lib.hid (RY1.out.ext x5)
  have RY2 := Lib.hid ry2
  clear x5 x4 hx4 hx5 cl ry2
  go_wp2_with fail
  refine (C6.out y1 y2 _ RY1.out RY2.out).mono ?_
  rintro e w6 ⟨z1, z2, rfl, rz1, rz2, x6⟩
  have T6 := T5.out.ext x6
  obtain ⟨u, v, k0, k1, f0, f1⟩ := T6.facts
  have T6 := Lib.hid T6
  have X6 := Lib.hid (X5.out.trans x6)
  have R6 := Lib.hid (And.intro rz1 rz2)
  clear x6 rz1 rz2
  go_wp2_with fail
  have HH := set2_heap T6.out (.pointer z1) (.pointer z2)
  have Q1 := Rep.set2 T6.out (by decide) (.pointer z1) (.pointer z2) R6.out.1
  have Q2 := Rep.set2 T6.out (by decide) (.pointer z1) (.pointer z2) R6.out.2
  have XX := X6.out.set2 (g := w.heap.size + 1 + 1) (by omega) (.pointer z1) (.pointer z2)
  change bodyPost _ _ _ _ _ (N.set2 _ (w.heap.size + 1 + 1) (.pointer z1) (.pointer z2))
  obtain ⟨hc0, hc1⟩ := cells_of HH
  generalize N.set2 _ (w.heap.size + 1 + 1) (.pointer z1) (.pointer z2) = W3 at *
  exact bodyPost_ret (v := .agg #[.pointer z1, .pointer z2]) (by simp [results, Tryz.results34, go_sem, hc0, hc1]) rfl ⟨z1, z2, rfl, Q1, Q2, XX⟩
theorem quad_ext {w0 W W' : World} {a b : Nat} {u0 u1 v0 v1 : Value}
    (h : W.cell? ⟨a, 0, none⟩ = some u0 ∧ W.cell? ⟨a, 1, none⟩ = some u1 ∧ W.cell? ⟨b, 0, none⟩ = some v0 ∧ W.cell? ⟨b, 1, none⟩ = some v1 ∧ Ext w0 W) (hx : Ext W W') :
    W'.cell? ⟨a, 0, none⟩ = some u0 ∧ W'.cell? ⟨a, 1, none⟩ = some u1 ∧ W'.cell? ⟨b, 0, none⟩ = some v0 ∧ W'.cell? ⟨b, 1, none⟩ = some v1 ∧ Ext w0 W' :=
  ⟨hx.cell h.1, hx.cell h.2.1, hx.cell h.2.2.1, hx.cell h.2.2.2.1, h.2.2.2.2.trans hx⟩
theorem quad_far {w0 W : World} {a b g : Nat} {u0 u1 v0 v1 : Value} (x y : Value)
    (h : W.cell? ⟨a, 0, none⟩ = some u0 ∧ W.cell? ⟨a, 1, none⟩ = some u1 ∧ W.cell? ⟨b, 0, none⟩ = some v0 ∧ W.cell? ⟨b, 1, none⟩ = some v1 ∧ Ext w0 W) (ha : a ≠ g) (hb : b ≠ g) (hg : w0.heap.size ≤ g) :
    ((W.setCell ⟨g, 0, none⟩ x).setCell ⟨g, 1, none⟩ y).cell? ⟨a, 0, none⟩ = some u0 ∧ ((W.setCell ⟨g, 0, none⟩ x).setCell ⟨g, 1, none⟩ y).cell? ⟨a, 1, none⟩ = some u1 ∧ ((W.setCell ⟨g, 0, none⟩ x).setCell ⟨g, 1, none⟩ y).cell? ⟨b, 0, none⟩ = some v0 ∧ ((W.setCell ⟨g, 0, none⟩ x).setCell ⟨g, 1, none⟩ y).cell? ⟨b, 1, none⟩ = some v1 ∧ Ext w0 ((W.setCell ⟨g, 0, none⟩ x).setCell ⟨g, 1, none⟩ y) :=
  ⟨set2_far ha x y h.1, set2_far ha x y h.2.1, set2_far hb x y h.2.2.1, set2_far hb x y h.2.2.2.1, h.2.2.2.2.set2 hg x y⟩
end Go.Proofs.YtdcipaaclpedhaaGreat.N
namespace Go.Proofs.YtdcipaaclpedhaaGreat.N
open Go.RowKit
abbrev shy (o : Op) : Op := o
set_option maxHeartbeats 3200000 in
set_option maxRecDepth 100000 in
theorem prReduce_any (A B : Tr) (hA : A.carets < 1000) (hB : B.carets < 1000) (w : World) {A1 : Option Addr} {c1 : Nat} :
    Calls Tryz.prog 37 #[.agg #[.string (tx A), .string (tx B)], .slice A1 0 c1] w fun e w' => e = .returned (.agg #[.string (tx (red (A, B)).1), .string (tx (red (A, B)).2)]) ∧ Ext w w' := by
  obtain ⟨X2, t0⟩ := boxS_facts w (tx A) (tx B) (.string ⟨#[]⟩) (.string ⟨#[]⟩) 25
  have X2 := Lib.hid X2
  have B0 : Hid (((w.alloc (.cells #[.string (tx A), .string (tx B)] 25)).alloc (.cells #[.string ⟨#[]⟩, .string ⟨#[]⟩] 25)).heap[w.heap.size]? = some (.cells #[.string (tx A), .string (tx B)] 25)) := ((Ext.refl _).alloc _).at (heap_alloc_new w _)
  have T0 := Lib.hid t0
  have LE := Lib.hid (And.intro hA hB)
  have C0 := Lib.hid (fun W => prBoth_calls A B hA hB W)
  clear hA hB t0
  go_enter Tryz.func37, Tryz.ntmps37
  go_wp2_with fail
  have SW : Hid (w.heap.size + 1 + 1 ≤ ((w.alloc (.cells #[.string (tx A), .string (tx B)] 25)).alloc (.cells #[.string ⟨#[]⟩, .string ⟨#[]⟩] 25)).heap.size) := by simp [Hid]
  generalize (w.alloc (.cells #[.string (tx A), .string (tx B)] 25)).alloc (.cells #[.string ⟨#[]⟩, .string ⟨#[]⟩] 25) = W at *
  refine (C0.out _).mono ?_
  rintro e w1 ⟨v1, rfl, o1, x1⟩
  have R1 := Lib.hid (o1.mono (Nat.le_trans (by simp : w.heap.size + 2 ≤ w.heap.size + 1 + 1) SW.out))
  have X1 := Lib.hid (X2.out.trans x1)
  have B1 := Lib.hid (x1.at B0.out)
  have T1 := Lib.hid (T0.out.ext x1)
  clear o1 x1 C0 B0 T0
  go_wp2_with fail
  go_loopg [5, 6] A.carets (fun f s o wr => ∃ (C D : Tr) (n : Nat), s = .int .i64 n ∧ n + C.carets < 1000000 ∧ Hid (C.carets = f) ∧ Hid (C.carets < 1000 ∧ D.carets < 1000) ∧ Hid (red (C, D) = red (A, B)) ∧ Hid (wr.heap[w.heap.size]? = some (.cells #[.string (tx C), .string (tx D)] 25)) ∧ Hid (Two wr (w.heap.size + 1) 25) ∧ Hid (Own wr (w.heap.size + 2) 3 o (nats (bothT C D))) ∧ Hid (Ext w wr))
  case atStart => exact ⟨A, B, 0, rfl, by have := LE.out; omega, rfl, LE.out, rfl, B1.out, T1.out, R1.out, X1.out⟩
  case round =>
    obtain ⟨C, D, n, rfl, hn, HF, HL, HR, HB, HT, HD, HX⟩ := hrel
    obtain ⟨c0, c1⟩ := cells_of HB.out
    have BL := HD.out.block
    obtain ⟨AA, cc, rfl, _, rd⟩ := HD.out.reads
    rw [nats_length] at *
    have HD := HD
    cases hb : bothT C D with
    | nil =>
      have RN : Hid (red (A, B) = (C, D)) := by show _ = _; rw [← HR.out, red_nil hb]
      obtain ⟨u, v, k0, k1, f0, f1⟩ := HT.out.facts
      clear hb rd HD BL
      rw [List.length_nil] at *
      go_wp2_with fail
      have HH := set2_heap HT.out (.string (tx C)) (.string (tx D))
      have XX := HX.out.set2 (g := w.heap.size + 1) (by omega) (.string (tx C)) (.string (tx D))
      change bodyPost _ _ _ _ _ (N.set2 wr (w.heap.size + 1) (.string (tx C)) (.string (tx D)))
      obtain ⟨hc0, hc1⟩ := cells_of HH
      generalize N.set2 wr (w.heap.size + 1) (.string (tx C)) (.string (tx D)) = W3 at *
      refine bodyPost_ret (v := .agg #[.string (tx C), .string (tx D)]) (by simp [results, Tryz.results37, go_sem, hc0, hc1]) rfl ?_
      rw [RN.out]
      exact ⟨rfl, XX⟩
    | cons k l =>
      have MB := Lib.hid (mem_both (A := C) (B := D) (k := k) (by rw [hb]; exact List.mem_cons_self))
      have RN : Hid (red (without C k, without D k) = red (A, B)) := by show _ = _; rw [← HR.out]; exact (red_cons (p := (C, D)) hb).symm
      have LC := Lib.hid (And.intro (without_carets C k MB.out.1) (without_carets D k MB.out.2))
      rw [hb] at rd
      obtain ⟨ad, hA1, ca⟩ := rd (by simp)
      subst hA1
      have hne : w.heap.size + 2 ≤ ad.block := (BL ad.block rfl).1
      have hne : ad.block ≠ w.heap.size := by omega
      have c2 : wr.cell? ad = some (.int .i64 k) := ca 0 _ (nats_get (k :: l) 0 (by simp))
      have D1 := Lib.hid (fun W => trDrop_tree C k MB.out.1 HL.out.1 W)
      have D2 := Lib.hid (fun W => trDrop_tree D k MB.out.2 HL.out.2 W)
      have D3 := Lib.hid (fun W => prBoth_calls (without C k) (without D k) (by have := LC.out; have := HL.out; omega) (by have := LC.out; have := HL.out; omega) W)
      have hlen : 0 < (k :: l).length := by simp
      clear hb rd HD ca BL
      generalize (k :: l).length = m at *
      have t1 : ((m : Int) == 0) = false := by rw [beq_eq_false_iff_ne]; omega
      have t2 : (0 : Int) < m := by omega
      have TB : Hid (Two wr w.heap.size 25) := ⟨_, _, HB.out⟩
      obtain ⟨u, v, k0, k1, f0, f1⟩ := TB.out.facts
      go_wp2_with fail
      rw [show Op.load 9 (Operand.tmp 26) = shy (Op.load 9 (Operand.tmp 26)) from rfl, show Op.load 9 (Operand.tmp 33) = shy (Op.load 9 (Operand.tmp 33)) from rfl]
      go_region_held3 (fun w' => w'.cell? ad = some (.int .i64 k) ∧ Ext w w')
        (first | exact ⟨c2, HX.out.drew⟩ | exact ⟨c2, HX.out.drewN _⟩ | exact ⟨set2_far hne _ _ (w := wr.drewN _) c2, (HX.out.drewN _).set2 (g := w.heap.size) (Nat.le_refl _) _ _⟩ | fail)
        (first
          | (go_at_call_of 65 (Value.string (tx C)); refine (D1.out _).mono ?_; rintro e w1 ⟨rfl, n1, rfl⟩)
          | (go_at_call_of 65 (Value.string (tx D)); refine (D2.out _).mono ?_; rintro e w3 ⟨rfl, n3, rfl⟩)
          | fail)
      all_goals
        have x3 := (Ext.refl wr).drewN (1 + n1 + n3)
        have TX := TB.out.ext x3
        have XX := Lib.hid ((HX.out.trans x3).set2 (g := w.heap.size) (Nat.le_refl _) (.string (tx (without C k))) (.string (tx (without D k))))
        have HH := Lib.hid (set2_heap TX (.string (tx (without C k))) (.string (tx (without D k))))
        have T3 : Hid (Two (N.set2 (wr.drewN (1 + n1 + n3)) w.heap.size (.string (tx (without C k))) (.string (tx (without D k)))) (w.heap.size + 1) 25) := by
          obtain ⟨u, v, e⟩ := HT.out.ext x3
          exact ⟨u, v, by rw [set2_other (by omega)]; exact e⟩
        have WZ : Hid (w.heap.size + 2 ≤ (N.set2 (wr.drewN (1 + n1 + n3)) w.heap.size (.string (tx (without C k))) (.string (tx (without D k)))).heap.size) := by
          obtain ⟨u, v, e⟩ := T3.out
          have := (Array.getElem?_eq_some_iff.1 e).1
          show _ ≤ _
          omega
        change Exit.then _ _ _ _ (N.set2 (wr.drewN (1 + n1 + n3)) w.heap.size (.string (tx (without C k))) (.string (tx (without D k))))
        obtain ⟨hc0, hc1⟩ := cells_of HH.out
        clear k0 k1 f0 f1 c0 c1 c2 TX x3
        generalize N.set2 (wr.drewN (1 + n1 + n3)) w.heap.size (.string (tx (without C k))) (.string (tx (without D k))) = W3 at *
        go_wp2_with fail
        refine (D3.out _).mono ?_
        rintro e w4 ⟨v4, rfl, o4, x4⟩
        have O4 := Lib.hid (o4.mono WZ.out)
        have X4 := Lib.hid x4
        have MS := Lib.hid (And.intro LC.out (And.intro HF.out hn))
        clear o4 x4 hc0 hc1
        go_wp2_with fail
        go_roundg (without C k).carets
        · exact ⟨without C k, without D k, n + 1, by go_num, by have := LC.out; omega, rfl, ⟨by have := LC.out; have := HL.out; omega, by have := LC.out; have := HL.out; omega⟩, RN.out, X4.out.at HH.out, T3.out.ext X4.out, O4.out, XX.out.trans X4.out⟩
        · have := LC.out
          have := HF.out
          omega
theorem prReduce_calls (A B : Tr) (hA : A.carets < 1000) (hB : B.carets < 1000) (w : World) :
    Calls Tryz.prog 37 #[.agg #[.string (tx A), .string (tx B)], .slice none 0 0] w fun e w' => e = .returned (.agg #[.string (tx (red (A, B)).1), .string (tx (red (A, B)).2)]) ∧ Ext w w' := prReduce_any A B hA hB w
theorem same {P : Program} {f : Nat} {args : Array Value} {w : World} {v : Value} (h : Calls P f args w fun e w' => e = .returned v ∧ w = w') : Calls P f args w fun e w' => e = .returned v ∧ w' = w := h.mono fun _ _ h => ⟨h.1, h.2.symm⟩
theorem trCarets_tree (A : Tr) (hA : A.carets ≤ 1000) (w : World) : Calls Tryz.prog 54 #[.string (tx A)] w fun e w' => e = .returned (.int .i64 A.carets) ∧ w = w' := by
  have := trCarets_calls (tx A) (by have := A.txt_length; show A.txt.length < _; omega) w
  rw [show (tx A).toList = A.txt from S_toList _, cnt_txt] at this
  exact this
theorem boxS1_facts (w : World) (s t : ByteArray) :
    Ext w (w.alloc (.cells #[.string s, .string t] 25)) ∧ (w.alloc (.cells #[.string s, .string t] 25)).cell? ⟨w.heap.size, 0, none⟩ = some (.string s) ∧ (w.alloc (.cells #[.string s, .string t] 25)).cell? ⟨w.heap.size, 1, none⟩ = some (.string t) :=
  ⟨(Ext.refl w).alloc _, by go_simp, by go_simp⟩
set_option maxHeartbeats 3200000 in
set_option maxRecDepth 100000 in
theorem prGood_no (s t : ByteArray) (h : ¬ Good s t) (w : World) :
    Calls Tryz.prog 27 #[.agg #[.string s, .string t]] w fun e w' => e = .returned (.bool false) ∧ Ext w w' := by
  obtain ⟨X1, c0, c1⟩ := boxS1_facts w s t
  have X1 := Lib.hid X1
  by_cases h1 : ∃ T, s = tx T ∧ T.carets ≤ 8
  · obtain ⟨A, rfl, hA⟩ := h1
    have C1 := fun W => trIs_yes A hA W
    by_cases h2 : ∃ T, t = tx T ∧ T.carets ≤ 8
    · obtain ⟨B, rfl, hB⟩ := h2
      have C2 := fun W => trIs_yes B hB W
      have hne : A.carets ≠ B.carets := fun e => h ⟨A, B, rfl, rfl, e, hB⟩
      have C3 := fun W => trCarets_tree A (by omega) W
      have C4 := fun W => trCarets_tree B (by omega) W
      have q : ((A.carets : Int) == (B.carets : Int)) = false := by rw [beq_eq_false_iff_ne]; omega
      clear h hne
      go_enter Tryz.func27, Tryz.ntmps27
      go_wp2_with fail
      go_quiet (first
        | (go_at_call_of 53 (Value.string (tx A)); exact Calls.quiet_of_same (same (C1 _)))
        | (go_at_call_of 53 (Value.string (tx B)); exact Calls.quiet_of_same (same (C2 _)))
        | (go_at_call_of 54 (Value.string (tx A)); exact Calls.quiet_of_same (same (C3 _)))
        | (go_at_call_of 54 (Value.string (tx B)); exact Calls.quiet_of_same (same (C4 _)))
        | fail)
      go_wp2_with fail
      go_ret
      exact ⟨rfl, X1.out.drewN _⟩
    · have C2 := fun W => trIs_no t h2 W
      clear h h2
      go_enter Tryz.func27, Tryz.ntmps27
      go_wp2_with fail
      go_quiet (first
        | (go_at_call_of 53 (Value.string (tx A)); exact Calls.quiet_of_same (same (C1 _)))
        | (go_at_call_of 53 (Value.string t); exact Calls.quiet_of_same (same (C2 _)))
        | fail)
      go_wp2_with fail
      go_ret
      exact ⟨rfl, X1.out.drewN _⟩
  · have C1 := fun W => trIs_no s h1 W
    clear h h1
    go_enter Tryz.func27, Tryz.ntmps27
    go_wp2_with fail
    go_quiet (first
      | (go_at_call_of 53 (Value.string s); exact Calls.quiet_of_same (same (C1 _)))
      | fail)
    go_wp2_with fail
    go_ret
    exact ⟨rfl, X1.out.drewN _⟩
set_option maxHeartbeats 3200000 in
set_option maxRecDepth 100000 in
theorem prGood_yes (A B : Tr) (hc : A.carets = B.carets) (hB : B.carets ≤ 8) (w : World) :
    Calls Tryz.prog 27 #[.agg #[.string (tx A), .string (tx B)]] w fun e w' => e = .returned (.bool true) ∧ Ext w w' := by
  obtain ⟨X1, c0, c1⟩ := boxS1_facts w (tx A) (tx B)
  have X1 := Lib.hid X1
  have C1 := fun W => trIs_yes A (by omega) W
  have C2 := fun W => trIs_yes B hB W
  have C3 := fun W => trCarets_tree A (by omega) W
  have C4 := fun W => trCarets_tree B (by omega) W
  rw [hc] at C3
  clear hc hB
  go_enter Tryz.func27, Tryz.ntmps27
  go_wp2_with fail
  go_quiet (first
    | (go_at_call_of 53 (Value.string (tx A)); exact Calls.quiet_of_same (same (C1 _)))
    | (go_at_call_of 53 (Value.string (tx B)); exact Calls.quiet_of_same (same (C2 _)))
    | (go_at_call_of 54 (Value.string (tx A)); exact Calls.quiet_of_same (same (C3 _)))
    | (go_at_call_of 54 (Value.string (tx B)); exact Calls.quiet_of_same (same (C4 _)))
    | fail)
  go_wp2_with fail
  go_ret
  exact ⟨rfl, X1.out.drewN _⟩
end Go.Proofs.YtdcipaaclpedhaaGreat.N
namespace Go.Proofs.YtdcipaaclpedhaaGreat.N
def NZ (ws : List Int) : Prop := ∀ x ∈ ws, x ≠ 0
theorem NZ.of {a b : List Int} (h : NZ a) (k : NZ b) : NZ (a ++ b) := fun x hx => (List.mem_append.1 hx).elim (h x) (k x)
section
variable {α : Type} (less : α → α → Bool)
end
end Go.Proofs.YtdcipaaclpedhaaGreat.N
namespace Go.Proofs.YtdcipaaclpedhaaGreat.N
def parseT (s : ByteArray) : Option Tr := match rd (s.size + 1) s.toList with
  | some (T, []) => some T
  | _ => none
theorem parseT_tx (T : Tr) : parseT (tx T) = some T := by
  have hd := T.depth_le
  have hl := T.txt_length
  unfold parseT
  rw [show (tx T).toList = T.txt from S_toList _, rd_txt' T _ (by show T.depth < T.txt.length + 1; omega)]
theorem parseT_some {s : ByteArray} {T : Tr} (h : parseT s = some T) : s = tx T := by
  unfold parseT at h
  split at h
  · rename_i T' e
    injection h with h
    subst h
    have := (rd_some e).1
    rw [List.append_nil] at this
    rw [S_of s, this]; rfl
  · cases h
def pairT (s t : ByteArray) : Option (Tr × Tr) := match parseT s, parseT t with
  | some A, some B => if A.carets = B.carets ∧ B.carets ≤ 8 then some (A, B) else none
  | _, _ => none
theorem pairT_yes {A B : Tr} (h1 : A.carets = B.carets) (h2 : B.carets ≤ 8) : pairT (tx A) (tx B) = some (A, B) := by
  unfold pairT; rw [parseT_tx, parseT_tx]; exact if_pos ⟨h1, h2⟩
theorem pairT_some {s t : ByteArray} {p : Tr × Tr} (h : pairT s t = some p) : s = tx p.1 ∧ t = tx p.2 ∧ p.1.carets = p.2.carets ∧ p.2.carets ≤ 8 := by
  unfold pairT at h
  split at h
  · rename_i A B e1 e2
    split at h
    · rename_i hc
      injection h with h
      subst h
      exact ⟨parseT_some e1, parseT_some e2, hc.1, hc.2⟩
    · cases h
  · cases h
theorem pairT_cases (s t : ByteArray) : (∃ A B, s = tx A ∧ t = tx B ∧ A.carets = B.carets ∧ B.carets ≤ 8 ∧ pairT s t = some (A, B)) ∨ (¬ Good s t ∧ pairT s t = none) := by
  cases h : pairT s t with
  | some p => obtain ⟨a, b, c, d⟩ := pairT_some h; exact .inl ⟨p.1, p.2, a, b, c, d, rfl⟩
  | none =>
    refine .inr ⟨fun ⟨A, B, h1, h2, h3, h4⟩ => ?_, rfl⟩
    rw [h1, h2, pairT_yes h3 h4] at h
    cases h
def okP (p : Tr × Tr) : ByteArray × ByteArray × Bool := (tx p.1, tx p.2, true)
def noP : ByteArray × ByteArray × Bool := (⟨#[]⟩, ⟨#[]⟩, false)
def ifF (p : Tr × Tr) : ByteArray × ByteArray × Bool := if p.1.carets ≤ 8 then okP p else noP
def vP (r : ByteArray × ByteArray × Bool) : Value := .tuple #[.agg #[.string r.1, .string r.2.1], .bool r.2.2]
theorem ifP_vP (p : Tr × Tr) : ifP p = vP (ifF p) := by unfold ifP ifF; split <;> rfl
def anyT (m : Nat) (s t : ByteArray) : Option (Tr × Tr) := match parseT s, parseT t with
  | some A, some B => if A.carets = B.carets ∧ B.carets ≤ m then some (A, B) else none
  | _, _ => none
theorem anyT_yes {m : Nat} {A B : Tr} (h1 : A.carets = B.carets) (h2 : B.carets ≤ m) : anyT m (tx A) (tx B) = some (A, B) := by
  unfold anyT; rw [parseT_tx, parseT_tx]; exact if_pos ⟨h1, h2⟩
theorem anyT_some {m : Nat} {s t : ByteArray} {p : Tr × Tr} (h : anyT m s t = some p) : s = tx p.1 ∧ t = tx p.2 ∧ p.1.carets = p.2.carets ∧ p.2.carets ≤ m := by
  unfold anyT at h
  split at h
  · rename_i A B e1 e2
    split at h
    · rename_i hc
      injection h with h
      subst h
      exact ⟨parseT_some e1, parseT_some e2, hc.1, hc.2⟩
    · cases h
  · cases h
end Go.Proofs.YtdcipaaclpedhaaGreat.N
namespace Go.Proofs.YtdcipaaclpedhaaGreat.N
open Go.RowKit
set_option maxHeartbeats 3200000 in
set_option maxRecDepth 100000 in
theorem prIf_calls (A B : Tr) (hc : A.carets = B.carets) (w : World) :
    Calls Tryz.prog 90 #[.agg #[.string (tx A), .string (tx B)]] w fun e w' => e = .returned (ifP (A, B)) ∧ Ext w w' := by
  obtain ⟨X2, t0⟩ := boxS_facts w (tx A) (tx B) (.string ⟨#[]⟩) (.string ⟨#[]⟩) 25
  have X2 := Lib.hid X2
  have B0 : Hid (((w.alloc (.cells #[.string (tx A), .string (tx B)] 25)).alloc (.cells #[.string ⟨#[]⟩, .string ⟨#[]⟩] 25)).heap[w.heap.size]? = some (.cells #[.string (tx A), .string (tx B)] 25)) := ((Ext.refl _).alloc _).at (heap_alloc_new w _)
  by_cases hB : B.carets ≤ 8
  · have E : ifP (A, B) = .tuple #[.agg #[.string (tx A), .string (tx B)], .bool true] := if_pos (show A.carets ≤ 8 by omega)
    have C1 := Lib.hid (fun W => prGood_yes A B hc hB W)
    rw [E]
    clear hc hB E
    go_enter Tryz.func90, Tryz.ntmps90
    go_wp2_with fail
    generalize (w.alloc (.cells #[.string (tx A), .string (tx B)] 25)).alloc (.cells #[.string ⟨#[]⟩, .string ⟨#[]⟩] 25) = W at *
    refine (C1.out _).mono ?_
    rintro e w1 ⟨rfl, x1⟩
    have T1 := t0.ext x1
    obtain ⟨u, v, k0, k1, f0, f1⟩ := T1.facts
    obtain ⟨c0, c1⟩ := cells_of (x1.at B0.out)
    have T1 := Lib.hid T1
    have X1 := Lib.hid (X2.out.trans x1)
    clear t0 x1
    go_wp2_with fail
    have HH := set2_heap T1.out (.string (tx A)) (.string (tx B))
    have XX := X1.out.set2 (g := w.heap.size + 1) (by omega) (.string (tx A)) (.string (tx B))
    change bodyPost _ _ _ _ _ (N.set2 _ (w.heap.size + 1) (.string (tx A)) (.string (tx B)))
    obtain ⟨hc0, hc1⟩ := cells_of HH
    generalize N.set2 _ (w.heap.size + 1) (.string (tx A)) (.string (tx B)) = W3 at *
    exact bodyPost_ret (v := .tuple #[.agg #[.string (tx A), .string (tx B)], .bool true]) (by simp [results, Tryz.results90, go_sem, hc0, hc1]) rfl ⟨rfl, XX⟩
  · have E : ifP (A, B) = .tuple #[emptyP, .bool false] := if_neg (show ¬ A.carets ≤ 8 by omega)
    have NG : ¬ Good (tx A) (tx B) := by
      rintro ⟨A', B', h1, h2, _, h4⟩
      obtain rfl := tx_inj h2
      exact hB h4
    have C1 := Lib.hid (fun W => prGood_no _ _ NG W)
    rw [E]
    clear hc hB E NG
    go_enter Tryz.func90, Tryz.ntmps90
    go_wp2_with fail
    generalize (w.alloc (.cells #[.string (tx A), .string (tx B)] 25)).alloc (.cells #[.string ⟨#[]⟩, .string ⟨#[]⟩] 25) = W at *
    refine (C1.out _).mono ?_
    rintro e w1 ⟨rfl, x1⟩
    have T1 := t0.ext x1
    obtain ⟨u, v, k0, k1, f0, f1⟩ := T1.facts
    have T1 := Lib.hid T1
    have X1 := Lib.hid (X2.out.trans x1)
    clear t0 x1
    go_wp2_with fail
    have HH := set2_heap T1.out (.string ⟨#[]⟩) (.string ⟨#[]⟩)
    have XX := X1.out.set2 (g := w.heap.size + 1) (by omega) (.string ⟨#[]⟩) (.string ⟨#[]⟩)
    change bodyPost _ _ _ _ _ (N.set2 _ (w.heap.size + 1) (.string ⟨#[]⟩) (.string ⟨#[]⟩))
    obtain ⟨hc0, hc1⟩ := cells_of HH
    generalize N.set2 _ (w.heap.size + 1) (.string ⟨#[]⟩) (.string ⟨#[]⟩) = W3 at *
    exact bodyPost_ret (v := .tuple #[emptyP, .bool false]) (by simp [results, Tryz.results90, go_sem, hc0, hc1, emptyP]) rfl ⟨rfl, XX⟩
theorem trOf_tree (l r : Tr) (hl : l.carets < 1000000) (hr : r.carets < 1000000) (w : World) :
    Calls Tryz.prog 77 #[.string (tx l), .string (tx r)] w fun e w' => e = .returned (.string (tx (.node l r))) ∧ w = w' := by
  rw [tx_node]
  exact trOf_calls (tx l) (tx r) (by have := l.txt_length; show l.txt.length ≤ _; omega) (by have := r.txt_length; show r.txt.length ≤ _; omega) w
end Go.Proofs.YtdcipaaclpedhaaGreat.N
namespace Go.Proofs.YtdcipaaclpedhaaGreat.N
open Go.RowKit
theorem join_depth : ∀ a b : Tr, (join a b).depth ≤ max a.depth b.depth
  | .leaf, b => by simp only [join]; omega
  | .node l r, .leaf => by simp only [join]; omega
  | .node l r, .node a b => by have := join_depth l a; have := join_depth r b; simp only [join, Tr.depth]; omega
set_option maxHeartbeats 3200000 in
set_option maxRecDepth 100000 in
theorem trJoin_calls (A : Tr) : ∀ (B : Tr) (w : World), A.depth ≤ 60 → A.carets ≤ 1000 → B.depth ≤ 60 → B.carets ≤ 1000 →
    Calls Tryz.prog 50 #[.string (tx A), .string (tx B)] w fun e w' => e = .returned (.string (tx (join A B))) ∧ ∃ n, w' = w.drewN n := by
  induction A with
  | leaf =>
    intro B w _ _ _ _
    have C1 := Lib.hid (fun W => trLeaf_leaf W)
    rw [show join .leaf B = B from rfl]
    generalize tx .leaf = z at *
    generalize tx B = b at *
    go_enter Tryz.func50, Tryz.ntmps50
    go_wp2_with fail
    refine (C1.out _).mono ?_
    rintro e w1 ⟨rfl, rfl⟩
    go_wp2_with fail
    go_ret
    exact ⟨rfl, 0, rfl⟩
  | node l r ihl ihr =>
    intro B w hd hc hd2 hc2
    have C1 := Lib.hid (fun W => trLeaf_node l r W)
    cases B with
    | leaf =>
      have C2 := Lib.hid (fun W => trLeaf_leaf W)
      rw [show join (.node l r) .leaf = .node l r from rfl]
      generalize tx .leaf = z at *
      generalize tx (.node l r) = a at *
      clear ihl ihr hd hc hd2 hc2
      go_enter Tryz.func50, Tryz.ntmps50
      go_wp2_with fail
      refine (C1.out _).mono ?_
      rintro e w1 ⟨rfl, rfl⟩
      go_wp2_with fail
      refine (C2.out _).mono ?_
      rintro e w1 ⟨rfl, rfl⟩
      go_wp2_with fail
      go_ret
      exact ⟨rfl, 0, rfl⟩
    | node x y =>
      have C2 := Lib.hid (fun W => trLeaf_node x y W)
      have C3 := Lib.hid (fun W => trSides_calls l r hd (by omega) W)
      have C4 := Lib.hid (fun W => trSides_calls x y hd2 (by omega) W)
      simp only [Tr.depth, Tr.carets] at hd hc hd2 hc2
      have C5 := Lib.hid (fun W => ihl x W (by omega) (by omega) (by omega) (by omega))
      have C6 := Lib.hid (fun W => ihr y W (by omega) (by omega) (by omega) (by omega))
      have j1 := join_carets l x
      have j2 := join_carets r y
      have C7 := Lib.hid (fun W => trOf_tree (join l x) (join r y) (by omega) (by omega) W)
      rw [show join (.node l r) (.node x y) = .node (join l x) (join r y) from rfl]
      generalize tx (.node (join l x) (join r y)) = q at *
      generalize tx (join l x) = jl at *
      generalize tx (join r y) = jr at *
      generalize tx (.node l r) = a at *
      generalize tx (.node x y) = b at *
      generalize tx l = sl at *
      generalize tx r = sr at *
      generalize tx x = sx at *
      generalize tx y = sy at *
      clear ihl ihr hd hc hd2 hc2 j1 j2
      go_enter Tryz.func50, Tryz.ntmps50
      go_wp2_with fail
      refine (C1.out _).mono ?_
      rintro e w1 ⟨rfl, rfl⟩
      go_wp2_with fail
      refine (C2.out _).mono ?_
      rintro e w1 ⟨rfl, rfl⟩
      go_wp2_with fail
      refine (C3.out _).mono ?_
      rintro e w1 ⟨rfl, n1, rfl⟩
      go_wp2_with fail
      refine (C4.out _).mono ?_
      rintro e w1 ⟨rfl, n2, rfl⟩
      go_wp2_with fail
      refine (C5.out _).mono ?_
      rintro e w1 ⟨rfl, n3, rfl⟩
      go_wp2_with fail
      refine (C6.out _).mono ?_
      rintro e w1 ⟨rfl, n4, rfl⟩
      go_wp2_with fail
      refine (C7.out _).mono ?_
      rintro e w1 ⟨rfl, rfl⟩
      go_wp2_with fail
      go_ret
      exact ⟨rfl, _, rfl⟩
set_option maxHeartbeats 3200000 in
set_option maxRecDepth 100000 in
theorem prParts_calls (T : Tr) : ∀ (W0 : Tr) (w : World), Part T W0 → T.depth ≤ 60 → T.carets ≤ 1000 → W0.depth ≤ 60 → W0.carets ≤ 2000 →
    Calls Tryz.prog 52 #[.string (tx T), .string (tx W0)] w fun e w' => ∃ v, e = .returned v ∧ Own w' w.heap.size 9 v (strs ((partsT T W0).map tx)) ∧ Ext w w' := by
  induction T with
  | leaf =>
    intro W0 w _ _ _ _ _
    have C1 := Lib.hid (fun W => trLeaf_leaf W)
    rw [show (partsT .leaf W0).map tx = [tx W0] from rfl]
    generalize tx .leaf = z at *
    generalize tx W0 = b at *
    have OL : Hid (Own (w.alloc (.cells #[.string b] 9)) w.heap.size 9 (.slice (some ⟨w.heap.size, 0, none⟩) 1 1) (strs [b])) := Own.lit w w.heap.size 9 #[.string b] (Nat.le_refl _) (by show 1 ≤ maxLen; decide)
    have XL := Lib.hid ((Ext.refl w).alloc (.cells #[.string b] 9))
    go_enter Tryz.func52, Tryz.ntmps52
    go_wp2_with fail
    refine (C1.out _).mono ?_
    rintro e w1 ⟨rfl, rfl⟩
    go_wp2_with fail
    go_ret
    exact ⟨_, rfl, OL.out, XL.out⟩
  | node l r ihl ihr =>
    intro W0 w hP hd hc hd2 hc2
    cases W0 with
    | leaf => exact hP.elim
    | node x y =>
      have C1 := Lib.hid (fun W => trLeaf_node l r W)
      have C3 := Lib.hid (fun W => trSides_calls l r hd (by omega) W)
      have C4 := Lib.hid (fun W => trSides_calls x y hd2 (by omega) W)
      simp only [Tr.depth, Tr.carets] at hd hc hd2 hc2
      have C5 := Lib.hid (fun W => ihl x W hP.1 (by omega) (by omega) (by omega) (by omega))
      have C6 := Lib.hid (fun W => ihr y W hP.2 (by omega) (by omega) (by omega) (by omega))
      have l1 := parts_length l x hP.1
      have l2 := parts_length r y hP.2
      rw [show (partsT (.node l r) (.node x y)).map tx = (partsT l x).map tx ++ (partsT r y).map tx from List.map_append, ← strs_append]
      have LL : Hid (((strs ((partsT l x).map tx)).length + (strs ((partsT r y).map tx)).length) * 16 ≤ 140737488355328) := by show _ ≤ _; rw [strs_length, strs_length, List.length_map, List.length_map]; omega
      generalize (partsT l x).map tx = L1 at *
      generalize (partsT r y).map tx = L2 at *
      generalize tx (.node l r) = a at *
      generalize tx (.node x y) = b at *
      generalize tx l = sl at *
      generalize tx r = sr at *
      generalize tx x = sx at *
      generalize tx y = sy at *
      clear ihl ihr hd hc hd2 hc2 l1 l2 hP
      go_enter Tryz.func52, Tryz.ntmps52
      go_wp2_with fail
      refine (C1.out _).mono ?_
      rintro e w1 ⟨rfl, rfl⟩
      go_wp2_with fail
      refine (C3.out _).mono ?_
      rintro e w1 ⟨rfl, n1, rfl⟩
      go_wp2_with fail
      refine (C4.out _).mono ?_
      rintro e w1 ⟨rfl, n2, rfl⟩
      have X2 := Lib.hid (((Ext.refl w).drewN n1).drewN n2)
      generalize (w.drewN n1).drewN n2 = w2 at *
      go_wp2_with fail
      refine (C5.out _).mono ?_
      rintro e w3 ⟨v3, rfl, o3, x3⟩
      have X3 := Lib.hid (X2.out.trans x3)
      have O3 := Lib.hid (o3.mono X2.out.size)
      clear o3 x3
      go_wp2_with fail
      refine (C6.out _).mono ?_
      rintro e w4 ⟨v4, rfl, o4, x4⟩
      have X4 := Lib.hid (X3.out.trans x4)
      have O4 := o4.reads
      have O3 := O3.out.ext x4
      have B1 := Lib.hid X4.out.size
      clear o4 x4
      go_wp2_with (at_builtin; refine wpList_app rfl (.tmp 25) (.tmp 28) 78 rfl w.heap.size 9 (.string ⟨#[]⟩) 16 Tryz.underlying78 infoStr rfl (by omega) _ _ _ (strs L2) rfl rfl O3 O4 (strs_one _) LL.out B1.out ?_; intro v5 w5 o5 g5 _)
      have X5 := Lib.hid (X4.out.grown g5 O3.lo)
      have O5 := Lib.hid o5
      clear o5 g5 O3 O4
      go_wp2_with fail
      go_ret
      exact ⟨_, rfl, O5.out, X5.out⟩
set_option maxHeartbeats 3200000 in
set_option maxRecDepth 100000 in
theorem prTimes_calls (A B C D : Tr) (hAB : A.carets = B.carets) (hCD : C.carets = D.carets) (hB : B.carets ≤ 60) (hC : C.carets ≤ 60) (w : World) :
    Calls Tryz.prog 26 #[.agg #[.string (tx A), .string (tx B)], .agg #[.string (tx C), .string (tx D)]] w fun e w' => e = .returned (.agg #[.string (tx (mul (A, B) (C, D)).1), .string (tx (mul (A, B) (C, D)).2)]) ∧ Ext w w' := by
  obtain ⟨X0, c0, c1, c2, c3, t0⟩ := boxQQ_facts w (.string (tx A)) (.string (tx B)) (.string (tx C)) (.string (tx D)) (.string ⟨#[]⟩) (.string ⟨#[]⟩) 25 25
  have dB := B.depth_le
  have dC := C.depth_le
  have jc := join_carets B C
  have jd := join_depth B C
  have pl := part_join_l B C
  have pr := part_join_r B C
  have pll := parts_length B _ pl
  have prl := parts_length C _ pr
  have C1 := Lib.hid (fun W => trJoin_calls B C W (by omega) (by omega) (by omega) (by omega))
  have C2 := Lib.hid (fun W => prParts_calls B (join B C) W pl (by omega) (by omega) (by omega) (by omega))
  have C3 := Lib.hid (fun W => prParts_calls C (join B C) W pr (by omega) (by omega) (by omega) (by omega))
  have C4 := Lib.hid (fun v W h => prFill_calls A.txt ((partsT B (join B C)).map tx) (by have := A.txt_length; omega) (by rw [List.length_map]; omega) (by rw [dots_txt, List.length_map]; omega) (by intro p hp; obtain ⟨t, ht, rfl⟩ := List.mem_map.1 hp; have := parts_le pl ht; rw [tx_size]; omega) v W h)
  have C5 := Lib.hid (fun v W h => prFill_calls D.txt ((partsT C (join B C)).map tx) (by have := D.txt_length; omega) (by rw [List.length_map]; omega) (by rw [dots_txt, List.length_map]; omega) (by intro p hp; obtain ⟨t, ht, rfl⟩ := List.mem_map.1 hp; have := parts_le pr ht; rw [tx_size]; omega) v W h)
  rw [fillP_txt A _ (by omega)] at C4
  rw [fillP_txt D _ (by omega)] at C5
  obtain ⟨mc1, mc2⟩ := mul0_carets (p := (A, B)) (q := (C, D)) hAB hCD
  have C6 := Lib.hid (fun W => prReduce_calls (mul0 (A, B) (C, D)).1 (mul0 (A, B) (C, D)).2 (by rw [mc1]; simp only; omega) (by rw [mc2]; simp only; omega) W)
  change Hid (∀ (v : Value) (W : World), Reads W v _ → Calls _ _ #[.string (tx A), v] W (fun e w' => e = .returned (.string (tx (mul0 (A, B) (C, D)).1)) ∧ W = w')) at C4
  change Hid (∀ (v : Value) (W : World), Reads W v _ → Calls _ _ #[.string (tx D), v] W (fun e w' => e = .returned (.string (tx (mul0 (A, B) (C, D)).2)) ∧ W = w')) at C5
  rw [show mul (A, B) (C, D) = red ((mul0 (A, B) (C, D)).1, (mul0 (A, B) (C, D)).2) from rfl]
  generalize tx (red ((mul0 (A, B) (C, D)).1, (mul0 (A, B) (C, D)).2)).1 = z1 at *
  generalize tx (red ((mul0 (A, B) (C, D)).1, (mul0 (A, B) (C, D)).2)).2 = z2 at *
  generalize tx (mul0 (A, B) (C, D)).1 = y1 at *
  generalize tx (mul0 (A, B) (C, D)).2 = y2 at *
  generalize (partsT B (join B C)).map tx = L1 at *
  generalize (partsT C (join B C)).map tx = L2 at *
  generalize tx (join B C) = j at *
  generalize tx A = a at *
  generalize tx B = b at *
  generalize tx C = c at *
  generalize tx D = d at *
  have X0 := Lib.hid X0
  clear hAB hCD hB hC mc1 mc2 jc jd pl pr pll prl dB dC
  go_enter Tryz.func26, Tryz.ntmps26
  go_wp2_with fail
  generalize ((w.alloc (.cells #[.string a, .string b] 25)).alloc (.cells #[.string c, .string d] 25)).alloc (.cells #[.string ⟨#[]⟩, .string ⟨#[]⟩] 25) = W at *
  refine (C1.out _).mono ?_
  rintro e w1 ⟨rfl, n1, rfl⟩
  have x1 : Ext W (W.drewN n1) := (Ext.refl W).drewN n1
  have SX := Lib.hid (quad_ext ⟨c0, c1, c2, c3, X0.out⟩ x1)
  have T1 := t0.ext x1
  have c0 := x1.cell c0
  have c1 := x1.cell c1
  have c2 := x1.cell c2
  have c3 := x1.cell c3
  generalize W.drewN n1 = W1 at *
  have n1 : Hid (w.heap.size ≠ w.heap.size + 1 + 1) := by show _ ≠ _; omega
  have n2 : Hid (w.heap.size + 1 ≠ w.heap.size + 1 + 1) := by show _ ≠ _; omega
  have n3 : Hid (w.heap.size ≤ w.heap.size + 1 + 1) := by show _ ≤ _; omega
  clear x1 t0
  go_wp2_with fail
  go_region_held3 (fun w' => w'.cell? ⟨w.heap.size, 0, none⟩ = some (.string a) ∧ w'.cell? ⟨w.heap.size, 1, none⟩ = some (.string b) ∧ w'.cell? ⟨w.heap.size + 1, 0, none⟩ = some (.string c) ∧ w'.cell? ⟨w.heap.size + 1, 1, none⟩ = some (.string d) ∧ Ext w w')
    (first | with_reducible exact quad_ext SX.out (Ext.refl _).drew | with_reducible exact quad_ext SX.out x6 | with_reducible exact quad_ext SX.out x4 | with_reducible exact quad_ext SX.out x2 | with_reducible exact quad_far _ _ (quad_ext SX.out x6) n1.out n2.out n3.out | fail)
    (first
      | (go_at_call_of 52 (Value.string b); refine (C2.out _).mono ?_; rintro e w2 ⟨v2, rfl, o2, hx2⟩; have x2 := (Ext.refl W1).drew.trans hx2)
      | (go_at_call_of 51 (Value.string a); refine (C4.out _ _ o2.reads).mono ?_; rintro e w3 ⟨rfl, rfl⟩)
      | (go_at_call_of 52 (Value.string c); refine (C3.out _).mono ?_; rintro e w4 ⟨v4, rfl, o4, hx4⟩; have x4 := x2.trans hx4)
      | (go_at_call_of 51 (Value.string d); refine (C5.out _ _ o4.reads).mono ?_; rintro e w5 ⟨rfl, rfl⟩)
      | (go_at_call 37; refine (C6.out _).mono ?_; rintro e w6 ⟨rfl, hx6⟩; have x6 := x4.trans hx6; obtain ⟨u, v, k0, k1, f0, f1⟩ := (T1.ext x6).facts)
      | fail)
  have T3 := T1.ext x6
  have HH := set2_heap T3 (.string z1) (.string z2)
  have XX := (SX.out.2.2.2.2.trans x6).set2 (g := w.heap.size + 1 + 1) (by omega) (.string z1) (.string z2)
  change Exit.then _ _ _ _ (N.set2 _ (w.heap.size + 1 + 1) (.string z1) (.string z2))
  obtain ⟨hc0, hc1⟩ := cells_of HH
  generalize N.set2 _ (w.heap.size + 1 + 1) (.string z1) (.string z2) = W3 at *
  go_wp2_with fail
  exact bodyPost_ret (v := .agg #[.string z1, .string z2]) (by simp [results, Tryz.results26, go_sem, hc0, hc1]) rfl ⟨rfl, XX⟩
end Go.Proofs.YtdcipaaclpedhaaGreat.N
namespace Go.Proofs.YtdcipaaclpedhaaGreat.N
open Go.RowKit
set_option maxHeartbeats 1600000 in
theorem trRight_calls (n : Nat) (hn : n < 100000) (w : World) :
    Calls Tryz.prog 79 #[.int .i64 n] w fun e w' => e = .returned (.string (tx (comb n))) ∧ w = w' := by
  go_enter Tryz.func79, Tryz.ntmps79
  go_wp2_with fail
  go_loop [0, 3] (fun i t => ∃ k : Nat, k ≤ n ∧ i = .int .i64 ((n - k : Nat) : Int) ∧ t = .string (tx (comb k))) (fun i _ => (intOf i).toNat)
  case atStart => exact ⟨0, Nat.zero_le _, rfl, rfl⟩
  case round =>
    obtain ⟨k, hk, rfl, rfl⟩ := hrel
    by_cases hlt : k < n
    · have h1 : (0 : Int) < ((n - k : Nat) : Int) := by omega
      have h2 : ((n - k : Nat) : Int) < 100000 := by omega
      have E : Hid (((n - k : Nat) : Int) - 1 = ((n - (k + 1) : Nat) : Int)) := by show _ = _; omega
      have C := Lib.hid (trOf_tree .leaf (comb k) (by simp [Tr.carets]) (by rw [comb_carets]; omega) w)
      rw [tx_leaf] at C
      generalize ((n - k : Nat) : Int) = d at *
      go_wp2_with fail
      refine C.out.mono ?_
      rintro e w1 ⟨rfl, rfl⟩
      go_wp2_with fail
      exact ⟨⟨k + 1, by omega, by rw [E.out], rfl⟩, by simp [intOf]; omega⟩
    · obtain rfl : k = n := by omega
      have h1 : ((k - k : Nat) : Int) = 0 := by omega
      rw [h1]
      go_wp2_with fail
      go_ret
      exact ⟨rfl, rfl⟩
set_option maxHeartbeats 3200000 in
set_option maxRecDepth 100000 in
theorem trGraft_calls (a b : List UInt8) (o : ByteArray) (hl : a.length + b.length < 1000000) (ho : o.size < 1000000) (w : World) :
    Calls Tryz.prog 74 #[.string (S (a ++ 46 :: b)), .int .i64 (dots a), .string o] w fun e w' => e = .returned (.string ((S a ++ o) ++ S b)) ∧ ∃ n, w' = w.drewN n := by
  have LN : Hid ((a ++ 46 :: b).length = a.length + b.length + 1) := by simp [Hid]; omega
  have E1 : Hid ((a ++ 46 :: b).take a.length = a) := by simp [Hid]
  have E2 : Hid ((a ++ 46 :: b).drop (a.length + 1) = b) := by
    show _ = _
    rw [List.drop_append, List.drop_eq_nil_of_le (by omega), show a.length + 1 - a.length = 1 from by omega]; rfl
  have G1 : Hid (∀ j, j < a.length → dots ((a ++ 46 :: b).take (j + 1)) ≤ dots a) := by
    intro j hj
    rw [List.take_append_of_le_length (by omega)]
    exact List.Sublist.countP_le (List.take_sublist _ _)
  have G3 : Hid ((a ++ 46 :: b)[a.length]? = some 46) := by simp [Hid]
  have DK := dots_le a
  generalize (a ++ 46 :: b) = l at *
  have D1 : Hid (dots (l.take a.length) = dots a) := by show _ = _; rw [E1.out]
  generalize hk : dots a = k at *
  go_enter Tryz.func74, Tryz.ntmps74
  go_wp2_with fail
  go_loop [7, 8] (fun n i => ∃ (j : Nat), j ≤ a.length ∧ i = .int .i64 j ∧ n = .int .i64 ((dots (l.take j) : Int) - 1)) (fun _ i => a.length + 2 - (intOf i).toNat)
  case atStart => exact ⟨0, Nat.zero_le _, rfl, rfl⟩
  case round =>
    obtain ⟨j, hj, rfl, rfl⟩ := hrel
    have b1 := dots_le (l.take j)
    have b2 : (l.take j).length ≤ j := List.length_take_le _ _
    have b3 : (0 : Int) ≤ dots (l.take j) ∧ (dots (l.take j) : Int) ≤ j := by omega
    clear b1 b2
    have hlt : j < l.length := by rw [LN.out]; omega
    obtain ⟨c, hc⟩ : ∃ c, l[j]? = some c := ⟨_, List.getElem?_eq_getElem hlt⟩
    have ST : dots (l.take (j + 1)) = dots (l.take j) + if c = 46 then 1 else 0 := by
      rw [List.take_add_one, hc]; exact dots_snoc _ _
    obtain ⟨x1, x2⟩ := s_at (S l) j c (by rw [S_toList]; exact hc)
    have h1 : (j : Int) < (S l).size := by show (j : Int) < (l.length : Nat); omega
    have h0 : (0 : Int) ≤ j := by omega
    by_cases hl2 : j = a.length
    · obtain rfl : c = 46 := by rw [hl2, G3.out] at hc; exact (Option.some.inj hc).symm
      have DD : dots (l.take j) = k := by rw [hl2]; exact D1.out
      rw [DD]
      have t1 : (((46 : UInt8).toNat : Int) == 46) = true := rfl
      have SZ : Hid ((S l).size = a.length + b.length + 1) := LN.out
      have F1 : (S l).extract 0 j = S a := by rw [S_extract, hl2, E1.out]; rfl
      have F2 : (S l).extract (j + 1) (S l).size = S b := by
        rw [S_extract, S_size, List.take_of_length_le (Nat.le_refl _), hl2, E2.out]
      have g1 : (j : Int) + 1 ≤ (S l).size := by rw [SZ.out]; omega
      have g2 : (j : Int) < 1000001 := by omega
      have g3 : (k : Int) - 1 + 1 = k := by omega
      have g4 : (9223372036854775807 < (S a).size + o.size) = False := by rw [S_size]; simp; omega
      have g5 : (9223372036854775807 < (S a).size + o.size + (S b).size) = False := by rw [S_size, S_size]; simp; omega
      have g6 : (k : Int) < 1000001 ∧ (0 : Int) ≤ k := by omega
      clear ST hc hl2 DD b3
      go_wp2_with fail
      go_region
      go_wp2_with fail
      go_ret
      exact ⟨rfl, 1, rfl⟩
    · have G := G1.out j (by omega)
      by_cases c1 : c = 46
      · have t1 : ((c.toNat : Int) == 46) = true := by subst c1; rfl
        rw [if_pos c1] at ST
        have t3 : (dots (l.take j) : Int) - 1 + 1 = dots (l.take j) := by omega
        have t2 : (((dots (l.take j) : Nat) : Int) == (k : Int)) = false := by rw [beq_eq_false_iff_ne]; omega
        have ST := Lib.hid ST
        clear c1 hc G
        go_wp2_with fail
        exact ⟨⟨j + 1, by omega, by go_num, by rw [ST.out]; go_num⟩, by simp [intOf]; omega⟩
      · have t1 : ((c.toNat : Int) == 46) = false := byte_ne c1
        rw [if_neg c1] at ST
        have t2 : (((dots (l.take j) : Nat) : Int) - 1 == (k : Int)) = false := by rw [beq_eq_false_iff_ne]; omega
        have ST := Lib.hid ST
        clear c1 hc G
        go_wp2_with fail
        exact ⟨⟨j + 1, by omega, by go_num, by rw [ST.out]; go_num⟩, by simp [intOf]; omega⟩
theorem trGraft_tree (T O : Tr) (n : Nat) (hT : T.carets < 1000) (hO : O.carets < 1000) (hn : n < T.carets + 1) (w : World) :
    Calls Tryz.prog 74 #[.string (tx T), .int .i64 n, .string (tx O)] w fun e w' => e = .returned (.string (tx (graft T n O))) ∧ ∃ m, w' = w.drewN m := by
  obtain ⟨a, b, e1, e2, e3⟩ := graft_txt O n T 0 (Nat.zero_le _) (by omega)
  have hl := T.txt_length
  have ho := O.txt_length
  rw [e1] at hl
  simp at hl
  have e4 : n = dots a := by omega
  have e5 : (S a ++ tx O) ++ S b = tx (graft T n O) := by
    show (S a ++ S O.txt) ++ S b = S ((T.grown _ 0).txt)
    rw [e2, S_append, S_append, List.append_assoc]
  rw [← e5, e4, show tx T = S (a ++ 46 :: b) by rw [tx, e1]]
  exact trGraft_calls a b (tx O) (by omega) (by show O.txt.length < _; omega) w
set_option maxHeartbeats 1600000 in
set_option maxRecDepth 100000 in
theorem prGenerator_calls (i : Nat) (hi : i < 900) (w : World) :
    Calls Tryz.prog 57 #[.int .i64 i] w fun e w' => e = .returned (.agg #[.string (tx (gen i).1), .string (tx (gen i).2)]) ∧ Ext w w' := by
  have X0 := Lib.hid ((Ext.refl w).alloc (.cells #[.string ⟨#[]⟩, .string ⟨#[]⟩] 25))
  have t0 := Two.new w (.string ⟨#[]⟩) (.string ⟨#[]⟩) 25 rfl
  have C1 := Lib.hid (fun W => trRight_calls i (by omega) W)
  have C3 := Lib.hid (fun W => trRight_calls (i + 2) (by omega) W)
  have C2 := Lib.hid (fun W => trGraft_tree (comb i) (.node (.node .leaf .leaf) .leaf) i (by rw [comb_carets]; omega) (by simp [Tr.carets]) (by rw [comb_carets]; omega) W)
  rw [show tx (.node (.node .leaf .leaf) .leaf) = ⟨#[40, 40, 46, 46, 41, 46, 41]⟩ from rfl] at C2
  have hi' : (i : Int) < 1000 ∧ (0 : Int) ≤ i := by omega
  have W2 : Hid ((i : Int) + 2 = ((i + 2 : Nat) : Int)) := by show _ = _; omega
  rw [show gen i = (graft (comb i) i (.node (.node .leaf .leaf) .leaf), comb (i + 2)) from rfl]
  generalize tx (comb i) = s1 at *
  generalize tx (graft (comb i) i (.node (.node .leaf .leaf) .leaf)) = s2 at *
  generalize tx (comb (i + 2)) = s3 at *
  go_enter Tryz.func57, Tryz.ntmps57
  go_wp2_with fail
  generalize w.alloc (.cells #[.string ⟨#[]⟩, .string ⟨#[]⟩] 25) = W at *
  refine (C1.out _).mono ?_
  rintro e w1 ⟨rfl, rfl⟩
  go_wp2_with fail
  refine (C2.out _).mono ?_
  rintro e w2 ⟨rfl, n2, rfl⟩
  go_wp2_with fail
  rw [W2.out]
  refine (C3.out _).mono ?_
  rintro e w3 ⟨rfl, rfl⟩
  have x3 := (Ext.refl W).drewN n2
  obtain ⟨u, v, k0, k1, f0, f1⟩ := (t0.ext x3).facts
  go_wp2_with fail
  have HH := set2_heap (t0.ext x3) (.string s2) (.string s3)
  have XX := (X0.out.trans x3).set2 (g := w.heap.size) (Nat.le_refl _) (.string s2) (.string s3)
  change bodyPost _ _ _ _ _ (N.set2 _ w.heap.size (.string s2) (.string s3))
  obtain ⟨hc0, hc1⟩ := cells_of HH
  generalize N.set2 _ w.heap.size (.string s2) (.string s3) = W3 at *
  exact bodyPost_ret (v := .agg #[.string s2, .string s3]) (by simp [results, Tryz.results57, go_sem, hc0, hc1]) rfl ⟨rfl, XX⟩
end Go.Proofs.YtdcipaaclpedhaaGreat.N
namespace Go.Proofs.YtdcipaaclpedhaaGreat.N
open Go.RowKit
theorem prUnit_calls (w : World) : Calls Tryz.prog 25 #[] w fun e w' => e = .returned (.agg #[.string (tx .leaf), .string (tx .leaf)]) ∧ Ext w w' := by
  have X1 := Lib.hid ((Ext.refl w).alloc (.cells #[.string ⟨#[46]⟩, .string ⟨#[46]⟩] 25))
  obtain ⟨hc0, hc1⟩ := cells_of (heap_alloc_new w (.cells #[.string ⟨#[46]⟩, .string ⟨#[46]⟩] 25))
  go_enter Tryz.func25, Tryz.ntmps25
  go_wp2_with fail
  exact bodyPost_ret (v := .agg #[.string ⟨#[46]⟩, .string ⟨#[46]⟩]) (by simp [results, Tryz.results25, go_sem, hc0, hc1]) rfl ⟨rfl, X1.out⟩
theorem Two.far {w : World} {g k : Nat} {t : TypeId} (h : Two w k t) (hk : k ≠ g) (a b : Value) : Two (set2 w g a b) k t := let ⟨u, v, e⟩ := h.at_; ⟨u, v, (set2_other hk a b).trans e⟩
end Go.Proofs.YtdcipaaclpedhaaGreat.N
namespace Go.Proofs.YtdcipaaclpedhaaGreat.N
open Go.RowKit
def TwoPost (w : World) (s1 t1 s2 t2 : ByteArray) (e : Ending) (w' : World) : Prop := ∃ pa pb pc pd b, e = .returned (.tuple #[.agg #[.pointer pa, .pointer pb], .agg #[.pointer pc, .pointer pd], .bool b]) ∧ Ext w w' ∧
  Hid (b = true → ∃ A B C D, s1 = tx A ∧ t1 = tx B ∧ s2 = tx C ∧ t2 = tx D ∧ A.carets = B.carets ∧ B.carets ≤ 8 ∧ C.carets = D.carets ∧ D.carets ≤ 8 ∧ Rep w' A pa ∧ Rep w' B pb ∧ Rep w' C pc ∧ Rep w' D pd) ∧ Hid (b = false → ¬ (Good s1 t1 ∧ Good s2 t2))
set_option maxHeartbeats 3200000 in
set_option maxRecDepth 100000 in
theorem two_calls (s1 t1 s2 t2 : ByteArray) (w : World) :
    Calls Tryz.prog 42 #[.agg #[.string s1, .string t1], .agg #[.string s2, .string t2]] w (TwoPost w s1 t1 s2 t2) := by
  have C1 := Lib.hid (pairOf_calls s1 t1)
  have C2 := Lib.hid (pairOf_calls s2 t2)
  let W0 := ((w.alloc (.cells #[.string s1, .string t1] 25)).alloc (.cells #[.string s2, .string t2] 25)).alloc (.cells #[.pointer none, .pointer none] 57)
  have X4 := Lib.hid (((((Ext.refl w).alloc (.cells #[.string s1, .string t1] 25)).alloc (.cells #[.string s2, .string t2] 25)).alloc (.cells #[.pointer none, .pointer none] 57)).alloc (.cells #[.pointer none, .pointer none] 57))
  have c0 : (W0.alloc (.cells #[.pointer none, .pointer none] 57)).cell? ⟨w.heap.size + 1, 0, none⟩ = some (.string s2) := by simp only [W0]; go_simp
  have c1 : (W0.alloc (.cells #[.pointer none, .pointer none] 57)).cell? ⟨w.heap.size + 1, 1, none⟩ = some (.string t2) := by simp only [W0]; go_simp
  have t0 := (Two.new ((w.alloc (.cells #[.string s1, .string t1] 25)).alloc (.cells #[.string s2, .string t2] 25)) (n := w.heap.size + 1 + 1) (.pointer none) (.pointer none) 57 (by simp)).ext ((Ext.refl _).alloc (.cells #[.pointer none, .pointer none] 57))
  have t1' := Two.new W0 (n := w.heap.size + 1 + 1 + 1) (.pointer none) (.pointer none) 57 (by simp [W0])
  have SZ : w.heap.size + 1 + 1 + 1 < (W0.alloc (.cells #[.pointer none, .pointer none] 57)).heap.size := by simp [W0]
  simp only [W0] at c0 c1 t1' SZ
  clear W0
  go_enter Tryz.func42, Tryz.ntmps42
  go_wp2_with fail
  generalize (((w.alloc (.cells #[.string s1, .string t1] 25)).alloc (.cells #[.string s2, .string t2] 25)).alloc (.cells #[.pointer none, .pointer none] 57)).alloc (.cells #[.pointer none, .pointer none] 57) = W at *
  refine (C1.out _).mono ?_
  rintro e w1 ⟨pa, pb, b1, rfl, x1, y1, n1⟩
  have d0 := (x1.alloc (.cells #[.pointer pa, .pointer pb] 57)).cell c0
  have d1 := (x1.alloc (.cells #[.pointer pa, .pointer pb] 57)).cell c1
  have B1 := heap_alloc_new w1 (.cells #[.pointer pa, .pointer pb] 57)
  have X1 := Lib.hid (x1.alloc (.cells #[.pointer pa, .pointer pb] 57))
  have SX := Lib.hid x1.size
  clear c0 c1 x1
  have XW := Lib.hid ((Ext.refl w1).alloc (.cells #[.pointer pa, .pointer pb] 57))
  have B1 := Lib.hid B1
  go_wp2_with fail
  have SZ1 : w.heap.size + 1 + 1 + 1 < w1.heap.size := Nat.lt_of_lt_of_le SZ SX.out
  generalize w1.alloc (.cells #[.pointer pa, .pointer pb] 57) = W1 at *
  refine (C2.out _).mono ?_
  rintro e w2 ⟨pc, pd, b2, rfl, x2, y2, n2⟩
  have B2 := heap_alloc_new w2 (.cells #[.pointer pc, .pointer pd] 57)
  have X2 := Lib.hid (x2.alloc (.cells #[.pointer pc, .pointer pd] 57))
  have B1' := X2.out.at B1.out
  have SZ2 : w1.heap.size < w2.heap.size := Nat.lt_of_lt_of_le (Array.getElem?_eq_some_iff.1 B1.out).1 x2.size
  have E1 := XW.out.trans X2.out
  have e0 := (t0.ext X1.out).ext X2.out
  have e1 := (t1'.ext X1.out).ext X2.out
  obtain ⟨g0, g1, g2, g3, g4, g5⟩ := e0.facts
  obtain ⟨l0, l1, l2, l3, l4, l5⟩ := e1.facts
  have E0 := Lib.hid e0
  have E1' := Lib.hid e1
  clear e0 e1 t0 t1' d0 d1
  obtain ⟨k0, k1⟩ := cells_of B1'
  obtain ⟨k2, k3⟩ := cells_of B2
  have Q2 := Lib.hid ((Ext.refl w2).alloc (.cells #[.pointer pc, .pointer pd] 57))
  have n1' : w1.heap.size ≠ w.heap.size + 1 + 1 := by omega
  have n2' : w1.heap.size ≠ w.heap.size + 1 + 1 + 1 := by omega
  have n3' : w2.heap.size ≠ w.heap.size + 1 + 1 := by omega
  have n4' : w2.heap.size ≠ w.heap.size + 1 + 1 + 1 := by omega
  clear B1' B2 E1 B1 SX SZ1 SZ2 SZ
  go_wp2_with fail
  generalize w2.alloc (.cells #[.pointer pc, .pointer pd] 57) = W2 at *
  have EN : Hid (∀ b, ((b1 && b2) = b) → ∀ a W, a.defers = [] → a.tmps[6]? = some (.bool b) → a.tmps[4]? = some (.pointer (some ⟨w.heap.size + 1 + 1, 0, none⟩)) → a.tmps[5]? = some (.pointer (some ⟨w.heap.size + 1 + 1 + 1, 0, none⟩)) →
      W = (N.set2 (N.set2 W2 (w.heap.size + 1 + 1) (.pointer pa) (.pointer pb)) (w.heap.size + 1 + 1 + 1) (.pointer pc) (.pointer pd)).drew → bodyPost Tryz.prog Tryz.f42 (TwoPost w s1 t1 s2 t2) .ret a W) := by
    intro b hb a W hd ha h4 h5 hW
    have F0 := E0.out
    have F1 : Two (N.set2 W2 (w.heap.size + 1 + 1) (.pointer pa) (.pointer pb)) (w.heap.size + 1 + 1 + 1) 57 := by
      obtain ⟨u, v, e⟩ := E1'.out
      exact ⟨u, v, by rw [set2_other (by omega)]; exact e⟩
    have H1 := set2_heap F1 (.pointer pc) (.pointer pd)
    have H0 : (N.set2 (N.set2 W2 (w.heap.size + 1 + 1) (.pointer pa) (.pointer pb)) (w.heap.size + 1 + 1 + 1) (.pointer pc) (.pointer pd)).heap[w.heap.size + 1 + 1]? = some (.cells #[.pointer pa, .pointer pb] 57) := by
      rw [set2_other (by omega)]; exact set2_heap F0 (.pointer pa) (.pointer pb)
    have XX := ((((X4.out.trans X1.out).trans X2.out).set2 (g := w.heap.size + 1 + 1) (by omega) (.pointer pa) (.pointer pb)).set2 (g := w.heap.size + 1 + 1 + 1) (by omega) (.pointer pc) (.pointer pd)).drew
    have RR : ∀ T p, Rep W2 T p → Rep W T p := by
      intro T p h
      subst hW
      exact (Rep.set2 F1 (by decide) _ _ (Rep.set2 F0 (by decide) _ _ h)).ext (Ext.refl _).drew
    obtain ⟨q0, q1⟩ := cells_of H0
    obtain ⟨q2, q3⟩ := cells_of H1
    rw [← hW] at XX
    have q0 : W.cell? ⟨w.heap.size + 1 + 1, 0, none⟩ = some (.pointer pa) := by rw [hW]; exact q0
    have q1 : W.cell? ⟨w.heap.size + 1 + 1, 1, none⟩ = some (.pointer pb) := by rw [hW]; exact q1
    have q2 : W.cell? ⟨w.heap.size + 1 + 1 + 1, 0, none⟩ = some (.pointer pc) := by rw [hW]; exact q2
    have q3 : W.cell? ⟨w.heap.size + 1 + 1 + 1, 1, none⟩ = some (.pointer pd) := by rw [hW]; exact q3
    refine bodyPost_ret (v := .tuple #[.agg #[.pointer pa, .pointer pb], .agg #[.pointer pc, .pointer pd], .bool b]) ?_ hd ⟨_, _, _, _, _, rfl, XX, ?_, ?_⟩
    · simp [results, Tryz.results42, go_sem, q0, q1, q2, q3, ha, h4, h5]
    · intro hbt
      subst hbt
      rw [Bool.and_eq_true] at hb
      obtain ⟨A, B, e1, e2, e3, e4, r1, r2⟩ := y1.out hb.1
      obtain ⟨C, D, f1, f2, f3, f4, r3, r4⟩ := y2.out hb.2
      have E := XW.out.trans X2.out
      have E2 := Q2.out
      exact ⟨A, B, C, D, e1, e2, f1, f2, e3, e4, f3, f4, RR _ _ (r1.ext E), RR _ _ (r2.ext E), RR _ _ (r3.ext E2), RR _ _ (r4.ext E2)⟩
    · intro hbf
      subst hbf
      rintro ⟨G1, G2⟩
      cases b1 with
      | false => exact n1.out rfl G1
      | true =>
        cases b2 with
        | false => exact n2.out rfl G2
        | true => cases hb
  clear y1 y2 n1 n2 X4 X1 XW X2 E0 E1' Q2
  cases b1 <;> cases b2
  all_goals
    go_region
    go_wp2_with fail
  case false.false => exact EN.out false rfl _ _ rfl rfl rfl rfl rfl
  case false.true => exact EN.out false rfl _ _ rfl rfl rfl rfl rfl
  case true.false => exact EN.out false rfl _ _ rfl rfl rfl rfl rfl
  case true.true => exact EN.out true rfl _ _ rfl rfl rfl rfl rfl
theorem two_yes (A B C D : Tr) (hc : A.carets = B.carets) (hB : B.carets ≤ 8) (hd : C.carets = D.carets) (hD : D.carets ≤ 8) (w : World) : Calls Tryz.prog 42 #[.agg #[.string (tx A), .string (tx B)], .agg #[.string (tx C), .string (tx D)]] w fun e w' => ∃ pa pb pc pd, e = .returned (.tuple #[.agg #[.pointer pa, .pointer pb], .agg #[.pointer pc, .pointer pd], .bool true]) ∧ Rep w' A pa ∧ Rep w' B pb ∧ Rep w' C pc ∧ Rep w' D pd ∧ Ext w w' := by
  refine (two_calls _ _ _ _ w).mono ?_
  rintro e w1 ⟨pa, pb, pc, pd, b, rfl, x1, y1, n1⟩
  cases b with
  | false => exact absurd ⟨⟨A, B, rfl, rfl, hc, hB⟩, ⟨C, D, rfl, rfl, hd, hD⟩⟩ (n1.out rfl)
  | true =>
    obtain ⟨A', B', C', D', h1, h2, h3, h4, _, _, _, _, rA, rB, rC, rD⟩ := y1.out rfl
    obtain rfl := tx_inj h1
    obtain rfl := tx_inj h2
    obtain rfl := tx_inj h3
    obtain rfl := tx_inj h4
    exact ⟨pa, pb, pc, pd, rfl, rA, rB, rC, rD, x1⟩
theorem two_no (s1 t1 s2 t2 : ByteArray) (h : ¬ (Good s1 t1 ∧ Good s2 t2)) (w : World) : Calls Tryz.prog 42 #[.agg #[.string s1, .string t1], .agg #[.string s2, .string t2]] w fun e w' => ∃ pa pb pc pd, e = .returned (.tuple #[.agg #[.pointer pa, .pointer pb], .agg #[.pointer pc, .pointer pd], .bool false]) ∧ Ext w w' := by
  refine (two_calls _ _ _ _ w).mono ?_
  rintro e w1 ⟨pa, pb, pc, pd, b, rfl, x1, y1, n1⟩
  cases b with
  | false => exact ⟨pa, pb, pc, pd, rfl, x1⟩
  | true =>
    obtain ⟨A', B', C', D', h1, h2, h3, h4, g1, g2, g3, g4, rA, rB, rC, rD⟩ := y1.out rfl
    exact absurd ⟨⟨A', B', h1, h2, g1, g2⟩, ⟨C', D', h3, h4, g3, g4⟩⟩ h
end Go.Proofs.YtdcipaaclpedhaaGreat.N
namespace Go.Proofs.YtdcipaaclpedhaaGreat.N
open Go.RowKit
theorem boxSS_facts (w : World) (s t s2 t2 : ByteArray) (x y : Value) (ty : TypeId) :
    Ext w (((w.alloc (.cells #[.string s, .string t] 25)).alloc (.cells #[.string s2, .string t2] 25)).alloc (.cells #[x, y] ty)) ∧
    Two (((w.alloc (.cells #[.string s, .string t] 25)).alloc (.cells #[.string s2, .string t2] 25)).alloc (.cells #[x, y] ty)) (w.heap.size + 1 + 1) ty :=
  ⟨(((Ext.refl w).alloc _).alloc _).alloc _, Two.new _ _ _ _ (by simp)⟩
end Go.Proofs.YtdcipaaclpedhaaGreat.N
namespace Go.Proofs.YtdcipaaclpedhaaGreat.N
open Go.RowKit
def Cur (w : World) (g m : Nat) : Prop := ∃ (A : Option Addr) (n c a : Nat) (s : Int), w.heap[g]? = some (.cells #[.slice A n c, .int .i64 (a : Nat), .int .u64 s] 47) ∧ a + m ≤ 1000000000000 ∧ n ≤ 1048576 ∧
  (0 < n → ∃ ad, A = some ad ∧ ad.block < g ∧ ∀ j, j < n → ∃ b : Nat, b < 256 ∧ w.cell? (ad.add j) = some (.int .u8 (b : Nat)))
def Mv (g : Nat) (w w' : World) : Prop := w.grownBy w' (some g)
theorem Mv.refl (g : Nat) (w : World) : Mv g w w := ⟨rfl, rfl, rfl, Nat.le_refl _, fun _ _ _ => rfl⟩
theorem Mv.trans {g : Nat} {a b c : World} (h : Mv g a b) (k : Mv g b c) : Mv g a c := World.grownBy.trans h k
theorem Ext.mv {w w' : World} (h : Ext w w') (g : Nat) : Mv g w w' := h.grownBy _
theorem Mv.set (g i : Nat) (w : World) (u : Value) : Mv g w (w.setCell ⟨g, i, none⟩ u) := by
  refine ⟨rfl, rfl, rfl, ?_, ?_⟩
  · simp [World.setCell]
  · intro k hk hne
    have : k ≠ g := fun e => hne (by rw [e])
    exact heap_setCell_other _ _ _ _ this
theorem add_block (ad : Addr) (j : Nat) : (ad.add j).block = ad.block := by unfold Addr.add; split <;> rfl
theorem Cur.ext {w w' : World} {g m : Nat} (h : Cur w g m) (hx : Ext w w') : Cur w' g m := by
  obtain ⟨A, n, c, a, s, h1, h2, h3, h4⟩ := h
  refine ⟨A, n, c, a, s, hx.at h1, h2, h3, fun hp => ?_⟩
  obtain ⟨ad, e, hb, hc⟩ := h4 hp
  exact ⟨ad, e, hb, fun j hj => let ⟨b, b1, b2⟩ := hc j hj; ⟨b, b1, hx.cell b2⟩⟩
theorem Cur.less {w : World} {g m k : Nat} (h : Cur w g m) (hk : k ≤ m) : Cur w g k := by
  obtain ⟨A, n, c, a, s, h1, h2, h3, h4⟩ := h
  exact ⟨A, n, c, a, s, h1, by omega, h3, h4⟩
theorem Mv.ext {w0 w w' : World} {g : Nat} (h : Mv g w w') (hx : Ext w0 w) (hg : w0.heap.size ≤ g) : Ext w0 w' := hx.grown h (fun k hk => by injection hk with hk; omega)
theorem Own.mv {w w' : World} {base g m : Nat} {e : TypeId} {v : Value} {xs : List Value} (h : Own w base e v xs) (c : Cur w g m) (he : e ≠ 47) (mv : Mv g w w') : Own w' base e v xs := by
  refine h.far mv fun k hk hv => ?_
  injection hk with hk
  subst hk
  obtain ⟨cs, fr, e1⟩ := h.typed _ hv
  obtain ⟨A, n, c, a, s, h1, _⟩ := c
  rw [e1] at h1
  injection h1 with h1
  injection h1 with _ h2
  exact he h2
theorem Mv.at {w w' : World} {g k : Nat} {o : Obj} (h : Mv g w w') (hk : k ≠ g) (hc : w.heap[k]? = some o) : w'.heap[k]? = some o := (h.block k (Array.getElem?_eq_some_iff.1 hc).1 (fun e => hk (by injection e))).trans hc
theorem Mv.cell {w w' : World} {g : Nat} {p : Addr} {v : Value} (h : Mv g w w') (hk : p.block ≠ g) (hc : w.cell? p = some v) : w'.cell? p = some v :=
  (World.cell?_of_block (h.block p.block (World.block_lt_of_cell? w p hc) (fun e => hk (by injection e)))).trans hc
theorem Cur.lt {w : World} {g m : Nat} (h : Cur w g m) : g < w.heap.size := by obtain ⟨A, n, c, a, s, h1, _⟩ := h; exact (Array.getElem?_eq_some_iff.1 h1).1
theorem Reads.mv {w w' : World} {g : Nat} {v : Value} {xs : List Value} (h : Reads w v xs) (hm : Mv g w w') (hb : v.ownBlock ≠ some g) : Reads w' v xs := h.far hm (fun k hk => by injection hk with hk; subst hk; exact hb)
theorem Two.mv {w w' : World} {b g : Nat} {t : TypeId} (h : Two w b t) (hm : Mv g w w') (hb : b ≠ g) : Two w' b t := ⟨let ⟨u, v, e⟩ := h.at_; ⟨u, v, hm.at hb e⟩⟩
theorem Mv.set2 {w0 w : World} {g b : Nat} (h : Mv g w0 w) (hb : w0.heap.size ≤ b) (u v : Value) : Mv g w0 (N.set2 w b u v) :=
  ⟨h.os, h.tape, h.output, by simpa [N.set2, World.setCell] using h.size, fun k hk hne => (set2_other (by omega) u v).trans (h.block k hk hne)⟩
theorem Cur.set2 {w : World} {g m b : Nat} (h : Cur w g m) (hb : g < b) (u v : Value) : Cur (N.set2 w b u v) g m := by
  obtain ⟨A, n, c, a, s, h1, h2, h3, h4⟩ := h
  refine ⟨A, n, c, a, s, (set2_other (Nat.ne_of_lt hb) u v).trans h1, h2, h3, fun hp => ?_⟩
  obtain ⟨ad, e, hb2, hc⟩ := h4 hp
  refine ⟨ad, e, hb2, fun j hj => ?_⟩
  obtain ⟨x, hx, hx2⟩ := hc j hj
  exact ⟨x, hx, set2_far (by rw [add_block]; omega) u v hx2⟩
theorem frozen_of {w : World} {b : Nat} {u v : Value} {t : TypeId} (h : w.heap[b]? = some (.cells #[u, v] t)) : w.frozen? ⟨b, 0, none⟩ = false ∧ w.frozen? ⟨b, 1, none⟩ = false := by
  constructor <;> simp [World.frozen?, h]
structure PairEnd (w : World) (g m r q : Nat) (s t : ByteArray) (W : World) : Prop where
  rs : W.heap[r]? = some (.cells #[.string ⟨#[]⟩, .string ⟨#[]⟩] 25)
  qs : W.heap[q]? = some (.cells #[.string s, .string t] 25)
  cur : Cur W g m
  mv : Mv g w W
theorem PairEnd.facts {w : World} {g m r q : Nat} {s t : ByteArray} {W : World} (h : PairEnd w g m r q s t W) : W.cell? ⟨q, 0, none⟩ = some (.string s) ∧ W.cell? ⟨q, 1, none⟩ = some (.string t) ∧ W.frozen? ⟨q, 0, none⟩ = false ∧ W.frozen? ⟨q, 1, none⟩ = false :=
  ⟨(cells_of h.qs).1, (cells_of h.qs).2, (frozen_of h.qs).1, (frozen_of h.qs).2⟩
end Go.Proofs.YtdcipaaclpedhaaGreat.N
