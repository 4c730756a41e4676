import Derived.StillTailTactics
import Derived.Test.YtijnadjgmmednaaGreatZc6
/- A part of the proof: lemmas that later parts use. -/
set_option linter.unusedVariables false
set_option linter.unusedSimpArgs false
namespace Go.Proofs.YtijnadjgmmednaaGreat.N
open Go.RowKit
theorem Ext.setCell {a b : World} (h : Ext a b) {p : Addr} (hp : a.heap.size ≤ p.block) (u : Value) : Ext a (b.setCell p u) := Below.setCell h hp u
theorem Ext.frozen {a b : World} (h : Ext a b) {p : Addr} (hp : p.block < a.heap.size) : b.frozen? p = a.frozen? p := Below.frozen h hp
structure Two (w : World) (g : Nat) (t : TypeId) : Prop where
  at_ : ∃ u v, w.heap[g]? = some (.cells #[u, v] t)
theorem Two.ext {w w' : World} {g t} (h : Two w g t) (hx : Ext w w') : Two w' g t := ⟨let ⟨u, v, e⟩ := h.at_; ⟨u, v, hx.at e⟩⟩
theorem Two.new (w : World) {n : Nat} (u v : Value) (t : TypeId) (h : w.heap.size = n) : Two (w.alloc (.cells #[u, v] t)) n t := ⟨u, v, h ▸ heap_alloc_new w _⟩
theorem Two.facts {w : World} {g t} (h : Two w g t) : ∃ u v, w.cell? ⟨g, 0, none⟩ = some u ∧ w.cell? ⟨g, 1, none⟩ = some v ∧ w.frozen? ⟨g, 0, none⟩ = false ∧ w.frozen? ⟨g, 1, none⟩ = false := by
  obtain ⟨u, v, e⟩ := h.at_
  exact ⟨u, v, (cells_of e).1, (cells_of e).2, by simp [World.frozen?, e], by simp [World.frozen?, e]⟩
def set2 (w : World) (g : Nat) (a b : Value) : World := (w.setCell ⟨g, 0, none⟩ a).setCell ⟨g, 1, none⟩ b
theorem set2_heap {w : World} {g t} (h : Two w g t) (a b : Value) : (set2 w g a b).heap[g]? = some (.cells #[a, b] t) := by
  obtain ⟨u, v, e⟩ := h.at_
  have h1 := heap_setCell_same w g 0 #[u, v] t a e
  have h2 := heap_setCell_same (w.setCell ⟨g, 0, none⟩ a) g 1 _ t b h1
  exact h2
theorem set2_other {w : World} {g k : Nat} (hk : k ≠ g) (a b : Value) : (set2 w g a b).heap[k]? = w.heap[k]? := by
  unfold set2
  rw [Below.heap_setCell _ _ _ _ (by exact hk), Below.heap_setCell _ _ _ _ (by exact hk)]
theorem set2_far {w : World} {g : Nat} {q : Addr} {x : Value} (hq : q.block ≠ g) (a b : Value) (h : w.cell? q = some x) : (set2 w g a b).cell? q = some x := (World.cell?_of_block (set2_other hq a b)).trans h
theorem Ext.set2 {a w : World} (h : Ext a w) {g : Nat} (hg : a.heap.size ≤ g) (u v : Value) : Ext a (N.set2 w g u v) := (h.setCell (p := ⟨g, 0, none⟩) hg u).setCell (p := ⟨g, 1, none⟩) hg v
theorem Rep.set2 {w : World} {g t} (h : Two w g t) (ht : t ≠ 101) (a b : Value) : ∀ {T p}, Rep w T p → Rep (N.set2 w g a b) T p
  | .leaf, _, hr => hr
  | .node _ _, _, ⟨c, pl, pr, e, h0, hl, hr⟩ => ⟨c, pl, pr, e, by
      rw [set2_other (fun e2 => by
        obtain ⟨u, v, e3⟩ := h.at_
        rw [← e2, h0] at e3
        injection e3 with e3
        injection e3 with _ e4
        exact ht e4.symm)]; exact h0, Rep.set2 h ht a b hl, Rep.set2 h ht a b hr⟩
theorem two_cells_set {w0 W : World} {b g : Nat} {u0 u1 : Value} (a v : Value) (c0 : W.cell? ⟨b, 0, none⟩ = some u0) (c1 : W.cell? ⟨b, 1, none⟩ = some u1) (hne : b ≠ g) (hx : Ext w0 W) (hg : w0.heap.size ≤ g) :
    (set2 W g a v).cell? ⟨b, 0, none⟩ = some u0 ∧ (set2 W g a v).cell? ⟨b, 1, none⟩ = some u1 ∧ Ext w0 (set2 W g a v) :=
  ⟨(World.cell?_of_block (set2_other hne a v)).trans c0, (World.cell?_of_block (set2_other hne a v)).trans c1, hx.set2 hg a v⟩
theorem Rep.set {w : World} {q : Addr} {u : Value} (hq : ∀ l r, w.heap[q.block]? ≠ some (.cells #[l, r] 101)) : ∀ {T p}, Rep w T p → Rep (w.setCell q u) T p
  | .leaf, _, hr => hr
  | .node _ _, _, ⟨b, pl, pr, e, h0, hl, hr⟩ => ⟨b, pl, pr, e, by
      rw [Below.heap_setCell _ _ _ _ (fun e2 => hq _ _ (e2 ▸ h0))]; exact h0, Rep.set hq hl, Rep.set hq hr⟩
def GivesP (w : World) (A B : Tr) (e : Ending) (w' : World) : Prop := ∃ pa pb, e = .returned (.agg #[.pointer pa, .pointer pb]) ∧ Rep w' A pa ∧ Rep w' B pb ∧ Ext w w'
set_option maxHeartbeats 3200000 in
set_option maxRecDepth 100000 in
theorem drop_calls (A B : Tr) (k : Nat) (hA : A.carets < 10000000) (hB : B.carets < 10000000) (kA : k ∈ expo A 0) (kB : k ∈ expo B 0) (pa pb : Option Addr) (w : World) (ra : Rep w A pa) (rb : Rep w B pb) :
    Calls Tryz.prog 82 #[.agg #[.pointer pa, .pointer pb], .int .i64 k] w (GivesP w (without A k) (without B k)) := by
  have X1 := Lib.hid ((Ext.refl w).alloc (.cells #[.pointer pa, .pointer pb] 62))
  have X2 := Lib.hid (X1.out.alloc (.cells #[.pointer none, .pointer none] 62))
  have C1 := fun W (hx : Ext w W) => without_calls A k pa W (by omega) kA (ra.ext hx)
  have C2 := fun W (hx : Ext w W) => without_calls B k pb W (by omega) kB (rb.ext hx)
  have c0 : ((w.alloc (.cells #[.pointer pa, .pointer pb] 62)).alloc (.cells #[.pointer none, .pointer none] 62)).cell? ⟨w.heap.size, 0, none⟩ = some (.pointer pa) := by go_simp
  have c1 : ((w.alloc (.cells #[.pointer pa, .pointer pb] 62)).alloc (.cells #[.pointer none, .pointer none] 62)).cell? ⟨w.heap.size, 1, none⟩ = some (.pointer pb) := by go_simp
  have t0 : Two ((w.alloc (.cells #[.pointer pa, .pointer pb] 62)).alloc (.cells #[.pointer none, .pointer none] 62)) (w.heap.size + 1) 62 := ⟨_, _, by
    have := heap_alloc_new (w.alloc (.cells #[.pointer pa, .pointer pb] 62)) (.cells #[.pointer none, .pointer none] 62)
    simpa using this⟩
  clear kA kB ra rb hA hB
  go_enter Tryz.func82, Tryz.ntmps82
  go_wp2_with fail
  generalize (w.alloc (.cells #[.pointer pa, .pointer pb] 62)).alloc (.cells #[.pointer none, .pointer none] 62) = W at *
  go_region_held3 (fun w' => w'.cell? ⟨w.heap.size, 0, none⟩ = some (.pointer pa) ∧ w'.cell? ⟨w.heap.size, 1, none⟩ = some (.pointer pb) ∧ Ext w w')
    (first | exact ⟨c0, c1, X2.out.drew⟩ | exact two_cells_set _ _ (x3.cell c0) (x3.cell c1) (by omega) (X2.out.trans x3) (by omega) | exact ⟨x3.cell c0, x3.cell c1, X2.out.trans x3⟩ | exact ⟨x1.cell c0, x1.cell c1, X2.out.trans x1⟩ | fail)
    (first
      | (go_at_call_of 104 (Value.pointer pa); refine (C1 _ (X2.out.trans (Ext.refl W).drew)).mono ?_; rintro e w1 ⟨p1, rfl, r1, hx1⟩; have x1 := (Ext.refl W).drew.trans hx1)
      | (go_at_call_of 104 (Value.pointer pb); refine (C2 _ (X2.out.trans x1)).mono ?_; rintro e w3 ⟨p3, rfl, r3, hx3⟩; have x3 := x1.trans hx3; obtain ⟨u, v, k0, k1, f0, f1⟩ := (t0.ext x3).facts)
      | fail)
  have T3 := t0.ext x3
  have HH := set2_heap T3 (.pointer p1) (.pointer p3)
  have R1 := Rep.set2 T3 (by decide) (.pointer p1) (.pointer p3) (r1.ext hx3)
  have R3 := Rep.set2 T3 (by decide) (.pointer p1) (.pointer p3) r3
  have XX := (X2.out.trans x3).set2 (g := w.heap.size + 1) (by omega) (.pointer p1) (.pointer p3)
  change Exit.then _ _ _ _ (N.set2 w3 (w.heap.size + 1) (.pointer p1) (.pointer p3))
  obtain ⟨hc0, hc1⟩ := cells_of HH
  generalize N.set2 w3 (w.heap.size + 1) (.pointer p1) (.pointer p3) = W3 at *
  go_wp2_with fail
  exact bodyPost_ret (v := .agg #[.pointer p1, .pointer p3]) (by simp [results, Tryz.results82, go_sem, hc0, hc1]) rfl ⟨p1, p3, rfl, R1, R3, XX⟩
set_option maxHeartbeats 3200000 in
set_option maxRecDepth 100000 in
theorem reduced_calls (A B : Tr) (hA : A.carets < 10000000) (hB : B.carets < 10000000) (pa pb : Option Addr) (w : World) (ra : Rep w A pa) (rb : Rep w B pb) :
    Calls Tryz.prog 44 #[.agg #[.pointer pa, .pointer pb]] w (GivesP w (red (A, B)).1 (red (A, B)).2) := by
  have X1 := Lib.hid ((Ext.refl w).alloc (.cells #[.pointer pa, .pointer pb] 62))
  have X2 := Lib.hid (X1.out.alloc (.cells #[.pointer none, .pointer none] 62))
  have B0 : Hid (((w.alloc (.cells #[.pointer pa, .pointer pb] 62)).alloc (.cells #[.pointer none, .pointer none] 62)).heap[w.heap.size]? = some (.cells #[.pointer pa, .pointer pb] 62)) := ((Ext.refl _).alloc _).at (heap_alloc_new w _)
  have t0 : Hid (Two ((w.alloc (.cells #[.pointer pa, .pointer pb] 62)).alloc (.cells #[.pointer none, .pointer none] 62)) (w.heap.size + 1) 62) := ⟨_, _, by
    have := heap_alloc_new (w.alloc (.cells #[.pointer pa, .pointer pb] 62)) (.cells #[.pointer none, .pointer none] 62)
    simpa using this⟩
  have RA := Lib.hid (ra.ext X2.out)
  have RB := Lib.hid (rb.ext X2.out)
  have LE := Lib.hid (And.intro hA hB)
  clear hA hB ra rb
  go_enter Tryz.func44, Tryz.ntmps44
  go_wp2_with fail
  generalize (w.alloc (.cells #[.pointer pa, .pointer pb] 62)).alloc (.cells #[.pointer none, .pointer none] 62) = W at *
  go_loopg [3] A.carets (fun f v3 wr => ∃ (C D : Tr) (qa qb : Option Addr), Hid (C.carets = f) ∧ Hid (C.carets < 10000000 ∧ D.carets < 10000000) ∧ Hid (red (C, D) = red (A, B)) ∧ Hid (wr.heap[w.heap.size]? = some (.cells #[.pointer qa, .pointer qb] 62)) ∧ Hid (Two wr (w.heap.size + 1) 62) ∧ Hid (Rep wr C qa) ∧ Hid (Rep wr D qb) ∧ Hid (Ext w wr))
  case atStart => exact ⟨A, B, pa, pb, rfl, LE.out, rfl, B0.out, t0.out, RA.out, RB.out, X2.out⟩
  case round =>
    obtain ⟨C, D, qa, qb, HF, HL, HR, HB, HT, HC, HD, HX⟩ := hrel
    obtain ⟨c0, c1⟩ := cells_of HB.out
    have CB := both_calls C D HL.out.1 HL.out.2 qa qb wr HC.out HD.out
    cases hb : bothT C D with
    | nil =>
      rw [hb] at CB
      have CB := Lib.hid CB
      have RN : Hid (red (A, B) = (C, D)) := by show _ = _; rw [← HR.out, red_nil hb]
      clear hb
      go_wp2_with fail
      refine CB.out.mono ?_
      rintro e w1 ⟨v1, rfl, o1, x1⟩
      obtain ⟨A1, n1, e1, _⟩ := o1.reads
      subst e1
      have X1 := Lib.hid x1
      obtain ⟨d0, d1⟩ := cells_of (x1.at HB.out)
      obtain ⟨u, v, k0, k1, f0, f1⟩ := (HT.out.ext x1).facts
      clear o1 x1 c0 c1
      go_wp2_with fail
      have T3 := HT.out.ext X1.out
      have HH := set2_heap T3 (.pointer qa) (.pointer qb)
      have R1 := Rep.set2 T3 (by decide) (.pointer qa) (.pointer qb) (HC.out.ext X1.out)
      have R3 := Rep.set2 T3 (by decide) (.pointer qa) (.pointer qb) (HD.out.ext X1.out)
      have XX := (HX.out.trans X1.out).set2 (g := w.heap.size + 1) (by omega) (.pointer qa) (.pointer qb)
      change bodyPost _ _ _ _ _ (N.set2 w1 (w.heap.size + 1) (.pointer qa) (.pointer qb))
      obtain ⟨hc0, hc1⟩ := cells_of HH
      generalize N.set2 w1 (w.heap.size + 1) (.pointer qa) (.pointer qb) = W3 at *
      refine bodyPost_ret (v := .agg #[.pointer qa, .pointer qb]) (by simp [results, Tryz.results44, go_sem, hc0, hc1]) rfl ?_
      rw [RN.out]
      exact ⟨qa, qb, rfl, R1, R3, XX⟩
    | cons k l =>
      rw [hb] at CB
      have CB := Lib.hid CB
      have MB := Lib.hid (mem_both (A := C) (B := D) (k := k) (by rw [hb]; exact List.mem_cons_self))
      have RN : Hid (red (without C k, without D k) = red (A, B)) := by show _ = _; rw [← HR.out]; exact (red_cons (p := (C, D)) hb).symm
      have LC := Lib.hid (And.intro (without_carets C k MB.out.1) (without_carets D k MB.out.2))
      clear hb
      go_wp2_with fail
      refine CB.out.mono ?_
      rintro e w1 ⟨v1, rfl, o1, x1⟩
      obtain ⟨A1, n1, e1, _, rd⟩ := o1.reads
      subst e1
      rw [nats_length] at *
      obtain ⟨ad, hA1, ca⟩ := rd (by simp)
      subst hA1
      have c2 : w1.cell? ad = some (.int .i64 k) := ca 0 _ (nats_get (k :: l) 0 (by simp))
      have X1 := Lib.hid x1
      obtain ⟨d0, d1⟩ := cells_of (x1.at HB.out)
      have CD := fun W' (hx : Ext w1 W') => drop_calls C D k HL.out.1 HL.out.2 MB.out.1 MB.out.2 qa qb W' (HC.out.ext (x1.trans hx)) (HD.out.ext (x1.trans hx))
      have hlen : 0 < (k :: l).length := by simp
      clear o1 x1 c0 c1 rd ca
      generalize (k :: l).length = m at *
      have t1 : ((m : Int) == 0) = false := by rw [beq_eq_false_iff_ne]; omega
      have t2 : (0 : Int) < m := by omega
      go_wp2_with fail
      go_still_tail 4, (by kernel_rfl)
      go_wp2_with fail
      refine (CD _ (Ext.refl _).drew).mono ?_
      rintro e w2 ⟨p1, p2, rfl, r1, r2, hx2⟩
      have x2 : Ext w1 w2 := (Ext.refl _).drew.trans hx2
      have X2 := Lib.hid (X1.out.trans x2)
      have TB : Hid (Two w2 w.heap.size 62) := ⟨_, _, X2.out.at HB.out⟩
      obtain ⟨u, v, k0, k1, f0, f1⟩ := TB.out.facts
      clear CD hx2 x2
      go_wp2_with fail
      have R1 := Lib.hid (Rep.set2 TB.out (by decide) (.pointer p1) (.pointer p2) r1)
      have R2 := Lib.hid (Rep.set2 TB.out (by decide) (.pointer p1) (.pointer p2) r2)
      have XX := Lib.hid ((HX.out.trans X2.out).set2 (g := w.heap.size) (Nat.le_refl _) (.pointer p1) (.pointer p2))
      have HH := Lib.hid (set2_heap TB.out (.pointer p1) (.pointer p2))
      have T3 : Hid (Two (N.set2 w2 w.heap.size (.pointer p1) (.pointer p2)) (w.heap.size + 1) 62) := by
        obtain ⟨u, v, e⟩ := HT.out.ext X2.out
        exact ⟨u, v, by rw [set2_other (by omega)]; exact e⟩
      clear r1 r2 k0 k1 f0 f1
      go_roundg (without C k).carets
      · exact ⟨without C k, without D k, p1, p2, rfl, ⟨by have := LC.out; have := HL.out; omega, by have := LC.out; have := HL.out; omega⟩, RN.out, HH.out, T3.out, R1.out, R2.out, XX.out⟩
      · have := LC.out
        have := HF.out
        omega
end Go.Proofs.YtijnadjgmmednaaGreat.N
namespace Go.Proofs.YtijnadjgmmednaaGreat.N
open Go.RowKit
set_option maxHeartbeats 3200000 in
set_option maxRecDepth 100000 in
theorem plain_calls (A B : Tr) (hA : A.carets < 100000000) (hB : B.carets < 100000000) (pa pb : Option Addr) (w : World) (ra : Rep w A pa) (rb : Rep w B pb) :
    Calls Tryz.prog 38 #[.agg #[.pointer pa, .pointer pb]] w fun e w' => e = .returned (.agg #[.string (tx A), .string (tx B)]) ∧ Ext w w' := by
  have X1 := Lib.hid ((Ext.refl w).alloc (.cells #[.pointer pa, .pointer pb] 62))
  have X2 := Lib.hid (X1.out.alloc (.cells #[.string ⟨#[]⟩, .string ⟨#[]⟩] 25))
  have C1 := fun W (hx : Ext w W) => text_calls A pa W (by omega) (ra.ext hx)
  have C2 := fun W (hx : Ext w W) => text_calls B pb W (by omega) (rb.ext hx)
  have c0 : ((w.alloc (.cells #[.pointer pa, .pointer pb] 62)).alloc (.cells #[.string ⟨#[]⟩, .string ⟨#[]⟩] 25)).cell? ⟨w.heap.size, 0, none⟩ = some (.pointer pa) := by go_simp
  have c1 : ((w.alloc (.cells #[.pointer pa, .pointer pb] 62)).alloc (.cells #[.string ⟨#[]⟩, .string ⟨#[]⟩] 25)).cell? ⟨w.heap.size, 1, none⟩ = some (.pointer pb) := by go_simp
  have t0 : Two ((w.alloc (.cells #[.pointer pa, .pointer pb] 62)).alloc (.cells #[.string ⟨#[]⟩, .string ⟨#[]⟩] 25)) (w.heap.size + 1) 25 := ⟨_, _, by
    have := heap_alloc_new (w.alloc (.cells #[.pointer pa, .pointer pb] 62)) (.cells #[.string ⟨#[]⟩, .string ⟨#[]⟩] 25)
    simpa using this⟩
  clear ra rb hA hB
  go_enter Tryz.func38, Tryz.ntmps38
  go_wp2_with fail
  generalize (w.alloc (.cells #[.pointer pa, .pointer pb] 62)).alloc (.cells #[.string ⟨#[]⟩, .string ⟨#[]⟩] 25) = W at *
  go_region_held3 (fun w' => w'.cell? ⟨w.heap.size, 0, none⟩ = some (.pointer pa) ∧ w'.cell? ⟨w.heap.size, 1, none⟩ = some (.pointer pb) ∧ Ext w w')
    (first | exact ⟨c0, c1, X2.out.drew⟩ | exact ⟨c0, c1, X2.out.drewN _⟩ | exact two_cells_set _ _ (w0 := w) (W := W.drewN _) c0 c1 (by omega) (X2.out.drewN _) (by omega) | fail)
    (first
      | (go_at_call_of 77 (Value.pointer pa); refine (C1 _ X2.out.drew).mono ?_; rintro e w1 ⟨rfl, n1, rfl⟩)
      | (go_at_call_of 77 (Value.pointer pb); refine (C2 _ (X2.out.drewN _)).mono ?_; rintro e w3 ⟨rfl, n3, rfl⟩; obtain ⟨u, v, k0, k1, f0, f1⟩ := (t0.ext ((Ext.refl W).drewN (1 + n1 + n3))).facts)
      | fail)
  have x3 := (Ext.refl W).drewN (1 + n1 + n3)
  have T3 := t0.ext x3
  have HH := set2_heap T3 (.string (tx A)) (.string (tx B))
  have XX := (X2.out.trans x3).set2 (g := w.heap.size + 1) (by omega) (.string (tx A)) (.string (tx B))
  change Exit.then _ _ _ _ (N.set2 _ (w.heap.size + 1) (.string (tx A)) (.string (tx B)))
  obtain ⟨hc0, hc1⟩ := cells_of HH
  generalize N.set2 _ (w.heap.size + 1) (.string (tx A)) (.string (tx B)) = W3 at *
  go_wp2_with fail
  exact bodyPost_ret (v := .agg #[.string (tx A), .string (tx B)]) (by simp [results, Tryz.results38, go_sem, hc0, hc1]) rfl ⟨rfl, XX⟩
theorem box_facts (w : World) (pa pb : Option Addr) (s t : ByteArray) :
    Ext w ((w.alloc (.cells #[.pointer pa, .pointer pb] 62)).alloc (.cells #[.string s, .string t] 25)) ∧
    ((w.alloc (.cells #[.pointer pa, .pointer pb] 62)).alloc (.cells #[.string s, .string t] 25)).cell? ⟨w.heap.size, 0, none⟩ = some (.pointer pa) ∧
    ((w.alloc (.cells #[.pointer pa, .pointer pb] 62)).alloc (.cells #[.string s, .string t] 25)).cell? ⟨w.heap.size, 1, none⟩ = some (.pointer pb) ∧
    Two ((w.alloc (.cells #[.pointer pa, .pointer pb] 62)).alloc (.cells #[.string s, .string t] 25)) (w.heap.size + 1) 25 :=
  ⟨((Ext.refl w).alloc _).alloc _, by go_simp, by go_simp, ⟨_, _, by
    have := heap_alloc_new (w.alloc (.cells #[.pointer pa, .pointer pb] 62)) (.cells #[.string s, .string t] 25)
    simpa using this⟩⟩
set_option maxHeartbeats 3200000 in
set_option maxRecDepth 100000 in
theorem fits_yes (A B : Tr) (hA : A.carets ≤ 8) (hB : B.carets < 100000000) (pa pb : Option Addr) (w : World) (ra : Rep w A pa) (rb : Rep w B pb) :
    Calls Tryz.prog 40 #[.agg #[.pointer pa, .pointer pb]] w fun e w' => e = .returned (.tuple #[.agg #[.string (tx A), .string (tx B)], .bool true]) ∧ Ext w w' := by
  obtain ⟨X2, c0, c1, t0⟩ := box_facts w pa pb ⟨#[]⟩ ⟨#[]⟩
  have X2 := Lib.hid X2
  have C1 := fun W (hx : Ext w W) => carets_calls A pa W (by omega) (ra.ext hx)
  have C2 := fun W (hx : Ext w W) => plain_calls A B (by omega) hB pa pb W (ra.ext hx) (rb.ext hx)
  have b0 : (A.carets : Int) ≤ 8 := by omega
  clear ra rb hA hB
  go_enter Tryz.func40, Tryz.ntmps40
  go_wp2_with fail
  generalize (w.alloc (.cells #[.pointer pa, .pointer pb] 62)).alloc (.cells #[.string ⟨#[]⟩, .string ⟨#[]⟩] 25) = W at *
  refine (C1 _ X2.out).mono ?_
  rintro e w1 ⟨rfl, n1, rfl⟩
  go_wp2_with fail
  refine (C2 _ (X2.out.drewN _)).mono ?_
  rintro e w3 ⟨rfl, hx3⟩
  have x3 := ((Ext.refl W).drewN _).trans hx3
  obtain ⟨u, v, k0, k1, f0, f1⟩ := (t0.ext x3).facts
  clear hx3
  go_wp2_with fail
  have T3 := t0.ext x3
  have HH := set2_heap T3 (.string (tx A)) (.string (tx B))
  have XX := (X2.out.trans x3).set2 (g := w.heap.size + 1) (by omega) (.string (tx A)) (.string (tx B))
  change bodyPost _ _ _ _ _ (N.set2 _ (w.heap.size + 1) (.string (tx A)) (.string (tx B)))
  obtain ⟨hc0, hc1⟩ := cells_of HH
  generalize N.set2 _ (w.heap.size + 1) (.string (tx A)) (.string (tx B)) = W3 at *
  exact bodyPost_ret (v := .tuple #[.agg #[.string (tx A), .string (tx B)], .bool true]) (by simp [results, Tryz.results40, go_sem, hc0, hc1]) rfl ⟨rfl, XX⟩
set_option maxHeartbeats 3200000 in
set_option maxRecDepth 100000 in
theorem fits_no (A B : Tr) (hA : 8 < A.carets) (hB : A.carets < 100000000) (pa pb : Option Addr) (w : World) (ra : Rep w A pa) :
    Calls Tryz.prog 40 #[.agg #[.pointer pa, .pointer pb]] w fun e w' => e = .returned (.tuple #[.agg #[.string ⟨#[]⟩, .string ⟨#[]⟩], .bool false]) ∧ Ext w w' := by
  obtain ⟨X2, c0, c1, t0⟩ := box_facts w pa pb ⟨#[]⟩ ⟨#[]⟩
  have X2 := Lib.hid X2
  have C1 := fun W (hx : Ext w W) => carets_calls A pa W (by omega) (ra.ext hx)
  have b0 : (8 : Int) < (A.carets : Int) := by omega
  clear ra hA hB
  go_enter Tryz.func40, Tryz.ntmps40
  go_wp2_with fail
  generalize (w.alloc (.cells #[.pointer pa, .pointer pb] 62)).alloc (.cells #[.string ⟨#[]⟩, .string ⟨#[]⟩] 25) = W at *
  refine (C1 _ (by first | exact X2.out.drew | exact X2.out)).mono ?_
  rintro e w1 ⟨rfl, n1, rfl⟩
  have x3 := (Ext.refl W).drewN n1
  obtain ⟨u, v, k0, k1, f0, f1⟩ := (t0.ext x3).facts
  go_wp2_with fail
  have T3 := t0.ext x3
  have HH := set2_heap T3 (.string ⟨#[]⟩) (.string ⟨#[]⟩)
  have XX := (X2.out.trans x3).set2 (g := w.heap.size + 1) (by omega) (.string ⟨#[]⟩) (.string ⟨#[]⟩)
  change bodyPost _ _ _ _ _ (N.set2 _ (w.heap.size + 1) (.string ⟨#[]⟩) (.string ⟨#[]⟩))
  obtain ⟨hc0, hc1⟩ := cells_of HH
  generalize N.set2 _ (w.heap.size + 1) (.string ⟨#[]⟩) (.string ⟨#[]⟩) = W3 at *
  exact bodyPost_ret (v := .tuple #[.agg #[.string ⟨#[]⟩, .string ⟨#[]⟩], .bool false]) (by simp [results, Tryz.results40, go_sem, hc0, hc1]) rfl ⟨rfl, XX⟩
def Good (s t : ByteArray) : Prop := ∃ A B, s = tx A ∧ t = tx B ∧ A.carets = B.carets ∧ B.carets ≤ 8
theorem parse_any (s : ByteArray) (w : World) : Calls Tryz.prog 64 #[.string s] w fun e w' => ∃ p b, e = .returned (.tuple #[.pointer p, .bool b]) ∧ Ext w w' ∧ Hid (b = true → ∃ T, s = tx T ∧ T.carets ≤ 8 ∧ Rep w' T p) ∧ Hid (b = false → ¬ ∃ T, s = tx T ∧ T.carets ≤ 8) := by
  by_cases h : ∃ T, s = tx T ∧ T.carets ≤ 8
  · obtain ⟨T, rfl, hT⟩ := h
    refine (parse_yes T w hT).mono ?_
    rintro e w' ⟨p, rfl, hr, hx⟩
    exact ⟨p, true, rfl, hx, (fun _ => ⟨T, rfl, hT, hr⟩), (fun h => by cases h)⟩
  · refine (parse_no s w h).mono ?_
    rintro e w' ⟨rfl, hx⟩
    exact ⟨none, false, rfl, hx, (fun h => by cases h), fun _ => h⟩
def PairPost (w : World) (s t : ByteArray) (e : Ending) (w' : World) : Prop := ∃ pa pb b, e = .returned (.tuple #[.agg #[.pointer pa, .pointer pb], .bool b]) ∧ Ext w w' ∧ Hid (b = true → ∃ A B, s = tx A ∧ t = tx B ∧ A.carets = B.carets ∧ B.carets ≤ 8 ∧ Rep w' A pa ∧ Rep w' B pb) ∧ Hid (b = false → ¬ Good s t)
set_option maxHeartbeats 3200000 in
set_option maxRecDepth 100000 in
theorem pairOf_calls (s t : ByteArray) (w : World) :
    Calls Tryz.prog 41 #[.agg #[.string s, .string t]] w (PairPost w s t) := by
  have X2 := Lib.hid (((Ext.refl w).alloc (.cells #[.string s, .string t] 25)).alloc (.cells #[.pointer none, .pointer none] 62))
  have c0 : ((w.alloc (.cells #[.string s, .string t] 25)).alloc (.cells #[.pointer none, .pointer none] 62)).cell? ⟨w.heap.size, 0, none⟩ = some (.string s) := by go_simp
  have c1 : ((w.alloc (.cells #[.string s, .string t] 25)).alloc (.cells #[.pointer none, .pointer none] 62)).cell? ⟨w.heap.size, 1, none⟩ = some (.string t) := by go_simp
  have t0 : Two ((w.alloc (.cells #[.string s, .string t] 25)).alloc (.cells #[.pointer none, .pointer none] 62)) (w.heap.size + 1) 62 := ⟨_, _, by
    have := heap_alloc_new (w.alloc (.cells #[.string s, .string t] 25)) (.cells #[.pointer none, .pointer none] 62)
    simpa using this⟩
  go_enter Tryz.func41, Tryz.ntmps41
  go_wp2_with fail
  generalize (w.alloc (.cells #[.string s, .string t] 25)).alloc (.cells #[.pointer none, .pointer none] 62) = W at *
  refine (parse_any s _).mono ?_
  rintro e w1 ⟨pa, b1, rfl, x1, y1, n1⟩
  have d1 := x1.cell c1
  have T1 := t0.ext x1
  have X3 := Lib.hid (X2.out.trans x1)
  clear c0 c1 t0
  go_wp2_with fail
  refine (parse_any t _).mono ?_
  rintro e w2 ⟨pb, b2, rfl, x2, y2, n2⟩
  have X4 := Lib.hid (X3.out.trans x2)
  have T2 := T1.ext x2
  obtain ⟨u, v, k0, k1, f0, f1⟩ := T2.facts
  have T2 := Lib.hid T2
  have x2 := Lib.hid x2
  clear d1 T1 x1
  cases b1 with
  | false =>
    have NG : Hid (¬ Good s t) := by
      rintro ⟨A, B, rfl, rfl, h1, h2⟩
      exact n1.out rfl ⟨A, rfl, by omega⟩
    clear y1 n1 y2 n2
    go_wp2_with fail
    have HH := set2_heap T2.out (.pointer pa) (.pointer pb)
    have XX := X4.out.set2 (g := w.heap.size + 1) (by omega) (.pointer pa) (.pointer pb)
    change bodyPost _ _ _ _ _ (N.set2 _ (w.heap.size + 1) (.pointer pa) (.pointer pb))
    obtain ⟨hc0, hc1⟩ := cells_of HH
    generalize N.set2 _ (w.heap.size + 1) (.pointer pa) (.pointer pb) = W3 at *
    exact bodyPost_ret (v := .tuple #[.agg #[.pointer pa, .pointer pb], .bool false]) (by simp [results, Tryz.results41, go_sem, hc0, hc1]) rfl ⟨_, _, _, rfl, XX, (fun h => by cases h), fun _ => NG.out⟩
  | true =>
    have Y1 := y1.out rfl
    cases b2 with
    | false =>
      have NG : Hid (¬ Good s t) := by
        rintro ⟨A, B, rfl, rfl, h1, h2⟩
        exact n2.out rfl ⟨B, rfl, h2⟩
      clear y1 n1 y2 n2 Y1
      go_wp2_with fail
      have HH := set2_heap T2.out (.pointer pa) (.pointer pb)
      have XX := X4.out.set2 (g := w.heap.size + 1) (by omega) (.pointer pa) (.pointer pb)
      change bodyPost _ _ _ _ _ (N.set2 _ (w.heap.size + 1) (.pointer pa) (.pointer pb))
      obtain ⟨hc0, hc1⟩ := cells_of HH
      generalize N.set2 _ (w.heap.size + 1) (.pointer pa) (.pointer pb) = W3 at *
      exact bodyPost_ret (v := .tuple #[.agg #[.pointer pa, .pointer pb], .bool false]) (by simp [results, Tryz.results41, go_sem, hc0, hc1]) rfl ⟨_, _, _, rfl, XX, (fun h => by cases h), fun _ => NG.out⟩
    | true =>
      obtain ⟨B, hB, lB, rB⟩ := y2.out rfl
      obtain ⟨A, hA, lA, rA⟩ := Y1
      subst hA hB
      have rA := rA.ext x2.out
      have C1 := fun W (hx : Ext w2 W) => carets_calls A pa W (by omega) (rA.ext hx)
      have C2 := fun W (hx : Ext w2 W) => carets_calls B pb W (by omega) (rB.ext hx)
      have RA := Lib.hid rA
      have RB := Lib.hid rB
      have LL := Lib.hid (And.intro lA lB)
      clear y1 n1 y2 n2 rA rB lA lB
      have YY : Hid ((((A.carets : Int) == (B.carets : Int)) = true) → A.carets = B.carets) := by
        intro h; have := eq_of_beq h; omega
      have NN : Hid ((((A.carets : Int) == (B.carets : Int)) = false) → ¬ Good (tx A) (tx B)) := by
        rintro h ⟨A', B', h1, h2, h3, _⟩
        obtain rfl := tx_inj h1
        obtain rfl := tx_inj h2
        rw [h3] at h
        simp at h
      go_wp2_with fail
      refine (C1 _ (Ext.refl _)).mono ?_
      rintro e w3 ⟨rfl, m1, rfl⟩
      go_wp2_with fail
      refine (C2 _ ((Ext.refl _).drewN _)).mono ?_
      rintro e w3 ⟨rfl, m2, rfl⟩
      go_wp2_with fail
      have x3 := (Ext.refl w2).drewN (m1 + m2)
      have T3 := T2.out.ext x3
      have HH := set2_heap T3 (.pointer pa) (.pointer pb)
      have XX := (X4.out.trans x3).set2 (g := w.heap.size + 1) (by omega) (.pointer pa) (.pointer pb)
      have Q1 := Rep.set2 T3 (by decide) (.pointer pa) (.pointer pb) (RA.out.ext x3)
      have Q2 := Rep.set2 T3 (by decide) (.pointer pa) (.pointer pb) (RB.out.ext x3)
      change bodyPost _ _ _ _ _ (N.set2 (w2.drewN (m1 + m2)) (w.heap.size + 1) (.pointer pa) (.pointer pb))
      obtain ⟨hc0, hc1⟩ := cells_of HH
      generalize N.set2 _ (w.heap.size + 1) (.pointer pa) (.pointer pb) = W3 at *
      generalize ((A.carets : Int) == (B.carets : Int)) = bb at *
      exact bodyPost_ret (v := .tuple #[.agg #[.pointer pa, .pointer pb], .bool bb]) (by simp [results, Tryz.results41, go_sem, hc0, hc1]) rfl ⟨_, _, _, rfl, XX, (fun h => ⟨A, B, rfl, rfl, YY.out h, LL.out.2, Q1, Q2⟩), fun h => NN.out h⟩
def emptyP : Value := .agg #[.string ⟨#[]⟩, .string ⟨#[]⟩]
def ifP (p : Tr × Tr) : Value := if p.1.carets ≤ 8 then .tuple #[.agg #[.string (tx p.1), .string (tx p.2)], .bool true] else .tuple #[emptyP, .bool false]
theorem ifP_two (p : Tr × Tr) : ∃ s t b, ifP p = .tuple #[.agg #[.string s, .string t], .bool b] := by
  unfold ifP; split
  · exact ⟨_, _, _, rfl⟩
  · exact ⟨_, _, _, rfl⟩
theorem fits_calls (A B : Tr) (hA : A.carets < 100000000) (hB : B.carets < 100000000) (pa pb : Option Addr) (w : World) (ra : Rep w A pa) (rb : Rep w B pb) :
    Calls Tryz.prog 40 #[.agg #[.pointer pa, .pointer pb]] w fun e w' => e = .returned (ifP (A, B)) ∧ Ext w w' := by
  by_cases h : A.carets ≤ 8
  · rw [show ifP (A, B) = _ from if_pos h]; exact fits_yes A B h hB pa pb w ra rb
  · rw [show ifP (A, B) = _ from if_neg h]; exact fits_no A B (by omega) hA pa pb w ra
theorem boxS_facts (w : World) (s t : ByteArray) (x y : Value) (ty : TypeId) :
    Ext w ((w.alloc (.cells #[.string s, .string t] 25)).alloc (.cells #[x, y] ty)) ∧
    Two ((w.alloc (.cells #[.string s, .string t] 25)).alloc (.cells #[x, y] ty)) (w.heap.size + 1) ty :=
  ⟨((Ext.refl w).alloc _).alloc _, ⟨_, _, by
    have := heap_alloc_new (w.alloc (.cells #[.string s, .string t] 25)) (.cells #[x, y] ty)
    simpa using this⟩⟩
theorem pairOf_yes (A B : Tr) (hc : A.carets = B.carets) (hB : B.carets ≤ 8) (w : World) : Calls Tryz.prog 41 #[.agg #[.string (tx A), .string (tx B)]] w fun e w' => ∃ pa pb, e = .returned (.tuple #[.agg #[.pointer pa, .pointer pb], .bool true]) ∧ Rep w' A pa ∧ Rep w' B pb ∧ Ext w w' := by
  refine (pairOf_calls _ _ w).mono ?_
  rintro e w1 ⟨pa, pb, b, rfl, x1, y1, n1⟩
  cases b with
  | false => exact absurd ⟨A, B, rfl, rfl, hc, hB⟩ (n1.out rfl)
  | true =>
    obtain ⟨A', B', hA, hB', h1, h2, rA, rB⟩ := y1.out rfl
    obtain rfl := tx_inj hA
    obtain rfl := tx_inj hB'
    exact ⟨pa, pb, rfl, rA, rB, x1⟩
theorem pairOf_no (s t : ByteArray) (h : ¬ Good s t) (w : World) : Calls Tryz.prog 41 #[.agg #[.string s, .string t]] w fun e w' => ∃ pa pb, e = .returned (.tuple #[.agg #[.pointer pa, .pointer pb], .bool false]) ∧ Ext w w' := by
  refine (pairOf_calls _ _ w).mono ?_
  rintro e w1 ⟨pa, pb, b, rfl, x1, y1, n1⟩
  cases b with
  | true =>
    obtain ⟨A', B', hA, hB', h1, h2, rA, rB⟩ := y1.out rfl
    exact absurd ⟨A', B', hA, hB', h1, h2⟩ h
  | false => exact ⟨pa, pb, rfl, x1⟩
end Go.Proofs.YtijnadjgmmednaaGreat.N
namespace Go.Proofs.YtijnadjgmmednaaGreat.N
open Go.RowKit
set_option maxHeartbeats 1600000 in
theorem rightComb_calls (n : Nat) (hn : n < 1000000) (w : World) :
    Calls Tryz.prog 105 #[.int .i64 n] w (GivesT w (comb n)) := by
  go_enter Tryz.func105, Tryz.ntmps105
  go_wp2_with fail
  go_loopw [3, 5] (fun t i wr => ∃ (k : Nat) (p : Option Addr), k ≤ n ∧ i = .int .i64 k ∧ t = .pointer p ∧ Hid (Rep wr (comb k) p) ∧ Hid (Ext w wr)) (fun _ i _ => n - (intOf i).toNat)
  case atStart => exact ⟨0, none, Nat.zero_le _, rfl, rfl, rfl, Ext.refl _⟩
  case round =>
    obtain ⟨k, p, hk, rfl, rfl, HR, HX⟩ := hrel
    by_cases hlt : k < n
    · have h1 : (k : Int) < n := by omega
      have h0 : (0 : Int) ≤ k := by omega
      have R2 := Lib.hid (Rep.made (pl := none) (l := .leaf) rfl HR.out)
      have X2 := Lib.hid (HX.out.alloc (.cells #[.pointer none, .pointer p] 101))
      go_wp2_with fail
      exact ⟨⟨k + 1, _, by omega, by go_num, rfl, R2.out, X2.out⟩, by simp [intOf]; omega⟩
    · have h1 : (n : Int) ≤ k := by omega
      obtain rfl : k = n := by omega
      go_wp2_with fail
      go_ret
      exact ⟨p, rfl, HR.out, HX.out⟩
def Run (F : FuncId) : Prop := ∀ args w, (callFunc F args).run Tryz.prog w = .ok (.enter F args) w
theorem run_of {f : FuncId} {fn : Func} (hf : Tryz.prog.funcs[f]? = some fn) (hname : (fn.name == "runtime.NumGoroutine") = false) (hb : fn.body.isNone = false) : Run f := by
  intro args w
  have h1 : fn.name ≠ "runtime.NumGoroutine" := by simpa using hname
  obtain ⟨c, hc⟩ := Option.isSome_iff_exists.1 (by cases h : fn.body <;> simp_all : fn.body.isSome = true)
  simp [callFunc, hf, h1, hc]
structure Clo (w : World) (N : Nat) (h : Nat → Tr) (F : FuncId) (cap : Array Value) : Prop where
  run : Run F
  call : ∀ k, k < N → ∀ w', Ext w w' → Calls Tryz.prog F (#[.int .i64 k] ++ cap) w' (GivesT w' (h k))
theorem Clo.ext {w w' : World} {N h F cap} (k : Clo w N h F cap) (hx : Ext w w') : Clo w' N h F cap := ⟨k.run, fun i hi w2 h2 => k.call i hi w2 (hx.trans h2)⟩
set_option maxHeartbeats 1600000 in
set_option maxRecDepth 100000 in
theorem grown_calls (h : Nat → Tr) (N : Nat) (F : FuncId) (cap : Array Value) (T : Tr) : ∀ (p : Option Addr) (k : Nat) (w : World), k + T.carets < N → N < 1000000000 → Rep w T p →
    Clo w N h F cap →
    Calls Tryz.prog 99 #[.pointer p, .int .i64 k, .func (.func F) #[] cap] w (GivesT w (T.grown h k)) := by
  induction T with
  | leaf =>
    rintro v k w hk hN rfl hC
    have HC := Lib.hid hC
    clear hC
    go_enter Tryz.func99, Tryz.ntmps99
    go_wp2_with fail
    rw [HC.out.run]
    refine (HC.out.call k (by simp only [Tr.carets] at hk; omega) _ (Ext.refl _)).mono ?_
    rintro e w' ⟨v, rfl, hv, hx⟩
    have HV := Lib.hid (And.intro hv hx)
    clear hv hx
    go_wp2_with fail
    go_ret
    exact ⟨v, rfl, HV.out.1, HV.out.2⟩
  | node l r ihl ihr =>
    rintro p k w hk hN hr hC
    obtain ⟨b, pl, pr, rfl, h0, h1, hl, hr'⟩ := hr.open
    have HC := Lib.hid hC
    have e1 : 0 ≤ (l.carets : Int) ∧ (k : Int) + l.carets + 1 < 1000000000 := by simp only [Tr.carets] at hk; omega
    have W1 : Hid ((k : Int) + (l.carets + 1) = ((k + (l.carets + 1) : Nat) : Int)) := by show _ = _; omega
    have W2 : IntKind.i64.wrap ((k : Int) + (l.carets + 1)) = (k : Int) + (l.carets + 1) := wrap_ok (by omega)
    have HL := Lib.hid hl
    have HR := Lib.hid hr'
    have HK : Hid (k + l.carets < N ∧ k + (l.carets + 1) + r.carets < N ∧ l.carets < 1000000000) := by simp only [Tr.carets] at hk; exact ⟨by omega, by omega, by omega⟩
    clear hC hk hl hr hr'
    go_enter Tryz.func99, Tryz.ntmps99
    go_wp2_with fail
    go_region_held3 (fun w' => w'.cell? ⟨b, 0, none⟩ = some (.pointer pl) ∧ w'.cell? ⟨b, 1, none⟩ = some (.pointer pr) ∧ Ext w w')
      (first | exact two_cells h0 h1 (Ext.drew (Ext.refl _)) | exact two_cells h0 h1 (x3.alloc _) | exact two_cells h0 h1 x3 | exact two_cells h0 h1 x2 | exact two_cells h0 h1 x1 | fail)
      (first
      | (go_at_call_of 99 (Value.pointer pl); refine (ihl _ _ _ HK.out.1 hN (HL.out.ext (Ext.refl _).drew) (HC.out.ext (Ext.refl _).drew)).mono ?_; rintro e w1 ⟨v1, rfl, r1, hx1⟩; have x1 := (Ext.refl w).drew.trans hx1)
      | (go_at_call 112; refine (leaves_calls l _ _ HK.out.2.2 (HL.out.ext x1)).mono ?_; rintro e w2 ⟨rfl, n2, rfl⟩; have x2 := x1.drewN n2)
      | (go_at_call_of 99 (Value.pointer pr); rw [W1.out]; refine (ihr _ _ _ HK.out.2.1 hN (HR.out.ext x2) (HC.out.ext x2)).mono ?_; rintro e w3 ⟨v3, rfl, r3, hx3⟩; have x3 := x2.trans hx3)
      | fail)
    go_wp2_with fail
    go_ret
    exact ⟨_, rfl, Rep.made ((r1.ext ((Ext.refl _).drewN n2)).ext hx3) r3, x3.alloc _⟩
set_option maxHeartbeats 1600000 in
theorem graftClo (N n : Nat) (O : Tr) (po : Option Addr) (b c : Nat) (w : World) (hn : n < N) (hN : N < 1000000000) (hb : w.cell? ⟨b, 0, none⟩ = some (.int .i64 n)) (hc : w.cell? ⟨c, 0, none⟩ = some (.pointer po)) (ho : Rep w O po) :
    Clo w N (fun i => if i = n then O else .leaf) 117 #[.pointer (some ⟨b, 0, none⟩), .pointer (some ⟨c, 0, none⟩)] := by
  refine ⟨run_of Tryz.func117 (by kernel_rfl) (by kernel_rfl), fun k hk w' hx => ?_⟩
  have hb := hx.cell hb
  have hc := hx.cell hc
  have HO := Lib.hid (ho.ext hx)
  clear hx ho
  show Calls Tryz.prog 117 #[.int .i64 k, .pointer (some ⟨b, 0, none⟩), .pointer (some ⟨c, 0, none⟩)] w' _
  by_cases he : k = n
  · subst he
    rw [if_pos rfl]
    go_enter Tryz.func117, Tryz.ntmps117
    go_wp2_with fail
    go_ret
    exact ⟨po, rfl, HO.out, Ext.refl _⟩
  · rw [if_neg he]
    have t : ((k : Int) == (n : Int)) = false := by rw [beq_eq_false_iff_ne]; omega
    go_enter Tryz.func117, Tryz.ntmps117
    go_wp2_with fail
    go_ret
    exact ⟨none, rfl, rfl, Ext.refl _⟩
set_option maxHeartbeats 1600000 in
theorem graft_calls (T O : Tr) (n : Nat) (hT : T.carets < 1000000) (hn : n < T.carets + 1) (p po : Option Addr) (w : World) (ht : Rep w T p) (ho : Rep w O po) :
    Calls Tryz.prog 106 #[.pointer p, .int .i64 n, .pointer po] w (GivesT w (graft T n O)) := by
  have XX := Lib.hid (((Ext.refl w).alloc (.cells #[.int .i64 n] 3)).alloc (.cells #[.pointer po] 60))
  have CL := Lib.hid (graftClo (T.carets + 1) n O po w.heap.size (w.heap.size + 1) ((w.alloc (.cells #[.int .i64 n] 3)).alloc (.cells #[.pointer po] 60)) hn (by omega) (by go_simp) (by go_simp) (ho.ext XX.out))
  have HT := Lib.hid (ht.ext XX.out)
  clear ht ho
  go_enter Tryz.func106, Tryz.ntmps106
  go_wp2_with fail
  refine (grown_calls _ (T.carets + 1) _ _ T p 0 _ (by omega) (by omega) HT.out CL.out).mono ?_
  rintro e w' ⟨q, rfl, hq, hx⟩
  have HQ := Lib.hid (And.intro hq (XX.out.trans hx))
  clear hq hx
  go_wp2_with fail
  go_ret
  exact ⟨q, rfl, HQ.out.1, HQ.out.2⟩
set_option maxHeartbeats 1600000 in
set_option maxRecDepth 100000 in
theorem generator_calls (i : Nat) (hi : i < 1000) (w : World) :
    Calls Tryz.prog 84 #[.int .i64 i] w (GivesP w (gen i).1 (gen i).2) := by
  have X0 := Lib.hid ((Ext.refl w).alloc (.cells #[.pointer none, .pointer none] 62))
  have t0 := Two.new w (.pointer none) (.pointer none) 62 rfl
  have C1 := Lib.hid (fun W => rightComb_calls i (by omega) W)
  have C3 := Lib.hid (fun W => rightComb_calls (i + 2) (by omega) W)
  have C2 := Lib.hid (fun p po W => graft_calls (comb i) (.node (.node .leaf .leaf) .leaf) i (by rw [comb_carets]; omega) (by rw [comb_carets]; omega) p po W)
  have hi' : (i : Int) < 1000 ∧ (0 : Int) ≤ i := by omega
  have W2 : Hid ((i : Int) + 2 = ((i + 2 : Nat) : Int)) := by show _ = _; omega
  go_enter Tryz.func84, Tryz.ntmps84
  go_wp2_with fail
  generalize w.alloc (.cells #[.pointer none, .pointer none] 62) = W at *
  refine (C1.out _).mono ?_
  rintro e w1 ⟨p, rfl, r1, x1⟩
  have RN := Lib.hid (Rep.made (l := .leaf) (r := .leaf) (pl := none) (pr := none) (w := w1) rfl rfl)
  have RM := Lib.hid (Rep.made' (l := .node .leaf .leaf) (r := .leaf) (pr := none) (n := w1.heap.size + 1) RN.out rfl (by simp))
  have xx := ((Ext.refl w1).alloc (.cells #[.pointer none, .pointer none] 101)).alloc (.cells #[.pointer (some ⟨w1.heap.size, 0, none⟩), .pointer none] 101)
  have R1 := Lib.hid (r1.ext xx)
  have X1 := Lib.hid ((X0.out.trans x1).trans xx)
  have T1 := Lib.hid (t0.ext (x1.trans xx))
  clear r1 xx x1 t0
  go_wp2_with fail
  refine (C2.out p _ _ R1.out RM.out).mono ?_
  rintro e w2 ⟨q, rfl, r2, x2⟩
  have R2 := Lib.hid r2
  have X2 := Lib.hid (X1.out.trans x2)
  have T2 := Lib.hid (T1.out.ext x2)
  clear r2 x2
  go_wp2_with fail
  rw [W2.out]
  refine (C3.out _).mono ?_
  rintro e w3 ⟨q3, rfl, r3, x3⟩
  have T3 := T2.out.ext x3
  obtain ⟨u, v, k0, k1, f0, f1⟩ := T3.facts
  have R3 := Lib.hid r3
  have R2 := Lib.hid (R2.out.ext x3)
  have X3 := Lib.hid (X2.out.trans x3)
  have T3 := Lib.hid T3
  clear r3 x3
  go_wp2_with fail
  have HH := set2_heap T3.out (.pointer q) (.pointer q3)
  have Q1 := Rep.set2 T3.out (by decide) (.pointer q) (.pointer q3) R2.out
  have Q2 := Rep.set2 T3.out (by decide) (.pointer q) (.pointer q3) R3.out
  have XX := X3.out.set2 (g := w.heap.size) (Nat.le_refl _) (.pointer q) (.pointer q3)
  change bodyPost _ _ _ _ _ (N.set2 _ w.heap.size (.pointer q) (.pointer q3))
  obtain ⟨hc0, hc1⟩ := cells_of HH
  generalize N.set2 _ w.heap.size (.pointer q) (.pointer q3) = W3 at *
  exact bodyPost_ret (v := .agg #[.pointer q, .pointer q3]) (by simp [results, Tryz.results84, go_sem, hc0, hc1]) rfl ⟨q, q3, rfl, Q1, Q2, XX⟩
end Go.Proofs.YtijnadjgmmednaaGreat.N
namespace Go.Proofs.YtijnadjgmmednaaGreat.N
open Go.RowKit
set_option maxHeartbeats 3200000 in
set_option maxRecDepth 100000 in
theorem join_calls (A : Tr) : ∀ (B : Tr) (pa pb : Option Addr) (w : World), Rep w A pa → Rep w B pb →
    Calls Tryz.prog 98 #[.pointer pa, .pointer pb] w (GivesT w (join A B)) := by
  induction A with
  | leaf =>
    rintro B pa pb w rfl hb
    have HB := Lib.hid hb
    clear hb
    go_enter Tryz.func98, Tryz.ntmps98
    go_wp2_with fail
    go_ret
    exact ⟨pb, rfl, HB.out, Ext.refl _⟩
  | node l r ihl ihr =>
    intro B pa pb w ha hb
    cases B with
    | leaf =>
      obtain rfl := hb
      have HA := Lib.hid ha
      obtain ⟨b, pl, pr, rfl, _, _, _, _⟩ := ha.open
      clear ha
      go_enter Tryz.func98, Tryz.ntmps98
      go_wp2_with fail
      go_ret
      exact ⟨_, rfl, HA.out, Ext.refl _⟩
    | node x y =>
      obtain ⟨a, pl, pr, rfl, h0, h1, hl, hr⟩ := ha.open
      obtain ⟨b, ql, qr, rfl, g0, g1, gl, gr⟩ := hb.open
      have HL := Lib.hid (And.intro hl gl)
      have HR := Lib.hid (And.intro hr gr)
      clear ha hb hl hr gl gr
      go_enter Tryz.func98, Tryz.ntmps98
      go_wp2_with fail
      go_region_held3 (fun w' => w'.cell? ⟨a, 0, none⟩ = some (.pointer pl) ∧ w'.cell? ⟨a, 1, none⟩ = some (.pointer pr) ∧ w'.cell? ⟨b, 0, none⟩ = some (.pointer ql) ∧ w'.cell? ⟨b, 1, none⟩ = some (.pointer qr) ∧ Ext w w')
        (first | with_reducible exact four_cells h0 h1 g0 g1 (Ext.drew (Ext.refl _)) | with_reducible exact four_cells h0 h1 g0 g1 (x3.alloc _) | with_reducible exact four_cells h0 h1 g0 g1 x3 | with_reducible exact four_cells h0 h1 g0 g1 x1 | fail)
        (first
        | (go_at_call_of 98 (Value.pointer pl); refine (ihl _ _ _ _ (HL.out.1.ext (Ext.refl _).drew) (HL.out.2.ext (Ext.refl _).drew)).mono ?_; rintro e w1 ⟨v1, rfl, r1, hx1⟩; have x1 := (Ext.refl w).drew.trans hx1)
        | (go_at_call_of 98 (Value.pointer pr); refine (ihr _ _ _ _ (HR.out.1.ext x1) (HR.out.2.ext x1)).mono ?_; rintro e w3 ⟨v3, rfl, r3, hx3⟩; have x3 := x1.trans hx3)
        | fail)
      go_wp2_with fail
      go_ret
      exact ⟨_, rfl, Rep.made (r1.ext hx3) r3, x3.alloc _⟩
set_option maxHeartbeats 3200000 in
set_option maxRecDepth 100000 in
theorem addresses_calls (T : Tr) : ∀ (a : List UInt8) (s : ByteArray) (p : Option Addr) (w : World), T.carets < 10000000 → a.length + T.carets < 100000000 → s = S a → Rep w T p →
    Calls Tryz.prog 113 #[.pointer p, .string s] w (GivesS w (addrs T a)) := by
  induction T with
  | leaf =>
    intro a s p w _ _ hs hr
    obtain rfl := hr
    have OL : Hid (Own (w.alloc (.cells #[.string s] 9)) w.heap.size 9 (.slice (some ⟨w.heap.size, 0, none⟩) 1 1) (sls [a])) := by
      have := Own.lit w w.heap.size 9 #[.string s] (Nat.le_refl _) (by show 1 ≤ maxLen; decide)
      subst hs; exact this
    have XL := Lib.hid ((Ext.refl w).alloc (.cells #[.string s] 9))
    clear hs
    go_enter Tryz.func113, Tryz.ntmps113
    go_wp2_with fail
    go_ret
    exact ⟨_, rfl, OL.out, XL.out⟩
  | node l r ihl ihr =>
    intro a s p w hc hl hs hr
    have op := hr.open
    clear hr
    obtain ⟨b, pl, pr, rfl, h0, h1, hl', hr'⟩ := op
    have e0 : Hid (s ++ ⟨#[48]⟩ = S (a ++ [48])) := by subst hs; exact S_append a [48]
    have e1 : Hid (s ++ ⟨#[49]⟩ = S (a ++ [49])) := by subst hs; exact S_append a [49]
    have z : s.size ≤ 100000000 := by subst hs; rw [S_size]; omega
    have z1 : (9223372036854775807 < s.size + 1) = False := eq_false (by omega)
    have H := Lib.hid (And.intro hl' hr')
    have hcc : (Tr.node l r).carets = 1 + l.carets + r.carets := rfl
    have HC : Hid (l.carets < 10000000 ∧ (a ++ [48]).length + l.carets < 100000000 ∧ r.carets < 10000000 ∧ (a ++ [49]).length + r.carets < 100000000) := ⟨by omega, by simp; omega, by omega, by simp; omega⟩
    have L2 : Hid (((sls (addrs l (a ++ [48]))).length + (sls (addrs r (a ++ [49]))).length) * 16 ≤ 140737488355328) := by rw [sls_length, sls_length, addrs_length, addrs_length]; show _ ≤ _; omega
    clear hl' hr' hs hc hl hcc
    go_enter Tryz.func113, Tryz.ntmps113
    go_wp2_with fail
    go_region_held3 (fun w' => w'.cell? ⟨b, 0, none⟩ = some (.pointer pl) ∧ w'.cell? ⟨b, 1, none⟩ = some (.pointer pr) ∧ Ext w w')
      (first | with_reducible exact two_cells h0 h1 (Ext.drew (Ext.refl _)) | with_reducible exact two_cells h0 h1 x4 | with_reducible exact two_cells h0 h1 x3 | with_reducible exact two_cells h0 h1 x1 | fail)
      (first
        | (go_at_call_of 113 (Value.pointer pl); refine (ihl _ _ _ _ HC.out.1 HC.out.2.1 e0.out (H.out.1.ext (Ext.refl _).drew)).mono ?_; rintro e w1 ⟨v1, rfl, o1, hx1⟩; have x1 : Ext w w1 := (Ext.refl w).drew.trans hx1)
        | (go_at_call_of 113 (Value.pointer pr); refine (ihr _ _ _ _ HC.out.2.2.1 HC.out.2.2.2 e1.out (H.out.2.ext x1)).mono ?_; rintro e w3 ⟨v3, rfl, o3, hx3⟩; have x3 := x1.trans hx3)
        | (refine step_app (by rfl) (.tmp 15) (.tmp 22) 111 (by rfl) w.heap.size 9 (.string ⟨#[]⟩) 16 Tryz.underlying111 infoStr rfl (by omega) _ _ (sls (addrs l (a ++ [48]))) (sls (addrs r (a ++ [49]))) (by rfl) (by rfl) (o1.ext hx3) o3.reads (sls_one _) L2.out x3.size ?_; intro v4 w4 o4 g4 _; have x4 := x3.grown g4 (o1.ext hx3).lo) | fail)
    go_wp2_with fail
    go_ret
    refine ⟨_, rfl, ?_, x4⟩
    rw [sls_append] at o4
    exact o4
set_option maxHeartbeats 3200000 in
set_option maxRecDepth 100000 in
theorem at_calls (T V : Tr) (l : List UInt8) (hl : l.length < 1000000) (hat : atT l T = some V) (p : Option Addr) (w : World) (hr : Rep w T p) :
    Calls Tryz.prog 115 #[.pointer p, .string (S l)] w fun e w' => ∃ q, e = .returned (.tuple #[.pointer q, .bool true]) ∧ Rep w V q ∧ w = w' := by
  have A0 := Lib.hid (And.intro hat hr)
  clear hat hr
  go_enter Tryz.func115, Tryz.ntmps115
  go_wp2_with fail
  go_loop [9, 0] (fun i t => ∃ (j : Nat) (U : Tr) (q : Option Addr), j ≤ l.length ∧ i = .int .i64 j ∧ t = .pointer q ∧ Hid (Rep w U q) ∧ Hid (atT (l.drop j) U = some V)) (fun i _ => l.length - (intOf i).toNat)
  case atStart => exact ⟨0, T, p, Nat.zero_le _, rfl, rfl, A0.out.2, A0.out.1⟩
  case round =>
    obtain ⟨j, U, q, hj, rfl, rfl, HR, HA⟩ := hrel
    by_cases hlt : j < l.length
    · obtain ⟨c, hc⟩ : ∃ c, l[j]? = some c := ⟨_, List.getElem?_eq_getElem hlt⟩
      have hD : l.drop j = c :: l.drop (j + 1) := by
        obtain ⟨g1, g2⟩ := List.getElem?_eq_some_iff.1 hc
        rw [List.drop_eq_getElem_cons g1, g2]
      have h1 : (j : Int) < (S l).size := by show (j : Int) < (l.length : Nat); omega
      have h0 : (0 : Int) ≤ j := by omega
      obtain ⟨x1, x2⟩ := s_at (S l) j c (by rw [S_toList]; exact hc)
      have HA2 := HA.out
      rw [hD] at HA2
      cases U with
      | leaf => simp [atT] at HA2
      | node a b =>
        obtain ⟨bb, pl, pr, rfl, c0, c1, rl, rr⟩ := HR.out.open
        simp only [atT] at HA2
        by_cases k1 : c = 48
        · subst k1
          rw [if_pos rfl] at HA2
          have t1 : (((48 : UInt8).toNat : Int) == 48) = true := rfl
          have RL := Lib.hid rl
          have HA3 := Lib.hid HA2
          clear HA2 hc hD rl rr HR HA
          go_wp2_with fail
          exact ⟨⟨j + 1, a, pl, by omega, by go_num, rfl, RL.out, HA3.out⟩, by simp [intOf]; omega⟩
        · rw [if_neg k1] at HA2
          by_cases k2 : c = 49
          · subst k2
            rw [if_pos rfl] at HA2
            have t1 : (((49 : UInt8).toNat : Int) == 48) = false := rfl
            have t2 : (((49 : UInt8).toNat : Int) == 49) = true := rfl
            have RL := Lib.hid rr
            have HA3 := Lib.hid HA2
            clear HA2 hc hD rl rr HR HA k1
            go_wp2_with fail
            exact ⟨⟨j + 1, b, pr, by omega, by go_num, rfl, RL.out, HA3.out⟩, by simp [intOf]; omega⟩
          · rw [if_neg k2] at HA2
            cases HA2
    · have h1 : ((S l).size : Int) ≤ j := by show ((l.length : Nat) : Int) ≤ j; omega
      have HV : Hid (Rep w V q) := by
        have := HA.out
        rw [List.drop_eq_nil_of_le (by omega)] at this
        cases U with
        | leaf => cases this; exact HR.out
        | node a b => cases this; exact HR.out
      go_wp2_with fail
      go_ret2
      exact ⟨q, rfl, HV.out, rfl⟩
theorem three_cells {w w' : World} {a b c : Addr} {x y z : Value} (h0 : w.cell? a = some x) (h1 : w.cell? b = some y) (h2 : w.cell? c = some z) (h : Ext w w') : w'.cell? a = some x ∧ w'.cell? b = some y ∧ w'.cell? c = some z ∧ Ext w w' := ⟨h.cell h0, h.cell h1, h.cell h2, h⟩
set_option maxHeartbeats 3200000 in
set_option maxRecDepth 100000 in
theorem partsClo (T W0 : Tr) (hP : Part T W0) (hd : T.depth < 1000000) (pw : Option Addr) (v : Value) (b c : Nat) (w : World) (hb : w.cell? ⟨b, 0, none⟩ = some (.pointer pw)) (hc : w.cell? ⟨c, 0, none⟩ = some v) (hv : Reads w v (sls (addrs T []))) (hw : Rep w W0 pw) :
    Clo w (T.carets + 1) (fun i => (partsT T W0).getD i .leaf) 114 #[.pointer (some ⟨b, 0, none⟩), .pointer (some ⟨c, 0, none⟩)] := by
  refine ⟨run_of Tryz.func114 (by kernel_rfl) (by kernel_rfl), fun k hk w' hx => ?_⟩
  have hk1 : k < (addrs T []).length := by rw [addrs_length]; exact hk
  obtain ⟨x, hx1⟩ : ∃ x, (addrs T [])[k]? = some x := ⟨_, List.getElem?_eq_getElem hk1⟩
  have hxl : x.length < 1000000 := by have := addrs_depth T [] x (List.mem_of_getElem? hx1); simp at this; omega
  have hk2 : k < (partsT T W0).length := by rw [parts_length T W0 hP]; exact hk
  have hat : atT x W0 = some ((partsT T W0).getD k .leaf) := by
    rw [at_parts T W0 hP k x hx1, List.getD_eq_getElem?_getD, List.getElem?_eq_getElem hk2]; rfl
  obtain ⟨A, cp, rfl, _, rd⟩ := hv.ext hx
  rw [sls_length] at *
  obtain ⟨ad, rfl, ca⟩ := rd (by omega)
  have c3 := ca k (.string (S x)) (by simp only [sls, List.getElem?_map, hx1, Option.map_some])
  have hb := hx.cell hb
  have hc := hx.cell hc
  have C1 := Lib.hid (fun W (h : Ext w' W) => at_calls W0 _ x hxl hat pw W ((hw.ext hx).ext h))
  have h0 : (0 : Int) ≤ k := by omega
  have h1 : (k : Int) < (addrs T []).length := by omega
  show Calls Tryz.prog 114 #[.int .i64 k, .pointer (some ⟨b, 0, none⟩), .pointer (some ⟨c, 0, none⟩)] w' (GivesT w' ((partsT T W0).getD k .leaf))
  generalize (partsT T W0).getD k .leaf = V at *
  generalize (addrs T []).length = m at *
  clear hx rd ca hx1 hat hk1 hk2 hk hw hv
  go_enter Tryz.func114, Tryz.ntmps114
  go_wp2_with fail
  go_region_held3 (fun w2 => w2.cell? ⟨b, 0, none⟩ = some (.pointer pw) ∧ w2.cell? ⟨c, 0, none⟩ = some (.slice (some ad) m cp) ∧ w2.cell? (ad.add k) = some (.string (S x)) ∧ Ext w' w2)
    (first | with_reducible exact three_cells hb hc c3 (Ext.refl _).drew | exact three_cells hb hc c3 (Ext.refl _).drew | fail)
    (first | (go_at_call 115; refine (C1.out _ (Ext.refl _).drew).mono ?_; rintro e w3 ⟨q, rfl, rq, rfl⟩) | fail)
  go_wp2_with fail
  go_ret
  exact ⟨q, rfl, rq, (Ext.refl _).drew⟩
set_option maxHeartbeats 3200000 in
set_option maxRecDepth 100000 in
theorem parts_calls (T W0 : Tr) (hP : Part T W0) (hT : T.carets < 1000000) (pt pw : Option Addr) (w : World) (ht : Rep w T pt) (hw : Rep w W0 pw) :
    Calls Tryz.prog 100 #[.pointer pt, .pointer pw] w fun e w' => ∃ b c, e = .returned (.func (.func 114) #[] #[.pointer (some ⟨b, 0, none⟩), .pointer (some ⟨c, 0, none⟩)]) ∧ Clo w' (T.carets + 1) (fun i => (partsT T W0).getD i .leaf) 114 #[.pointer (some ⟨b, 0, none⟩), .pointer (some ⟨c, 0, none⟩)] ∧ Ext w w' := by
  have X1 := Lib.hid ((Ext.refl w).alloc (.cells #[.pointer pw] 60))
  have c0 : (w.alloc (.cells #[.pointer pw] 60)).cell? ⟨w.heap.size, 0, none⟩ = some (.pointer pw) := by go_simp
  have C1 := Lib.hid (fun W (h : Ext w W) => addresses_calls T [] ⟨#[]⟩ pt W (by omega) (by simp; omega) rfl (ht.ext h))
  have HW := Lib.hid hw
  have PC := Lib.hid (partsClo T W0 hP (by have := T.depth_le; omega) pw)
  clear hP ht hw
  go_enter Tryz.func100, Tryz.ntmps100
  go_wp2_with fail
  generalize w.alloc (.cells #[.pointer pw] 60) = W at *
  refine (C1.out _ X1.out).mono ?_
  rintro e w1 ⟨v, rfl, o1, x1⟩
  have X2 := Lib.hid ((X1.out.trans x1).alloc (.cells #[v] 111))
  have c1 : (w1.alloc (.cells #[v] 111)).cell? ⟨w1.heap.size, 0, none⟩ = some v := by go_simp
  have c0 := (x1.alloc (.cells #[v] 111)).cell c0
  have O1 := Lib.hid (o1.reads.ext ((Ext.refl w1).alloc (.cells #[v] 111)))
  obtain ⟨A, cp, rfl, _, _⟩ := o1.reads
  rw [sls_length] at *
  clear o1 x1
  go_wp2_with fail
  go_ret
  exact ⟨_, _, rfl, PC.out _ _ _ _ c0 c1 O1.out (HW.out.ext X2.out), X2.out⟩
end Go.Proofs.YtijnadjgmmednaaGreat.N
namespace Go.Proofs.YtijnadjgmmednaaGreat.N
open Go.RowKit
theorem boxQQ_facts (w : World) (a b c d x y : Value) (t u : TypeId) :
    Ext w (((w.alloc (.cells #[a, b] t)).alloc (.cells #[c, d] t)).alloc (.cells #[x, y] u)) ∧
    (((w.alloc (.cells #[a, b] t)).alloc (.cells #[c, d] t)).alloc (.cells #[x, y] u)).cell? ⟨w.heap.size, 0, none⟩ = some a ∧
    (((w.alloc (.cells #[a, b] t)).alloc (.cells #[c, d] t)).alloc (.cells #[x, y] u)).cell? ⟨w.heap.size, 1, none⟩ = some b ∧
    (((w.alloc (.cells #[a, b] t)).alloc (.cells #[c, d] t)).alloc (.cells #[x, y] u)).cell? ⟨w.heap.size + 1, 0, none⟩ = some c ∧
    (((w.alloc (.cells #[a, b] t)).alloc (.cells #[c, d] t)).alloc (.cells #[x, y] u)).cell? ⟨w.heap.size + 1, 1, none⟩ = some d ∧
    Two (((w.alloc (.cells #[a, b] t)).alloc (.cells #[c, d] t)).alloc (.cells #[x, y] u)) (w.heap.size + 1 + 1) u := by
  have h0 := (((Ext.refl (w.alloc (.cells #[a, b] t))).alloc (.cells #[c, d] t)).alloc (.cells #[x, y] u)).at (heap_alloc_new w (.cells #[a, b] t))
  have h1 := ((Ext.refl ((w.alloc (.cells #[a, b] t)).alloc (.cells #[c, d] t))).alloc (.cells #[x, y] u)).at (heap_alloc_new (w.alloc (.cells #[a, b] t)) (.cells #[c, d] t))
  rw [show (w.alloc (.cells #[a, b] t)).heap.size = w.heap.size + 1 by simp] at h1
  exact ⟨(((Ext.refl w).alloc _).alloc _).alloc _, (cells_of h0).1, (cells_of h0).2, (cells_of h1).1, (cells_of h1).2, Two.new _ _ _ _ (by simp)⟩
set_option maxHeartbeats 3200000 in
set_option maxRecDepth 100000 in
theorem times_calls (A B C D : Tr) (hAB : A.carets = B.carets) (hCD : C.carets = D.carets) (hB : B.carets < 100000) (hC : C.carets < 100000) (pa pb pc pd : Option Addr) (w : World) (ra : Rep w A pa) (rb : Rep w B pb) (rc : Rep w C pc) (rd : Rep w D pd) :
    Calls Tryz.prog 76 #[.agg #[.pointer pa, .pointer pb], .agg #[.pointer pc, .pointer pd]] w (GivesP w (mul (A, B) (C, D)).1 (mul (A, B) (C, D)).2) := by
  obtain ⟨X0, c0, c1, c2, c3, t0⟩ := boxQQ_facts w (.pointer pa) (.pointer pb) (.pointer pc) (.pointer pd) (.pointer none) (.pointer none) 62 62
  have C1 := Lib.hid (fun W (h : Ext w W) => join_calls B C pb pc W (rb.ext h) (rc.ext h))
  have C2 := Lib.hid (fun pw W (h : Ext w W) hw => parts_calls B (join B C) (part_join_l B C) (by omega) pb pw W (rb.ext h) hw)
  have C3 := Lib.hid (fun pw W (h : Ext w W) hw => parts_calls C (join B C) (part_join_r B C) (by omega) pc pw W (rc.ext h) hw)
  have C4 := Lib.hid (fun cap W (h : Ext w W) hk => grown_calls (fun i => (partsT B (join B C)).getD i .leaf) (B.carets + 1) 114 cap A pa 0 W (by omega) (by omega) (ra.ext h) hk)
  have C5 := Lib.hid (fun cap W (h : Ext w W) hk => grown_calls (fun i => (partsT C (join B C)).getD i .leaf) (C.carets + 1) 114 cap D pd 0 W (by omega) (by omega) (rd.ext h) hk)
  obtain ⟨mc1, mc2⟩ := mul0_carets (p := (A, B)) (q := (C, D)) hAB hCD
  have jc := join_carets B C
  have C6 := Lib.hid (fun p1 p2 W => reduced_calls (mul0 (A, B) (C, D)).1 (mul0 (A, B) (C, D)).2 (by rw [mc1]; simp only; omega) (by rw [mc2]; simp only; omega) p1 p2 W)
  have EM : Hid (GivesP w (mul (A, B) (C, D)).1 (mul (A, B) (C, D)).2 = GivesP w (red ((mul0 (A, B) (C, D)).1, (mul0 (A, B) (C, D)).2)).1 (red ((mul0 (A, B) (C, D)).1, (mul0 (A, B) (C, D)).2)).2) := rfl
  rw [EM.out]
  change Hid (∀ (cap : Array Value) (W : World), Ext w W → Clo W _ _ _ cap → Calls _ _ _ W (GivesT W (mul0 (A, B) (C, D)).1)) at C4
  change Hid (∀ (cap : Array Value) (W : World), Ext w W → Clo W _ _ _ cap → Calls _ _ _ W (GivesT W (mul0 (A, B) (C, D)).2)) at C5
  generalize (red ((mul0 (A, B) (C, D)).1, (mul0 (A, B) (C, D)).2)).1 = Z1 at *
  generalize (red ((mul0 (A, B) (C, D)).1, (mul0 (A, B) (C, D)).2)).2 = Z2 at *
  generalize (mul0 (A, B) (C, D)).1 = Y1 at *
  generalize (mul0 (A, B) (C, D)).2 = Y2 at *
  have X0 := Lib.hid X0
  clear hAB hCD hB hC ra rb rc rd mc1 mc2 jc EM
  go_enter Tryz.func76, Tryz.ntmps76
  go_wp2_with fail
  generalize ((w.alloc (.cells #[.pointer pa, .pointer pb] 62)).alloc (.cells #[.pointer pc, .pointer pd] 62)).alloc (.cells #[.pointer none, .pointer none] 62) = W at *
  refine (C1.out _ X0.out).mono ?_
  rintro e w1 ⟨pw, rfl, rw1, x1⟩
  have X1 := Lib.hid (X0.out.trans x1)
  have c0 := x1.cell c0
  have c1 := x1.cell c1
  have c2 := x1.cell c2
  have c3 := x1.cell c3
  have T1 := Lib.hid (t0.ext x1)
  have RW := Lib.hid rw1
  clear t0 x1 rw1
  go_wp2_with fail
  go_region_held3 (fun w' => w'.cell? ⟨w.heap.size, 0, none⟩ = some (.pointer pa) ∧ w'.cell? ⟨w.heap.size, 1, none⟩ = some (.pointer pb) ∧ Ext w1 w')
    (first | with_reducible exact two_cells c0 c1 (Ext.refl _).drew | with_reducible exact two_cells c0 c1 x3 | with_reducible exact two_cells c0 c1 x2 | fail)
    (first
      | (go_at_call 100; refine (C2.out pw _ (X1.out.trans (Ext.refl _).drew) (RW.out.ext (Ext.refl _).drew)).mono ?_; rintro e w2 ⟨b1, b2, rfl, cl, hx2⟩; have x2 := (Ext.refl w1).drew.trans hx2)
      | (go_at_call 99; refine (C4.out _ _ (X1.out.trans x2) cl).mono ?_; rintro e w3 ⟨y1, rfl, ry1, hx3⟩; have x3 := x2.trans hx3)
      | fail)
  have X3 := Lib.hid (X1.out.trans x3)
  have c2 := x3.cell c2
  have c3 := x3.cell c3
  have T3 := Lib.hid (T1.out.ext x3)
  have RW3 := Lib.hid (RW.out.ext x3)
  have RY1 := Lib.hid ry1
  clear x3 x2 hx2 hx3 cl ry1
  go_wp2_with fail
  go_region_held3 (fun w' => w'.cell? ⟨w.heap.size + 1, 0, none⟩ = some (.pointer pc) ∧ w'.cell? ⟨w.heap.size + 1, 1, none⟩ = some (.pointer pd) ∧ Ext w3 w')
    (first | with_reducible exact two_cells c2 c3 (Ext.refl _).drew | with_reducible exact two_cells c2 c3 x5 | with_reducible exact two_cells c2 c3 x4 | fail)
    (first
      | (go_at_call 100; refine (C3.out pw _ (X3.out.trans (Ext.refl _).drew) (RW3.out.ext (Ext.refl _).drew)).mono ?_; rintro e w4 ⟨b1, b2, rfl, cl, hx4⟩; have x4 := (Ext.refl w3).drew.trans hx4)
      | (go_at_call 99; refine (C5.out _ _ (X3.out.trans x4) cl).mono ?_; rintro e w5 ⟨y2, rfl, ry2, hx5⟩; have x5 := x4.trans hx5)
      | fail)
  have X5 := Lib.hid (X3.out.trans x5)
  have T5 := Lib.hid (T3.out.ext x5)
  have RY1 := Lib.hid (RY1.out.ext x5)
  have RY2 := Lib.hid ry2
  clear x5 x4 hx4 hx5 cl ry2
  go_wp2_with fail
  refine (C6.out y1 y2 _ RY1.out RY2.out).mono ?_
  rintro e w6 ⟨z1, z2, rfl, rz1, rz2, x6⟩
  have T6 := T5.out.ext x6
  obtain ⟨u, v, k0, k1, f0, f1⟩ := T6.facts
  have T6 := Lib.hid T6
  have X6 := Lib.hid (X5.out.trans x6)
  have R6 := Lib.hid (And.intro rz1 rz2)
  clear x6 rz1 rz2
  go_wp2_with fail
  have HH := set2_heap T6.out (.pointer z1) (.pointer z2)
  have Q1 := Rep.set2 T6.out (by decide) (.pointer z1) (.pointer z2) R6.out.1
  have Q2 := Rep.set2 T6.out (by decide) (.pointer z1) (.pointer z2) R6.out.2
  have XX := X6.out.set2 (g := w.heap.size + 1 + 1) (by omega) (.pointer z1) (.pointer z2)
  change bodyPost _ _ _ _ _ (N.set2 _ (w.heap.size + 1 + 1) (.pointer z1) (.pointer z2))
  obtain ⟨hc0, hc1⟩ := cells_of HH
  generalize N.set2 _ (w.heap.size + 1 + 1) (.pointer z1) (.pointer z2) = W3 at *
  exact bodyPost_ret (v := .agg #[.pointer z1, .pointer z2]) (by simp [results, Tryz.results76, go_sem, hc0, hc1]) rfl ⟨z1, z2, rfl, Q1, Q2, XX⟩
set_option maxHeartbeats 3200000 in
theorem inverse_calls (pa pb : Option Addr) (w : World) :
    Calls Tryz.prog 47 #[.agg #[.pointer pa, .pointer pb]] w fun e w' => e = .returned (.agg #[.pointer pb, .pointer pa]) ∧ Ext w w' := by
  have X2 := Lib.hid (((Ext.refl w).alloc (.cells #[.pointer pa, .pointer pb] 62)).alloc (.cells #[.pointer pb, .pointer pa] 62))
  have HH := heap_alloc_new (w.alloc (.cells #[.pointer pa, .pointer pb] 62)) (.cells #[.pointer pb, .pointer pa] 62)
  rw [show (w.alloc (.cells #[.pointer pa, .pointer pb] 62)).heap.size = w.heap.size + 1 by simp] at HH
  obtain ⟨hc0, hc1⟩ := cells_of HH
  go_enter Tryz.func47, Tryz.ntmps47
  go_wp2_with fail
  exact bodyPost_ret (v := .agg #[.pointer pb, .pointer pa]) (by simp [results, Tryz.results47, go_sem, hc0, hc1]) rfl ⟨rfl, X2.out⟩
def conj (p q : Tr × Tr) : Tr × Tr := mul (mul (q.2, q.1) p) q
theorem conj_carets {p q : Tr × Tr} (hp : p.1.carets = p.2.carets) (hq : q.1.carets = q.2.carets) : (conj p q).1.carets = (conj p q).2.carets ∧ (conj p q).2.carets ≤ q.1.carets + p.1.carets + q.1.carets := by
  have h1 := mul_carets (p := (q.2, q.1)) (q := p) hq.symm hp
  have h2 := mul_carets (p := mul (q.2, q.1) p) (q := q) h1.1 hq
  simp only at h1
  exact ⟨h2.1, by have := h2.2; unfold conj; omega⟩
theorem quad_ext {w0 W W' : World} {a b : Nat} {u0 u1 v0 v1 : Value}
    (h : W.cell? ⟨a, 0, none⟩ = some u0 ∧ W.cell? ⟨a, 1, none⟩ = some u1 ∧ W.cell? ⟨b, 0, none⟩ = some v0 ∧ W.cell? ⟨b, 1, none⟩ = some v1 ∧ Ext w0 W) (hx : Ext W W') :
    W'.cell? ⟨a, 0, none⟩ = some u0 ∧ W'.cell? ⟨a, 1, none⟩ = some u1 ∧ W'.cell? ⟨b, 0, none⟩ = some v0 ∧ W'.cell? ⟨b, 1, none⟩ = some v1 ∧ Ext w0 W' :=
  ⟨hx.cell h.1, hx.cell h.2.1, hx.cell h.2.2.1, hx.cell h.2.2.2.1, h.2.2.2.2.trans hx⟩
theorem quad_far {w0 W : World} {a b g : Nat} {u0 u1 v0 v1 : Value} (x y : Value)
    (h : W.cell? ⟨a, 0, none⟩ = some u0 ∧ W.cell? ⟨a, 1, none⟩ = some u1 ∧ W.cell? ⟨b, 0, none⟩ = some v0 ∧ W.cell? ⟨b, 1, none⟩ = some v1 ∧ Ext w0 W) (ha : a ≠ g) (hb : b ≠ g) (hg : w0.heap.size ≤ g) :
    ((W.setCell ⟨g, 0, none⟩ x).setCell ⟨g, 1, none⟩ y).cell? ⟨a, 0, none⟩ = some u0 ∧ ((W.setCell ⟨g, 0, none⟩ x).setCell ⟨g, 1, none⟩ y).cell? ⟨a, 1, none⟩ = some u1 ∧ ((W.setCell ⟨g, 0, none⟩ x).setCell ⟨g, 1, none⟩ y).cell? ⟨b, 0, none⟩ = some v0 ∧ ((W.setCell ⟨g, 0, none⟩ x).setCell ⟨g, 1, none⟩ y).cell? ⟨b, 1, none⟩ = some v1 ∧ Ext w0 ((W.setCell ⟨g, 0, none⟩ x).setCell ⟨g, 1, none⟩ y) :=
  ⟨set2_far ha x y h.1, set2_far ha x y h.2.1, set2_far hb x y h.2.2.1, set2_far hb x y h.2.2.2.1, h.2.2.2.2.set2 hg x y⟩
set_option maxHeartbeats 3200000 in
set_option maxRecDepth 100000 in
theorem conjugate_calls (A B C D : Tr) (hAB : A.carets = B.carets) (hCD : C.carets = D.carets) (hB : B.carets < 10000) (hC : C.carets < 10000) (pa pb pc pd : Option Addr) (w : World) (ra : Rep w A pa) (rb : Rep w B pb) (rc : Rep w C pc) (rd : Rep w D pd) :
    Calls Tryz.prog 39 #[.agg #[.pointer pa, .pointer pb], .agg #[.pointer pc, .pointer pd]] w (GivesP w (conj (A, B) (C, D)).1 (conj (A, B) (C, D)).2) := by
  obtain ⟨X0, c0, c1, c2, c3, t0⟩ := boxQQ_facts w (.pointer pa) (.pointer pb) (.pointer pc) (.pointer pd) (.pointer none) (.pointer none) 62 62
  obtain ⟨m1, m2⟩ := mul_carets (p := (D, C)) (q := (A, B)) hCD.symm hAB
  simp only at m2
  have C1 := Lib.hid (fun W => inverse_calls pc pd W)
  have C2 := Lib.hid (fun W (h : Ext w W) => times_calls D C A B hCD.symm hAB (by omega) (by omega) pd pc pa pb W (rd.ext h) (rc.ext h) (ra.ext h) (rb.ext h))
  have C3 := Lib.hid (fun p1 p2 W (h : Ext w W) h1 h2 => times_calls (mul (D, C) (A, B)).1 (mul (D, C) (A, B)).2 C D m1 hCD (by omega) (by omega) p1 p2 pc pd W h1 h2 (rc.ext h) (rd.ext h))
  have EM : Hid (GivesP w (conj (A, B) (C, D)).1 (conj (A, B) (C, D)).2 = GivesP w (mul ((mul (D, C) (A, B)).1, (mul (D, C) (A, B)).2) (C, D)).1 (mul ((mul (D, C) (A, B)).1, (mul (D, C) (A, B)).2) (C, D)).2) := rfl
  rw [EM.out]
  generalize (mul ((mul (D, C) (A, B)).1, (mul (D, C) (A, B)).2) (C, D)).1 = Z1 at *
  generalize (mul ((mul (D, C) (A, B)).1, (mul (D, C) (A, B)).2) (C, D)).2 = Z2 at *
  generalize (mul (D, C) (A, B)).1 = Y1 at *
  generalize (mul (D, C) (A, B)).2 = Y2 at *
  have X0 := Lib.hid X0
  clear hAB hCD hB hC ra rb rc rd m1 m2 EM
  go_enter Tryz.func39, Tryz.ntmps39
  go_wp2_with fail
  generalize ((w.alloc (.cells #[.pointer pa, .pointer pb] 62)).alloc (.cells #[.pointer pc, .pointer pd] 62)).alloc (.cells #[.pointer none, .pointer none] 62) = W at *
  have SX := Lib.hid (And.intro c0 (And.intro c1 (And.intro c2 (And.intro c3 X0.out))))
  have n1 : Hid (w.heap.size ≠ w.heap.size + 1 + 1) := by show _ ≠ _; omega
  have n2 : Hid (w.heap.size + 1 ≠ w.heap.size + 1 + 1) := by show _ ≠ _; omega
  have n3 : Hid (w.heap.size ≤ w.heap.size + 1 + 1) := by show _ ≤ _; omega
  go_region_held3 (fun w' => w'.cell? ⟨w.heap.size, 0, none⟩ = some (.pointer pa) ∧ w'.cell? ⟨w.heap.size, 1, none⟩ = some (.pointer pb) ∧ w'.cell? ⟨w.heap.size + 1, 0, none⟩ = some (.pointer pc) ∧ w'.cell? ⟨w.heap.size + 1, 1, none⟩ = some (.pointer pd) ∧ Ext w w')
    (first | with_reducible exact quad_ext SX.out (Ext.refl _).drew | with_reducible exact quad_ext SX.out x3 | with_reducible exact quad_ext SX.out x2 | with_reducible exact quad_ext SX.out x1 | with_reducible exact quad_far _ _ (quad_ext SX.out x3) n1.out n2.out n3.out | fail)
    (first
      | (go_at_call 47; refine (C1.out _).mono ?_; rintro e w1 ⟨rfl, hx1⟩; have x1 := (Ext.refl W).drew.trans hx1)
      | (go_at_call_of 76 (Value.agg #[.pointer pd, .pointer pc]); refine (C2.out _ (X0.out.trans x1)).mono ?_; rintro e w2 ⟨p1, p2, rfl, r1, r2, hx2⟩; have x2 := x1.trans hx2)
      | (go_at_call 76; refine (C3.out _ _ _ (X0.out.trans x2) r1 r2).mono ?_; rintro e w3 ⟨z1, z2, rfl, rz1, rz2, hx3⟩; have x3 := x2.trans hx3; obtain ⟨u, v, k0, k1, f0, f1⟩ := (t0.ext x3).facts)
      | fail)
  have T3 := t0.ext x3
  have HH := set2_heap T3 (.pointer z1) (.pointer z2)
  have Q1 := Rep.set2 T3 (by decide) (.pointer z1) (.pointer z2) rz1
  have Q2 := Rep.set2 T3 (by decide) (.pointer z1) (.pointer z2) rz2
  have XX := (X0.out.trans x3).set2 (g := w.heap.size + 1 + 1) (by omega) (.pointer z1) (.pointer z2)
  change Exit.then _ _ _ _ (N.set2 _ (w.heap.size + 1 + 1) (.pointer z1) (.pointer z2))
  obtain ⟨hc0, hc1⟩ := cells_of HH
  generalize N.set2 _ (w.heap.size + 1 + 1) (.pointer z1) (.pointer z2) = W3 at *
  go_wp2_with fail
  exact bodyPost_ret (v := .agg #[.pointer z1, .pointer z2]) (by simp [results, Tryz.results39, go_sem, hc0, hc1]) rfl ⟨z1, z2, rfl, Q1, Q2, XX⟩
end Go.Proofs.YtijnadjgmmednaaGreat.N
namespace Go.Proofs.YtijnadjgmmednaaGreat.N
open Go.RowKit
abbrev shy (o : Op) : Op := o
set_option maxHeartbeats 3200000 in
set_option maxRecDepth 100000 in
theorem prReduce_calls (A B : Tr) (hA : A.carets < 1000) (hB : B.carets < 1000) (w : World) :
    Calls Tryz.prog 54 #[.agg #[.string (tx A), .string (tx B)], .slice none 0 0] w fun e w' => e = .returned (.agg #[.string (tx (red (A, B)).1), .string (tx (red (A, B)).2)]) ∧ Ext w w' := by
  obtain ⟨X2, t0⟩ := boxS_facts w (tx A) (tx B) (.string ⟨#[]⟩) (.string ⟨#[]⟩) 25
  have X2 := Lib.hid X2
  have B0 : Hid (((w.alloc (.cells #[.string (tx A), .string (tx B)] 25)).alloc (.cells #[.string ⟨#[]⟩, .string ⟨#[]⟩] 25)).heap[w.heap.size]? = some (.cells #[.string (tx A), .string (tx B)] 25)) := ((Ext.refl _).alloc _).at (heap_alloc_new w _)
  have T0 := Lib.hid t0
  have LE := Lib.hid (And.intro hA hB)
  have C0 := Lib.hid (fun W => prBoth_calls A B hA hB W)
  clear hA hB t0
  go_enter Tryz.func54, Tryz.ntmps54
  go_wp2_with fail
  have SW : Hid (w.heap.size + 1 + 1 ≤ ((w.alloc (.cells #[.string (tx A), .string (tx B)] 25)).alloc (.cells #[.string ⟨#[]⟩, .string ⟨#[]⟩] 25)).heap.size) := by simp [Hid]
  generalize (w.alloc (.cells #[.string (tx A), .string (tx B)] 25)).alloc (.cells #[.string ⟨#[]⟩, .string ⟨#[]⟩] 25) = W at *
  refine (C0.out _).mono ?_
  rintro e w1 ⟨v1, rfl, o1, x1⟩
  have R1 := Lib.hid (o1.mono (Nat.le_trans (by simp : w.heap.size + 2 ≤ w.heap.size + 1 + 1) SW.out))
  have X1 := Lib.hid (X2.out.trans x1)
  have B1 := Lib.hid (x1.at B0.out)
  have T1 := Lib.hid (T0.out.ext x1)
  clear o1 x1 C0 B0 T0
  go_wp2_with fail
  go_loopg [5, 6] A.carets (fun f s o wr => ∃ (C D : Tr) (n : Nat), s = .int .i64 n ∧ n + C.carets < 1000000 ∧ Hid (C.carets = f) ∧ Hid (C.carets < 1000 ∧ D.carets < 1000) ∧ Hid (red (C, D) = red (A, B)) ∧ Hid (wr.heap[w.heap.size]? = some (.cells #[.string (tx C), .string (tx D)] 25)) ∧ Hid (Two wr (w.heap.size + 1) 25) ∧ Hid (Own wr (w.heap.size + 2) 3 o (nats (bothT C D))) ∧ Hid (Ext w wr))
  case atStart => exact ⟨A, B, 0, rfl, by have := LE.out; omega, rfl, LE.out, rfl, B1.out, T1.out, R1.out, X1.out⟩
  case round =>
    obtain ⟨C, D, n, rfl, hn, HF, HL, HR, HB, HT, HD, HX⟩ := hrel
    obtain ⟨c0, c1⟩ := cells_of HB.out
    have BL := HD.out.block
    obtain ⟨AA, cc, rfl, _, rd⟩ := HD.out.reads
    rw [nats_length] at *
    have HD := HD
    cases hb : bothT C D with
    | nil =>
      have RN : Hid (red (A, B) = (C, D)) := by show _ = _; rw [← HR.out, red_nil hb]
      obtain ⟨u, v, k0, k1, f0, f1⟩ := HT.out.facts
      clear hb rd HD BL
      rw [List.length_nil] at *
      go_wp2_with fail
      have HH := set2_heap HT.out (.string (tx C)) (.string (tx D))
      have XX := HX.out.set2 (g := w.heap.size + 1) (by omega) (.string (tx C)) (.string (tx D))
      change bodyPost _ _ _ _ _ (N.set2 wr (w.heap.size + 1) (.string (tx C)) (.string (tx D)))
      obtain ⟨hc0, hc1⟩ := cells_of HH
      generalize N.set2 wr (w.heap.size + 1) (.string (tx C)) (.string (tx D)) = W3 at *
      refine bodyPost_ret (v := .agg #[.string (tx C), .string (tx D)]) (by simp [results, Tryz.results54, go_sem, hc0, hc1]) rfl ?_
      rw [RN.out]
      exact ⟨rfl, XX⟩
    | cons k l =>
      have MB := Lib.hid (mem_both (A := C) (B := D) (k := k) (by rw [hb]; exact List.mem_cons_self))
      have RN : Hid (red (without C k, without D k) = red (A, B)) := by show _ = _; rw [← HR.out]; exact (red_cons (p := (C, D)) hb).symm
      have LC := Lib.hid (And.intro (without_carets C k MB.out.1) (without_carets D k MB.out.2))
      rw [hb] at rd
      obtain ⟨ad, hA1, ca⟩ := rd (by simp)
      subst hA1
      have hne : w.heap.size + 2 ≤ ad.block := (BL ad.block rfl).1
      have hne : ad.block ≠ w.heap.size := by omega
      have c2 : wr.cell? ad = some (.int .i64 k) := ca 0 _ (nats_get (k :: l) 0 (by simp))
      have D1 := Lib.hid (fun W => trDrop_tree C k MB.out.1 HL.out.1 W)
      have D2 := Lib.hid (fun W => trDrop_tree D k MB.out.2 HL.out.2 W)
      have D3 := Lib.hid (fun W => prBoth_calls (without C k) (without D k) (by have := LC.out; have := HL.out; omega) (by have := LC.out; have := HL.out; omega) W)
      have hlen : 0 < (k :: l).length := by simp
      clear hb rd HD ca BL
      generalize (k :: l).length = m at *
      have t1 : ((m : Int) == 0) = false := by rw [beq_eq_false_iff_ne]; omega
      have t2 : (0 : Int) < m := by omega
      have TB : Hid (Two wr w.heap.size 25) := ⟨_, _, HB.out⟩
      obtain ⟨u, v, k0, k1, f0, f1⟩ := TB.out.facts
      go_wp2_with fail
      rw [show Op.load 9 (Operand.tmp 26) = shy (Op.load 9 (Operand.tmp 26)) from rfl, show Op.load 9 (Operand.tmp 33) = shy (Op.load 9 (Operand.tmp 33)) from rfl]
      go_region_held3 (fun w' => w'.cell? ad = some (.int .i64 k) ∧ Ext w w')
        (first | exact ⟨c2, HX.out.drew⟩ | exact ⟨c2, HX.out.drewN _⟩ | exact ⟨set2_far hne _ _ (w := wr.drewN _) c2, (HX.out.drewN _).set2 (g := w.heap.size) (Nat.le_refl _) _ _⟩ | fail)
        (first
          | (go_at_call_of 86 (Value.string (tx C)); refine (D1.out _).mono ?_; rintro e w1 ⟨rfl, n1, rfl⟩)
          | (go_at_call_of 86 (Value.string (tx D)); refine (D2.out _).mono ?_; rintro e w3 ⟨rfl, n3, rfl⟩)
          | fail)
      all_goals
        have x3 := (Ext.refl wr).drewN (1 + n1 + n3)
        have TX := TB.out.ext x3
        have XX := Lib.hid ((HX.out.trans x3).set2 (g := w.heap.size) (Nat.le_refl _) (.string (tx (without C k))) (.string (tx (without D k))))
        have HH := Lib.hid (set2_heap TX (.string (tx (without C k))) (.string (tx (without D k))))
        have T3 : Hid (Two (N.set2 (wr.drewN (1 + n1 + n3)) w.heap.size (.string (tx (without C k))) (.string (tx (without D k)))) (w.heap.size + 1) 25) := by
          obtain ⟨u, v, e⟩ := HT.out.ext x3
          exact ⟨u, v, by rw [set2_other (by omega)]; exact e⟩
        have WZ : Hid (w.heap.size + 2 ≤ (N.set2 (wr.drewN (1 + n1 + n3)) w.heap.size (.string (tx (without C k))) (.string (tx (without D k)))).heap.size) := by
          obtain ⟨u, v, e⟩ := T3.out
          have := (Array.getElem?_eq_some_iff.1 e).1
          show _ ≤ _
          omega
        change Exit.then _ _ _ _ (N.set2 (wr.drewN (1 + n1 + n3)) w.heap.size (.string (tx (without C k))) (.string (tx (without D k))))
        obtain ⟨hc0, hc1⟩ := cells_of HH.out
        clear k0 k1 f0 f1 c0 c1 c2 TX x3
        generalize N.set2 (wr.drewN (1 + n1 + n3)) w.heap.size (.string (tx (without C k))) (.string (tx (without D k))) = W3 at *
        go_wp2_with fail
        refine (D3.out _).mono ?_
        rintro e w4 ⟨v4, rfl, o4, x4⟩
        have O4 := Lib.hid (o4.mono WZ.out)
        have X4 := Lib.hid x4
        have MS := Lib.hid (And.intro LC.out (And.intro HF.out hn))
        clear o4 x4 hc0 hc1
        go_wp2_with fail
        go_roundg (without C k).carets
        · exact ⟨without C k, without D k, n + 1, by go_num, by have := LC.out; omega, rfl, ⟨by have := LC.out; have := HL.out; omega, by have := LC.out; have := HL.out; omega⟩, RN.out, X4.out.at HH.out, T3.out.ext X4.out, O4.out, XX.out.trans X4.out⟩
        · have := LC.out
          have := HF.out
          omega
theorem same {P : Program} {f : Nat} {args : Array Value} {w : World} {v : Value} (h : Calls P f args w fun e w' => e = .returned v ∧ w = w') : Calls P f args w fun e w' => e = .returned v ∧ w' = w := h.mono fun _ _ h => ⟨h.1, h.2.symm⟩
theorem trCarets_tree (A : Tr) (hA : A.carets ≤ 1000) (w : World) : Calls Tryz.prog 56 #[.string (tx A)] w fun e w' => e = .returned (.int .i64 A.carets) ∧ w = w' := by
  have := trCarets_calls (tx A) (by have := A.txt_length; show A.txt.length < _; omega) w
  rw [show (tx A).toList = A.txt from S_toList _, cnt_txt] at this
  exact this
theorem boxS1_facts (w : World) (s t : ByteArray) :
    Ext w (w.alloc (.cells #[.string s, .string t] 25)) ∧ (w.alloc (.cells #[.string s, .string t] 25)).cell? ⟨w.heap.size, 0, none⟩ = some (.string s) ∧ (w.alloc (.cells #[.string s, .string t] 25)).cell? ⟨w.heap.size, 1, none⟩ = some (.string t) :=
  ⟨(Ext.refl w).alloc _, by go_simp, by go_simp⟩
set_option maxHeartbeats 3200000 in
set_option maxRecDepth 100000 in
theorem prGood_no (s t : ByteArray) (h : ¬ Good s t) (w : World) :
    Calls Tryz.prog 27 #[.agg #[.string s, .string t]] w fun e w' => e = .returned (.bool false) ∧ Ext w w' := by
  obtain ⟨X1, c0, c1⟩ := boxS1_facts w s t
  have X1 := Lib.hid X1
  by_cases h1 : ∃ T, s = tx T ∧ T.carets ≤ 8
  · obtain ⟨A, rfl, hA⟩ := h1
    have C1 := fun W => trIs_yes A hA W
    by_cases h2 : ∃ T, t = tx T ∧ T.carets ≤ 8
    · obtain ⟨B, rfl, hB⟩ := h2
      have C2 := fun W => trIs_yes B hB W
      have hne : A.carets ≠ B.carets := fun e => h ⟨A, B, rfl, rfl, e, hB⟩
      have C3 := fun W => trCarets_tree A (by omega) W
      have C4 := fun W => trCarets_tree B (by omega) W
      have q : ((A.carets : Int) == (B.carets : Int)) = false := by rw [beq_eq_false_iff_ne]; omega
      clear h hne
      go_enter Tryz.func27, Tryz.ntmps27
      go_wp2_with fail
      go_quiet (first
        | (go_at_call_of 69 (Value.string (tx A)); exact Calls.quiet_of_same (same (C1 _)))
        | (go_at_call_of 69 (Value.string (tx B)); exact Calls.quiet_of_same (same (C2 _)))
        | (go_at_call_of 56 (Value.string (tx A)); exact Calls.quiet_of_same (same (C3 _)))
        | (go_at_call_of 56 (Value.string (tx B)); exact Calls.quiet_of_same (same (C4 _)))
        | fail)
      go_wp2_with fail
      go_ret
      exact ⟨rfl, X1.out.drewN _⟩
    · have C2 := fun W => trIs_no t h2 W
      clear h h2
      go_enter Tryz.func27, Tryz.ntmps27
      go_wp2_with fail
      go_quiet (first
        | (go_at_call_of 69 (Value.string (tx A)); exact Calls.quiet_of_same (same (C1 _)))
        | (go_at_call_of 69 (Value.string t); exact Calls.quiet_of_same (same (C2 _)))
        | fail)
      go_wp2_with fail
      go_ret
      exact ⟨rfl, X1.out.drewN _⟩
  · have C1 := fun W => trIs_no s h1 W
    clear h h1
    go_enter Tryz.func27, Tryz.ntmps27
    go_wp2_with fail
    go_quiet (first
      | (go_at_call_of 69 (Value.string s); exact Calls.quiet_of_same (same (C1 _)))
      | fail)
    go_wp2_with fail
    go_ret
    exact ⟨rfl, X1.out.drewN _⟩
set_option maxHeartbeats 3200000 in
set_option maxRecDepth 100000 in
theorem prGood_yes (A B : Tr) (hc : A.carets = B.carets) (hB : B.carets ≤ 8) (w : World) :
    Calls Tryz.prog 27 #[.agg #[.string (tx A), .string (tx B)]] w fun e w' => e = .returned (.bool true) ∧ Ext w w' := by
  obtain ⟨X1, c0, c1⟩ := boxS1_facts w (tx A) (tx B)
  have X1 := Lib.hid X1
  have C1 := fun W => trIs_yes A (by omega) W
  have C2 := fun W => trIs_yes B hB W
  have C3 := fun W => trCarets_tree A (by omega) W
  have C4 := fun W => trCarets_tree B (by omega) W
  rw [hc] at C3
  clear hc hB
  go_enter Tryz.func27, Tryz.ntmps27
  go_wp2_with fail
  go_quiet (first
    | (go_at_call_of 69 (Value.string (tx A)); exact Calls.quiet_of_same (same (C1 _)))
    | (go_at_call_of 69 (Value.string (tx B)); exact Calls.quiet_of_same (same (C2 _)))
    | (go_at_call_of 56 (Value.string (tx A)); exact Calls.quiet_of_same (same (C3 _)))
    | (go_at_call_of 56 (Value.string (tx B)); exact Calls.quiet_of_same (same (C4 _)))
    | fail)
  go_wp2_with fail
  go_ret
  exact ⟨rfl, X1.out.drewN _⟩
end Go.Proofs.YtijnadjgmmednaaGreat.N
namespace Go.Proofs.YtijnadjgmmednaaGreat.N
open Go.RowKit
set_option maxHeartbeats 3200000 in
set_option maxRecDepth 100000 in
theorem prIf_calls (A B : Tr) (hc : A.carets = B.carets) (w : World) :
    Calls Tryz.prog 46 #[.agg #[.string (tx A), .string (tx B)]] w fun e w' => e = .returned (ifP (A, B)) ∧ Ext w w' := by
  obtain ⟨X2, t0⟩ := boxS_facts w (tx A) (tx B) (.string ⟨#[]⟩) (.string ⟨#[]⟩) 25
  have X2 := Lib.hid X2
  have B0 : Hid (((w.alloc (.cells #[.string (tx A), .string (tx B)] 25)).alloc (.cells #[.string ⟨#[]⟩, .string ⟨#[]⟩] 25)).heap[w.heap.size]? = some (.cells #[.string (tx A), .string (tx B)] 25)) := ((Ext.refl _).alloc _).at (heap_alloc_new w _)
  by_cases hB : B.carets ≤ 8
  · have E : ifP (A, B) = .tuple #[.agg #[.string (tx A), .string (tx B)], .bool true] := if_pos (show A.carets ≤ 8 by omega)
    have C1 := Lib.hid (fun W => prGood_yes A B hc hB W)
    rw [E]
    clear hc hB E
    go_enter Tryz.func46, Tryz.ntmps46
    go_wp2_with fail
    generalize (w.alloc (.cells #[.string (tx A), .string (tx B)] 25)).alloc (.cells #[.string ⟨#[]⟩, .string ⟨#[]⟩] 25) = W at *
    refine (C1.out _).mono ?_
    rintro e w1 ⟨rfl, x1⟩
    have T1 := t0.ext x1
    obtain ⟨u, v, k0, k1, f0, f1⟩ := T1.facts
    obtain ⟨c0, c1⟩ := cells_of (x1.at B0.out)
    have T1 := Lib.hid T1
    have X1 := Lib.hid (X2.out.trans x1)
    clear t0 x1
    go_wp2_with fail
    have HH := set2_heap T1.out (.string (tx A)) (.string (tx B))
    have XX := X1.out.set2 (g := w.heap.size + 1) (by omega) (.string (tx A)) (.string (tx B))
    change bodyPost _ _ _ _ _ (N.set2 _ (w.heap.size + 1) (.string (tx A)) (.string (tx B)))
    obtain ⟨hc0, hc1⟩ := cells_of HH
    generalize N.set2 _ (w.heap.size + 1) (.string (tx A)) (.string (tx B)) = W3 at *
    exact bodyPost_ret (v := .tuple #[.agg #[.string (tx A), .string (tx B)], .bool true]) (by simp [results, Tryz.results46, go_sem, hc0, hc1]) rfl ⟨rfl, XX⟩
  · have E : ifP (A, B) = .tuple #[emptyP, .bool false] := if_neg (show ¬ A.carets ≤ 8 by omega)
    have NG : ¬ Good (tx A) (tx B) := by
      rintro ⟨A', B', h1, h2, _, h4⟩
      obtain rfl := tx_inj h2
      exact hB h4
    have C1 := Lib.hid (fun W => prGood_no _ _ NG W)
    rw [E]
    clear hc hB E NG
    go_enter Tryz.func46, Tryz.ntmps46
    go_wp2_with fail
    generalize (w.alloc (.cells #[.string (tx A), .string (tx B)] 25)).alloc (.cells #[.string ⟨#[]⟩, .string ⟨#[]⟩] 25) = W at *
    refine (C1.out _).mono ?_
    rintro e w1 ⟨rfl, x1⟩
    have T1 := t0.ext x1
    obtain ⟨u, v, k0, k1, f0, f1⟩ := T1.facts
    have T1 := Lib.hid T1
    have X1 := Lib.hid (X2.out.trans x1)
    clear t0 x1
    go_wp2_with fail
    have HH := set2_heap T1.out (.string ⟨#[]⟩) (.string ⟨#[]⟩)
    have XX := X1.out.set2 (g := w.heap.size + 1) (by omega) (.string ⟨#[]⟩) (.string ⟨#[]⟩)
    change bodyPost _ _ _ _ _ (N.set2 _ (w.heap.size + 1) (.string ⟨#[]⟩) (.string ⟨#[]⟩))
    obtain ⟨hc0, hc1⟩ := cells_of HH
    generalize N.set2 _ (w.heap.size + 1) (.string ⟨#[]⟩) (.string ⟨#[]⟩) = W3 at *
    exact bodyPost_ret (v := .tuple #[emptyP, .bool false]) (by simp [results, Tryz.results46, go_sem, hc0, hc1, emptyP]) rfl ⟨rfl, XX⟩
theorem trOf_tree (l r : Tr) (hl : l.carets < 1000000) (hr : r.carets < 1000000) (w : World) :
    Calls Tryz.prog 109 #[.string (tx l), .string (tx r)] w fun e w' => e = .returned (.string (tx (.node l r))) ∧ w = w' := by
  rw [tx_node]
  exact trOf_calls (tx l) (tx r) (by have := l.txt_length; show l.txt.length ≤ _; omega) (by have := r.txt_length; show r.txt.length ≤ _; omega) w
end Go.Proofs.YtijnadjgmmednaaGreat.N
namespace Go.Proofs.YtijnadjgmmednaaGreat.N
open Go.RowKit
set_option maxHeartbeats 1600000 in
theorem trRight_calls (n : Nat) (hn : n < 100000) (w : World) :
    Calls Tryz.prog 93 #[.int .i64 n] w fun e w' => e = .returned (.string (tx (comb n))) ∧ w = w' := by
  go_enter Tryz.func93, Tryz.ntmps93
  go_wp2_with fail
  go_loop [0, 3] (fun i t => ∃ k : Nat, k ≤ n ∧ i = .int .i64 ((n - k : Nat) : Int) ∧ t = .string (tx (comb k))) (fun i _ => (intOf i).toNat)
  case atStart => exact ⟨0, Nat.zero_le _, rfl, rfl⟩
  case round =>
    obtain ⟨k, hk, rfl, rfl⟩ := hrel
    by_cases hlt : k < n
    · have h1 : (0 : Int) < ((n - k : Nat) : Int) := by omega
      have h2 : ((n - k : Nat) : Int) < 100000 := by omega
      have E : Hid (((n - k : Nat) : Int) - 1 = ((n - (k + 1) : Nat) : Int)) := by show _ = _; omega
      have C := Lib.hid (trOf_tree .leaf (comb k) (by simp [Tr.carets]) (by rw [comb_carets]; omega) w)
      rw [tx_leaf] at C
      generalize ((n - k : Nat) : Int) = d at *
      go_wp2_with fail
      refine C.out.mono ?_
      rintro e w1 ⟨rfl, rfl⟩
      go_wp2_with fail
      exact ⟨⟨k + 1, by omega, by rw [E.out], rfl⟩, by simp [intOf]; omega⟩
    · obtain rfl : k = n := by omega
      have h1 : ((k - k : Nat) : Int) = 0 := by omega
      rw [h1]
      go_wp2_with fail
      go_ret
      exact ⟨rfl, rfl⟩
set_option maxHeartbeats 3200000 in
set_option maxRecDepth 100000 in
theorem trGraft_calls (a b : List UInt8) (o : ByteArray) (hl : a.length + b.length < 1000000) (ho : o.size < 1000000) (w : World) :
    Calls Tryz.prog 92 #[.string (S (a ++ 46 :: b)), .int .i64 (dots a), .string o] w fun e w' => e = .returned (.string ((S a ++ o) ++ S b)) ∧ ∃ n, w' = w.drewN n := by
  have LN : Hid ((a ++ 46 :: b).length = a.length + b.length + 1) := by simp [Hid]; omega
  have E1 : Hid ((a ++ 46 :: b).take a.length = a) := by simp [Hid]
  have E2 : Hid ((a ++ 46 :: b).drop (a.length + 1) = b) := by
    show _ = _
    rw [List.drop_append, List.drop_eq_nil_of_le (by omega), show a.length + 1 - a.length = 1 from by omega]; rfl
  have G1 : Hid (∀ j, j < a.length → dots ((a ++ 46 :: b).take (j + 1)) ≤ dots a) := by
    intro j hj
    rw [List.take_append_of_le_length (by omega)]
    exact List.Sublist.countP_le (List.take_sublist _ _)
  have G3 : Hid ((a ++ 46 :: b)[a.length]? = some 46) := by simp [Hid]
  have DK := dots_le a
  generalize (a ++ 46 :: b) = l at *
  have D1 : Hid (dots (l.take a.length) = dots a) := by show _ = _; rw [E1.out]
  generalize hk : dots a = k at *
  go_enter Tryz.func92, Tryz.ntmps92
  go_wp2_with fail
  go_loop [7, 8] (fun n i => ∃ (j : Nat), j ≤ a.length ∧ i = .int .i64 j ∧ n = .int .i64 ((dots (l.take j) : Int) - 1)) (fun _ i => a.length + 2 - (intOf i).toNat)
  case atStart => exact ⟨0, Nat.zero_le _, rfl, rfl⟩
  case round =>
    obtain ⟨j, hj, rfl, rfl⟩ := hrel
    have b1 := dots_le (l.take j)
    have b2 : (l.take j).length ≤ j := List.length_take_le _ _
    have b3 : (0 : Int) ≤ dots (l.take j) ∧ (dots (l.take j) : Int) ≤ j := by omega
    clear b1 b2
    have hlt : j < l.length := by rw [LN.out]; omega
    obtain ⟨c, hc⟩ : ∃ c, l[j]? = some c := ⟨_, List.getElem?_eq_getElem hlt⟩
    have ST : dots (l.take (j + 1)) = dots (l.take j) + if c = 46 then 1 else 0 := by
      rw [List.take_add_one, hc]; exact dots_snoc _ _
    obtain ⟨x1, x2⟩ := s_at (S l) j c (by rw [S_toList]; exact hc)
    have h1 : (j : Int) < (S l).size := by show (j : Int) < (l.length : Nat); omega
    have h0 : (0 : Int) ≤ j := by omega
    by_cases hl2 : j = a.length
    · obtain rfl : c = 46 := by rw [hl2, G3.out] at hc; exact (Option.some.inj hc).symm
      have DD : dots (l.take j) = k := by rw [hl2]; exact D1.out
      rw [DD]
      have t1 : (((46 : UInt8).toNat : Int) == 46) = true := rfl
      have SZ : Hid ((S l).size = a.length + b.length + 1) := LN.out
      have F1 : (S l).extract 0 j = S a := by rw [S_extract, hl2, E1.out]; rfl
      have F2 : (S l).extract (j + 1) (S l).size = S b := by
        rw [S_extract, S_size, List.take_of_length_le (Nat.le_refl _), hl2, E2.out]
      have g1 : (j : Int) + 1 ≤ (S l).size := by rw [SZ.out]; omega
      have g2 : (j : Int) < 1000001 := by omega
      have g3 : (k : Int) - 1 + 1 = k := by omega
      have g4 : (9223372036854775807 < (S a).size + o.size) = False := by rw [S_size]; simp; omega
      have g5 : (9223372036854775807 < (S a).size + o.size + (S b).size) = False := by rw [S_size, S_size]; simp; omega
      have g6 : (k : Int) < 1000001 ∧ (0 : Int) ≤ k := by omega
      clear ST hc hl2 DD b3
      go_wp2_with fail
      go_region
      go_wp2_with fail
      go_ret
      exact ⟨rfl, 1, rfl⟩
    · have G := G1.out j (by omega)
      by_cases c1 : c = 46
      · have t1 : ((c.toNat : Int) == 46) = true := by subst c1; rfl
        rw [if_pos c1] at ST
        have t3 : (dots (l.take j) : Int) - 1 + 1 = dots (l.take j) := by omega
        have t2 : (((dots (l.take j) : Nat) : Int) == (k : Int)) = false := by rw [beq_eq_false_iff_ne]; omega
        have ST := Lib.hid ST
        clear c1 hc G
        go_wp2_with fail
        exact ⟨⟨j + 1, by omega, by go_num, by rw [ST.out]; go_num⟩, by simp [intOf]; omega⟩
      · have t1 : ((c.toNat : Int) == 46) = false := byte_ne c1
        rw [if_neg c1] at ST
        have t2 : (((dots (l.take j) : Nat) : Int) - 1 == (k : Int)) = false := by rw [beq_eq_false_iff_ne]; omega
        have ST := Lib.hid ST
        clear c1 hc G
        go_wp2_with fail
        exact ⟨⟨j + 1, by omega, by go_num, by rw [ST.out]; go_num⟩, by simp [intOf]; omega⟩
theorem trGraft_tree (T O : Tr) (n : Nat) (hT : T.carets < 1000) (hO : O.carets < 1000) (hn : n < T.carets + 1) (w : World) :
    Calls Tryz.prog 92 #[.string (tx T), .int .i64 n, .string (tx O)] w fun e w' => e = .returned (.string (tx (graft T n O))) ∧ ∃ m, w' = w.drewN m := by
  obtain ⟨a, b, e1, e2, e3⟩ := graft_txt O n T 0 (Nat.zero_le _) (by omega)
  have hl := T.txt_length
  have ho := O.txt_length
  rw [e1] at hl
  simp at hl
  have e4 : n = dots a := by omega
  have e5 : (S a ++ tx O) ++ S b = tx (graft T n O) := by
    show (S a ++ S O.txt) ++ S b = S ((T.grown _ 0).txt)
    rw [e2, S_append, S_append, List.append_assoc]
  rw [← e5, e4, show tx T = S (a ++ 46 :: b) by rw [tx, e1]]
  exact trGraft_calls a b (tx O) (by omega) (by show O.txt.length < _; omega) w
set_option maxHeartbeats 1600000 in
set_option maxRecDepth 100000 in
theorem prGenerator_calls (i : Nat) (hi : i < 900) (w : World) :
    Calls Tryz.prog 68 #[.int .i64 i] w fun e w' => e = .returned (.agg #[.string (tx (gen i).1), .string (tx (gen i).2)]) ∧ Ext w w' := by
  have X0 := Lib.hid ((Ext.refl w).alloc (.cells #[.string ⟨#[]⟩, .string ⟨#[]⟩] 25))
  have t0 := Two.new w (.string ⟨#[]⟩) (.string ⟨#[]⟩) 25 rfl
  have C1 := Lib.hid (fun W => trRight_calls i (by omega) W)
  have C3 := Lib.hid (fun W => trRight_calls (i + 2) (by omega) W)
  have C2 := Lib.hid (fun W => trGraft_tree (comb i) (.node (.node .leaf .leaf) .leaf) i (by rw [comb_carets]; omega) (by simp [Tr.carets]) (by rw [comb_carets]; omega) W)
  rw [show tx (.node (.node .leaf .leaf) .leaf) = ⟨#[40, 40, 46, 46, 41, 46, 41]⟩ from rfl] at C2
  have hi' : (i : Int) < 1000 ∧ (0 : Int) ≤ i := by omega
  have W2 : Hid ((i : Int) + 2 = ((i + 2 : Nat) : Int)) := by show _ = _; omega
  rw [show gen i = (graft (comb i) i (.node (.node .leaf .leaf) .leaf), comb (i + 2)) from rfl]
  generalize tx (comb i) = s1 at *
  generalize tx (graft (comb i) i (.node (.node .leaf .leaf) .leaf)) = s2 at *
  generalize tx (comb (i + 2)) = s3 at *
  go_enter Tryz.func68, Tryz.ntmps68
  go_wp2_with fail
  generalize w.alloc (.cells #[.string ⟨#[]⟩, .string ⟨#[]⟩] 25) = W at *
  refine (C1.out _).mono ?_
  rintro e w1 ⟨rfl, rfl⟩
  go_wp2_with fail
  refine (C2.out _).mono ?_
  rintro e w2 ⟨rfl, n2, rfl⟩
  go_wp2_with fail
  rw [W2.out]
  refine (C3.out _).mono ?_
  rintro e w3 ⟨rfl, rfl⟩
  have x3 := (Ext.refl W).drewN n2
  obtain ⟨u, v, k0, k1, f0, f1⟩ := (t0.ext x3).facts
  go_wp2_with fail
  have HH := set2_heap (t0.ext x3) (.string s2) (.string s3)
  have XX := (X0.out.trans x3).set2 (g := w.heap.size) (Nat.le_refl _) (.string s2) (.string s3)
  change bodyPost _ _ _ _ _ (N.set2 _ w.heap.size (.string s2) (.string s3))
  obtain ⟨hc0, hc1⟩ := cells_of HH
  generalize N.set2 _ w.heap.size (.string s2) (.string s3) = W3 at *
  exact bodyPost_ret (v := .agg #[.string s2, .string s3]) (by simp [results, Tryz.results68, go_sem, hc0, hc1]) rfl ⟨rfl, XX⟩
end Go.Proofs.YtijnadjgmmednaaGreat.N
namespace Go.Proofs.YtijnadjgmmednaaGreat.N
open Go.RowKit
theorem join_depth : ∀ a b : Tr, (join a b).depth ≤ max a.depth b.depth
  | .leaf, b => by simp only [join]; omega
  | .node l r, .leaf => by simp only [join]; omega
  | .node l r, .node a b => by have := join_depth l a; have := join_depth r b; simp only [join, Tr.depth]; omega
set_option maxHeartbeats 3200000 in
set_option maxRecDepth 100000 in
theorem trJoin_calls (A : Tr) : ∀ (B : Tr) (w : World), A.depth ≤ 60 → A.carets ≤ 1000 → B.depth ≤ 60 → B.carets ≤ 1000 →
    Calls Tryz.prog 95 #[.string (tx A), .string (tx B)] w fun e w' => e = .returned (.string (tx (join A B))) ∧ ∃ n, w' = w.drewN n := by
  induction A with
  | leaf =>
    intro B w _ _ _ _
    have C1 := Lib.hid (fun W => trLeaf_leaf W)
    rw [show join .leaf B = B from rfl]
    generalize tx .leaf = z at *
    generalize tx B = b at *
    go_enter Tryz.func95, Tryz.ntmps95
    go_wp2_with fail
    refine (C1.out _).mono ?_
    rintro e w1 ⟨rfl, rfl⟩
    go_wp2_with fail
    go_ret
    exact ⟨rfl, 0, rfl⟩
  | node l r ihl ihr =>
    intro B w hd hc hd2 hc2
    have C1 := Lib.hid (fun W => trLeaf_node l r W)
    cases B with
    | leaf =>
      have C2 := Lib.hid (fun W => trLeaf_leaf W)
      rw [show join (.node l r) .leaf = .node l r from rfl]
      generalize tx .leaf = z at *
      generalize tx (.node l r) = a at *
      clear ihl ihr hd hc hd2 hc2
      go_enter Tryz.func95, Tryz.ntmps95
      go_wp2_with fail
      refine (C1.out _).mono ?_
      rintro e w1 ⟨rfl, rfl⟩
      go_wp2_with fail
      refine (C2.out _).mono ?_
      rintro e w1 ⟨rfl, rfl⟩
      go_wp2_with fail
      go_ret
      exact ⟨rfl, 0, rfl⟩
    | node x y =>
      have C2 := Lib.hid (fun W => trLeaf_node x y W)
      have C3 := Lib.hid (fun W => trSides_calls l r hd (by omega) W)
      have C4 := Lib.hid (fun W => trSides_calls x y hd2 (by omega) W)
      simp only [Tr.depth, Tr.carets] at hd hc hd2 hc2
      have C5 := Lib.hid (fun W => ihl x W (by omega) (by omega) (by omega) (by omega))
      have C6 := Lib.hid (fun W => ihr y W (by omega) (by omega) (by omega) (by omega))
      have j1 := join_carets l x
      have j2 := join_carets r y
      have C7 := Lib.hid (fun W => trOf_tree (join l x) (join r y) (by omega) (by omega) W)
      rw [show join (.node l r) (.node x y) = .node (join l x) (join r y) from rfl]
      generalize tx (.node (join l x) (join r y)) = q at *
      generalize tx (join l x) = jl at *
      generalize tx (join r y) = jr at *
      generalize tx (.node l r) = a at *
      generalize tx (.node x y) = b at *
      generalize tx l = sl at *
      generalize tx r = sr at *
      generalize tx x = sx at *
      generalize tx y = sy at *
      clear ihl ihr hd hc hd2 hc2 j1 j2
      go_enter Tryz.func95, Tryz.ntmps95
      go_wp2_with fail
      refine (C1.out _).mono ?_
      rintro e w1 ⟨rfl, rfl⟩
      go_wp2_with fail
      refine (C2.out _).mono ?_
      rintro e w1 ⟨rfl, rfl⟩
      go_wp2_with fail
      refine (C3.out _).mono ?_
      rintro e w1 ⟨rfl, n1, rfl⟩
      go_wp2_with fail
      refine (C4.out _).mono ?_
      rintro e w1 ⟨rfl, n2, rfl⟩
      go_wp2_with fail
      refine (C5.out _).mono ?_
      rintro e w1 ⟨rfl, n3, rfl⟩
      go_wp2_with fail
      refine (C6.out _).mono ?_
      rintro e w1 ⟨rfl, n4, rfl⟩
      go_wp2_with fail
      refine (C7.out _).mono ?_
      rintro e w1 ⟨rfl, rfl⟩
      go_wp2_with fail
      go_ret
      exact ⟨rfl, _, rfl⟩
set_option maxHeartbeats 3200000 in
set_option maxRecDepth 100000 in
theorem prParts_calls (T : Tr) : ∀ (W0 : Tr) (w : World), Part T W0 → T.depth ≤ 60 → T.carets ≤ 1000 → W0.depth ≤ 60 → W0.carets ≤ 2000 →
    Calls Tryz.prog 97 #[.string (tx T), .string (tx W0)] w fun e w' => ∃ v, e = .returned v ∧ Own w' w.heap.size 9 v (strs ((partsT T W0).map tx)) ∧ Ext w w' := by
  induction T with
  | leaf =>
    intro W0 w _ _ _ _ _
    have C1 := Lib.hid (fun W => trLeaf_leaf W)
    rw [show (partsT .leaf W0).map tx = [tx W0] from rfl]
    generalize tx .leaf = z at *
    generalize tx W0 = b at *
    have OL : Hid (Own (w.alloc (.cells #[.string b] 9)) w.heap.size 9 (.slice (some ⟨w.heap.size, 0, none⟩) 1 1) (strs [b])) := Own.lit w w.heap.size 9 #[.string b] (Nat.le_refl _) (by show 1 ≤ maxLen; decide)
    have XL := Lib.hid ((Ext.refl w).alloc (.cells #[.string b] 9))
    go_enter Tryz.func97, Tryz.ntmps97
    go_wp2_with fail
    refine (C1.out _).mono ?_
    rintro e w1 ⟨rfl, rfl⟩
    go_wp2_with fail
    go_ret
    exact ⟨_, rfl, OL.out, XL.out⟩
  | node l r ihl ihr =>
    intro W0 w hP hd hc hd2 hc2
    cases W0 with
    | leaf => exact hP.elim
    | node x y =>
      have C1 := Lib.hid (fun W => trLeaf_node l r W)
      have C3 := Lib.hid (fun W => trSides_calls l r hd (by omega) W)
      have C4 := Lib.hid (fun W => trSides_calls x y hd2 (by omega) W)
      simp only [Tr.depth, Tr.carets] at hd hc hd2 hc2
      have C5 := Lib.hid (fun W => ihl x W hP.1 (by omega) (by omega) (by omega) (by omega))
      have C6 := Lib.hid (fun W => ihr y W hP.2 (by omega) (by omega) (by omega) (by omega))
      have l1 := parts_length l x hP.1
      have l2 := parts_length r y hP.2
      rw [show (partsT (.node l r) (.node x y)).map tx = (partsT l x).map tx ++ (partsT r y).map tx from List.map_append, ← strs_append]
      have LL : Hid (((strs ((partsT l x).map tx)).length + (strs ((partsT r y).map tx)).length) * 16 ≤ 140737488355328) := by show _ ≤ _; rw [strs_length, strs_length, List.length_map, List.length_map]; omega
      generalize (partsT l x).map tx = L1 at *
      generalize (partsT r y).map tx = L2 at *
      generalize tx (.node l r) = a at *
      generalize tx (.node x y) = b at *
      generalize tx l = sl at *
      generalize tx r = sr at *
      generalize tx x = sx at *
      generalize tx y = sy at *
      clear ihl ihr hd hc hd2 hc2 l1 l2 hP
      go_enter Tryz.func97, Tryz.ntmps97
      go_wp2_with fail
      refine (C1.out _).mono ?_
      rintro e w1 ⟨rfl, rfl⟩
      go_wp2_with fail
      refine (C3.out _).mono ?_
      rintro e w1 ⟨rfl, n1, rfl⟩
      go_wp2_with fail
      refine (C4.out _).mono ?_
      rintro e w1 ⟨rfl, n2, rfl⟩
      have X2 := Lib.hid (((Ext.refl w).drewN n1).drewN n2)
      generalize (w.drewN n1).drewN n2 = w2 at *
      go_wp2_with fail
      refine (C5.out _).mono ?_
      rintro e w3 ⟨v3, rfl, o3, x3⟩
      have X3 := Lib.hid (X2.out.trans x3)
      have O3 := Lib.hid (o3.mono X2.out.size)
      clear o3 x3
      go_wp2_with fail
      refine (C6.out _).mono ?_
      rintro e w4 ⟨v4, rfl, o4, x4⟩
      have X4 := Lib.hid (X3.out.trans x4)
      have O4 := o4.reads
      have O3 := O3.out.ext x4
      have B1 := Lib.hid X4.out.size
      clear o4 x4
      go_wp2_with (at_builtin; refine wpList_app rfl (.tmp 25) (.tmp 28) 111 rfl w.heap.size 9 (.string ⟨#[]⟩) 16 Tryz.underlying111 infoStr rfl (by omega) _ _ _ (strs L2) rfl rfl O3 O4 (strs_one _) LL.out B1.out ?_; intro v5 w5 o5 g5 _)
      have X5 := Lib.hid (X4.out.grown g5 O3.lo)
      have O5 := Lib.hid o5
      clear o5 g5 O3 O4
      go_wp2_with fail
      go_ret
      exact ⟨_, rfl, O5.out, X5.out⟩
set_option maxHeartbeats 3200000 in
set_option maxRecDepth 100000 in
theorem prTimes_calls (A B C D : Tr) (hAB : A.carets = B.carets) (hCD : C.carets = D.carets) (hB : B.carets ≤ 60) (hC : C.carets ≤ 60) (w : World) :
    Calls Tryz.prog 70 #[.agg #[.string (tx A), .string (tx B)], .agg #[.string (tx C), .string (tx D)]] w fun e w' => e = .returned (.agg #[.string (tx (mul (A, B) (C, D)).1), .string (tx (mul (A, B) (C, D)).2)]) ∧ Ext w w' := by
  obtain ⟨X0, c0, c1, c2, c3, t0⟩ := boxQQ_facts w (.string (tx A)) (.string (tx B)) (.string (tx C)) (.string (tx D)) (.string ⟨#[]⟩) (.string ⟨#[]⟩) 25 25
  have dB := B.depth_le
  have dC := C.depth_le
  have jc := join_carets B C
  have jd := join_depth B C
  have pl := part_join_l B C
  have pr := part_join_r B C
  have pll := parts_length B _ pl
  have prl := parts_length C _ pr
  have C1 := Lib.hid (fun W => trJoin_calls B C W (by omega) (by omega) (by omega) (by omega))
  have C2 := Lib.hid (fun W => prParts_calls B (join B C) W pl (by omega) (by omega) (by omega) (by omega))
  have C3 := Lib.hid (fun W => prParts_calls C (join B C) W pr (by omega) (by omega) (by omega) (by omega))
  have C4 := Lib.hid (fun v W h => prFill_calls A.txt ((partsT B (join B C)).map tx) (by have := A.txt_length; omega) (by rw [List.length_map]; omega) (by rw [dots_txt, List.length_map]; omega) (by intro p hp; obtain ⟨t, ht, rfl⟩ := List.mem_map.1 hp; have := parts_le pl ht; rw [tx_size]; omega) v W h)
  have C5 := Lib.hid (fun v W h => prFill_calls D.txt ((partsT C (join B C)).map tx) (by have := D.txt_length; omega) (by rw [List.length_map]; omega) (by rw [dots_txt, List.length_map]; omega) (by intro p hp; obtain ⟨t, ht, rfl⟩ := List.mem_map.1 hp; have := parts_le pr ht; rw [tx_size]; omega) v W h)
  rw [fillP_txt A _ (by omega)] at C4
  rw [fillP_txt D _ (by omega)] at C5
  obtain ⟨mc1, mc2⟩ := mul0_carets (p := (A, B)) (q := (C, D)) hAB hCD
  have C6 := Lib.hid (fun W => prReduce_calls (mul0 (A, B) (C, D)).1 (mul0 (A, B) (C, D)).2 (by rw [mc1]; simp only; omega) (by rw [mc2]; simp only; omega) W)
  change Hid (∀ (v : Value) (W : World), Reads W v _ → Calls _ _ #[.string (tx A), v] W (fun e w' => e = .returned (.string (tx (mul0 (A, B) (C, D)).1)) ∧ W = w')) at C4
  change Hid (∀ (v : Value) (W : World), Reads W v _ → Calls _ _ #[.string (tx D), v] W (fun e w' => e = .returned (.string (tx (mul0 (A, B) (C, D)).2)) ∧ W = w')) at C5
  rw [show mul (A, B) (C, D) = red ((mul0 (A, B) (C, D)).1, (mul0 (A, B) (C, D)).2) from rfl]
  generalize tx (red ((mul0 (A, B) (C, D)).1, (mul0 (A, B) (C, D)).2)).1 = z1 at *
  generalize tx (red ((mul0 (A, B) (C, D)).1, (mul0 (A, B) (C, D)).2)).2 = z2 at *
  generalize tx (mul0 (A, B) (C, D)).1 = y1 at *
  generalize tx (mul0 (A, B) (C, D)).2 = y2 at *
  generalize (partsT B (join B C)).map tx = L1 at *
  generalize (partsT C (join B C)).map tx = L2 at *
  generalize tx (join B C) = j at *
  generalize tx A = a at *
  generalize tx B = b at *
  generalize tx C = c at *
  generalize tx D = d at *
  have X0 := Lib.hid X0
  clear hAB hCD hB hC mc1 mc2 jc jd pl pr pll prl dB dC
  go_enter Tryz.func70, Tryz.ntmps70
  go_wp2_with fail
  generalize ((w.alloc (.cells #[.string a, .string b] 25)).alloc (.cells #[.string c, .string d] 25)).alloc (.cells #[.string ⟨#[]⟩, .string ⟨#[]⟩] 25) = W at *
  refine (C1.out _).mono ?_
  rintro e w1 ⟨rfl, n1, rfl⟩
  have x1 : Ext W (W.drewN n1) := (Ext.refl W).drewN n1
  have SX := Lib.hid (quad_ext ⟨c0, c1, c2, c3, X0.out⟩ x1)
  have T1 := t0.ext x1
  have c0 := x1.cell c0
  have c1 := x1.cell c1
  have c2 := x1.cell c2
  have c3 := x1.cell c3
  generalize W.drewN n1 = W1 at *
  have n1 : Hid (w.heap.size ≠ w.heap.size + 1 + 1) := by show _ ≠ _; omega
  have n2 : Hid (w.heap.size + 1 ≠ w.heap.size + 1 + 1) := by show _ ≠ _; omega
  have n3 : Hid (w.heap.size ≤ w.heap.size + 1 + 1) := by show _ ≤ _; omega
  clear x1 t0
  go_wp2_with fail
  go_region_held3 (fun w' => w'.cell? ⟨w.heap.size, 0, none⟩ = some (.string a) ∧ w'.cell? ⟨w.heap.size, 1, none⟩ = some (.string b) ∧ w'.cell? ⟨w.heap.size + 1, 0, none⟩ = some (.string c) ∧ w'.cell? ⟨w.heap.size + 1, 1, none⟩ = some (.string d) ∧ Ext w w')
    (first | with_reducible exact quad_ext SX.out (Ext.refl _).drew | with_reducible exact quad_ext SX.out x6 | with_reducible exact quad_ext SX.out x4 | with_reducible exact quad_ext SX.out x2 | with_reducible exact quad_far _ _ (quad_ext SX.out x6) n1.out n2.out n3.out | fail)
    (first
      | (go_at_call_of 97 (Value.string b); refine (C2.out _).mono ?_; rintro e w2 ⟨v2, rfl, o2, hx2⟩; have x2 := (Ext.refl W1).drew.trans hx2)
      | (go_at_call_of 96 (Value.string a); refine (C4.out _ _ o2.reads).mono ?_; rintro e w3 ⟨rfl, rfl⟩)
      | (go_at_call_of 97 (Value.string c); refine (C3.out _).mono ?_; rintro e w4 ⟨v4, rfl, o4, hx4⟩; have x4 := x2.trans hx4)
      | (go_at_call_of 96 (Value.string d); refine (C5.out _ _ o4.reads).mono ?_; rintro e w5 ⟨rfl, rfl⟩)
      | (go_at_call 54; refine (C6.out _).mono ?_; rintro e w6 ⟨rfl, hx6⟩; have x6 := x4.trans hx6; obtain ⟨u, v, k0, k1, f0, f1⟩ := (T1.ext x6).facts)
      | fail)
  have T3 := T1.ext x6
  have HH := set2_heap T3 (.string z1) (.string z2)
  have XX := (SX.out.2.2.2.2.trans x6).set2 (g := w.heap.size + 1 + 1) (by omega) (.string z1) (.string z2)
  change Exit.then _ _ _ _ (N.set2 _ (w.heap.size + 1 + 1) (.string z1) (.string z2))
  obtain ⟨hc0, hc1⟩ := cells_of HH
  generalize N.set2 _ (w.heap.size + 1 + 1) (.string z1) (.string z2) = W3 at *
  go_wp2_with fail
  exact bodyPost_ret (v := .agg #[.string z1, .string z2]) (by simp [results, Tryz.results70, go_sem, hc0, hc1]) rfl ⟨rfl, XX⟩
set_option maxHeartbeats 3200000 in
theorem prInverse_calls (s t : ByteArray) (w : World) :
    Calls Tryz.prog 71 #[.agg #[.string s, .string t]] w fun e w' => e = .returned (.agg #[.string t, .string s]) ∧ Ext w w' := by
  have X2 := Lib.hid (((Ext.refl w).alloc (.cells #[.string s, .string t] 25)).alloc (.cells #[.string t, .string s] 25))
  have HH := heap_alloc_new (w.alloc (.cells #[.string s, .string t] 25)) (.cells #[.string t, .string s] 25)
  rw [show (w.alloc (.cells #[.string s, .string t] 25)).heap.size = w.heap.size + 1 by simp] at HH
  obtain ⟨hc0, hc1⟩ := cells_of HH
  go_enter Tryz.func71, Tryz.ntmps71
  go_wp2_with fail
  exact bodyPost_ret (v := .agg #[.string t, .string s]) (by simp [results, Tryz.results71, go_sem, hc0, hc1]) rfl ⟨rfl, X2.out⟩
set_option maxHeartbeats 3200000 in
set_option maxRecDepth 100000 in
theorem cjBy_calls (A B C D : Tr) (hAB : A.carets = B.carets) (hCD : C.carets = D.carets) (hs : C.carets + B.carets ≤ 60) (w : World) :
    Calls Tryz.prog 29 #[.agg #[.string (tx A), .string (tx B)], .agg #[.string (tx C), .string (tx D)]] w fun e w' => e = .returned (.agg #[.string (tx (conj (A, B) (C, D)).1), .string (tx (conj (A, B) (C, D)).2)]) ∧ Ext w w' := by
  obtain ⟨X0, c0, c1, c2, c3, t0⟩ := boxQQ_facts w (.string (tx A)) (.string (tx B)) (.string (tx C)) (.string (tx D)) (.string ⟨#[]⟩) (.string ⟨#[]⟩) 25 25
  obtain ⟨m1, m2⟩ := mul_carets (p := (D, C)) (q := (A, B)) hCD.symm hAB
  simp only at m2
  have C1 := Lib.hid (fun W => prInverse_calls (tx C) (tx D) W)
  have C2 := Lib.hid (fun W => prTimes_calls D C A B hCD.symm hAB (by omega) (by omega) W)
  have C3 := Lib.hid (fun W => prTimes_calls (mul (D, C) (A, B)).1 (mul (D, C) (A, B)).2 C D m1 hCD (by omega) (by omega) W)
  rw [show conj (A, B) (C, D) = mul ((mul (D, C) (A, B)).1, (mul (D, C) (A, B)).2) (C, D) from rfl]
  generalize tx (mul ((mul (D, C) (A, B)).1, (mul (D, C) (A, B)).2) (C, D)).1 = z1 at *
  generalize tx (mul ((mul (D, C) (A, B)).1, (mul (D, C) (A, B)).2) (C, D)).2 = z2 at *
  generalize tx (mul (D, C) (A, B)).1 = y1 at *
  generalize tx (mul (D, C) (A, B)).2 = y2 at *
  generalize tx A = a at *
  generalize tx B = b at *
  generalize tx C = c at *
  generalize tx D = d at *
  have X0 := Lib.hid X0
  clear hAB hCD hs m1 m2
  go_enter Tryz.func29, Tryz.ntmps29
  go_wp2_with fail
  generalize ((w.alloc (.cells #[.string a, .string b] 25)).alloc (.cells #[.string c, .string d] 25)).alloc (.cells #[.string ⟨#[]⟩, .string ⟨#[]⟩] 25) = W at *
  have SX := Lib.hid (And.intro c0 (And.intro c1 (And.intro c2 (And.intro c3 X0.out))))
  have n1 : Hid (w.heap.size ≠ w.heap.size + 1 + 1) := by show _ ≠ _; omega
  have n2 : Hid (w.heap.size + 1 ≠ w.heap.size + 1 + 1) := by show _ ≠ _; omega
  have n3 : Hid (w.heap.size ≤ w.heap.size + 1 + 1) := by show _ ≤ _; omega
  go_region_held3 (fun w' => w'.cell? ⟨w.heap.size, 0, none⟩ = some (.string a) ∧ w'.cell? ⟨w.heap.size, 1, none⟩ = some (.string b) ∧ w'.cell? ⟨w.heap.size + 1, 0, none⟩ = some (.string c) ∧ w'.cell? ⟨w.heap.size + 1, 1, none⟩ = some (.string d) ∧ Ext w w')
    (first | with_reducible exact quad_ext SX.out (Ext.refl _).drew | with_reducible exact quad_ext SX.out x3 | with_reducible exact quad_ext SX.out x2 | with_reducible exact quad_ext SX.out x1 | with_reducible exact quad_far _ _ (quad_ext SX.out x3) n1.out n2.out n3.out | fail)
    (first
      | (go_at_call 71; refine (C1.out _).mono ?_; rintro e w1 ⟨rfl, hx1⟩; have x1 := (Ext.refl W).drew.trans hx1)
      | (go_at_call_of 70 (Value.agg #[.string d, .string c]); refine (C2.out _).mono ?_; rintro e w2 ⟨rfl, hx2⟩; have x2 := x1.trans hx2)
      | (go_at_call 70; refine (C3.out _).mono ?_; rintro e w3 ⟨rfl, hx3⟩; have x3 := x2.trans hx3; obtain ⟨u, v, k0, k1, f0, f1⟩ := (t0.ext x3).facts)
      | fail)
  have T3 := t0.ext x3
  have HH := set2_heap T3 (.string z1) (.string z2)
  have XX := (X0.out.trans x3).set2 (g := w.heap.size + 1 + 1) (by omega) (.string z1) (.string z2)
  change Exit.then _ _ _ _ (N.set2 _ (w.heap.size + 1 + 1) (.string z1) (.string z2))
  obtain ⟨hc0, hc1⟩ := cells_of HH
  generalize N.set2 _ (w.heap.size + 1 + 1) (.string z1) (.string z2) = W3 at *
  go_wp2_with fail
  exact bodyPost_ret (v := .agg #[.string z1, .string z2]) (by simp [results, Tryz.results29, go_sem, hc0, hc1]) rfl ⟨rfl, XX⟩
end Go.Proofs.YtijnadjgmmednaaGreat.N
namespace Go.Proofs.YtijnadjgmmednaaGreat.N
open Go.RowKit
def letP (n : Int) : Tr × Tr := if n < 0 then ((gen (n.natAbs - 1)).2, (gen (n.natAbs - 1)).1) else gen (n.natAbs - 1)
theorem letP_carets {n : Int} (hn : n ≠ 0) : (letP n).1.carets = n.natAbs + 1 ∧ (letP n).2.carets = n.natAbs + 1 := by
  have h := gen_carets (n.natAbs - 1)
  unfold letP
  split
  · simp only; omega
  · omega
def TwoL (xs : List Int) : Prop := ∀ x ∈ xs, x ≠ 0 ∧ -2 ≤ x ∧ x ≤ 2
instance (xs : List Int) : Decidable (TwoL xs) := by unfold TwoL; infer_instance
def LetL (m : Int) (xs : List Int) : Prop := ∀ x ∈ xs, x ≠ 0 ∧ -m - 1 ≤ x ∧ x ≤ m + 1
instance (m : Int) (xs : List Int) : Decidable (LetL m xs) := by unfold LetL; infer_instance
theorem LetL_two (xs : List Int) : LetL 1 xs ↔ TwoL xs := forall_congr' fun x => forall_congr' fun _ => by omega
section
attribute [local go_sem] max2_i max_two_
theorem size_calls (n : Int) (hn : -1000000 ≤ n ∧ n ≤ 1000000) (w : World) :
    Calls Tryz.prog 75 #[.int .i64 n] w fun e w' => e = .returned (.int .i64 (n.natAbs : Nat)) ∧ w = w' := by
  by_cases h : n < -n
  · go_enter Tryz.func75, Tryz.ntmps75
    go_wp2_with fail
    go_ret
    exact ⟨ret_int (by omega), rfl⟩
  · go_enter Tryz.func75, Tryz.ntmps75
    go_wp2_with fail
    go_ret
    exact ⟨ret_int (by omega), rfl⟩
end
set_option maxHeartbeats 3200000 in
set_option maxRecDepth 100000 in
theorem letter_calls (n : Int) (hn : n ≠ 0 ∧ -900 ≤ n ∧ n ≤ 900) (w : World) :
    Calls Tryz.prog 51 #[.int .i64 n] w (GivesP w (letP n).1 (letP n).2) := by
  have X0 := Lib.hid ((Ext.refl w).alloc (.cells #[.pointer none, .pointer none] 62))
  have t0 := Two.new w (.pointer none) (.pointer none) 62 rfl
  have C1 := Lib.hid (fun W => size_calls n (by omega) W)
  have C2 := Lib.hid (fun W => generator_calls (n.natAbs - 1) (by omega) W)
  have C3 := Lib.hid (fun pa pb W => inverse_calls pa pb W)
  have W1 : Hid ((n.natAbs : Int) - 1 = ((n.natAbs - 1 : Nat) : Int)) := by show _ = _; omega
  have b0 : (0 : Int) ≤ n.natAbs ∧ (n.natAbs : Int) ≤ 900 := by omega
  unfold letP
  generalize n.natAbs - 1 = k at *
  obtain ⟨a, ha⟩ : ∃ a : Int, a = (n.natAbs : Int) := ⟨_, rfl⟩
  rw [← ha] at C1 W1 b0
  clear ha
  by_cases hneg : n < 0
  · rw [if_pos hneg]
    clear hn
    go_enter Tryz.func51, Tryz.ntmps51
    go_wp2_with fail
    generalize w.alloc (.cells #[.pointer none, .pointer none] 62) = W at *
    refine (C1.out _).mono ?_
    rintro e w1 ⟨rfl, rfl⟩
    go_wp2_with fail
    rw [W1.out]
    refine (C2.out _).mono ?_
    rintro e w2 ⟨pa, pb, rfl, r1, r2, x2⟩
    have xa := x2.alloc (.cells #[.pointer pa, .pointer pb] 62)
    have R := Lib.hid (And.intro (r1.ext ((Ext.refl w2).alloc (.cells #[.pointer pa, .pointer pb] 62))) (r2.ext ((Ext.refl w2).alloc (.cells #[.pointer pa, .pointer pb] 62))))
    have X2 := Lib.hid (X0.out.trans xa)
    have T2 := Lib.hid (t0.ext xa)
    obtain ⟨c0, c1⟩ := cells_of (heap_alloc_new w2 (.cells #[.pointer pa, .pointer pb] 62))
    clear r1 r2 x2 xa t0
    go_wp2_with fail
    generalize w2.alloc (.cells #[.pointer pa, .pointer pb] 62) = W2 at *
    refine (C3.out _ _ _).mono ?_
    rintro e w3 ⟨rfl, x3⟩
    have T3 := T2.out.ext x3
    obtain ⟨u, v, k0, k1, f0, f1⟩ := T3.facts
    have T3 := Lib.hid T3
    have X3 := Lib.hid (X2.out.trans x3)
    have R3 := Lib.hid (And.intro (R.out.1.ext x3) (R.out.2.ext x3))
    clear x3
    go_wp2_with fail
    have HH := set2_heap T3.out (.pointer pb) (.pointer pa)
    have Q1 := Rep.set2 T3.out (by decide) (.pointer pb) (.pointer pa) R3.out.1
    have Q2 := Rep.set2 T3.out (by decide) (.pointer pb) (.pointer pa) R3.out.2
    have XX := X3.out.set2 (g := w.heap.size) (Nat.le_refl _) (.pointer pb) (.pointer pa)
    change bodyPost _ _ _ _ _ (N.set2 _ w.heap.size (.pointer pb) (.pointer pa))
    obtain ⟨hc0, hc1⟩ := cells_of HH
    generalize N.set2 _ w.heap.size (.pointer pb) (.pointer pa) = W3 at *
    exact bodyPost_ret (v := .agg #[.pointer pb, .pointer pa]) (by simp [results, Tryz.results51, go_sem, hc0, hc1]) rfl ⟨pb, pa, rfl, Q2, Q1, XX⟩
  · rw [if_neg hneg]
    have hneg' : ¬ n < 0 := hneg
    clear hn
    go_enter Tryz.func51, Tryz.ntmps51
    go_wp2_with fail
    generalize w.alloc (.cells #[.pointer none, .pointer none] 62) = W at *
    refine (C1.out _).mono ?_
    rintro e w1 ⟨rfl, rfl⟩
    go_wp2_with fail
    rw [W1.out]
    refine (C2.out _).mono ?_
    rintro e w2 ⟨pa, pb, rfl, r1, r2, x2⟩
    have xa := x2.alloc (.cells #[.pointer pa, .pointer pb] 62)
    have R := Lib.hid (And.intro (r1.ext ((Ext.refl w2).alloc (.cells #[.pointer pa, .pointer pb] 62))) (r2.ext ((Ext.refl w2).alloc (.cells #[.pointer pa, .pointer pb] 62))))
    have X2 := Lib.hid (X0.out.trans xa)
    have T3 := t0.ext xa
    obtain ⟨u, v, k0, k1, f0, f1⟩ := T3.facts
    have T3 := Lib.hid T3
    obtain ⟨c0, c1⟩ := cells_of (heap_alloc_new w2 (.cells #[.pointer pa, .pointer pb] 62))
    clear r1 r2 x2 xa t0
    go_wp2_with fail
    have HH := set2_heap T3.out (.pointer pa) (.pointer pb)
    have Q1 := Rep.set2 T3.out (by decide) (.pointer pa) (.pointer pb) R.out.1
    have Q2 := Rep.set2 T3.out (by decide) (.pointer pa) (.pointer pb) R.out.2
    have XX := X2.out.set2 (g := w.heap.size) (Nat.le_refl _) (.pointer pa) (.pointer pb)
    change bodyPost _ _ _ _ _ (N.set2 (w2.alloc (.cells #[.pointer pa, .pointer pb] 62)) w.heap.size (.pointer pa) (.pointer pb))
    obtain ⟨hc0, hc1⟩ := cells_of HH
    generalize N.set2 (w2.alloc (.cells #[.pointer pa, .pointer pb] 62)) w.heap.size (.pointer pa) (.pointer pb) = W3 at *
    exact bodyPost_ret (v := .agg #[.pointer pa, .pointer pb]) (by simp [results, Tryz.results51, go_sem, hc0, hc1]) rfl ⟨pa, pb, rfl, Q1, Q2, XX⟩
set_option maxHeartbeats 1600000 in
theorem areTwo_calls (xs : List Int) (hl : xs.length < 1000000000) (v : Value) (w : World) (hv : Reads0 w v (ints xs)) :
    Calls Tryz.prog 50 #[v] w fun e w' => e = .returned (.bool (decide (TwoL xs))) ∧ w = w' := by
  obtain ⟨A, c, rfl, _, rd⟩ := hv
  rw [ints_length] at *
  have RD := Lib.hid rd
  clear rd
  go_enter Tryz.func50, Tryz.ntmps50
  go_wp2_with fail
  go_loop [7] (fun i => ∃ k : Nat, k ≤ xs.length ∧ i = .int .i64 k ∧ Hid (TwoL xs ↔ TwoL (xs.drop k))) (fun i => xs.length - (intOf i).toNat)
  case atStart => exact ⟨0, Nat.zero_le _, rfl, Iff.rfl⟩
  case round =>
    obtain ⟨k, hk, rfl, HI⟩ := hrel
    by_cases hlt : k < xs.length
    · obtain ⟨ad, rfl, ca⟩ := RD.out (by omega)
      have hx : xs[k]? = some xs[k] := List.getElem?_eq_getElem hlt
      have c1 := ca k _ (ints_get xs k hlt)
      have h0 : (0 : Int) ≤ k := by omega
      have h1 : (k : Int) < xs.length := by omega
      clear ca
      generalize xs[k] = x at *
      by_cases g0 : x = 0
      · have HE : Hid (decide (TwoL xs) = false) := decide_eq_false (all_not hx (by omega))
        have t0 : (x == 0) = true := by rw [g0]; rfl
        clear g0 hx
        go_wp2_with fail
        go_ret
        exact ⟨by rw [HE.out]; rfl, rfl⟩
      have t0 : (x == 0) = false := by rw [beq_eq_false_iff_ne]; exact g0
      by_cases g1 : x < -2
      · have HE : Hid (decide (TwoL xs) = false) := decide_eq_false (all_not hx (by omega))
        clear hx
        go_wp2_with fail
        go_ret
        exact ⟨by rw [HE.out]; rfl, rfl⟩
      · by_cases g2 : (2 : Int) < x
        · have HE : Hid (decide (TwoL xs) = false) := decide_eq_false (all_not hx (by omega))
          clear hx
          go_wp2_with fail
          go_ret
          exact ⟨by rw [HE.out]; rfl, rfl⟩
        · have HE : Hid (TwoL xs ↔ TwoL (xs.drop (k + 1))) := all_step hx (by omega) HI.out
          clear hx
          go_wp2_with fail
          exact ⟨⟨k + 1, by omega, by go_num, HE.out⟩, by simp [intOf]; omega⟩
    · have h1 : (xs.length : Int) ≤ k := by omega
      have HE : Hid (decide (TwoL xs) = true) := decide_eq_true (all_end (by omega) HI.out)
      go_wp2_with fail
      go_ret
      exact ⟨by rw [HE.out]; rfl, rfl⟩
set_option maxHeartbeats 1600000 in
theorem wdIs_calls (xs : List Int) (m : Int) (hm : 0 ≤ m ∧ m ≤ 1000) (hl : xs.length < 1000000000) (v : Value) (w : World) (hv : Reads0 w v (ints xs)) :
    Calls Tryz.prog 53 #[v, .int .i64 m] w fun e w' => e = .returned (.bool (decide (LetL m xs))) ∧ w = w' := by
  obtain ⟨A, c, rfl, _, rd⟩ := hv
  rw [ints_length] at *
  have RD := Lib.hid rd
  clear rd
  go_enter Tryz.func53, Tryz.ntmps53
  go_wp2_with fail
  go_loop [9] (fun i => ∃ k : Nat, k ≤ xs.length ∧ i = .int .i64 k ∧ Hid (LetL m xs ↔ LetL m (xs.drop k))) (fun i => xs.length - (intOf i).toNat)
  case atStart => exact ⟨0, Nat.zero_le _, rfl, Iff.rfl⟩
  case round =>
    obtain ⟨k, hk, rfl, HI⟩ := hrel
    by_cases hlt : k < xs.length
    · obtain ⟨ad, rfl, ca⟩ := RD.out (by omega)
      have hx : xs[k]? = some xs[k] := List.getElem?_eq_getElem hlt
      have c1 := ca k _ (ints_get xs k hlt)
      have h0 : (0 : Int) ≤ k := by omega
      have h1 : (k : Int) < xs.length := by omega
      clear ca
      generalize xs[k] = x at *
      by_cases g0 : x = 0
      · have HE : Hid (decide (LetL m xs) = false) := decide_eq_false (all_not hx (by omega))
        have t0 : (x == 0) = true := by rw [g0]; rfl
        clear g0 hx
        go_wp2_with fail
        go_ret
        exact ⟨by rw [HE.out]; rfl, rfl⟩
      have t0 : (x == 0) = false := by rw [beq_eq_false_iff_ne]; exact g0
      have CC := Lib.hid (l1In_calls x (-m - 1) (m + 1) w)
      by_cases g1 : -m - 1 ≤ x ∧ x ≤ m + 1
      · have HE : Hid (LetL m xs ↔ LetL m (xs.drop (k + 1))) := all_step hx (by omega) HI.out
        rw [decide_eq_true g1] at CC
        clear hx g1 HI g0
        go_wp2_with fail
        refine CC.out.mono ?_
        rintro e w1 ⟨rfl, rfl⟩
        go_wp2_with fail
        exact ⟨⟨k + 1, by omega, by go_num, HE.out⟩, by simp [intOf]; omega⟩
      · have HE : Hid (decide (LetL m xs) = false) := decide_eq_false (all_not hx (by omega))
        rw [decide_eq_false g1] at CC
        clear hx g1 HI g0
        go_wp2_with fail
        refine CC.out.mono ?_
        rintro e w1 ⟨rfl, rfl⟩
        go_wp2_with fail
        go_ret
        exact ⟨by rw [HE.out]; rfl, rfl⟩
    · have h1 : (xs.length : Int) ≤ k := by omega
      have HE : Hid (decide (LetL m xs) = true) := decide_eq_true (all_end (by omega) HI.out)
      go_wp2_with fail
      go_ret
      exact ⟨by rw [HE.out]; rfl, rfl⟩
set_option maxHeartbeats 3200000 in
set_option maxRecDepth 100000 in
theorem wdLetter_calls (n : Int) (hn : n ≠ 0 ∧ -90 ≤ n ∧ n ≤ 90) (w : World) :
    Calls Tryz.prog 55 #[.int .i64 n] w fun e w' => e = .returned (.agg #[.string (tx (letP n).1), .string (tx (letP n).2)]) ∧ Ext w w' := by
  have X0 := Lib.hid ((Ext.refl w).alloc (.cells #[.string ⟨#[]⟩, .string ⟨#[]⟩] 25))
  have t0 := Two.new w (.string ⟨#[]⟩) (.string ⟨#[]⟩) 25 rfl
  have C2 := Lib.hid (fun W => prGenerator_calls (n.natAbs - 1) (by omega) W)
  have C3 := Lib.hid (fun s t W => prInverse_calls s t W)
  unfold letP
  by_cases hneg : n < 0
  · rw [if_pos hneg]
    have W1 : Hid (-n - 1 = ((n.natAbs - 1 : Nat) : Int)) := by show _ = _; omega
    generalize n.natAbs - 1 = k at *
    generalize tx (gen k).1 = a at *
    generalize tx (gen k).2 = b at *
    go_enter Tryz.func55, Tryz.ntmps55
    go_wp2_with fail
    generalize w.alloc (.cells #[.string ⟨#[]⟩, .string ⟨#[]⟩] 25) = W at *
    rw [W1.out]
    refine (C2.out _).mono ?_
    rintro e w2 ⟨rfl, x2⟩
    have X2 := Lib.hid (X0.out.trans x2)
    have T2 := Lib.hid (t0.ext x2)
    clear x2 t0
    go_wp2_with fail
    refine (C3.out _ _ _).mono ?_
    rintro e w3 ⟨rfl, x3⟩
    have T3 := T2.out.ext x3
    obtain ⟨u, v, k0, k1, f0, f1⟩ := T3.facts
    have T3 := Lib.hid T3
    have X3 := Lib.hid (X2.out.trans x3)
    clear x3
    go_wp2_with fail
    have HH := set2_heap T3.out (.string b) (.string a)
    have XX := X3.out.set2 (g := w.heap.size) (Nat.le_refl _) (.string b) (.string a)
    change bodyPost _ _ _ _ _ (N.set2 _ w.heap.size (.string b) (.string a))
    obtain ⟨hc0, hc1⟩ := cells_of HH
    generalize N.set2 _ w.heap.size (.string b) (.string a) = W3 at *
    exact bodyPost_ret (v := .agg #[.string b, .string a]) (by simp [results, Tryz.results55, go_sem, hc0, hc1]) rfl ⟨rfl, XX⟩
  · rw [if_neg hneg]
    have hneg' : ¬ n < 0 := hneg
    have W1 : Hid (n - 1 = ((n.natAbs - 1 : Nat) : Int)) := by show _ = _; omega
    generalize n.natAbs - 1 = k at *
    generalize tx (gen k).1 = a at *
    generalize tx (gen k).2 = b at *
    go_enter Tryz.func55, Tryz.ntmps55
    go_wp2_with fail
    generalize w.alloc (.cells #[.string ⟨#[]⟩, .string ⟨#[]⟩] 25) = W at *
    rw [W1.out]
    refine (C2.out _).mono ?_
    rintro e w2 ⟨rfl, x2⟩
    have X3 := Lib.hid (X0.out.trans x2)
    have T3 := t0.ext x2
    obtain ⟨u, v, k0, k1, f0, f1⟩ := T3.facts
    have T3 := Lib.hid T3
    clear x2 t0
    go_wp2_with fail
    have HH := set2_heap T3.out (.string a) (.string b)
    have XX := X3.out.set2 (g := w.heap.size) (Nat.le_refl _) (.string a) (.string b)
    change bodyPost _ _ _ _ _ (N.set2 _ w.heap.size (.string a) (.string b))
    obtain ⟨hc0, hc1⟩ := cells_of HH
    generalize N.set2 _ w.heap.size (.string a) (.string b) = W3 at *
    exact bodyPost_ret (v := .agg #[.string a, .string b]) (by simp [results, Tryz.results55, go_sem, hc0, hc1]) rfl ⟨rfl, XX⟩
end Go.Proofs.YtijnadjgmmednaaGreat.N
namespace Go.Proofs.YtijnadjgmmednaaGreat.N
open Go.RowKit
def TwoPost (w : World) (s1 t1 s2 t2 : ByteArray) (e : Ending) (w' : World) : Prop := ∃ pa pb pc pd b, e = .returned (.tuple #[.agg #[.pointer pa, .pointer pb], .agg #[.pointer pc, .pointer pd], .bool b]) ∧ Ext w w' ∧
  Hid (b = true → ∃ A B C D, s1 = tx A ∧ t1 = tx B ∧ s2 = tx C ∧ t2 = tx D ∧ A.carets = B.carets ∧ B.carets ≤ 8 ∧ C.carets = D.carets ∧ D.carets ≤ 8 ∧ Rep w' A pa ∧ Rep w' B pb ∧ Rep w' C pc ∧ Rep w' D pd) ∧ Hid (b = false → ¬ (Good s1 t1 ∧ Good s2 t2))
set_option maxHeartbeats 3200000 in
set_option maxRecDepth 100000 in
theorem two_calls (s1 t1 s2 t2 : ByteArray) (w : World) :
    Calls Tryz.prog 31 #[.agg #[.string s1, .string t1], .agg #[.string s2, .string t2]] w (TwoPost w s1 t1 s2 t2) := by
  have C1 := Lib.hid (pairOf_calls s1 t1)
  have C2 := Lib.hid (pairOf_calls s2 t2)
  let W0 := ((w.alloc (.cells #[.string s1, .string t1] 25)).alloc (.cells #[.string s2, .string t2] 25)).alloc (.cells #[.pointer none, .pointer none] 62)
  have X4 := Lib.hid (((((Ext.refl w).alloc (.cells #[.string s1, .string t1] 25)).alloc (.cells #[.string s2, .string t2] 25)).alloc (.cells #[.pointer none, .pointer none] 62)).alloc (.cells #[.pointer none, .pointer none] 62))
  have c0 : (W0.alloc (.cells #[.pointer none, .pointer none] 62)).cell? ⟨w.heap.size + 1, 0, none⟩ = some (.string s2) := by simp only [W0]; go_simp
  have c1 : (W0.alloc (.cells #[.pointer none, .pointer none] 62)).cell? ⟨w.heap.size + 1, 1, none⟩ = some (.string t2) := by simp only [W0]; go_simp
  have t0 := (Two.new ((w.alloc (.cells #[.string s1, .string t1] 25)).alloc (.cells #[.string s2, .string t2] 25)) (n := w.heap.size + 1 + 1) (.pointer none) (.pointer none) 62 (by simp)).ext ((Ext.refl _).alloc (.cells #[.pointer none, .pointer none] 62))
  have t1' := Two.new W0 (n := w.heap.size + 1 + 1 + 1) (.pointer none) (.pointer none) 62 (by simp [W0])
  have SZ : w.heap.size + 1 + 1 + 1 < (W0.alloc (.cells #[.pointer none, .pointer none] 62)).heap.size := by simp [W0]
  simp only [W0] at c0 c1 t1' SZ
  clear W0
  go_enter Tryz.func31, Tryz.ntmps31
  go_wp2_with fail
  generalize (((w.alloc (.cells #[.string s1, .string t1] 25)).alloc (.cells #[.string s2, .string t2] 25)).alloc (.cells #[.pointer none, .pointer none] 62)).alloc (.cells #[.pointer none, .pointer none] 62) = W at *
  refine (C1.out _).mono ?_
  rintro e w1 ⟨pa, pb, b1, rfl, x1, y1, n1⟩
  have d0 := (x1.alloc (.cells #[.pointer pa, .pointer pb] 62)).cell c0
  have d1 := (x1.alloc (.cells #[.pointer pa, .pointer pb] 62)).cell c1
  have B1 := heap_alloc_new w1 (.cells #[.pointer pa, .pointer pb] 62)
  have X1 := Lib.hid (x1.alloc (.cells #[.pointer pa, .pointer pb] 62))
  have SX := Lib.hid x1.size
  clear c0 c1 x1
  have XW := Lib.hid ((Ext.refl w1).alloc (.cells #[.pointer pa, .pointer pb] 62))
  have B1 := Lib.hid B1
  go_wp2_with fail
  have SZ1 : w.heap.size + 1 + 1 + 1 < w1.heap.size := Nat.lt_of_lt_of_le SZ SX.out
  generalize w1.alloc (.cells #[.pointer pa, .pointer pb] 62) = W1 at *
  refine (C2.out _).mono ?_
  rintro e w2 ⟨pc, pd, b2, rfl, x2, y2, n2⟩
  have B2 := heap_alloc_new w2 (.cells #[.pointer pc, .pointer pd] 62)
  have X2 := Lib.hid (x2.alloc (.cells #[.pointer pc, .pointer pd] 62))
  have B1' := X2.out.at B1.out
  have SZ2 : w1.heap.size < w2.heap.size := Nat.lt_of_lt_of_le (Array.getElem?_eq_some_iff.1 B1.out).1 x2.size
  have E1 := XW.out.trans X2.out
  have e0 := (t0.ext X1.out).ext X2.out
  have e1 := (t1'.ext X1.out).ext X2.out
  obtain ⟨g0, g1, g2, g3, g4, g5⟩ := e0.facts
  obtain ⟨l0, l1, l2, l3, l4, l5⟩ := e1.facts
  have E0 := Lib.hid e0
  have E1' := Lib.hid e1
  clear e0 e1 t0 t1' d0 d1
  obtain ⟨k0, k1⟩ := cells_of B1'
  obtain ⟨k2, k3⟩ := cells_of B2
  have Q2 := Lib.hid ((Ext.refl w2).alloc (.cells #[.pointer pc, .pointer pd] 62))
  have n1' : w1.heap.size ≠ w.heap.size + 1 + 1 := by omega
  have n2' : w1.heap.size ≠ w.heap.size + 1 + 1 + 1 := by omega
  have n3' : w2.heap.size ≠ w.heap.size + 1 + 1 := by omega
  have n4' : w2.heap.size ≠ w.heap.size + 1 + 1 + 1 := by omega
  clear B1' B2 E1 B1 SX SZ1 SZ2 SZ
  go_wp2_with fail
  generalize w2.alloc (.cells #[.pointer pc, .pointer pd] 62) = W2 at *
  have EN : Hid (∀ b, ((b1 && b2) = b) → ∀ a W, a.defers = [] → a.tmps[6]? = some (.bool b) → a.tmps[4]? = some (.pointer (some ⟨w.heap.size + 1 + 1, 0, none⟩)) → a.tmps[5]? = some (.pointer (some ⟨w.heap.size + 1 + 1 + 1, 0, none⟩)) →
      W = (N.set2 (N.set2 W2 (w.heap.size + 1 + 1) (.pointer pa) (.pointer pb)) (w.heap.size + 1 + 1 + 1) (.pointer pc) (.pointer pd)).drew → bodyPost Tryz.prog Tryz.f31 (TwoPost w s1 t1 s2 t2) .ret a W) := by
    intro b hb a W hd ha h4 h5 hW
    have F0 := E0.out
    have F1 : Two (N.set2 W2 (w.heap.size + 1 + 1) (.pointer pa) (.pointer pb)) (w.heap.size + 1 + 1 + 1) 62 := by
      obtain ⟨u, v, e⟩ := E1'.out
      exact ⟨u, v, by rw [set2_other (by omega)]; exact e⟩
    have H1 := set2_heap F1 (.pointer pc) (.pointer pd)
    have H0 : (N.set2 (N.set2 W2 (w.heap.size + 1 + 1) (.pointer pa) (.pointer pb)) (w.heap.size + 1 + 1 + 1) (.pointer pc) (.pointer pd)).heap[w.heap.size + 1 + 1]? = some (.cells #[.pointer pa, .pointer pb] 62) := by
      rw [set2_other (by omega)]; exact set2_heap F0 (.pointer pa) (.pointer pb)
    have XX := ((((X4.out.trans X1.out).trans X2.out).set2 (g := w.heap.size + 1 + 1) (by omega) (.pointer pa) (.pointer pb)).set2 (g := w.heap.size + 1 + 1 + 1) (by omega) (.pointer pc) (.pointer pd)).drew
    have RR : ∀ T p, Rep W2 T p → Rep W T p := by
      intro T p h
      subst hW
      exact (Rep.set2 F1 (by decide) _ _ (Rep.set2 F0 (by decide) _ _ h)).ext (Ext.refl _).drew
    obtain ⟨q0, q1⟩ := cells_of H0
    obtain ⟨q2, q3⟩ := cells_of H1
    rw [← hW] at XX
    have q0 : W.cell? ⟨w.heap.size + 1 + 1, 0, none⟩ = some (.pointer pa) := by rw [hW]; exact q0
    have q1 : W.cell? ⟨w.heap.size + 1 + 1, 1, none⟩ = some (.pointer pb) := by rw [hW]; exact q1
    have q2 : W.cell? ⟨w.heap.size + 1 + 1 + 1, 0, none⟩ = some (.pointer pc) := by rw [hW]; exact q2
    have q3 : W.cell? ⟨w.heap.size + 1 + 1 + 1, 1, none⟩ = some (.pointer pd) := by rw [hW]; exact q3
    refine bodyPost_ret (v := .tuple #[.agg #[.pointer pa, .pointer pb], .agg #[.pointer pc, .pointer pd], .bool b]) ?_ hd ⟨_, _, _, _, _, rfl, XX, ?_, ?_⟩
    · simp [results, Tryz.results31, go_sem, q0, q1, q2, q3, ha, h4, h5]
    · intro hbt
      subst hbt
      rw [Bool.and_eq_true] at hb
      obtain ⟨A, B, e1, e2, e3, e4, r1, r2⟩ := y1.out hb.1
      obtain ⟨C, D, f1, f2, f3, f4, r3, r4⟩ := y2.out hb.2
      have E := XW.out.trans X2.out
      have E2 := Q2.out
      exact ⟨A, B, C, D, e1, e2, f1, f2, e3, e4, f3, f4, RR _ _ (r1.ext E), RR _ _ (r2.ext E), RR _ _ (r3.ext E2), RR _ _ (r4.ext E2)⟩
    · intro hbf
      subst hbf
      rintro ⟨G1, G2⟩
      cases b1 with
      | false => exact n1.out rfl G1
      | true =>
        cases b2 with
        | false => exact n2.out rfl G2
        | true => cases hb
  clear y1 y2 n1 n2 X4 X1 XW X2 E0 E1' Q2
  cases b1 <;> cases b2
  all_goals
    go_region
    go_wp2_with fail
  case false.false => exact EN.out false rfl _ _ rfl rfl rfl rfl rfl
  case false.true => exact EN.out false rfl _ _ rfl rfl rfl rfl rfl
  case true.false => exact EN.out false rfl _ _ rfl rfl rfl rfl rfl
  case true.true => exact EN.out true rfl _ _ rfl rfl rfl rfl rfl
theorem two_yes (A B C D : Tr) (hc : A.carets = B.carets) (hB : B.carets ≤ 8) (hd : C.carets = D.carets) (hD : D.carets ≤ 8) (w : World) : Calls Tryz.prog 31 #[.agg #[.string (tx A), .string (tx B)], .agg #[.string (tx C), .string (tx D)]] w fun e w' => ∃ pa pb pc pd, e = .returned (.tuple #[.agg #[.pointer pa, .pointer pb], .agg #[.pointer pc, .pointer pd], .bool true]) ∧ Rep w' A pa ∧ Rep w' B pb ∧ Rep w' C pc ∧ Rep w' D pd ∧ Ext w w' := by
  refine (two_calls _ _ _ _ w).mono ?_
  rintro e w1 ⟨pa, pb, pc, pd, b, rfl, x1, y1, n1⟩
  cases b with
  | false => exact absurd ⟨⟨A, B, rfl, rfl, hc, hB⟩, ⟨C, D, rfl, rfl, hd, hD⟩⟩ (n1.out rfl)
  | true =>
    obtain ⟨A', B', C', D', h1, h2, h3, h4, _, _, _, _, rA, rB, rC, rD⟩ := y1.out rfl
    obtain rfl := tx_inj h1
    obtain rfl := tx_inj h2
    obtain rfl := tx_inj h3
    obtain rfl := tx_inj h4
    exact ⟨pa, pb, pc, pd, rfl, rA, rB, rC, rD, x1⟩
theorem two_no (s1 t1 s2 t2 : ByteArray) (h : ¬ (Good s1 t1 ∧ Good s2 t2)) (w : World) : Calls Tryz.prog 31 #[.agg #[.string s1, .string t1], .agg #[.string s2, .string t2]] w fun e w' => ∃ pa pb pc pd, e = .returned (.tuple #[.agg #[.pointer pa, .pointer pb], .agg #[.pointer pc, .pointer pd], .bool false]) ∧ Ext w w' := by
  refine (two_calls _ _ _ _ w).mono ?_
  rintro e w1 ⟨pa, pb, pc, pd, b, rfl, x1, y1, n1⟩
  cases b with
  | false => exact ⟨pa, pb, pc, pd, rfl, x1⟩
  | true =>
    obtain ⟨A', B', C', D', h1, h2, h3, h4, g1, g2, g3, g4, rA, rB, rC, rD⟩ := y1.out rfl
    exact absurd ⟨⟨A', B', h1, h2, g1, g2⟩, ⟨C', D', h3, h4, g3, g4⟩⟩ h
end Go.Proofs.YtijnadjgmmednaaGreat.N
namespace Go.Proofs.YtijnadjgmmednaaGreat.N
open Go.RowKit
theorem boxSS_facts (w : World) (s t s2 t2 : ByteArray) (x y : Value) (ty : TypeId) :
    Ext w (((w.alloc (.cells #[.string s, .string t] 25)).alloc (.cells #[.string s2, .string t2] 25)).alloc (.cells #[x, y] ty)) ∧
    Two (((w.alloc (.cells #[.string s, .string t] 25)).alloc (.cells #[.string s2, .string t2] 25)).alloc (.cells #[x, y] ty)) (w.heap.size + 1 + 1) ty :=
  ⟨(((Ext.refl w).alloc _).alloc _).alloc _, Two.new _ _ _ _ (by simp)⟩
end Go.Proofs.YtijnadjgmmednaaGreat.N
namespace Go.Proofs.YtijnadjgmmednaaGreat.N
theorem Bal.conj {p q : Tr × Tr} (hp : Bal p) (hq : Bal q) : Bal (conj p q) := (conj_carets hp hq).1
theorem act_conj {p q : Tr × Tr} (hp : Bal p) (hq : Bal q) (s : Str) : act (conj p q) s = act q (act p (act (inv q) s)) := by
  unfold conj
  show act (mul (mul (inv q) p) q) s = _
  rw [act_mul (Bal.mul hq.inv hp) hq, act_mul hq.inv hp]
theorem conj_red (p q : Tr × Tr) : bothT (conj p q).1 (conj p q).2 = [] := red_both _
theorem letP_bal {n : Int} (h : n ≠ 0) : Bal (letP n) := by have := letP_carets h; unfold Bal; omega
theorem letP_inv {n : Int} (h : n ≠ 0) : letP (-n) = inv (letP n) := by
  unfold letP inv
  by_cases h0 : n < 0
  · rw [if_neg (by omega), if_pos h0, Int.natAbs_neg]
  · rw [if_pos (by omega), if_neg h0, Int.natAbs_neg]
def NZ (ws : List Int) : Prop := ∀ x ∈ ws, x ≠ 0
theorem NZ.app {a b : List Int} (h : NZ (a ++ b)) : NZ a ∧ NZ b := ⟨fun x hx => h x (List.mem_append_left _ hx), fun x hx => h x (List.mem_append_right _ hx)⟩
theorem NZ.of {a b : List Int} (h : NZ a) (k : NZ b) : NZ (a ++ b) := fun x hx => (List.mem_append.1 hx).elim (h x) (k x)
def pairW (ws : List Int) : Tr × Tr := ws.foldl (fun x n => mul x (letP n)) one
def conjF (y : Tr × Tr) (ws : List Int) : Tr × Tr := ws.foldl (fun x n => conj x (letP n)) y
theorem pairW_snoc (ws : List Int) (x : Int) : pairW (ws ++ [x]) = mul (pairW ws) (letP x) := by simp [pairW]
theorem conjF_snoc (y : Tr × Tr) (ws : List Int) (x : Int) : conjF y (ws ++ [x]) = conj (conjF y ws) (letP x) := by simp [conjF]
theorem pairW_bal' : ∀ (n : Nat) (ws : List Int), ws.length = n → NZ ws → Bal (pairW ws) ∧ bothT (pairW ws).1 (pairW ws).2 = [] := by
  intro n
  induction n with
  | zero => intro ws h _; obtain rfl := List.length_eq_zero_iff.1 h; exact ⟨rfl, rfl⟩
  | succ n ih =>
    intro ws h hz
    obtain ⟨u, x, rfl⟩ : ∃ u x, ws = u ++ [x] := ⟨ws.dropLast, ws.getLast (by intro e; subst e; simp at h), (List.dropLast_concat_getLast _).symm⟩
    rw [pairW_snoc]
    obtain ⟨hu, hx⟩ := hz.app
    exact ⟨(ih u (by simp at h; omega) hu).1.mul (letP_bal (hx x (by simp))), red_both _⟩
theorem pairW_bal {ws : List Int} (h : NZ ws) : Bal (pairW ws) := (pairW_bal' _ ws rfl h).1
theorem pairW_red {ws : List Int} (h : NZ ws) : bothT (pairW ws).1 (pairW ws).2 = [] := (pairW_bal' _ ws rfl h).2
def actW (ws : List Int) (s : Str) : Str := ws.foldl (fun t n => act (letP n) t) s
theorem act_pairW : ∀ (n : Nat) (ws : List Int), ws.length = n → NZ ws → ∀ s, act (pairW ws) s = actW ws s := by
  intro n
  induction n with
  | zero => intro ws h _ s; obtain rfl := List.length_eq_zero_iff.1 h; rfl
  | succ n ih =>
    intro ws h hz s
    obtain ⟨u, x, rfl⟩ : ∃ u x, ws = u ++ [x] := ⟨ws.dropLast, ws.getLast (by intro e; subst e; simp at h), (List.dropLast_concat_getLast _).symm⟩
    obtain ⟨hu, hx⟩ := hz.app
    rw [pairW_snoc, act_mul (pairW_bal hu) (letP_bal (hx x (by simp))), ih u (by simp at h; omega) hu]
    simp [actW]
theorem actW_app (a b : List Int) (s : Str) : actW (a ++ b) s = actW b (actW a s) := by simp [actW]
theorem pairW_cancel {u v : List Int} {x : Int} (h : NZ (u ++ ([x, -x] ++ v))) : pairW (u ++ ([x, -x] ++ v)) = pairW (u ++ v) := by
  obtain ⟨hu, h2⟩ := h.app
  obtain ⟨hx, hv⟩ := h2.app
  have x0 : x ≠ 0 := hx x (by simp)
  refine pair_ext (pairW_bal h) (pairW_bal (hu.of hv)) (pairW_red h) (pairW_red (hu.of hv)) fun s => ?_
  rw [act_pairW _ _ rfl h, act_pairW _ _ rfl (hu.of hv), actW_app, actW_app, actW_app]
  congr 1
  show act (letP (-x)) (act (letP x) _) = _
  rw [letP_inv x0]
  exact act_inv (letP_bal x0) _
theorem conjF_pairW' {p : Tr × Tr} (hp : Bal p) : ∀ (n : Nat) (ws : List Int), ws.length = n → NZ ws → conjF (red p) ws = conj p (pairW ws) := by
  intro n
  induction n with
  | zero =>
    intro ws h _
    obtain rfl := List.length_eq_zero_iff.1 h
    refine pair_ext hp.red (hp.conj Bal.one) (red_both _) (conj_red _ _) fun s => ?_
    show act (red p) s = act (conj p one) s
    rw [act_conj hp Bal.one, act_red hp, act_one]; rfl
  | succ n ih =>
    intro ws h hz
    obtain ⟨u, x, rfl⟩ : ∃ u x, ws = u ++ [x] := ⟨ws.dropLast, ws.getLast (by intro e; subst e; simp at h), (List.dropLast_concat_getLast _).symm⟩
    obtain ⟨hu, hx⟩ := hz.app
    have x0 := letP_bal (hx x (by simp))
    have bu := pairW_bal hu
    rw [conjF_snoc, ih u (by simp at h; omega) hu, pairW_snoc]
    refine pair_ext ((hp.conj bu).conj x0) (hp.conj (bu.mul x0)) (conj_red _ _) (conj_red _ _) fun s => ?_
    rw [act_conj (hp.conj bu) x0, act_conj hp bu, act_conj hp (bu.mul x0), act_mul bu x0]
    congr 3
    refine act_inj (bu.mul x0) ?_
    rw [act_inv' (bu.mul x0), act_mul bu x0, act_inv' bu, act_inv' x0]
theorem conjF_pairW {p : Tr × Tr} (hp : Bal p) {ws : List Int} (hz : NZ ws) : conjF (red p) ws = conj p (pairW ws) := conjF_pairW' hp _ ws rfl hz
def lts : List Int := [1, -1, 2, -2]
def allW : Nat → List (List Int)
  | 0 => [[]]
  | n + 1 => lts.flatMap fun x => (allW n).map (x :: ·)
theorem allW_snoc : ∀ n, allW (n + 1) = (allW n).flatMap fun w => lts.map fun x => w ++ [x]
  | 0 => rfl
  | n + 1 => by
    have ih := allW_snoc n
    have e : allW (n + 2) = lts.flatMap fun x => (allW (n + 1)).map (x :: ·) := rfl
    have e2 : ((allW (n + 1)).flatMap fun w => lts.map fun x => w ++ [x]) = (lts.flatMap fun x => (allW n).map (x :: ·)).flatMap fun w => lts.map fun x => w ++ [x] := rfl
    rw [e, e2, ih, List.flatMap_assoc]
    congr 1
    funext x
    rw [List.map_flatMap, List.flatMap_map]
    congr 1
theorem mem_allW : ∀ (n : Nat) (w : List Int), w ∈ allW n ↔ w.length = n ∧ ∀ x ∈ w, x ∈ lts
  | 0, w => by
    simp only [allW, List.mem_singleton]
    constructor
    · rintro rfl; exact ⟨rfl, fun x hx => by cases hx⟩
    · intro h; exact List.length_eq_zero_iff.1 h.1
  | n + 1, w => by
    simp only [allW, List.mem_flatMap, List.mem_map]
    constructor
    · rintro ⟨x, hx, v, hv, rfl⟩
      obtain ⟨h1, h2⟩ := (mem_allW n v).1 hv
      exact ⟨by simp [h1], fun y hy => by rcases List.mem_cons.1 hy with rfl | hy; exact hx; exact h2 y hy⟩
    · rintro ⟨h1, h2⟩
      cases w with
      | nil => simp at h1
      | cons x v => exact ⟨x, h2 x List.mem_cons_self, v, (mem_allW n v).2 ⟨by simpa using h1, fun y hy => h2 y (List.mem_cons_of_mem _ hy)⟩, rfl⟩
theorem lts_nz {x : Int} (h : x ∈ lts) : x ≠ 0 ∧ -x ∈ lts := by
  unfold lts at *
  simp at h ⊢
  omega
theorem allW_nz {n : Nat} {w : List Int} (h : w ∈ allW n) : NZ w := fun x hx => (lts_nz (((mem_allW n w).1 h).2 x hx)).1
def okL (w : List Int) (x : Int) : Bool := w.getLast? != some (-x)
def redWd : Nat → List (List Int)
  | 0 => [[]]
  | n + 1 => (redWd n).flatMap fun w => (lts.filter (okL w)).map fun x => w ++ [x]
def isRd : List Int → Bool
  | [] => true
  | [_] => true
  | x :: y :: l => (x != -y) && isRd (y :: l)
theorem isRd_snoc : ∀ (w : List Int) (x : Int), isRd (w ++ [x]) = (isRd w && okL w x)
  | [], x => by simp [isRd, okL]
  | [y], x => by
    simp only [List.cons_append, List.nil_append, isRd, okL, List.getLast?_singleton, Bool.and_true, Bool.true_and]
    rfl
  | y :: z :: l, x => by
    have ih := isRd_snoc (z :: l) x
    simp only [List.cons_append] at ih ⊢
    simp only [isRd]
    rw [ih, Bool.and_assoc]
    congr 2
theorem redWd_step : ∀ (L : List (List Int)), ((L.filter isRd).flatMap fun w => (lts.filter (okL w)).map fun x => w ++ [x]) = (L.flatMap fun w => lts.map fun x => w ++ [x]).filter isRd
  | [] => rfl
  | w :: L => by
    have ih := redWd_step L
    rw [List.flatMap_cons, List.filter_append, ← ih, List.filter_map]
    have e : (isRd ∘ fun x => w ++ [x]) = fun x => isRd w && okL w x := by funext x; exact isRd_snoc w x
    rw [e]
    cases h : isRd w with
    | true =>
      rw [List.filter_cons_of_pos h, List.flatMap_cons]
      simp only [Bool.true_and]
    | false =>
      rw [List.filter_cons_of_neg (by rw [h]; exact Bool.false_ne_true)]
      simp
theorem redWd_eq : ∀ n, redWd n = (allW n).filter isRd
  | 0 => rfl
  | n + 1 => by rw [allW_snoc, redWd, redWd_eq n, redWd_step]
theorem not_rd : ∀ (w : List Int), isRd w = false → ∃ u x v, w = u ++ ([x, -x] ++ v)
  | [], h => by simp [isRd] at h
  | [_], h => by simp [isRd] at h
  | x :: y :: l, h => by
    simp only [isRd, Bool.and_eq_false_iff] at h
    rcases h with h | h
    · refine ⟨[], x, l, ?_⟩
      have : x = -y := by simpa using h
      simp; omega
    · obtain ⟨u, z, v, e⟩ := not_rd (y :: l) h
      exact ⟨x :: u, z, v, by rw [e]; rfl⟩
theorem shorter {n : Nat} {w : List Int} (h : w ∈ allW n) (hr : isRd w = false) : ∃ m v, m + 2 = n ∧ v ∈ allW m ∧ pairW v = pairW w := by
  obtain ⟨u, x, v, rfl⟩ := not_rd w hr
  obtain ⟨h1, h2⟩ := (mem_allW _ _).1 h
  refine ⟨u.length + v.length, u ++ v, by simp at h1; omega, (mem_allW _ _).2 ⟨by simp, fun y hy => h2 y ?_⟩, (pairW_cancel (allW_nz h)).symm⟩
  simp at hy ⊢
  rcases hy with hy | hy
  · exact .inl hy
  · exact .inr (.inr (.inr hy))
theorem reduced_word : ∀ (n : Nat) (w : List Int), w ∈ allW n → ∃ m v, m ≤ n ∧ v ∈ redWd m ∧ pairW v = pairW w := by
  intro n
  induction n using Nat.strongRecOn with
  | ind n ih =>
    intro w h
    cases hr : isRd w with
    | true => exact ⟨n, w, Nat.le_refl _, by rw [redWd_eq, List.mem_filter]; exact ⟨h, hr⟩, rfl⟩
    | false =>
      obtain ⟨m, v, e, hv, hp⟩ := shorter h hr
      obtain ⟨k, u, hk, hu, hq⟩ := ih m (by omega) v hv
      exact ⟨k, u, by omega, hu, hq.trans hp⟩
theorem find_filter {α : Type} (P q : α → Bool) : ∀ (l : List α), (∀ w ∈ l, P w = true → q w = true) → (l.filter q).find? P = l.find? P
  | [], _ => rfl
  | a :: l, h => by
    have ih := find_filter P q l fun w hw => h w (List.mem_cons_of_mem _ hw)
    cases hq : q a with
    | true => rw [List.filter_cons_of_pos hq, List.find?_cons, List.find?_cons, ih]
    | false =>
      rw [List.filter_cons_of_neg (by rw [hq]; exact Bool.false_ne_true), ih, List.find?_cons]
      cases hP : P a with
      | true => have := h a List.mem_cons_self hP; rw [hq] at this; cases this
      | false => rfl
def firstW (W : Nat → List (List Int)) (P : List Int → Bool) : Nat → Nat → Option (List Int)
  | _, 0 => none
  | n, k + 1 => match (W n).find? P with
    | some w => some w
    | none => firstW W P (n + 1) k
theorem first_same (P : List Int → Bool) (hP : ∀ v w, pairW v = pairW w → P v = P w) : ∀ (k n : Nat), (∀ m, m < n → (allW m).find? P = none) → firstW redWd P n k = firstW allW P n k
  | 0, n, _ => rfl
  | k + 1, n, h => by
    have e : (redWd n).find? P = (allW n).find? P := by
      rw [redWd_eq]
      refine find_filter P isRd _ fun w hw hp => ?_
      cases hr : isRd w with
      | true => rfl
      | false =>
        obtain ⟨m, v, hm, hv, he⟩ := shorter hw hr
        have := List.find?_eq_none.1 (h m (by omega)) v hv
        rw [hP v w he, hp] at this
        exact absurd rfl this
    simp only [firstW]
    rw [e]
    cases hf : (allW n).find? P with
    | some w => rfl
    | none =>
      refine first_same P hP k (n + 1) fun m hm => ?_
      by_cases h1 : m < n
      · exact h m h1
      · rw [show m = n by omega]; exact hf
section
variable {α : Type} (less : α → α → Bool)
def leastL (b : α) (l : List α) : α := l.foldl (fun b y => if less y b then y else b) b
theorem least_spec (irr : ∀ a, less a a = false) (nt : ∀ a b c, less a b = false → less b c = false → less a c = false) (asym : ∀ a b, less a b = true → less b a = false) : ∀ (l : List α) (b : α), leastL less b l ∈ b :: l ∧ ∀ y ∈ b :: l, less y (leastL less b l) = false
  | [], b => ⟨List.mem_cons_self, fun y hy => by simp at hy; subst hy; exact irr _⟩
  | a :: l, b => by
    have ih := least_spec irr nt asym l (if less a b then a else b)
    have e : leastL less b (a :: l) = leastL less (if less a b then a else b) l := rfl
    rw [e]
    obtain ⟨h1, h2⟩ := ih
    generalize leastL less (if less a b then a else b) l = m at *
    have h3 := h2 _ List.mem_cons_self
    constructor
    · rcases List.mem_cons.1 h1 with h | h
      · rw [h]; split
        · exact List.mem_cons_of_mem _ List.mem_cons_self
        · exact List.mem_cons_self
      · exact List.mem_cons_of_mem _ (List.mem_cons_of_mem _ h)
    · intro y hy
      rcases List.mem_cons.1 hy with rfl | hy
      · cases hab : less a y with
        | true => rw [hab] at h3; simp only [if_true] at h3; exact nt _ a _ (asym _ _ hab) h3
        | false => rw [hab] at h3; simpa using h3
      · rcases List.mem_cons.1 hy with rfl | hy
        · cases hab : less y b with
          | true => rw [hab] at h3; simpa using h3
          | false => rw [hab] at h3; exact nt _ b _ hab (by simpa using h3)
        · exact h2 y (List.mem_cons_of_mem _ hy)
theorem least_same (irr : ∀ a, less a a = false) (nt : ∀ a b c, less a b = false → less b c = false → less a c = false) (asym : ∀ a b, less a b = true → less b a = false) (tot : ∀ a b, less a b = false → less b a = false → a = b)
    (b : α) (l m : List α) (h1 : ∀ y ∈ l, y ∈ b :: m) (h2 : ∀ y ∈ m, y ∈ b :: l) : leastL less b l = leastL less b m := by
  obtain ⟨a1, a2⟩ := least_spec less irr nt asym l b
  obtain ⟨c1, c2⟩ := least_spec less irr nt asym m b
  refine tot _ _ (c2 _ ?_) (a2 _ ?_)
  · rcases List.mem_cons.1 a1 with h | h
    · rw [h]; exact List.mem_cons_self
    · exact h1 _ h
  · rcases List.mem_cons.1 c1 with h | h
    · rw [h]; exact List.mem_cons_self
    · exact h2 _ h
end
end Go.Proofs.YtijnadjgmmednaaGreat.N
namespace Go.Proofs.YtijnadjgmmednaaGreat.N
open Go.RowKit
def Cur (w : World) (g m : Nat) : Prop := ∃ (A : Option Addr) (n c a : Nat) (s : Int), w.heap[g]? = some (.cells #[.slice A n c, .int .i64 (a : Nat), .int .u64 s] 54) ∧ a + m ≤ 1000000000000 ∧ n ≤ 1048576 ∧
  (0 < n → ∃ ad, A = some ad ∧ ad.block < g ∧ ∀ j, j < n → ∃ b : Nat, b < 256 ∧ w.cell? (ad.add j) = some (.int .u8 (b : Nat)))
def Mv (g : Nat) (w w' : World) : Prop := w.grownBy w' (some g)
theorem Mv.refl (g : Nat) (w : World) : Mv g w w := ⟨rfl, rfl, rfl, Nat.le_refl _, fun _ _ _ => rfl⟩
theorem Mv.trans {g : Nat} {a b c : World} (h : Mv g a b) (k : Mv g b c) : Mv g a c := World.grownBy.trans h k
theorem Ext.mv {w w' : World} (h : Ext w w') (g : Nat) : Mv g w w' := h.grownBy _
theorem Mv.set (g i : Nat) (w : World) (u : Value) : Mv g w (w.setCell ⟨g, i, none⟩ u) := by
  refine ⟨rfl, rfl, rfl, ?_, ?_⟩
  · simp [World.setCell]
  · intro k hk hne
    have : k ≠ g := fun e => hne (by rw [e])
    exact heap_setCell_other _ _ _ _ this
theorem add_block (ad : Addr) (j : Nat) : (ad.add j).block = ad.block := by unfold Addr.add; split <;> rfl
theorem Cur.ext {w w' : World} {g m : Nat} (h : Cur w g m) (hx : Ext w w') : Cur w' g m := by
  obtain ⟨A, n, c, a, s, h1, h2, h3, h4⟩ := h
  refine ⟨A, n, c, a, s, hx.at h1, h2, h3, fun hp => ?_⟩
  obtain ⟨ad, e, hb, hc⟩ := h4 hp
  exact ⟨ad, e, hb, fun j hj => let ⟨b, b1, b2⟩ := hc j hj; ⟨b, b1, hx.cell b2⟩⟩
theorem Cur.less {w : World} {g m k : Nat} (h : Cur w g m) (hk : k ≤ m) : Cur w g k := by
  obtain ⟨A, n, c, a, s, h1, h2, h3, h4⟩ := h
  exact ⟨A, n, c, a, s, h1, by omega, h3, h4⟩
theorem Mv.ext {w0 w w' : World} {g : Nat} (h : Mv g w w') (hx : Ext w0 w) (hg : w0.heap.size ≤ g) : Ext w0 w' := hx.grown h (fun k hk => by injection hk with hk; omega)
theorem Own.mv {w w' : World} {base g m : Nat} {e : TypeId} {v : Value} {xs : List Value} (h : Own w base e v xs) (c : Cur w g m) (he : e ≠ 54) (mv : Mv g w w') : Own w' base e v xs := by
  refine h.far mv fun k hk hv => ?_
  injection hk with hk
  subst hk
  obtain ⟨cs, fr, e1⟩ := h.typed _ hv
  obtain ⟨A, n, c, a, s, h1, _⟩ := c
  rw [e1] at h1
  injection h1 with h1
  injection h1 with _ h2
  exact he h2
theorem Mv.at {w w' : World} {g k : Nat} {o : Obj} (h : Mv g w w') (hk : k ≠ g) (hc : w.heap[k]? = some o) : w'.heap[k]? = some o := (h.block k (Array.getElem?_eq_some_iff.1 hc).1 (fun e => hk (by injection e))).trans hc
theorem Mv.cell {w w' : World} {g : Nat} {p : Addr} {v : Value} (h : Mv g w w') (hk : p.block ≠ g) (hc : w.cell? p = some v) : w'.cell? p = some v :=
  (World.cell?_of_block (h.block p.block (World.block_lt_of_cell? w p hc) (fun e => hk (by injection e)))).trans hc
theorem Reads.mv {w w' : World} {g : Nat} {v : Value} {xs : List Value} (h : Reads w v xs) (hm : Mv g w w') (hb : v.ownBlock ≠ some g) : Reads w' v xs := h.far hm (fun k hk => by injection hk with hk; subst hk; exact hb)
theorem Cur.lt {w : World} {g m : Nat} (h : Cur w g m) : g < w.heap.size := by obtain ⟨A, n, c, a, s, h1, _⟩ := h; exact (Array.getElem?_eq_some_iff.1 h1).1
theorem Two.mv {w w' : World} {b g : Nat} {t : TypeId} (h : Two w b t) (hm : Mv g w w') (hb : b ≠ g) : Two w' b t := ⟨let ⟨u, v, e⟩ := h.at_; ⟨u, v, hm.at hb e⟩⟩
theorem Mv.set2 {w0 w : World} {g b : Nat} (h : Mv g w0 w) (hb : w0.heap.size ≤ b) (u v : Value) : Mv g w0 (N.set2 w b u v) :=
  ⟨h.os, h.tape, h.output, by simpa [N.set2, World.setCell] using h.size, fun k hk hne => (set2_other (by omega) u v).trans (h.block k hk hne)⟩
theorem Cur.set2 {w : World} {g m b : Nat} (h : Cur w g m) (hb : g < b) (u v : Value) : Cur (N.set2 w b u v) g m := by
  obtain ⟨A, n, c, a, s, h1, h2, h3, h4⟩ := h
  refine ⟨A, n, c, a, s, (set2_other (Nat.ne_of_lt hb) u v).trans h1, h2, h3, fun hp => ?_⟩
  obtain ⟨ad, e, hb2, hc⟩ := h4 hp
  refine ⟨ad, e, hb2, fun j hj => ?_⟩
  obtain ⟨x, hx, hx2⟩ := hc j hj
  exact ⟨x, hx, set2_far (by rw [add_block]; omega) u v hx2⟩
theorem Mv.set1 {w0 w : World} {g b i : Nat} (h : Mv g w0 w) (hb : w0.heap.size ≤ b) (u : Value) : Mv g w0 (w.setCell ⟨b, i, none⟩ u) :=
  ⟨h.os, h.tape, h.output, by simpa [World.setCell] using h.size, fun k hk hne => (heap_setCell_other w ⟨b, i, none⟩ k u (by simp only; omega)).trans (h.block k hk hne)⟩
theorem Cur.set1 {w : World} {g m b i : Nat} (h : Cur w g m) (hb : g < b) (u : Value) : Cur (w.setCell ⟨b, i, none⟩ u) g m := by
  obtain ⟨A, n, c, a, s, h1, h2, h3, h4⟩ := h
  refine ⟨A, n, c, a, s, (heap_setCell_other w ⟨b, i, none⟩ g u (by simp only; omega)).trans h1, h2, h3, fun hp => ?_⟩
  obtain ⟨ad, e, hb2, hc⟩ := h4 hp
  refine ⟨ad, e, hb2, fun j hj => ?_⟩
  obtain ⟨x, hx, hx2⟩ := hc j hj
  exact ⟨x, hx, (World.cell?_of_block (heap_setCell_other w ⟨b, i, none⟩ _ u (by rw [add_block]; simp only; omega))).trans hx2⟩
theorem frozen_of {w : World} {b : Nat} {u v : Value} {t : TypeId} (h : w.heap[b]? = some (.cells #[u, v] t)) : w.frozen? ⟨b, 0, none⟩ = false ∧ w.frozen? ⟨b, 1, none⟩ = false := by
  constructor <;> simp [World.frozen?, h]
structure PairEnd (w : World) (g m r q : Nat) (s t : ByteArray) (W : World) : Prop where
  rs : W.heap[r]? = some (.cells #[.string ⟨#[]⟩, .string ⟨#[]⟩] 25)
  qs : W.heap[q]? = some (.cells #[.string s, .string t] 25)
  cur : Cur W g m
  mv : Mv g w W
theorem PairEnd.facts {w : World} {g m r q : Nat} {s t : ByteArray} {W : World} (h : PairEnd w g m r q s t W) : W.cell? ⟨q, 0, none⟩ = some (.string s) ∧ W.cell? ⟨q, 1, none⟩ = some (.string t) ∧ W.frozen? ⟨q, 0, none⟩ = false ∧ W.frozen? ⟨q, 1, none⟩ = false :=
  ⟨(cells_of h.qs).1, (cells_of h.qs).2, (frozen_of h.qs).1, (frozen_of h.qs).2⟩
end Go.Proofs.YtijnadjgmmednaaGreat.N
namespace Go.Proofs.YtijnadjgmmednaaGreat.N
open Go.RowKit
theorem Mv.grown {g : Nat} {w0 w w' : World} {row : Option Nat} (h : Mv g w0 w) (hg : w.grownBy w' row) (hr : ∀ k, row = some k → w0.heap.size ≤ k) : Mv g w0 w' :=
  ⟨hg.os.trans h.os, hg.tape.trans h.tape, hg.output.trans h.output, Nat.le_trans h.size hg.size, fun k hk hne => (hg.block k (Nat.lt_of_lt_of_le hk h.size) (fun e => by have := hr k e.symm; omega)).trans (h.block k hk hne)⟩
theorem Cur.grown {w w' : World} {g m : Nat} {row : Option Nat} (h : Cur w g m) (hg : w.grownBy w' row) (hr : ∀ k, row = some k → g < k) : Cur w' g m := by
  have hl := h.lt
  obtain ⟨A, n, c, a, s, h1, h2, h3, h4⟩ := h
  have hne : ∀ k, k ≤ g → some k ≠ row := fun k hk e => by have := hr k e.symm; omega
  refine ⟨A, n, c, a, s, (hg.block g hl (hne g (Nat.le_refl _))).trans h1, h2, h3, fun hp => ?_⟩
  obtain ⟨ad, e, hb2, hc⟩ := h4 hp
  refine ⟨ad, e, hb2, fun j hj => ?_⟩
  obtain ⟨x, hx, hx2⟩ := hc j hj
  exact ⟨x, hx, (World.cell?_of_block (hg.block (ad.add j).block (by rw [add_block]; omega) (hne _ (by rw [add_block]; omega)))).trans hx2⟩
theorem Rows.mv {w w' : World} {base g m : Nat} {us : List Value} {xss : List (List Int)} (h : Rows w base us xss) (c : Cur w g m) (hm : Mv g w w') : Rows w' base us xss :=
  ⟨h.1, fun r xs e => let ⟨u, a, b⟩ := h.2.1 r xs e; ⟨u, a, b.mv c (by decide) hm⟩, h.2.2⟩
end Go.Proofs.YtijnadjgmmednaaGreat.N
namespace Go.Proofs.YtijnadjgmmednaaGreat.N
open Go.RowKit
section
variable {P : Program}
theorem run_app_keeps {w : World} (base : Nat) (t ty e : TypeId) (z : Value) (bytes : Nat) (ht : P.underlying t = some (.slice e)) (hinfo : (P.info? e).map (fun i => (i.zero, i.size, i.bytes)) = some (some z, 1, bytes)) (hz : z.cells.size = 1) (hb0 : 0 < bytes)
    (v s : Value) (xs : List Value) (x : Value) (hown : Own w base e v xs) (hs : Reads w s [x]) (h1 : x.oneCell' = true) (hl : (xs.length + 1) * bytes ≤ 140737488355328) (hbase : base ≤ w.heap.size) :
    ∃ v' w', (Builtin.append_ #[t, t] ty #[v, s]).run P w = .ok v' w' ∧ Own w' base e v' (xs ++ [x]) ∧ w.grownBy w' v.ownBlock ∧ (v'.ownBlock = v.ownBlock ∨ v'.ownBlock = some w.heap.size) ∧
      ((∀ w2, Own w2 base e v' (xs ++ [x]) → Own w2 base e v xs) ∨ (v'.ownBlock = some w.heap.size ∧ Own w' base e v xs)) := by
  obtain ⟨v', w', hr, h2, h3, h4⟩ := run_app (P := P) (w := w) base t ty e z bytes ht hinfo hz hb0 v s xs [x] hown hs (by simpa using h1) (by simpa using hl) hbase
  refine ⟨v', w', hr, h2, h3, h4, ?_⟩
  obtain ⟨i, hi, hzz⟩ := Option.map_eq_some_iff.1 hinfo
  simp only [Prod.mk.injEq] at hzz
  obtain ⟨hz0, hz1, hz2⟩ := hzz
  obtain ⟨A, c, rfl, _, hc⟩ := hs
  obtain ⟨ad, rfl, hc2⟩ := hc (by simp)
  rcases hown.2 with ⟨rfl, hn⟩ | ⟨g, cap, cur, rfl, hbg, hg, hnc, hcm, hcs, htake⟩
  · left
    intro w2 _
    rw [List.length_eq_zero_iff] at hn
    subst hn
    exact Own.nil _ _ _
  · by_cases hroom : xs.length + 1 ≤ cap
    · left
      have hr2 := run_append_room (P := P) w t ty e i ht hi g xs.length cap cur hg ad 1 c [x] (by simp [hz1]) hc2 (by simpa using h1) hroom (by rw [hz1, hcs]; simp; omega)
      simp only [List.length_singleton] at hr
      rw [hr2] at hr
      injection hr with hv hw
      subst hv
      intro w2 h
      rcases h.2 with ⟨h, _⟩ | ⟨g', cap', cur', hv', hb', hg', hn', hm', hs', ht'⟩
      · cases h
      · injection hv' with e1 e2 e3
        injection e1 with e1
        injection e1 with e1 _
        subst e1 e3
        refine ⟨by simp, .inr ⟨g, cap, cur', rfl, hb', hg', by omega, hm', hs', ?_⟩⟩
        have := congrArg (List.take xs.length) ht'
        rw [List.take_take] at this
        simp only [List.length_append, List.length_singleton, Nat.mul_one] at this ⊢
        rw [show min xs.length (xs.length + 1) = xs.length by omega] at this
        rw [this]
        simp
    · right
      have holds : ∀ j u, xs[j]? = some u → w.cell? ((⟨g, 0, none⟩ : Addr).add j) = some u := World.ownsRow.cells hown (g := g) rfl
      have hr2 := run_append_grow (P := P) w t ty e i z ht hi hz0 ⟨g, 0, none⟩ xs.length cap xs (by simp [hz1]) holds ad 1 c [x] (by simp [hz1]) hc2 (by omega) (by have := Nat.le_mul_of_pos_right (xs.length + 1) hb0; omega) (growslice_fits (by omega) (by rw [hz2]; exact hl))
      simp only [List.length_singleton] at hr
      rw [hr2] at hr
      injection hr with hv hw
      subst hv hw
      exact ⟨rfl, (hown.ext (Ext.refl w).drew).ext ((Ext.refl _).alloc _)⟩
theorem step_app_keeps {w : World} {ops : Array Oper} {o : Oper} {a : Act} {K : Act → World → Prop} {Q : Exit → Act → World → Prop} {E : Prop} (hgd : o.guard = none) (x y : Operand) (t : TypeId)
    (ho : o.op = .call { callee := .builtin .append, args := #[x, y], argTypes := #[t, t] })
    (base : Nat) (e : TypeId) (z : Value) (bytes : Nat) (ht : P.underlying t = some (.slice e)) (hinfo : (P.info? e).map (fun i => (i.zero, i.size, i.bytes)) = some (some z, 1, bytes)) (hz : z.cells.size = 1) (hb0 : 0 < bytes)
    (v s : Value) (xs : List Value) (u : Value) (hx : a.eval x = v) (hy : a.eval y = s) (hown : Own w base e v xs) (hs : Reads w s [u]) (h1 : u.oneCell' = true) (hl : (xs.length + 1) * bytes ≤ 140737488355328) (hbase : base ≤ w.heap.size)
    (h : ∀ v' w', Own w' base e v' (xs ++ [u]) → w.grownBy w' v.ownBlock → (v'.ownBlock = v.ownBlock ∨ v'.ownBlock = some w.heap.size) → ((∀ w2, Own w2 base e v' (xs ++ [u]) → Own w2 base e v xs) ∨ (v'.ownBlock = some w.heap.size ∧ Own w' base e v xs)) → K (a.put o.dst v') w') :
    if Region.wanted o (yielded ops a.tmps) = true then Oper.wp P o a w K Q else E := by
  have hw : Region.wanted o (yielded ops a.tmps) = true := by simp [Region.wanted, hgd]
  rw [if_pos hw]
  obtain ⟨v', w', hr, h2, h3, h4, h5⟩ := run_app_keeps (P := P) (w := w) base t o.type e z bytes ht hinfo hz hb0 v s xs u hown hs h1 hl hbase
  unfold Oper.wp execOp
  simp only [ho, resolve, invoke, builtin, Sem.run_bind, Sem.run_pure, Result.andThen_ok, List.map_toArray, List.map_cons, List.map_nil, hx, hy, hr]
  exact h v' w' h2 h3 h4 h5
end
structure Tch (c : Nat) (row : Option Nat) (w w' : World) : Prop where
  os : w'.os = w.os
  tape : w'.tape = w.tape
  output : w'.output = w.output
  size : w.heap.size ≤ w'.heap.size
  block : ∀ k, k < w.heap.size → k ≠ c → some k ≠ row → w'.heap[k]? = w.heap[k]?
theorem Tch.refl (c row w) : Tch c row w w := ⟨rfl, rfl, rfl, Nat.le_refl _, fun _ _ _ _ => rfl⟩
theorem Tch.ext {c row} {a w w' : World} (h : Tch c row a w) (k : Ext w w') : Tch c row a w' :=
  ⟨k.os.trans h.os, k.tape.trans h.tape, k.output.trans h.output, Nat.le_trans h.size k.size, fun i h1 h2 h3 => (k.block i (Nat.lt_of_lt_of_le h1 h.size)).trans (h.block i h1 h2 h3)⟩
theorem Tch.grown {c row} {a w w' : World} (h : Tch c row a w) (k : w.grownBy w' row) : Tch c row a w' :=
  ⟨k.os.trans h.os, k.tape.trans h.tape, k.output.trans h.output, Nat.le_trans h.size k.size, fun i h1 h2 h3 => (k.block i (Nat.lt_of_lt_of_le h1 h.size) h3).trans (h.block i h1 h2 h3)⟩
theorem Tch.trans {c row row2} {a w w' : World} (h : Tch c row a w) (k : Tch c row2 w w') (hr : ∀ i, row2 = some i → row = some i ∨ a.heap.size ≤ i) : Tch c row a w' :=
  ⟨k.os.trans h.os, k.tape.trans h.tape, k.output.trans h.output, Nat.le_trans h.size k.size, fun i h1 h2 h3 => (k.block i (Nat.lt_of_lt_of_le h1 h.size) h2 (fun e => by rcases hr i e.symm with h | h; exact h3 h.symm; omega)).trans (h.block i h1 h2 h3)⟩
theorem Tch.toExt {c row} {w0 a w : World} (h0 : Ext w0 a) (h : Tch c row a w) (hc : w0.heap.size ≤ c) (hr : ∀ i, row = some i → w0.heap.size ≤ i) : Ext w0 w :=
  ⟨h.os.trans h0.os, h.tape.trans h0.tape, h.output.trans h0.output, Nat.le_trans h0.size h.size, fun i h1 => (h.block i (Nat.lt_of_lt_of_le h1 h0.size) (by omega) (fun e => by have := hr i e.symm; omega)).trans (h0.block i h1)⟩
theorem Tch.at_ {c row} {w w' : World} (h : Tch c row w w') {k : Nat} {o : Obj} (hk : w.heap[k]? = some o) (h1 : k ≠ c) (h2 : some k ≠ row) : w'.heap[k]? = some o :=
  (h.block k (Array.getElem?_eq_some_iff.1 hk).1 h1 h2).trans hk
def NotNode (w : World) (k : Nat) : Prop := ∃ cs e fr, w.heap[k]? = some (.cells cs e fr) ∧ e ≠ 101
theorem Rep.tch {w w' : World} {c row} (h : Tch c row w w') (hc : NotNode w c) (hr : ∀ k, row = some k → NotNode w k) : ∀ {T p}, Rep w T p → Rep w' T p
  | .leaf, _, h => h
  | .node _ _, _, ⟨b, pl, pr, e, h0, hl, hr'⟩ => by
    have far : ∀ k, NotNode w k → b ≠ k := by
      rintro k ⟨cs, t, fr, h1, h2⟩ rfl
      rw [h1] at h0
      injection h0 with h0
      injection h0 with _ h3
      exact h2 h3
    exact ⟨b, pl, pr, e, h.at_ h0 (far c hc) (fun e => far b (hr b e.symm) rfl), Rep.tch h hc hr hl, Rep.tch h hc hr hr'⟩
theorem Own.notNode {w : World} {base : Nat} {e : TypeId} {v : Value} {xs : List Value} (h : Own w base e v xs) (he : e ≠ 101) : ∀ k, v.ownBlock = some k → NotNode w k := fun k hk => let ⟨cs, fr, h1⟩ := h.typed k hk; ⟨cs, e, fr, h1, he⟩
section
variable {σ : Type}
def runL (f : Int → σ → σ × Bool) : List Int → σ → σ × Bool
  | [], s => (s, false)
  | x :: l, s => if (f x s).2 = true then ((f x s).1, true) else runL f l (f x s).1
def runW (g : σ → List Int → Tr × Tr → σ × Bool) : Nat → List Int → Tr × Tr → σ → σ × Bool
  | 0, xs, y, s => g s xs y
  | n + 1, xs, y, s => runL (fun x s => runW g n (xs ++ [x]) (conj y (letP x)) s) lts s
theorem runL_live (live : σ → Prop) (f : Int → σ → σ × Bool) (hf : ∀ x s, live s → (f x s).2 = false → live (f x s).1) : ∀ l s, live s → (runL f l s).2 = false → live (runL f l s).1
  | [], s, h, _ => h
  | x :: l, s, h, h2 => by
    simp only [runL] at h2 ⊢
    cases hb : (f x s).2 with
    | true => rw [hb] at h2; simp at h2
    | false => rw [hb] at h2; simp only [Bool.false_eq_true, if_false] at h2 ⊢; exact runL_live live f hf l _ (hf x s h hb) h2
theorem runW_live (live : σ → Prop) (g : σ → List Int → Tr × Tr → σ × Bool) (hg : ∀ s xs y, live s → (g s xs y).2 = false → live (g s xs y).1) : ∀ n xs y s, live s → (runW g n xs y s).2 = false → live (runW g n xs y s).1
  | 0, xs, y, s, h, h2 => hg s xs y h h2
  | n + 1, xs, y, s, h, h2 => runL_live live _ (fun x s h h2 => runW_live live g hg n _ _ s h h2) lts s h h2
structure Cb (b0 c : Nat) (F : FuncId) (cap : Array Value) (g : σ → List Int → Tr × Tr → σ × Bool) (I : σ → World → Prop) (live : σ → Prop) : Prop where
  run : Run F
  low : c < b0
  box : ∀ s w, I s w → NotNode w c
  stab : ∀ s w w' row, live s → I s w → w.grownBy w' row → (∀ k, row = some k → b0 ≤ k ∧ NotNode w k) → I s w'
  ext : ∀ s w w', I s w → Ext w w' → I s w'
  next : ∀ s xs y, live s → (g s xs y).2 = false → live (g s xs y).1
  call : ∀ s w v xs y pa pb, live s → I s w → Reads w v (ints xs) → xs.length ≤ 10 → Bal y → y.2.carets ≤ 100 → Rep w y.1 pa → Rep w y.2 pb →
    Calls Tryz.prog F (#[v, .agg #[.pointer pa, .pointer pb]] ++ cap) w fun e w' => e = .returned (.bool (g s xs y).2) ∧ I (g s xs y).1 w' ∧ Tch c none w w'
theorem runW_two (g : σ → List Int → Tr × Tr → σ × Bool) (n : Nat) (xs : List Int) (y : Tr × Tr) (s : σ) : runW g (n + 1) xs y s = runL (fun x s => runW g n (xs ++ [x]) (conj y (letP x)) s) lts s := rfl
theorem lts_get {k : Nat} (h : k < 4) : ∃ x : Int, lts[k]? = some x ∧ (∀ w : World, (Instr.index 104 (.agg #[.int .i64 1, .int .i64 (-1), .int .i64 2, .int .i64 (-2)]) (.int .i64 k)).run Tryz.prog w = .ok (.int .i64 x) w) ∧ x ≠ 0 ∧ -2 ≤ x ∧ x ≤ 2 := by
  rcases k with _ | _ | _ | _ | k
  · exact ⟨1, rfl, fun _ => by kernel_rfl, by decide, by decide⟩
  · exact ⟨-1, rfl, fun _ => by kernel_rfl, by decide, by decide⟩
  · exact ⟨2, rfl, fun _ => by kernel_rfl, by decide, by decide⟩
  · exact ⟨-2, rfl, fun _ => by kernel_rfl, by decide, by decide⟩
  · omega
set_option maxHeartbeats 1600000 in
theorem letters_calls (w : World) :
    Calls Tryz.prog 87 #[] w fun e w' => e = .returned (.agg #[.int .i64 1, .int .i64 (-1), .int .i64 2, .int .i64 (-2)]) ∧ Ext w w' := by
  have X0 := Lib.hid ((Ext.refl w).alloc (.cells #[.int .i64 1, .int .i64 (-1), .int .i64 2, .int .i64 (-2)] 104))
  have c0 : ∀ j u, (#[Value.int .i64 1, .int .i64 (-1), .int .i64 2, .int .i64 (-2)] : Array Value)[j]? = some u → (w.alloc (.cells #[.int .i64 1, .int .i64 (-1), .int .i64 2, .int .i64 (-2)] 104)).cell? ⟨w.heap.size, j, none⟩ = some u := by
    intro j u hu
    rw [cell_of_row _ w.heap.size j _ _ (0, 0) (heap_alloc_new w _)]
    exact hu
  have d0 := c0 0 _ rfl
  have d1 := c0 1 _ rfl
  have d2 := c0 2 _ rfl
  have d3 := c0 3 _ rfl
  go_enter Tryz.func87, Tryz.ntmps87
  go_wp2_with fail
  exact bodyPost_ret (v := .agg #[.int .i64 1, .int .i64 (-1), .int .i64 2, .int .i64 (-2)]) (by simp [results, Tryz.results87, go_sem, d0, d1, d2, d3]) rfl ⟨rfl, X0.out⟩
theorem lit_reads (W : World) (x : Int) : Reads (W.alloc (.cells #[.int .i64 x] 3)) (.slice (some ⟨W.heap.size, 0, none⟩) 1 1) [.int .i64 x] := (Own.lit W 0 3 #[.int .i64 x] (Nat.zero_le _) (by show 1 ≤ maxLen; decide)).reads
theorem words_bundle {σ : Type} {b0 c : Nat} {F : FuncId} {cap : Array Value} {g : σ → List Int → Tr × Tr → σ × Bool} {I : σ → World → Prop} {live : σ → Prop} (CB : Cb b0 c F cap g I live)
    {w wr W w4 : World} {v v4 : Value} {xs : List Int} {x : Int} {t : σ} {n : Nat} {o : Obj} {A B : Tr} {pa pb : Option Addr}
    (hG : n ≠ c ∧ some n ≠ v.ownBlock) (hT : Tch c v.ownBlock w wr) (tc : Ext wr W) (hO : Own wr b0 3 v (ints xs)) (hI : I t wr) (hl : live t) (hB : wr.heap[n]? = some o) (hb : b0 ≤ w.heap.size) (rA : Rep wr A pa) (rB : Rep wr B pb)
    (o4 : Own w4 b0 3 v4 (ints xs ++ [.int .i64 x])) (g4 : W.grownBy w4 v.ownBlock) (d4 : v4.ownBlock = v.ownBlock ∨ v4.ownBlock = some W.heap.size)
    (k4 : (∀ w2, Own w2 b0 3 v4 (ints xs ++ [.int .i64 x]) → Own w2 b0 3 v (ints xs)) ∨ (v4.ownBlock = some W.heap.size ∧ Own w4 b0 3 v (ints xs))) :
    I t w4 ∧ w4.heap[n]? = some o ∧ Own w4 b0 3 v4 (ints (xs ++ [x])) ∧ b0 ≤ w4.heap.size ∧
      ∀ w5, Own w5 b0 3 v4 (ints (xs ++ [x])) → Tch c v4.ownBlock w4 w5 → Own w5 b0 3 v (ints xs) ∧ Tch c v.ownBlock w w5 ∧ w5.heap[n]? = some o ∧ Rep w5 A pa ∧ Rep w5 B pb := by
  have e : ints xs ++ [.int .i64 x] = ints (xs ++ [x]) := by simp [ints]
  rw [e] at o4
  have hlow : ∀ k, v.ownBlock = some k → b0 ≤ k := fun k hk => hO.lo k hk
  have T0 : Tch c v.ownBlock wr w4 := ((Tch.refl c v.ownBlock wr).ext tc).grown g4
  have hn4 : w4.heap[n]? = some o := T0.at_ hB hG.1 hG.2
  refine ⟨CB.stab _ _ _ _ hl (CB.ext _ _ _ hI tc) g4 (fun k hk => ⟨hlow k hk, (hO.ext tc).notNode (by decide) k hk⟩), hn4, o4, Nat.le_trans hb (Nat.le_trans hT.size (Nat.le_trans tc.size g4.size)), fun w5 o5 t5 => ?_⟩
  have hr : ∀ i, v4.ownBlock = some i → v.ownBlock = some i ∨ wr.heap.size ≤ i := by
    intro i hi
    rcases d4 with h | h
    · left; rw [← h, hi]
    · right; rw [h] at hi; injection hi with hi; have := tc.size; omega
  have T5 := T0.trans t5 hr
  have hc : ∀ k, v.ownBlock = some k → k ≠ c := fun k hk => by have := hlow k hk; have := CB.low; omega
  refine ⟨?_, hT.trans T5 (fun i h => .inl h), T5.at_ hB hG.1 hG.2, ?_, ?_⟩
  · rcases k4 with h | ⟨h1, h2⟩
    · exact h w5 (by rw [e]; exact o5)
    · refine h2.same fun k hk => t5.block k (h2.block k hk).2 (hc k hk) ?_
      rw [h1]
      intro e2
      injection e2 with e2
      have := (hO.block k hk).2
      have := tc.size
      omega
  · exact rA.tch T5 (CB.box _ _ hI) (hO.notNode (by decide))
  · exact rB.tch T5 (CB.box _ _ hI) (hO.notNode (by decide))
set_option maxHeartbeats 6400000 in
set_option maxRecDepth 100000 in
theorem words_calls {b0 c : Nat} {F : FuncId} {cap : Array Value} {g : σ → List Int → Tr × Tr → σ × Bool} {I : σ → World → Prop} {live : σ → Prop} (CB : Cb b0 c F cap g I live) : ∀ (many : Nat) (xs : List Int) (y : Tr × Tr) (s : σ) (v : Value) (pa pb : Option Addr) (w : World), many ≤ 4 → xs.length + many ≤ 10 → Bal y → y.2.carets + 6 * many ≤ 100 → live s → I s w → Own w b0 3 v (ints xs) → b0 ≤ w.heap.size → Rep w y.1 pa → Rep w y.2 pb →
    Calls Tryz.prog 57 #[.agg #[.pointer pa, .pointer pb], v, .int .i64 many, .func (.func F) #[] cap] w fun e w' => e = .returned (.bool (runW g many xs y s).2) ∧ I (runW g many xs y s).1 w' ∧ Own w' b0 3 v (ints xs) ∧ Tch c v.ownBlock w w' := by
  intro many
  induction many with
  | zero =>
    intro xs y s v pa pb w _ hx hy hc hl hI hO hb rA rB
    have X0 := Lib.hid ((Ext.refl w).alloc (.cells #[.pointer pa, .pointer pb] 62))
    obtain ⟨c0, c1⟩ := cells_of (heap_alloc_new w (.cells #[.pointer pa, .pointer pb] 62))
    have C1 := Lib.hid (CB.call s (w.alloc (.cells #[.pointer pa, .pointer pb] 62)) v xs y pa pb hl (CB.ext _ _ _ hI X0.out) (hO.reads.ext X0.out) (by omega) hy (by omega) (rA.ext X0.out) (rB.ext X0.out))
    have HO := Lib.hid hO
    have HB : Hid (∀ k, v.ownBlock = some k → k ≠ c) := fun k hk => by have := hO.lo k hk; have := CB.low; omega
    have HR := Lib.hid CB.run
    obtain ⟨r, hr⟩ : ∃ r, g s xs y = r := ⟨_, rfl⟩
    rw [show runW g 0 xs y s = r from hr]
    rw [hr] at C1
    clear hI hO rA rB CB hr
    go_enter Tryz.func57, Tryz.ntmps57
    go_wp2_with fail
    rw [HR.out]
    refine C1.out.mono ?_
    rintro e w1 ⟨rfl, i1, t1⟩
    have I1 := Lib.hid i1
    have T1 := Lib.hid t1
    clear i1 t1
    go_wp2_with fail
    go_ret
    refine ⟨rfl, I1.out, ?_, ?_⟩
    · exact (HO.out.ext X0.out).same fun k hk => T1.out.block k ((HO.out.ext X0.out).block k hk).2 (HB.out k hk) (fun e => by cases e)
    · exact ((Tch.refl c _ w).ext X0.out).trans T1.out (fun i e => by cases e)
  | succ many ih =>
    intro xs y s v pa pb w hm hx hy hc hl hI hO hb rA rB
    have X0 := Lib.hid ((Ext.refl w).alloc (.cells #[.pointer pa, .pointer pb] 62))
    have B0 := Lib.hid (heap_alloc_new w (.cells #[.pointer pa, .pointer pb] 62))
    have I0 := Lib.hid (CB.ext _ _ _ hI X0.out)
    have O0 := Lib.hid (hO.ext X0.out)
    have RA := Lib.hid (rA.ext X0.out)
    have RB := Lib.hid (rB.ext X0.out)
    have HB : Hid (∀ k, v.ownBlock = some k → k ≠ c ∧ b0 ≤ k) := fun k hk => by have := hO.lo k hk; have := CB.low; exact ⟨by omega, by omega⟩
    have HX := Lib.hid hx
    have HL := Lib.hid hl
    have HG : Hid (w.heap.size ≠ c ∧ some w.heap.size ≠ v.ownBlock) := ⟨by have := CB.low; omega, fun e => by have := (hO.block _ e.symm).2; omega⟩
    obtain ⟨M, hM⟩ : ∃ M : Int, ((many + 1 : Nat) : Int) = M := ⟨_, rfl⟩
    have hM2 : M ≤ 4 := by omega
    have hM1 : 1 ≤ M := by omega
    have W1 : Hid (M - 1 = (many : Int)) := by show _ = _; omega
    have W2 : Hid (IntKind.i64.wrap (M - 1) = (many : Int)) := by show _ = _; rw [W1.out]; exact wrap_ok (by omega)
    have m0 : (M == 0) = false := by rw [beq_eq_false_iff_ne]; omega
    rw [hM]
    clear hM
    have RW := Lib.hid (runW_two g many xs y s)
    clear hI hO rA rB hl
    go_enter Tryz.func57, Tryz.ntmps57
    go_wp2_with fail
    generalize w.alloc (.cells #[.pointer pa, .pointer pb] 62) = W at *
    refine (letters_calls W).mono ?_
    rintro e w1 ⟨rfl, x1⟩
    have T1 := Lib.hid (((Tch.refl c v.ownBlock w).ext X0.out).ext x1)
    have I1 := Lib.hid (CB.ext _ _ _ I0.out x1)
    have O1 := Lib.hid (O0.out.ext x1)
    have B1 := Lib.hid (x1.at B0.out)
    have RA := Lib.hid (RA.out.ext x1)
    have RB := Lib.hid (RB.out.ext x1)
    clear x1 X0 B0 I0 O0
    go_wp2_with fail
    generalize hA : (#[Value.int .i64 1, .int .i64 (-1), .int .i64 2, .int .i64 (-2)] : Array Value) = A at *
    have HA := Lib.hid hA
    clear hA
    go_loopw [18] (fun i wr => ∃ (k : Nat) (t : σ), k ≤ 4 ∧ i = .int .i64 k ∧ Hid (live t) ∧ Hid (runW g (many + 1) xs y s = runL (fun x s => runW g many (xs ++ [x]) (conj y (letP x)) s) (lts.drop k) t) ∧ Hid (I t wr) ∧ Hid (Own wr b0 3 v (ints xs)) ∧ Hid (wr.heap[w.heap.size]? = some (.cells #[.pointer pa, .pointer pb] 62)) ∧ Hid (Rep wr y.1 pa) ∧ Hid (Rep wr y.2 pb) ∧ Hid (Tch c v.ownBlock w wr)) (fun i _ => 4 - (intOf i).toNat)
    case atStart => exact ⟨0, s, by omega, rfl, HL.out, RW.out, I1.out, O1.out, B1.out, RA.out, RB.out, T1.out⟩
    case round =>
      obtain ⟨k, t, hk, rfl, HLt, HRt, HI, HO, HBx, HRA, HRB, HT⟩ := hrel
      obtain ⟨c0, c1⟩ := cells_of HBx.out
      by_cases hlt : k < 4
      · obtain ⟨x, hx1, hx2, hx3, hx4, hx5⟩ := lts_get hlt
        rw [HA.out] at hx2
        have k4 : (k : Int) < 4 := by omega
        have k0 : (0 : Int) ≤ k := by omega
        have DR : Hid (lts.drop k = x :: lts.drop (k + 1)) := by show _ = _; exact (by rw [List.drop_eq_getElem_cons (show k < lts.length from hlt)]; rw [List.getElem?_eq_getElem (show k < lts.length from hlt)] at hx1; injection hx1 with hx1; rw [hx1])
        have CL := Lib.hid (fun W => letter_calls x ⟨hx3, by omega, by omega⟩ W)
        have lb := letP_bal hx3
        have lc := letP_carets hx3
        have CC := Lib.hid (fun l1 l2 W (h : Ext wr W) (g1 : Rep W (letP x).1 l1) (g2 : Rep W (letP x).2 l2) => conjugate_calls y.1 y.2 (letP x).1 (letP x).2 hy lb (by omega) (by omega) pa pb l1 l2 W (HRA.out.ext h) (HRB.out.ext h) g1 g2)
        rw [show ((letP x).1, (letP x).2) = letP x from rfl, show (y.1, y.2) = y from rfl] at CC
        have cc := conj_carets hy lb
        have IH := Lib.hid (fun v' p1 p2 W (h1 : I t W) (h2 : Own W b0 3 v' (ints (xs ++ [x]))) (h3 : b0 ≤ W.heap.size) h4 h5 => ih (xs ++ [x]) (conj y (letP x)) t v' p1 p2 W (by omega) (by simp; omega) (hy.conj lb) (by unfold Bal at hy lb; omega) HLt.out h1 h2 h3 h4 h5)
        generalize hr : runW g many (xs ++ [x]) (conj y (letP x)) t = r at *
        have HR0 := Lib.hid hr
        have CBL : Hid (∀ n xs y s, live s → (runW g n xs y s).2 = false → live (runW g n xs y s).1) := runW_live live g CB.next
        generalize hnp : conj y (letP x) = np at *
        rw [← hnp] at HR0
        clear hnp
        generalize (letP x).1 = L1 at *
        generalize (letP x).2 = L2 at *
        clear hr lb lc cc
        go_wp2_with fail
        have tc := Ext.refl wr
        have LX := Lib.hid hx
        have CC := CC.out
        have KX : ∀ w', Ext wr w' → w'.cell? ⟨w.heap.size, 0, none⟩ = some (.pointer pa) ∧ w'.cell? ⟨w.heap.size, 1, none⟩ = some (.pointer pb) := fun w' h => ⟨h.cell c0, h.cell c1⟩
        go_region_held3 (fun w' => w'.cell? ⟨w.heap.size, 0, none⟩ = some (.pointer pa) ∧ w'.cell? ⟨w.heap.size, 1, none⟩ = some (.pointer pb))
          (first | with_reducible exact KX _ tc | with_reducible exact KX _ tc.drew | with_reducible exact KX _ (tc.alloc _) | with_reducible exact KX _ (tc.alloc _).drew | with_reducible exact cells_of n4 | with_reducible exact cells_of bn5 | fail)
          (first
            | (go_at_call 51; refine (CL.out _).mono ?_; rintro e wl ⟨l1, l2, rfl, rl1, rl2, hx⟩; (first | (with_reducible have tc := tc.drew.trans hx) | (have tc := (tc.alloc (.cells #[.int .i64 x] 3)).drew.trans hx; have rb := ((lit_reads _ x).ext (Ext.refl _).drew).ext hx)))
            | (go_at_call 39; (first | ((with_reducible refine (CC _ _ _ tc rl1 rl2).mono ?_); rintro e wc ⟨p1, p2, rfl, rc1, rc2, hx⟩; have tc := tc.trans hx; (try have rb := rb.ext hx)) | (refine (CC _ _ _ (tc.alloc (.cells #[.int .i64 x] 3)) (rl1.ext ((Ext.refl _).alloc (.cells #[.int .i64 x] 3))) (rl2.ext ((Ext.refl _).alloc (.cells #[.int .i64 x] 3)))).mono ?_; rintro e wc ⟨p1, p2, rfl, rc1, rc2, hx⟩; have tc := (tc.alloc (.cells #[.int .i64 x] 3)).trans hx; have rb := (lit_reads _ x).ext hx)))
            | (go_at_call 57; (first | rw [W2.out] | rw [W1.out]); refine (IH.out _ _ _ _ i4 o4 b4 rc1 rc2).mono ?_; rintro e w5 ⟨rfl, i5, o5, t5⟩; obtain ⟨ow5, tc5, bn5, ra5, rb5⟩ := k4 _ o5 t5)
            | (refine step_app_keeps (by rfl) (.tmp 25) (.tmp 27) 28 (by rfl) b0 3 (.int .i64 0) 8 Tryz.underlying28 infoInt rfl (by omega) v _ (ints xs) (.int .i64 x) (by rfl) (by rfl) (HO.out.ext tc) rb rfl (by rw [ints_length]; have := LX.out; omega) (Nat.le_trans (Nat.le_trans hb HT.out.size) tc.size) ?_; intro v4 w4 o4 g4 d4 q4; have rc1 := rc1.row (HO.out.ext tc) (by decide) g4; have rc2 := rc2.row (HO.out.ext tc) (by decide) g4; obtain ⟨i4, n4, o4, b4, k4⟩ := words_bundle CB HG.out HT.out tc HO.out HI.out HLt.out HBx.out hb HRA.out HRB.out o4 g4 d4 q4)
            | (refine step_app_keeps (by rfl) (.tmp 25) (.tmp 27) 28 (by rfl) b0 3 (.int .i64 0) 8 Tryz.underlying28 infoInt rfl (by omega) v _ (ints xs) (.int .i64 x) (by rfl) (by rfl) (HO.out.ext (tc.alloc (.cells #[.int .i64 x] 3))) (lit_reads _ x) rfl (by rw [ints_length]; have := LX.out; omega) (Nat.le_trans (Nat.le_trans hb HT.out.size) (tc.alloc (.cells #[.int .i64 x] 3)).size) ?_; intro v4 w4 o4 g4 d4 q4; have rc1 := (rc1.ext ((Ext.refl _).alloc (.cells #[.int .i64 x] 3))).row (HO.out.ext (tc.alloc (.cells #[.int .i64 x] 3))) (by decide) g4; have rc2 := (rc2.ext ((Ext.refl _).alloc (.cells #[.int .i64 x] 3))).row (HO.out.ext (tc.alloc (.cells #[.int .i64 x] 3))) (by decide) g4; obtain ⟨i4, n4, o4, b4, k4⟩ := words_bundle CB HG.out HT.out (tc.alloc (.cells #[.int .i64 x] 3)) HO.out HI.out HLt.out HBx.out hb HRA.out HRB.out o4 g4 d4 q4)
            | fail)
        all_goals
          have OW := Lib.hid ow5
          have TC := Lib.hid tc5
          have BN := Lib.hid bn5
          have RA5 := Lib.hid ra5
          have RB5 := Lib.hid rb5
          have I5 := Lib.hid i5
          clear ow5 tc5 bn5 ra5 rb5 i5 o5 t5 k4 rc1 rc2 o4 i4 n4
          obtain ⟨r1, r2⟩ := r
          simp only at I5
          have EV : Hid (runW g (many + 1) xs y s = if r2 = true then (r1, true) else runL (fun x s => runW g many (xs ++ [x]) (conj y (letP x)) s) (lts.drop (k + 1)) r1) := by
            show _ = _
            rw [HRt.out, DR.out]
            simp only [runL]
            rw [HR0.out]
          cases r2
          · simp only [Bool.false_eq_true, if_false] at EV
            have LV := Lib.hid (CBL.out _ _ _ _ HLt.out (by rw [HR0.out]))
            rw [HR0.out] at LV
            go_wp2_with fail
            exact ⟨⟨k + 1, r1, by omega, by go_num, LV.out, EV.out, I5.out, OW.out, BN.out, RA5.out, RB5.out, TC.out⟩, by simp [intOf]; omega⟩
          · simp only [if_true] at EV
            go_wp2_with fail
            go_ret
            rw [EV.out]
            exact ⟨rfl, I5.out, OW.out, TC.out⟩
      · have k4 : ¬ (k : Int) < 4 := by omega
        have EV : Hid (runW g (many + 1) xs y s = (t, false)) := by show _ = _; rw [HRt.out, List.drop_eq_nil_of_le (by show 4 ≤ k; omega)]; rfl
        go_wp2_with fail
        go_ret
        rw [EV.out]
        exact ⟨rfl, HI.out, HO.out, HT.out⟩
end
end Go.Proofs.YtijnadjgmmednaaGreat.N
namespace Go.Proofs.YtijnadjgmmednaaGreat.N
open Go.RowKit
theorem Own.apart {w w' : World} {base base' : Nat} {e e' : TypeId} {v v2 : Value} {xs ys : List Value} (h : Own w base e v xs) (h2 : Own w base' e' v2 ys) (he : e ≠ e') (hg : w.grownBy w' v2.ownBlock) : Own w' base e v xs :=
  h.far hg fun k hk hv => by
    obtain ⟨cs, fr, h3⟩ := h.typed k hv
    obtain ⟨cs2, fr2, h4⟩ := h2.typed k hk
    rw [h3] at h4
    injection h4 with h4
    injection h4 with _ h5
    exact he h5
theorem Reads.apart {w w' : World} {base base' : Nat} {e e' : TypeId} {v v2 : Value} {xs ys : List Value} (h : Own w base e v xs) (h2 : Own w base' e' v2 ys) (he : e ≠ e') (hg : w.grownBy w' v2.ownBlock) : Reads w' v xs := (h.apart h2 he hg).reads
def OwnR (w : World) (base : Nat) (v : Value) (xss : List (List Int)) : Prop := ∃ us, Own w base 28 v us ∧ us.length = xss.length ∧ (∀ u ∈ us, u.oneCell' = true) ∧ ∀ (r : Nat) (xs : List Int), xss[r]? = some xs → ∃ u, us[r]? = some u ∧ Own w base 3 u (ints xs)
theorem OwnR.nil (w : World) (base : Nat) : OwnR w base (.slice none 0 0) [] := ⟨[], Own.nil _ _ _, rfl, by simp, fun r xs e => by simp at e⟩
theorem OwnR.ext {w w' : World} {base : Nat} {v : Value} {xss : List (List Int)} (h : OwnR w base v xss) (hx : Ext w w') : OwnR w' base v xss :=
  let ⟨us, a, l, o, b⟩ := h; ⟨us, a.ext hx, l, o, fun r xs e => let ⟨u, c, d⟩ := b r xs e; ⟨u, c, d.ext hx⟩⟩
theorem OwnR.mono {w : World} {base base' : Nat} {v : Value} {xss : List (List Int)} (h : OwnR w base v xss) (hb : base' ≤ base) : OwnR w base' v xss :=
  let ⟨us, a, l, o, b⟩ := h; ⟨us, a.mono hb, l, o, fun r xs e => let ⟨u, c, d⟩ := b r xs e; ⟨u, c, d.mono hb⟩⟩
theorem OwnR.reads {w : World} {base : Nat} {v : Value} {xss : List (List Int)} (h : OwnR w base v xss) : ReadsM w v xss :=
  let ⟨us, a, l, o, b⟩ := h; ⟨us, a.reads, l, fun r xs e => let ⟨u, c, d⟩ := b r xs e; ⟨u, c, d.reads⟩⟩
theorem OwnR.open {w : World} {base : Nat} {v : Value} {xss : List (List Int)} (h : OwnR w base v xss) : ∃ A c, v = .slice A xss.length c ∧
    ∀ (r : Nat) (xs : List Int), xss[r]? = some xs → ∃ ad B d, A = some ad ∧ w.cell? (ad.add r) = some (.slice B xs.length d) ∧ Own w base 3 (.slice B xs.length d) (ints xs) := by
  obtain ⟨us, ho, l, _, b⟩ := h
  obtain ⟨A, c, rfl, _, h1⟩ := ho.reads
  refine ⟨A, c, by rw [l], fun r xs e => ?_⟩
  obtain ⟨u, hu, k⟩ := b r xs e
  obtain ⟨ad, rfl, hc⟩ := h1 (by have := (List.getElem?_eq_some_iff.1 hu).1; omega)
  have hcu := hc r u hu
  obtain ⟨B, d, rfl, _, _⟩ := k.reads
  rw [ints_length] at *
  exact ⟨ad, B, d, rfl, hcu, k⟩
theorem OwnR.same {w w' : World} {base : Nat} {v : Value} {xss : List (List Int)} (h : OwnR w base v xss) (hs : ∀ k, base ≤ k → w'.heap[k]? = w.heap[k]?) : OwnR w' base v xss :=
  let ⟨us, a, l, o, b⟩ := h; ⟨us, a.same fun k hk => hs k (a.lo k hk), l, o, fun r xs e => let ⟨u, c, d⟩ := b r xs e; ⟨u, c, d.same fun k hk => hs k (d.lo k hk)⟩⟩
theorem vals_one (u : Value) (h : u.oneCell' = true) : ∀ x ∈ [u], x.oneCell' = true := by simpa using h
theorem OwnR.snoc {w w' : World} {base : Nat} {v v' u : Value} {us : List Value} {xss : List (List Int)} {xs : List Int}
    (ho : Own w base 28 v us) (hl : us.length = xss.length) (h1 : ∀ u ∈ us, u.oneCell' = true) (hr : ∀ (r : Nat) (xs : List Int), xss[r]? = some xs → ∃ u, us[r]? = some u ∧ Own w base 3 u (ints xs))
    (hu : Own w base 3 u (ints xs)) (o' : Own w' base 28 v' (us ++ [u])) (hg : w.grownBy w' v.ownBlock) (hu1 : u.oneCell' = true) : OwnR w' base v' (xss ++ [xs]) := by
  refine ⟨us ++ [u], o', by simp [hl], fun x hx => by rcases List.mem_append.1 hx with h | h; exact h1 x h; simp at h; rw [h]; exact hu1, fun r ys e => ?_⟩
  rw [List.getElem?_append] at e
  split at e
  · rename_i h
    obtain ⟨x, hx, hy⟩ := hr r ys e
    exact ⟨x, by rw [List.getElem?_append_left (by omega)]; exact hx, hy.apart ho (by decide) hg⟩
  · rename_i h
    have : r = xss.length := by have := (List.getElem?_eq_some_iff.1 e).1; simp at this; omega
    subst this
    have e : xs = ys := by simpa using e
    subst e
    exact ⟨u, by rw [← hl, List.getElem?_append_right (Nat.le_refl _)]; simp, hu.apart ho (by decide) hg⟩
theorem infoRow : (Tryz.prog.info? 28).map (fun i => (i.zero, i.size, i.bytes)) = some (some (.slice none 0 0), 1, 24) := by kernel_rfl
set_option maxHeartbeats 1600000 in
theorem l1OwnZ_calls (xs : List Int) (hl : xs.length ≤ 1048576) (v : Value) (w : World) (hv : Reads w v (ints xs)) :
    Calls Tryz.prog 89 #[v] w fun e w' => ∃ u, e = .returned u ∧ Own w' w.heap.size 3 u (ints xs) ∧ Ext w w' := by
  have ON : Own (w.alloc (.cells #[] 3)) w.heap.size 3 (.slice (some ⟨w.heap.size, 0, none⟩) 0 0) (ints []) := Own.lit w w.heap.size 3 #[] (Nat.le_refl _) (by show 0 ≤ maxLen; decide)
  have RD := hv.ext ((Ext.refl w).alloc (.cells #[] 3))
  have LL : Hid (((ints []).length + (ints xs).length) * 8 ≤ 140737488355328) := by show _ ≤ _; rw [ints_length, ints_length]; simp only [List.length_nil]; omega
  have LX := Lib.hid ((Ext.refl w).alloc (.cells #[] 3)).size
  obtain ⟨AA, cc, rfl, _, _⟩ := hv
  rw [ints_length] at RD ⊢
  go_enter Tryz.func89, Tryz.ntmps89
  go_wp2_with (at_builtin; refine wpList_app rfl (.tmp 3) (.tmp 4) 28 rfl w.heap.size 3 (.int .i64 0) 8 Tryz.underlying28 infoInt rfl (by omega) _ _ _ (ints xs) rfl rfl ON RD (ints_one _) LL.out LX.out ?_; intro v2 w2 o2 g2 _)
  have X2 := Lib.hid (((Ext.refl w).alloc (.cells #[] 3)).grown g2 ON.lo)
  have O2 := Lib.hid o2
  clear o2 g2 ON RD
  go_wp2_with fail
  go_ret
  exact ⟨_, rfl, O2.out, X2.out⟩
set_option maxHeartbeats 1600000 in
theorem lnLetters_calls (w : World) :
    Calls Tryz.prog 88 #[] w fun e w' => ∃ c, e = .returned (.slice (some ⟨w.heap.size, 0, none⟩) 4 c) ∧ Own w' w.heap.size 3 (.slice (some ⟨w.heap.size, 0, none⟩) 4 c) (ints lts) ∧ Ext w w' := by
  have ON := Lib.hid (Own.lit w w.heap.size 3 #[.int .i64 1, .int .i64 (-1), .int .i64 2, .int .i64 (-2)] (Nat.le_refl _) (by show 4 ≤ maxLen; decide))
  have X2 := Lib.hid ((Ext.refl w).alloc (.cells #[.int .i64 1, .int .i64 (-1), .int .i64 2, .int .i64 (-2)] 3))
  go_enter Tryz.func88, Tryz.ntmps88
  go_wp2_with fail
  go_ret
  exact ⟨4, rfl, ON.out, X2.out⟩
theorem redWd_length : ∀ n, (redWd n).length ≤ 4 ^ n
  | 0 => Nat.le_refl _
  | n + 1 => by
    have ih := redWd_length n
    have key : ∀ L : List (List Int), (L.flatMap fun w => (lts.filter (okL w)).map fun x => w ++ [x]).length ≤ 4 * L.length := by
      intro L
      induction L with
      | nil => simp
      | cons a L ih =>
        have h : (lts.filter (okL a)).length ≤ 4 := List.length_filter_le _ _
        simp only [List.flatMap_cons, List.length_append, List.length_map, List.length_cons]
        omega
    have := key (redWd n)
    rw [Nat.pow_succ]
    simp only [redWd]
    omega
theorem redWd_words {n : Nat} {w : List Int} (h : w ∈ redWd n) : w.length = n ∧ ∀ x ∈ w, x ∈ lts := by
  rw [redWd_eq, List.mem_filter] at h
  exact (mem_allW n w).1 h.1
def exts (w : List Int) (i : Nat) : List (List Int) := ((lts.take i).filter (okL w)).map fun x => w ++ [x]
theorem exts_step {w : List Int} {i : Nat} {x : Int} (h : lts[i]? = some x) : exts w (i + 1) = exts w i ++ if okL w x = true then [w ++ [x]] else [] := by
  unfold exts
  rw [List.take_add_one, h, List.filter_append, List.map_append]
  congr 1
  cases hx : okL w x with
  | true => simp [hx]
  | false => simp [hx]
theorem exts_length (w : List Int) (i : Nat) : (exts w i).length ≤ i := by
  unfold exts
  rw [List.length_map]
  exact Nat.le_trans (List.length_filter_le _ _) (by simp; omega)
def extsL (L : List (List Int)) (j : Nat) : List (List Int) := (L.take j).flatMap fun w => exts w 4
theorem extsL_step {L : List (List Int)} {j : Nat} {w : List Int} (h : L[j]? = some w) : extsL L (j + 1) = extsL L j ++ exts w 4 := by
  unfold extsL
  rw [List.take_add_one, h, List.flatMap_append]; simp
theorem extsL_length (L : List (List Int)) (j : Nat) : (extsL L j).length ≤ 4 * j := by
  unfold extsL
  have key : ∀ M : List (List Int), (M.flatMap fun w => exts w 4).length ≤ 4 * M.length := by
    intro M
    induction M with
    | nil => simp
    | cons a M ih => have := exts_length a 4; simp only [List.flatMap_cons, List.length_append, List.length_cons]; omega
  have := key (L.take j)
  have := List.length_take_le j L
  omega
theorem extsL_all (n : Nat) : extsL (redWd n) (redWd n).length = redWd (n + 1) := by
  unfold extsL
  rw [List.take_length]; rfl
end Go.Proofs.YtijnadjgmmednaaGreat.N
