import Derived.Test.YtgnepbogadfinaaGreatDoorXm7
import Derived.Test.YtgnepbogadfinaaGreatDoorXm9
import Derived.Test.YtgnepbogadfinaaGreatDoorXm10
/- A part of the proof: lemmas that later parts use. -/
set_option linter.unusedVariables false
set_option linter.unusedSimpArgs false
namespace Go.Proofs.YtgnepbogadfinaaGreatDoor.N
open Go.RowKit
theorem Ext.setCell {a b : World} (h : Ext a b) {p : Addr} (hp : a.heap.size ≤ p.block) (u : Value) : Ext a (b.setCell p u) := Below.setCell h hp u
theorem Ext.frozen {a b : World} (h : Ext a b) {p : Addr} (hp : p.block < a.heap.size) : b.frozen? p = a.frozen? p := Below.frozen h hp
structure Two (w : World) (g : Nat) (t : TypeId) : Prop where
  at_ : ∃ u v, w.heap[g]? = some (.cells #[u, v] t)
theorem Two.ext {w w' : World} {g t} (h : Two w g t) (hx : Ext w w') : Two w' g t := ⟨let ⟨u, v, e⟩ := h.at_; ⟨u, v, hx.at e⟩⟩
theorem Two.new (w : World) {n : Nat} (u v : Value) (t : TypeId) (h : w.heap.size = n) : Two (w.alloc (.cells #[u, v] t)) n t := ⟨u, v, h ▸ heap_alloc_new w _⟩
theorem Two.facts {w : World} {g t} (h : Two w g t) : ∃ u v, w.cell? ⟨g, 0, none⟩ = some u ∧ w.cell? ⟨g, 1, none⟩ = some v ∧ w.frozen? ⟨g, 0, none⟩ = false ∧ w.frozen? ⟨g, 1, none⟩ = false := by
  obtain ⟨u, v, e⟩ := h.at_
  exact ⟨u, v, (cells_of e).1, (cells_of e).2, by simp [World.frozen?, e], by simp [World.frozen?, e]⟩
def set2 (w : World) (g : Nat) (a b : Value) : World := (w.setCell ⟨g, 0, none⟩ a).setCell ⟨g, 1, none⟩ b
theorem set2_heap {w : World} {g t} (h : Two w g t) (a b : Value) : (set2 w g a b).heap[g]? = some (.cells #[a, b] t) := by
  obtain ⟨u, v, e⟩ := h.at_
  have h1 := heap_setCell_same w g 0 #[u, v] t a e
  have h2 := heap_setCell_same (w.setCell ⟨g, 0, none⟩ a) g 1 _ t b h1
  exact h2
theorem set2_other {w : World} {g k : Nat} (hk : k ≠ g) (a b : Value) : (set2 w g a b).heap[k]? = w.heap[k]? := by
  unfold set2
  rw [Below.heap_setCell _ _ _ _ (by exact hk), Below.heap_setCell _ _ _ _ (by exact hk)]
theorem set2_far {w : World} {g : Nat} {q : Addr} {x : Value} (hq : q.block ≠ g) (a b : Value) (h : w.cell? q = some x) : (set2 w g a b).cell? q = some x := (World.cell?_of_block (set2_other hq a b)).trans h
theorem Ext.set2 {a w : World} (h : Ext a w) {g : Nat} (hg : a.heap.size ≤ g) (u v : Value) : Ext a (N.set2 w g u v) := (h.setCell (p := ⟨g, 0, none⟩) hg u).setCell (p := ⟨g, 1, none⟩) hg v
theorem Rep.set2 {w : World} {g t} (h : Two w g t) (ht : t ≠ 104) (a b : Value) : ∀ {T p}, Rep w T p → Rep (N.set2 w g a b) T p
  | .leaf, _, hr => hr
  | .node _ _, _, ⟨c, pl, pr, e, h0, hl, hr⟩ => ⟨c, pl, pr, e, by
      rw [set2_other (fun e2 => by
        obtain ⟨u, v, e3⟩ := h.at_
        rw [← e2, h0] at e3
        injection e3 with e3
        injection e3 with _ e4
        exact ht e4.symm)]; exact h0, Rep.set2 h ht a b hl, Rep.set2 h ht a b hr⟩
theorem two_cells_set {w0 W : World} {b g : Nat} {u0 u1 : Value} (a v : Value) (c0 : W.cell? ⟨b, 0, none⟩ = some u0) (c1 : W.cell? ⟨b, 1, none⟩ = some u1) (hne : b ≠ g) (hx : Ext w0 W) (hg : w0.heap.size ≤ g) :
    (set2 W g a v).cell? ⟨b, 0, none⟩ = some u0 ∧ (set2 W g a v).cell? ⟨b, 1, none⟩ = some u1 ∧ Ext w0 (set2 W g a v) :=
  ⟨(World.cell?_of_block (set2_other hne a v)).trans c0, (World.cell?_of_block (set2_other hne a v)).trans c1, hx.set2 hg a v⟩
theorem Rep.set {w : World} {q : Addr} {u : Value} (hq : ∀ l r, w.heap[q.block]? ≠ some (.cells #[l, r] 104)) : ∀ {T p}, Rep w T p → Rep (w.setCell q u) T p
  | .leaf, _, hr => hr
  | .node _ _, _, ⟨b, pl, pr, e, h0, hl, hr⟩ => ⟨b, pl, pr, e, by
      rw [Below.heap_setCell _ _ _ _ (fun e2 => hq _ _ (e2 ▸ h0))]; exact h0, Rep.set hq hl, Rep.set hq hr⟩
def GivesP (w : World) (A B : Tr) (e : Ending) (w' : World) : Prop := ∃ pa pb, e = .returned (.agg #[.pointer pa, .pointer pb]) ∧ Rep w' A pa ∧ Rep w' B pb ∧ Ext w w'
set_option maxHeartbeats 3200000 in
set_option maxRecDepth 100000 in
theorem drop_calls (A B : Tr) (k : Nat) (hA : A.carets < 10000000) (hB : B.carets < 10000000) (kA : k ∈ expo A 0) (kB : k ∈ expo B 0) (pa pb : Option Addr) (w : World) (ra : Rep w A pa) (rb : Rep w B pb) :
    Calls Tryz.prog 65 #[.agg #[.pointer pa, .pointer pb], .int .i64 k] w (GivesP w (without A k) (without B k)) := by
  have X1 := Lib.hid ((Ext.refl w).alloc (.cells #[.pointer pa, .pointer pb] 53))
  have X2 := Lib.hid (X1.out.alloc (.cells #[.pointer none, .pointer none] 53))
  have C1 := fun W (hx : Ext w W) => without_calls A k pa W (by omega) kA (ra.ext hx)
  have C2 := fun W (hx : Ext w W) => without_calls B k pb W (by omega) kB (rb.ext hx)
  have c0 : ((w.alloc (.cells #[.pointer pa, .pointer pb] 53)).alloc (.cells #[.pointer none, .pointer none] 53)).cell? ⟨w.heap.size, 0, none⟩ = some (.pointer pa) := by go_simp
  have c1 : ((w.alloc (.cells #[.pointer pa, .pointer pb] 53)).alloc (.cells #[.pointer none, .pointer none] 53)).cell? ⟨w.heap.size, 1, none⟩ = some (.pointer pb) := by go_simp
  have t0 : Two ((w.alloc (.cells #[.pointer pa, .pointer pb] 53)).alloc (.cells #[.pointer none, .pointer none] 53)) (w.heap.size + 1) 53 := ⟨_, _, by
    have := heap_alloc_new (w.alloc (.cells #[.pointer pa, .pointer pb] 53)) (.cells #[.pointer none, .pointer none] 53)
    simpa using this⟩
  clear kA kB ra rb hA hB
  go_enter Tryz.func65, Tryz.ntmps65
  go_wp2_with fail
  generalize (w.alloc (.cells #[.pointer pa, .pointer pb] 53)).alloc (.cells #[.pointer none, .pointer none] 53) = W at *
  go_region_held3 (fun w' => w'.cell? ⟨w.heap.size, 0, none⟩ = some (.pointer pa) ∧ w'.cell? ⟨w.heap.size, 1, none⟩ = some (.pointer pb) ∧ Ext w w')
    (first | exact ⟨c0, c1, X2.out.drew⟩ | exact two_cells_set _ _ (x3.cell c0) (x3.cell c1) (by omega) (X2.out.trans x3) (by omega) | exact ⟨x3.cell c0, x3.cell c1, X2.out.trans x3⟩ | exact ⟨x1.cell c0, x1.cell c1, X2.out.trans x1⟩ | fail)
    (first
      | (go_at_call_of 88 (Value.pointer pa); refine (C1 _ (X2.out.trans (Ext.refl W).drew)).mono ?_; rintro e w1 ⟨p1, rfl, r1, hx1⟩; have x1 := (Ext.refl W).drew.trans hx1)
      | (go_at_call_of 88 (Value.pointer pb); refine (C2 _ (X2.out.trans x1)).mono ?_; rintro e w3 ⟨p3, rfl, r3, hx3⟩; have x3 := x1.trans hx3; obtain ⟨u, v, k0, k1, f0, f1⟩ := (t0.ext x3).facts)
      | fail)
  have T3 := t0.ext x3
  have HH := set2_heap T3 (.pointer p1) (.pointer p3)
  have R1 := Rep.set2 T3 (by decide) (.pointer p1) (.pointer p3) (r1.ext hx3)
  have R3 := Rep.set2 T3 (by decide) (.pointer p1) (.pointer p3) r3
  have XX := (X2.out.trans x3).set2 (g := w.heap.size + 1) (by omega) (.pointer p1) (.pointer p3)
  change Exit.then _ _ _ _ (N.set2 w3 (w.heap.size + 1) (.pointer p1) (.pointer p3))
  obtain ⟨hc0, hc1⟩ := cells_of HH
  generalize N.set2 w3 (w.heap.size + 1) (.pointer p1) (.pointer p3) = W3 at *
  go_wp2_with fail
  exact bodyPost_ret (v := .agg #[.pointer p1, .pointer p3]) (by simp [results, Tryz.results65, go_sem, hc0, hc1]) rfl ⟨p1, p3, rfl, R1, R3, XX⟩
set_option maxHeartbeats 3200000 in
set_option maxRecDepth 100000 in
theorem reduced_calls (A B : Tr) (hA : A.carets < 10000000) (hB : B.carets < 10000000) (pa pb : Option Addr) (w : World) (ra : Rep w A pa) (rb : Rep w B pb) :
    Calls Tryz.prog 32 #[.agg #[.pointer pa, .pointer pb]] w (GivesP w (red (A, B)).1 (red (A, B)).2) := by
  have X1 := Lib.hid ((Ext.refl w).alloc (.cells #[.pointer pa, .pointer pb] 53))
  have X2 := Lib.hid (X1.out.alloc (.cells #[.pointer none, .pointer none] 53))
  have B0 : Hid (((w.alloc (.cells #[.pointer pa, .pointer pb] 53)).alloc (.cells #[.pointer none, .pointer none] 53)).heap[w.heap.size]? = some (.cells #[.pointer pa, .pointer pb] 53)) := ((Ext.refl _).alloc _).at (heap_alloc_new w _)
  have t0 : Hid (Two ((w.alloc (.cells #[.pointer pa, .pointer pb] 53)).alloc (.cells #[.pointer none, .pointer none] 53)) (w.heap.size + 1) 53) := ⟨_, _, by
    have := heap_alloc_new (w.alloc (.cells #[.pointer pa, .pointer pb] 53)) (.cells #[.pointer none, .pointer none] 53)
    simpa using this⟩
  have RA := Lib.hid (ra.ext X2.out)
  have RB := Lib.hid (rb.ext X2.out)
  have LE := Lib.hid (And.intro hA hB)
  clear hA hB ra rb
  go_enter Tryz.func32, Tryz.ntmps32
  go_wp2_with fail
  generalize (w.alloc (.cells #[.pointer pa, .pointer pb] 53)).alloc (.cells #[.pointer none, .pointer none] 53) = W at *
  go_loopg [3] A.carets (fun f v3 wr => ∃ (C D : Tr) (qa qb : Option Addr), Hid (C.carets = f) ∧ Hid (C.carets < 10000000 ∧ D.carets < 10000000) ∧ Hid (red (C, D) = red (A, B)) ∧ Hid (wr.heap[w.heap.size]? = some (.cells #[.pointer qa, .pointer qb] 53)) ∧ Hid (Two wr (w.heap.size + 1) 53) ∧ Hid (Rep wr C qa) ∧ Hid (Rep wr D qb) ∧ Hid (Ext w wr))
  case atStart => exact ⟨A, B, pa, pb, rfl, LE.out, rfl, B0.out, t0.out, RA.out, RB.out, X2.out⟩
  case round =>
    obtain ⟨C, D, qa, qb, HF, HL, HR, HB, HT, HC, HD, HX⟩ := hrel
    obtain ⟨c0, c1⟩ := cells_of HB.out
    have CB := both_calls C D HL.out.1 HL.out.2 qa qb wr HC.out HD.out
    cases hb : bothT C D with
    | nil =>
      rw [hb] at CB
      have CB := Lib.hid CB
      have RN : Hid (red (A, B) = (C, D)) := by show _ = _; rw [← HR.out, red_nil hb]
      clear hb
      go_wp2_with fail
      refine CB.out.mono ?_
      rintro e w1 ⟨v1, rfl, o1, x1⟩
      obtain ⟨A1, n1, e1, _⟩ := o1.reads
      subst e1
      have X1 := Lib.hid x1
      obtain ⟨d0, d1⟩ := cells_of (x1.at HB.out)
      obtain ⟨u, v, k0, k1, f0, f1⟩ := (HT.out.ext x1).facts
      clear o1 x1 c0 c1
      go_wp2_with fail
      have T3 := HT.out.ext X1.out
      have HH := set2_heap T3 (.pointer qa) (.pointer qb)
      have R1 := Rep.set2 T3 (by decide) (.pointer qa) (.pointer qb) (HC.out.ext X1.out)
      have R3 := Rep.set2 T3 (by decide) (.pointer qa) (.pointer qb) (HD.out.ext X1.out)
      have XX := (HX.out.trans X1.out).set2 (g := w.heap.size + 1) (by omega) (.pointer qa) (.pointer qb)
      change bodyPost _ _ _ _ _ (N.set2 w1 (w.heap.size + 1) (.pointer qa) (.pointer qb))
      obtain ⟨hc0, hc1⟩ := cells_of HH
      generalize N.set2 w1 (w.heap.size + 1) (.pointer qa) (.pointer qb) = W3 at *
      refine bodyPost_ret (v := .agg #[.pointer qa, .pointer qb]) (by simp [results, Tryz.results32, go_sem, hc0, hc1]) rfl ?_
      rw [RN.out]
      exact ⟨qa, qb, rfl, R1, R3, XX⟩
    | cons k l =>
      rw [hb] at CB
      have CB := Lib.hid CB
      have MB := Lib.hid (mem_both (A := C) (B := D) (k := k) (by rw [hb]; exact List.mem_cons_self))
      have RN : Hid (red (without C k, without D k) = red (A, B)) := by show _ = _; rw [← HR.out]; exact (red_cons (p := (C, D)) hb).symm
      have LC := Lib.hid (And.intro (without_carets C k MB.out.1) (without_carets D k MB.out.2))
      clear hb
      go_wp2_with fail
      refine CB.out.mono ?_
      rintro e w1 ⟨v1, rfl, o1, x1⟩
      obtain ⟨A1, n1, e1, _, rd⟩ := o1.reads
      subst e1
      rw [nats_length] at *
      obtain ⟨ad, hA1, ca⟩ := rd (by simp)
      subst hA1
      have c2 : w1.cell? ad = some (.int .i64 k) := ca 0 _ (nats_get (k :: l) 0 (by simp))
      have X1 := Lib.hid x1
      obtain ⟨d0, d1⟩ := cells_of (x1.at HB.out)
      have CD := fun W' (hx : Ext w1 W') => drop_calls C D k HL.out.1 HL.out.2 MB.out.1 MB.out.2 qa qb W' (HC.out.ext (x1.trans hx)) (HD.out.ext (x1.trans hx))
      have hlen : 0 < (k :: l).length := by simp
      clear o1 x1 c0 c1 rd ca
      generalize (k :: l).length = m at *
      have t1 : ((m : Int) == 0) = false := by rw [beq_eq_false_iff_ne]; omega
      have t2 : (0 : Int) < m := by omega
      go_wp2_with fail
      go_still_tail 4, (by kernel_rfl)
      go_wp2_with fail
      refine (CD _ (Ext.refl _).drew).mono ?_
      rintro e w2 ⟨p1, p2, rfl, r1, r2, hx2⟩
      have x2 : Ext w1 w2 := (Ext.refl _).drew.trans hx2
      have X2 := Lib.hid (X1.out.trans x2)
      have TB : Hid (Two w2 w.heap.size 53) := ⟨_, _, X2.out.at HB.out⟩
      obtain ⟨u, v, k0, k1, f0, f1⟩ := TB.out.facts
      clear CD hx2 x2
      go_wp2_with fail
      have R1 := Lib.hid (Rep.set2 TB.out (by decide) (.pointer p1) (.pointer p2) r1)
      have R2 := Lib.hid (Rep.set2 TB.out (by decide) (.pointer p1) (.pointer p2) r2)
      have XX := Lib.hid ((HX.out.trans X2.out).set2 (g := w.heap.size) (Nat.le_refl _) (.pointer p1) (.pointer p2))
      have HH := Lib.hid (set2_heap TB.out (.pointer p1) (.pointer p2))
      have T3 : Hid (Two (N.set2 w2 w.heap.size (.pointer p1) (.pointer p2)) (w.heap.size + 1) 53) := by
        obtain ⟨u, v, e⟩ := HT.out.ext X2.out
        exact ⟨u, v, by rw [set2_other (by omega)]; exact e⟩
      clear r1 r2 k0 k1 f0 f1
      go_roundg (without C k).carets
      · exact ⟨without C k, without D k, p1, p2, rfl, ⟨by have := LC.out; have := HL.out; omega, by have := LC.out; have := HL.out; omega⟩, RN.out, HH.out, T3.out, R1.out, R2.out, XX.out⟩
      · have := LC.out
        have := HF.out
        omega
end Go.Proofs.YtgnepbogadfinaaGreatDoor.N
namespace Go.Proofs.YtgnepbogadfinaaGreatDoor.N
open Go.RowKit
set_option maxHeartbeats 3200000 in
set_option maxRecDepth 100000 in
theorem plain_calls (A B : Tr) (hA : A.carets < 100000000) (hB : B.carets < 100000000) (pa pb : Option Addr) (w : World) (ra : Rep w A pa) (rb : Rep w B pb) :
    Calls Tryz.prog 31 #[.agg #[.pointer pa, .pointer pb]] w fun e w' => e = .returned (.agg #[.string (tx A), .string (tx B)]) ∧ Ext w w' := by
  have X1 := Lib.hid ((Ext.refl w).alloc (.cells #[.pointer pa, .pointer pb] 53))
  have X2 := Lib.hid (X1.out.alloc (.cells #[.string ⟨#[]⟩, .string ⟨#[]⟩] 25))
  have C1 := fun W (hx : Ext w W) => text_calls A pa W (by omega) (ra.ext hx)
  have C2 := fun W (hx : Ext w W) => text_calls B pb W (by omega) (rb.ext hx)
  have c0 : ((w.alloc (.cells #[.pointer pa, .pointer pb] 53)).alloc (.cells #[.string ⟨#[]⟩, .string ⟨#[]⟩] 25)).cell? ⟨w.heap.size, 0, none⟩ = some (.pointer pa) := by go_simp
  have c1 : ((w.alloc (.cells #[.pointer pa, .pointer pb] 53)).alloc (.cells #[.string ⟨#[]⟩, .string ⟨#[]⟩] 25)).cell? ⟨w.heap.size, 1, none⟩ = some (.pointer pb) := by go_simp
  have t0 : Two ((w.alloc (.cells #[.pointer pa, .pointer pb] 53)).alloc (.cells #[.string ⟨#[]⟩, .string ⟨#[]⟩] 25)) (w.heap.size + 1) 25 := ⟨_, _, by
    have := heap_alloc_new (w.alloc (.cells #[.pointer pa, .pointer pb] 53)) (.cells #[.string ⟨#[]⟩, .string ⟨#[]⟩] 25)
    simpa using this⟩
  clear ra rb hA hB
  go_enter Tryz.func31, Tryz.ntmps31
  go_wp2_with fail
  generalize (w.alloc (.cells #[.pointer pa, .pointer pb] 53)).alloc (.cells #[.string ⟨#[]⟩, .string ⟨#[]⟩] 25) = W at *
  go_region_held3 (fun w' => w'.cell? ⟨w.heap.size, 0, none⟩ = some (.pointer pa) ∧ w'.cell? ⟨w.heap.size, 1, none⟩ = some (.pointer pb) ∧ Ext w w')
    (first | exact ⟨c0, c1, X2.out.drew⟩ | exact ⟨c0, c1, X2.out.drewN _⟩ | exact two_cells_set _ _ (w0 := w) (W := W.drewN _) c0 c1 (by omega) (X2.out.drewN _) (by omega) | fail)
    (first
      | (go_at_call_of 63 (Value.pointer pa); refine (C1 _ X2.out.drew).mono ?_; rintro e w1 ⟨rfl, n1, rfl⟩)
      | (go_at_call_of 63 (Value.pointer pb); refine (C2 _ (X2.out.drewN _)).mono ?_; rintro e w3 ⟨rfl, n3, rfl⟩; obtain ⟨u, v, k0, k1, f0, f1⟩ := (t0.ext ((Ext.refl W).drewN (1 + n1 + n3))).facts)
      | fail)
  have x3 := (Ext.refl W).drewN (1 + n1 + n3)
  have T3 := t0.ext x3
  have HH := set2_heap T3 (.string (tx A)) (.string (tx B))
  have XX := (X2.out.trans x3).set2 (g := w.heap.size + 1) (by omega) (.string (tx A)) (.string (tx B))
  change Exit.then _ _ _ _ (N.set2 _ (w.heap.size + 1) (.string (tx A)) (.string (tx B)))
  obtain ⟨hc0, hc1⟩ := cells_of HH
  generalize N.set2 _ (w.heap.size + 1) (.string (tx A)) (.string (tx B)) = W3 at *
  go_wp2_with fail
  exact bodyPost_ret (v := .agg #[.string (tx A), .string (tx B)]) (by simp [results, Tryz.results31, go_sem, hc0, hc1]) rfl ⟨rfl, XX⟩
theorem box_facts (w : World) (pa pb : Option Addr) (s t : ByteArray) :
    Ext w ((w.alloc (.cells #[.pointer pa, .pointer pb] 53)).alloc (.cells #[.string s, .string t] 25)) ∧
    ((w.alloc (.cells #[.pointer pa, .pointer pb] 53)).alloc (.cells #[.string s, .string t] 25)).cell? ⟨w.heap.size, 0, none⟩ = some (.pointer pa) ∧
    ((w.alloc (.cells #[.pointer pa, .pointer pb] 53)).alloc (.cells #[.string s, .string t] 25)).cell? ⟨w.heap.size, 1, none⟩ = some (.pointer pb) ∧
    Two ((w.alloc (.cells #[.pointer pa, .pointer pb] 53)).alloc (.cells #[.string s, .string t] 25)) (w.heap.size + 1) 25 :=
  ⟨((Ext.refl w).alloc _).alloc _, by go_simp, by go_simp, ⟨_, _, by
    have := heap_alloc_new (w.alloc (.cells #[.pointer pa, .pointer pb] 53)) (.cells #[.string s, .string t] 25)
    simpa using this⟩⟩
set_option maxHeartbeats 3200000 in
set_option maxRecDepth 100000 in
theorem fits_yes (A B : Tr) (hA : A.carets ≤ 8) (hB : B.carets < 100000000) (pa pb : Option Addr) (w : World) (ra : Rep w A pa) (rb : Rep w B pb) :
    Calls Tryz.prog 35 #[.agg #[.pointer pa, .pointer pb]] w fun e w' => e = .returned (.tuple #[.agg #[.string (tx A), .string (tx B)], .bool true]) ∧ Ext w w' := by
  obtain ⟨X2, c0, c1, t0⟩ := box_facts w pa pb ⟨#[]⟩ ⟨#[]⟩
  have X2 := Lib.hid X2
  have C1 := fun W (hx : Ext w W) => carets_calls A pa W (by omega) (ra.ext hx)
  have C2 := fun W (hx : Ext w W) => plain_calls A B (by omega) hB pa pb W (ra.ext hx) (rb.ext hx)
  have b0 : (A.carets : Int) ≤ 8 := by omega
  clear ra rb hA hB
  go_enter Tryz.func35, Tryz.ntmps35
  go_wp2_with fail
  generalize (w.alloc (.cells #[.pointer pa, .pointer pb] 53)).alloc (.cells #[.string ⟨#[]⟩, .string ⟨#[]⟩] 25) = W at *
  refine (C1 _ X2.out).mono ?_
  rintro e w1 ⟨rfl, n1, rfl⟩
  go_wp2_with fail
  refine (C2 _ (X2.out.drewN _)).mono ?_
  rintro e w3 ⟨rfl, hx3⟩
  have x3 := ((Ext.refl W).drewN _).trans hx3
  obtain ⟨u, v, k0, k1, f0, f1⟩ := (t0.ext x3).facts
  clear hx3
  go_wp2_with fail
  have T3 := t0.ext x3
  have HH := set2_heap T3 (.string (tx A)) (.string (tx B))
  have XX := (X2.out.trans x3).set2 (g := w.heap.size + 1) (by omega) (.string (tx A)) (.string (tx B))
  change bodyPost _ _ _ _ _ (N.set2 _ (w.heap.size + 1) (.string (tx A)) (.string (tx B)))
  obtain ⟨hc0, hc1⟩ := cells_of HH
  generalize N.set2 _ (w.heap.size + 1) (.string (tx A)) (.string (tx B)) = W3 at *
  exact bodyPost_ret (v := .tuple #[.agg #[.string (tx A), .string (tx B)], .bool true]) (by simp [results, Tryz.results35, go_sem, hc0, hc1]) rfl ⟨rfl, XX⟩
set_option maxHeartbeats 3200000 in
set_option maxRecDepth 100000 in
theorem fits_no (A B : Tr) (hA : 8 < A.carets) (hB : A.carets < 100000000) (pa pb : Option Addr) (w : World) (ra : Rep w A pa) :
    Calls Tryz.prog 35 #[.agg #[.pointer pa, .pointer pb]] w fun e w' => e = .returned (.tuple #[.agg #[.string ⟨#[]⟩, .string ⟨#[]⟩], .bool false]) ∧ Ext w w' := by
  obtain ⟨X2, c0, c1, t0⟩ := box_facts w pa pb ⟨#[]⟩ ⟨#[]⟩
  have X2 := Lib.hid X2
  have C1 := fun W (hx : Ext w W) => carets_calls A pa W (by omega) (ra.ext hx)
  have b0 : (8 : Int) < (A.carets : Int) := by omega
  clear ra hA hB
  go_enter Tryz.func35, Tryz.ntmps35
  go_wp2_with fail
  generalize (w.alloc (.cells #[.pointer pa, .pointer pb] 53)).alloc (.cells #[.string ⟨#[]⟩, .string ⟨#[]⟩] 25) = W at *
  refine (C1 _ (by first | exact X2.out.drew | exact X2.out)).mono ?_
  rintro e w1 ⟨rfl, n1, rfl⟩
  have x3 := (Ext.refl W).drewN n1
  obtain ⟨u, v, k0, k1, f0, f1⟩ := (t0.ext x3).facts
  go_wp2_with fail
  have T3 := t0.ext x3
  have HH := set2_heap T3 (.string ⟨#[]⟩) (.string ⟨#[]⟩)
  have XX := (X2.out.trans x3).set2 (g := w.heap.size + 1) (by omega) (.string ⟨#[]⟩) (.string ⟨#[]⟩)
  change bodyPost _ _ _ _ _ (N.set2 _ (w.heap.size + 1) (.string ⟨#[]⟩) (.string ⟨#[]⟩))
  obtain ⟨hc0, hc1⟩ := cells_of HH
  generalize N.set2 _ (w.heap.size + 1) (.string ⟨#[]⟩) (.string ⟨#[]⟩) = W3 at *
  exact bodyPost_ret (v := .tuple #[.agg #[.string ⟨#[]⟩, .string ⟨#[]⟩], .bool false]) (by simp [results, Tryz.results35, go_sem, hc0, hc1]) rfl ⟨rfl, XX⟩
def Good (s t : ByteArray) : Prop := ∃ A B, s = tx A ∧ t = tx B ∧ A.carets = B.carets ∧ B.carets ≤ 8
theorem parse_any (s : ByteArray) (w : World) : Calls Tryz.prog 51 #[.string s] w fun e w' => ∃ p b, e = .returned (.tuple #[.pointer p, .bool b]) ∧ Ext w w' ∧ Hid (b = true → ∃ T, s = tx T ∧ T.carets ≤ 8 ∧ Rep w' T p) ∧ Hid (b = false → ¬ ∃ T, s = tx T ∧ T.carets ≤ 8) := by
  by_cases h : ∃ T, s = tx T ∧ T.carets ≤ 8
  · obtain ⟨T, rfl, hT⟩ := h
    refine (parse_yes T w hT).mono ?_
    rintro e w' ⟨p, rfl, hr, hx⟩
    exact ⟨p, true, rfl, hx, (fun _ => ⟨T, rfl, hT, hr⟩), (fun h => by cases h)⟩
  · refine (parse_no s w h).mono ?_
    rintro e w' ⟨rfl, hx⟩
    exact ⟨none, false, rfl, hx, (fun h => by cases h), fun _ => h⟩
def PairPost (w : World) (s t : ByteArray) (e : Ending) (w' : World) : Prop := ∃ pa pb b, e = .returned (.tuple #[.agg #[.pointer pa, .pointer pb], .bool b]) ∧ Ext w w' ∧ Hid (b = true → ∃ A B, s = tx A ∧ t = tx B ∧ A.carets = B.carets ∧ B.carets ≤ 8 ∧ Rep w' A pa ∧ Rep w' B pb) ∧ Hid (b = false → ¬ Good s t)
set_option maxHeartbeats 3200000 in
set_option maxRecDepth 100000 in
theorem pairOf_calls (s t : ByteArray) (w : World) :
    Calls Tryz.prog 21 #[.agg #[.string s, .string t]] w (PairPost w s t) := by
  have X2 := Lib.hid (((Ext.refl w).alloc (.cells #[.string s, .string t] 25)).alloc (.cells #[.pointer none, .pointer none] 53))
  have c0 : ((w.alloc (.cells #[.string s, .string t] 25)).alloc (.cells #[.pointer none, .pointer none] 53)).cell? ⟨w.heap.size, 0, none⟩ = some (.string s) := by go_simp
  have c1 : ((w.alloc (.cells #[.string s, .string t] 25)).alloc (.cells #[.pointer none, .pointer none] 53)).cell? ⟨w.heap.size, 1, none⟩ = some (.string t) := by go_simp
  have t0 : Two ((w.alloc (.cells #[.string s, .string t] 25)).alloc (.cells #[.pointer none, .pointer none] 53)) (w.heap.size + 1) 53 := ⟨_, _, by
    have := heap_alloc_new (w.alloc (.cells #[.string s, .string t] 25)) (.cells #[.pointer none, .pointer none] 53)
    simpa using this⟩
  go_enter Tryz.func21, Tryz.ntmps21
  go_wp2_with fail
  generalize (w.alloc (.cells #[.string s, .string t] 25)).alloc (.cells #[.pointer none, .pointer none] 53) = W at *
  refine (parse_any s _).mono ?_
  rintro e w1 ⟨pa, b1, rfl, x1, y1, n1⟩
  have d1 := x1.cell c1
  have T1 := t0.ext x1
  have X3 := Lib.hid (X2.out.trans x1)
  clear c0 c1 t0
  go_wp2_with fail
  refine (parse_any t _).mono ?_
  rintro e w2 ⟨pb, b2, rfl, x2, y2, n2⟩
  have X4 := Lib.hid (X3.out.trans x2)
  have T2 := T1.ext x2
  obtain ⟨u, v, k0, k1, f0, f1⟩ := T2.facts
  have T2 := Lib.hid T2
  have x2 := Lib.hid x2
  clear d1 T1 x1
  cases b1 with
  | false =>
    have NG : Hid (¬ Good s t) := by
      rintro ⟨A, B, rfl, rfl, h1, h2⟩
      exact n1.out rfl ⟨A, rfl, by omega⟩
    clear y1 n1 y2 n2
    go_wp2_with fail
    have HH := set2_heap T2.out (.pointer pa) (.pointer pb)
    have XX := X4.out.set2 (g := w.heap.size + 1) (by omega) (.pointer pa) (.pointer pb)
    change bodyPost _ _ _ _ _ (N.set2 _ (w.heap.size + 1) (.pointer pa) (.pointer pb))
    obtain ⟨hc0, hc1⟩ := cells_of HH
    generalize N.set2 _ (w.heap.size + 1) (.pointer pa) (.pointer pb) = W3 at *
    exact bodyPost_ret (v := .tuple #[.agg #[.pointer pa, .pointer pb], .bool false]) (by simp [results, Tryz.results21, go_sem, hc0, hc1]) rfl ⟨_, _, _, rfl, XX, (fun h => by cases h), fun _ => NG.out⟩
  | true =>
    have Y1 := y1.out rfl
    cases b2 with
    | false =>
      have NG : Hid (¬ Good s t) := by
        rintro ⟨A, B, rfl, rfl, h1, h2⟩
        exact n2.out rfl ⟨B, rfl, h2⟩
      clear y1 n1 y2 n2 Y1
      go_wp2_with fail
      have HH := set2_heap T2.out (.pointer pa) (.pointer pb)
      have XX := X4.out.set2 (g := w.heap.size + 1) (by omega) (.pointer pa) (.pointer pb)
      change bodyPost _ _ _ _ _ (N.set2 _ (w.heap.size + 1) (.pointer pa) (.pointer pb))
      obtain ⟨hc0, hc1⟩ := cells_of HH
      generalize N.set2 _ (w.heap.size + 1) (.pointer pa) (.pointer pb) = W3 at *
      exact bodyPost_ret (v := .tuple #[.agg #[.pointer pa, .pointer pb], .bool false]) (by simp [results, Tryz.results21, go_sem, hc0, hc1]) rfl ⟨_, _, _, rfl, XX, (fun h => by cases h), fun _ => NG.out⟩
    | true =>
      obtain ⟨B, hB, lB, rB⟩ := y2.out rfl
      obtain ⟨A, hA, lA, rA⟩ := Y1
      subst hA hB
      have rA := rA.ext x2.out
      have C1 := fun W (hx : Ext w2 W) => carets_calls A pa W (by omega) (rA.ext hx)
      have C2 := fun W (hx : Ext w2 W) => carets_calls B pb W (by omega) (rB.ext hx)
      have RA := Lib.hid rA
      have RB := Lib.hid rB
      have LL := Lib.hid (And.intro lA lB)
      clear y1 n1 y2 n2 rA rB lA lB
      have YY : Hid ((((A.carets : Int) == (B.carets : Int)) = true) → A.carets = B.carets) := by
        intro h; have := eq_of_beq h; omega
      have NN : Hid ((((A.carets : Int) == (B.carets : Int)) = false) → ¬ Good (tx A) (tx B)) := by
        rintro h ⟨A', B', h1, h2, h3, _⟩
        obtain rfl := tx_inj h1
        obtain rfl := tx_inj h2
        rw [h3] at h
        simp at h
      go_wp2_with fail
      refine (C1 _ (Ext.refl _)).mono ?_
      rintro e w3 ⟨rfl, m1, rfl⟩
      go_wp2_with fail
      refine (C2 _ ((Ext.refl _).drewN _)).mono ?_
      rintro e w3 ⟨rfl, m2, rfl⟩
      go_wp2_with fail
      have x3 := (Ext.refl w2).drewN (m1 + m2)
      have T3 := T2.out.ext x3
      have HH := set2_heap T3 (.pointer pa) (.pointer pb)
      have XX := (X4.out.trans x3).set2 (g := w.heap.size + 1) (by omega) (.pointer pa) (.pointer pb)
      have Q1 := Rep.set2 T3 (by decide) (.pointer pa) (.pointer pb) (RA.out.ext x3)
      have Q2 := Rep.set2 T3 (by decide) (.pointer pa) (.pointer pb) (RB.out.ext x3)
      change bodyPost _ _ _ _ _ (N.set2 (w2.drewN (m1 + m2)) (w.heap.size + 1) (.pointer pa) (.pointer pb))
      obtain ⟨hc0, hc1⟩ := cells_of HH
      generalize N.set2 _ (w.heap.size + 1) (.pointer pa) (.pointer pb) = W3 at *
      generalize ((A.carets : Int) == (B.carets : Int)) = bb at *
      exact bodyPost_ret (v := .tuple #[.agg #[.pointer pa, .pointer pb], .bool bb]) (by simp [results, Tryz.results21, go_sem, hc0, hc1]) rfl ⟨_, _, _, rfl, XX, (fun h => ⟨A, B, rfl, rfl, YY.out h, LL.out.2, Q1, Q2⟩), fun h => NN.out h⟩
def emptyP : Value := .agg #[.string ⟨#[]⟩, .string ⟨#[]⟩]
def ifP (p : Tr × Tr) : Value := if p.1.carets ≤ 8 then .tuple #[.agg #[.string (tx p.1), .string (tx p.2)], .bool true] else .tuple #[emptyP, .bool false]
theorem ifP_two (p : Tr × Tr) : ∃ s t b, ifP p = .tuple #[.agg #[.string s, .string t], .bool b] := by
  unfold ifP; split
  · exact ⟨_, _, _, rfl⟩
  · exact ⟨_, _, _, rfl⟩
theorem fits_calls (A B : Tr) (hA : A.carets < 100000000) (hB : B.carets < 100000000) (pa pb : Option Addr) (w : World) (ra : Rep w A pa) (rb : Rep w B pb) :
    Calls Tryz.prog 35 #[.agg #[.pointer pa, .pointer pb]] w fun e w' => e = .returned (ifP (A, B)) ∧ Ext w w' := by
  by_cases h : A.carets ≤ 8
  · rw [show ifP (A, B) = _ from if_pos h]; exact fits_yes A B h hB pa pb w ra rb
  · rw [show ifP (A, B) = _ from if_neg h]; exact fits_no A B (by omega) hA pa pb w ra
theorem boxS_facts (w : World) (s t : ByteArray) (x y : Value) (ty : TypeId) :
    Ext w ((w.alloc (.cells #[.string s, .string t] 25)).alloc (.cells #[x, y] ty)) ∧
    Two ((w.alloc (.cells #[.string s, .string t] 25)).alloc (.cells #[x, y] ty)) (w.heap.size + 1) ty :=
  ⟨((Ext.refl w).alloc _).alloc _, ⟨_, _, by
    have := heap_alloc_new (w.alloc (.cells #[.string s, .string t] 25)) (.cells #[x, y] ty)
    simpa using this⟩⟩
theorem pairOf_yes (A B : Tr) (hc : A.carets = B.carets) (hB : B.carets ≤ 8) (w : World) : Calls Tryz.prog 21 #[.agg #[.string (tx A), .string (tx B)]] w fun e w' => ∃ pa pb, e = .returned (.tuple #[.agg #[.pointer pa, .pointer pb], .bool true]) ∧ Rep w' A pa ∧ Rep w' B pb ∧ Ext w w' := by
  refine (pairOf_calls _ _ w).mono ?_
  rintro e w1 ⟨pa, pb, b, rfl, x1, y1, n1⟩
  cases b with
  | false => exact absurd ⟨A, B, rfl, rfl, hc, hB⟩ (n1.out rfl)
  | true =>
    obtain ⟨A', B', hA, hB', h1, h2, rA, rB⟩ := y1.out rfl
    obtain rfl := tx_inj hA
    obtain rfl := tx_inj hB'
    exact ⟨pa, pb, rfl, rA, rB, x1⟩
theorem pairOf_no (s t : ByteArray) (h : ¬ Good s t) (w : World) : Calls Tryz.prog 21 #[.agg #[.string s, .string t]] w fun e w' => ∃ pa pb, e = .returned (.tuple #[.agg #[.pointer pa, .pointer pb], .bool false]) ∧ Ext w w' := by
  refine (pairOf_calls _ _ w).mono ?_
  rintro e w1 ⟨pa, pb, b, rfl, x1, y1, n1⟩
  cases b with
  | true =>
    obtain ⟨A', B', hA, hB', h1, h2, rA, rB⟩ := y1.out rfl
    exact absurd ⟨A', B', hA, hB', h1, h2⟩ h
  | false => exact ⟨pa, pb, rfl, x1⟩
end Go.Proofs.YtgnepbogadfinaaGreatDoor.N
namespace Go.Proofs.YtgnepbogadfinaaGreatDoor.N
open Go.RowKit
def TwoL (xs : List Int) : Prop := ∀ x ∈ xs, x ≠ 0 ∧ -2 ≤ x ∧ x ≤ 2
instance (xs : List Int) : Decidable (TwoL xs) := by unfold TwoL; infer_instance
def LetL (m : Int) (xs : List Int) : Prop := ∀ x ∈ xs, x ≠ 0 ∧ -m - 1 ≤ x ∧ x ≤ m + 1
instance (m : Int) (xs : List Int) : Decidable (LetL m xs) := by unfold LetL; infer_instance
section
attribute [local go_sem] max2_i max_two_
end
end Go.Proofs.YtgnepbogadfinaaGreatDoor.N
namespace Go.Proofs.YtgnepbogadfinaaGreatDoor.N
open Go.RowKit
def Run (F : FuncId) : Prop := ∀ args w, (callFunc F args).run Tryz.prog w = .ok (.enter F args) w
theorem run_of {f : FuncId} {fn : Func} (hf : Tryz.prog.funcs[f]? = some fn) (hname : (fn.name == "runtime.NumGoroutine") = false) (hb : fn.body.isNone = false) : Run f := by
  intro args w
  have h1 : fn.name ≠ "runtime.NumGoroutine" := by simpa using hname
  obtain ⟨c, hc⟩ := Option.isSome_iff_exists.1 (by cases h : fn.body <;> simp_all : fn.body.isSome = true)
  simp [callFunc, hf, h1, hc]
structure Clo (w : World) (N : Nat) (h : Nat → Tr) (F : FuncId) (cap : Array Value) : Prop where
  run : Run F
  call : ∀ k, k < N → ∀ w', Ext w w' → Calls Tryz.prog F (#[.int .i64 k] ++ cap) w' (GivesT w' (h k))
theorem Clo.ext {w w' : World} {N h F cap} (k : Clo w N h F cap) (hx : Ext w w') : Clo w' N h F cap := ⟨k.run, fun i hi w2 h2 => k.call i hi w2 (hx.trans h2)⟩
set_option maxHeartbeats 1600000 in
set_option maxRecDepth 100000 in
theorem grown_calls (h : Nat → Tr) (N : Nat) (F : FuncId) (cap : Array Value) (T : Tr) : ∀ (p : Option Addr) (k : Nat) (w : World), k + T.carets < N → N < 1000000000 → Rep w T p →
    Clo w N h F cap →
    Calls Tryz.prog 67 #[.pointer p, .int .i64 k, .func (.func F) #[] cap] w (GivesT w (T.grown h k)) := by
  induction T with
  | leaf =>
    rintro v k w hk hN rfl hC
    have HC := Lib.hid hC
    clear hC
    go_enter Tryz.func67, Tryz.ntmps67
    go_wp2_with fail
    rw [HC.out.run]
    refine (HC.out.call k (by simp only [Tr.carets] at hk; omega) _ (Ext.refl _)).mono ?_
    rintro e w' ⟨v, rfl, hv, hx⟩
    have HV := Lib.hid (And.intro hv hx)
    clear hv hx
    go_wp2_with fail
    go_ret
    exact ⟨v, rfl, HV.out.1, HV.out.2⟩
  | node l r ihl ihr =>
    rintro p k w hk hN hr hC
    obtain ⟨b, pl, pr, rfl, h0, h1, hl, hr'⟩ := hr.open
    have HC := Lib.hid hC
    have e1 : 0 ≤ (l.carets : Int) ∧ (k : Int) + l.carets + 1 < 1000000000 := by simp only [Tr.carets] at hk; omega
    have W1 : Hid ((k : Int) + (l.carets + 1) = ((k + (l.carets + 1) : Nat) : Int)) := by show _ = _; omega
    have W2 : IntKind.i64.wrap ((k : Int) + (l.carets + 1)) = (k : Int) + (l.carets + 1) := wrap_ok (by omega)
    have HL := Lib.hid hl
    have HR := Lib.hid hr'
    have HK : Hid (k + l.carets < N ∧ k + (l.carets + 1) + r.carets < N ∧ l.carets < 1000000000) := by simp only [Tr.carets] at hk; exact ⟨by omega, by omega, by omega⟩
    clear hC hk hl hr hr'
    go_enter Tryz.func67, Tryz.ntmps67
    go_wp2_with fail
    go_region_held3 (fun w' => w'.cell? ⟨b, 0, none⟩ = some (.pointer pl) ∧ w'.cell? ⟨b, 1, none⟩ = some (.pointer pr) ∧ Ext w w')
      (first | exact two_cells h0 h1 (Ext.drew (Ext.refl _)) | exact two_cells h0 h1 (x3.alloc _) | exact two_cells h0 h1 x3 | exact two_cells h0 h1 x2 | exact two_cells h0 h1 x1 | fail)
      (first
      | (go_at_call_of 67 (Value.pointer pl); refine (ihl _ _ _ HK.out.1 hN (HL.out.ext (Ext.refl _).drew) (HC.out.ext (Ext.refl _).drew)).mono ?_; rintro e w1 ⟨v1, rfl, r1, hx1⟩; have x1 := (Ext.refl w).drew.trans hx1)
      | (go_at_call 89; refine (leaves_calls l _ _ HK.out.2.2 (HL.out.ext x1)).mono ?_; rintro e w2 ⟨rfl, n2, rfl⟩; have x2 := x1.drewN n2)
      | (go_at_call_of 67 (Value.pointer pr); rw [W1.out]; refine (ihr _ _ _ HK.out.2.1 hN (HR.out.ext x2) (HC.out.ext x2)).mono ?_; rintro e w3 ⟨v3, rfl, r3, hx3⟩; have x3 := x2.trans hx3)
      | fail)
    go_wp2_with fail
    go_ret
    exact ⟨_, rfl, Rep.made ((r1.ext ((Ext.refl _).drewN n2)).ext hx3) r3, x3.alloc _⟩
end Go.Proofs.YtgnepbogadfinaaGreatDoor.N
namespace Go.Proofs.YtgnepbogadfinaaGreatDoor.N
open Go.RowKit
set_option maxHeartbeats 3200000 in
set_option maxRecDepth 100000 in
theorem join_calls (A : Tr) : ∀ (B : Tr) (pa pb : Option Addr) (w : World), Rep w A pa → Rep w B pb →
    Calls Tryz.prog 66 #[.pointer pa, .pointer pb] w (GivesT w (join A B)) := by
  induction A with
  | leaf =>
    rintro B pa pb w rfl hb
    have HB := Lib.hid hb
    clear hb
    go_enter Tryz.func66, Tryz.ntmps66
    go_wp2_with fail
    go_ret
    exact ⟨pb, rfl, HB.out, Ext.refl _⟩
  | node l r ihl ihr =>
    intro B pa pb w ha hb
    cases B with
    | leaf =>
      obtain rfl := hb
      have HA := Lib.hid ha
      obtain ⟨b, pl, pr, rfl, _, _, _, _⟩ := ha.open
      clear ha
      go_enter Tryz.func66, Tryz.ntmps66
      go_wp2_with fail
      go_ret
      exact ⟨_, rfl, HA.out, Ext.refl _⟩
    | node x y =>
      obtain ⟨a, pl, pr, rfl, h0, h1, hl, hr⟩ := ha.open
      obtain ⟨b, ql, qr, rfl, g0, g1, gl, gr⟩ := hb.open
      have HL := Lib.hid (And.intro hl gl)
      have HR := Lib.hid (And.intro hr gr)
      clear ha hb hl hr gl gr
      go_enter Tryz.func66, Tryz.ntmps66
      go_wp2_with fail
      go_region_held3 (fun w' => w'.cell? ⟨a, 0, none⟩ = some (.pointer pl) ∧ w'.cell? ⟨a, 1, none⟩ = some (.pointer pr) ∧ w'.cell? ⟨b, 0, none⟩ = some (.pointer ql) ∧ w'.cell? ⟨b, 1, none⟩ = some (.pointer qr) ∧ Ext w w')
        (first | with_reducible exact four_cells h0 h1 g0 g1 (Ext.drew (Ext.refl _)) | with_reducible exact four_cells h0 h1 g0 g1 (x3.alloc _) | with_reducible exact four_cells h0 h1 g0 g1 x3 | with_reducible exact four_cells h0 h1 g0 g1 x1 | fail)
        (first
        | (go_at_call_of 66 (Value.pointer pl); refine (ihl _ _ _ _ (HL.out.1.ext (Ext.refl _).drew) (HL.out.2.ext (Ext.refl _).drew)).mono ?_; rintro e w1 ⟨v1, rfl, r1, hx1⟩; have x1 := (Ext.refl w).drew.trans hx1)
        | (go_at_call_of 66 (Value.pointer pr); refine (ihr _ _ _ _ (HR.out.1.ext x1) (HR.out.2.ext x1)).mono ?_; rintro e w3 ⟨v3, rfl, r3, hx3⟩; have x3 := x1.trans hx3)
        | fail)
      go_wp2_with fail
      go_ret
      exact ⟨_, rfl, Rep.made (r1.ext hx3) r3, x3.alloc _⟩
set_option maxHeartbeats 3200000 in
set_option maxRecDepth 100000 in
theorem addresses_calls (T : Tr) : ∀ (a : List UInt8) (s : ByteArray) (p : Option Addr) (w : World), T.carets < 10000000 → a.length + T.carets < 100000000 → s = S a → Rep w T p →
    Calls Tryz.prog 41 #[.pointer p, .string s] w (GivesS w (addrs T a)) := by
  induction T with
  | leaf =>
    intro a s p w _ _ hs hr
    obtain rfl := hr
    have OL : Hid (Own (w.alloc (.cells #[.string s] 9)) w.heap.size 9 (.slice (some ⟨w.heap.size, 0, none⟩) 1 1) (sls [a])) := by
      have := Own.lit w w.heap.size 9 #[.string s] (Nat.le_refl _) (by show 1 ≤ maxLen; decide)
      subst hs; exact this
    have XL := Lib.hid ((Ext.refl w).alloc (.cells #[.string s] 9))
    clear hs
    go_enter Tryz.func41, Tryz.ntmps41
    go_wp2_with fail
    go_ret
    exact ⟨_, rfl, OL.out, XL.out⟩
  | node l r ihl ihr =>
    intro a s p w hc hl hs hr
    have op := hr.open
    clear hr
    obtain ⟨b, pl, pr, rfl, h0, h1, hl', hr'⟩ := op
    have e0 : Hid (s ++ ⟨#[48]⟩ = S (a ++ [48])) := by subst hs; exact S_append a [48]
    have e1 : Hid (s ++ ⟨#[49]⟩ = S (a ++ [49])) := by subst hs; exact S_append a [49]
    have z : s.size ≤ 100000000 := by subst hs; rw [S_size]; omega
    have z1 : (9223372036854775807 < s.size + 1) = False := eq_false (by omega)
    have H := Lib.hid (And.intro hl' hr')
    have hcc : (Tr.node l r).carets = 1 + l.carets + r.carets := rfl
    have HC : Hid (l.carets < 10000000 ∧ (a ++ [48]).length + l.carets < 100000000 ∧ r.carets < 10000000 ∧ (a ++ [49]).length + r.carets < 100000000) := ⟨by omega, by simp; omega, by omega, by simp; omega⟩
    have L2 : Hid (((sls (addrs l (a ++ [48]))).length + (sls (addrs r (a ++ [49]))).length) * 16 ≤ 140737488355328) := by rw [sls_length, sls_length, addrs_length, addrs_length]; show _ ≤ _; omega
    clear hl' hr' hs hc hl hcc
    go_enter Tryz.func41, Tryz.ntmps41
    go_wp2_with fail
    go_region_held3 (fun w' => w'.cell? ⟨b, 0, none⟩ = some (.pointer pl) ∧ w'.cell? ⟨b, 1, none⟩ = some (.pointer pr) ∧ Ext w w')
      (first | with_reducible exact two_cells h0 h1 (Ext.drew (Ext.refl _)) | with_reducible exact two_cells h0 h1 x4 | with_reducible exact two_cells h0 h1 x3 | with_reducible exact two_cells h0 h1 x1 | fail)
      (first
        | (go_at_call_of 41 (Value.pointer pl); refine (ihl _ _ _ _ HC.out.1 HC.out.2.1 e0.out (H.out.1.ext (Ext.refl _).drew)).mono ?_; rintro e w1 ⟨v1, rfl, o1, hx1⟩; have x1 : Ext w w1 := (Ext.refl w).drew.trans hx1)
        | (go_at_call_of 41 (Value.pointer pr); refine (ihr _ _ _ _ HC.out.2.2.1 HC.out.2.2.2 e1.out (H.out.2.ext x1)).mono ?_; rintro e w3 ⟨v3, rfl, o3, hx3⟩; have x3 := x1.trans hx3)
        | (refine step_app (by rfl) (.tmp 15) (.tmp 22) 71 (by rfl) w.heap.size 9 (.string ⟨#[]⟩) 16 Tryz.underlying71 infoStr rfl (by omega) _ _ (sls (addrs l (a ++ [48]))) (sls (addrs r (a ++ [49]))) (by rfl) (by rfl) (o1.ext hx3) o3.reads (sls_one _) L2.out x3.size ?_; intro v4 w4 o4 g4 _; have x4 := x3.grown g4 (o1.ext hx3).lo) | fail)
    go_wp2_with fail
    go_ret
    refine ⟨_, rfl, ?_, x4⟩
    rw [sls_append] at o4
    exact o4
set_option maxHeartbeats 3200000 in
set_option maxRecDepth 100000 in
theorem at_calls (T V : Tr) (l : List UInt8) (hl : l.length < 1000000) (hat : atT l T = some V) (p : Option Addr) (w : World) (hr : Rep w T p) :
    Calls Tryz.prog 91 #[.pointer p, .string (S l)] w fun e w' => ∃ q, e = .returned (.tuple #[.pointer q, .bool true]) ∧ Rep w V q ∧ w = w' := by
  have A0 := Lib.hid (And.intro hat hr)
  clear hat hr
  go_enter Tryz.func91, Tryz.ntmps91
  go_wp2_with fail
  go_loop [9, 0] (fun i t => ∃ (j : Nat) (U : Tr) (q : Option Addr), j ≤ l.length ∧ i = .int .i64 j ∧ t = .pointer q ∧ Hid (Rep w U q) ∧ Hid (atT (l.drop j) U = some V)) (fun i _ => l.length - (intOf i).toNat)
  case atStart => exact ⟨0, T, p, Nat.zero_le _, rfl, rfl, A0.out.2, A0.out.1⟩
  case round =>
    obtain ⟨j, U, q, hj, rfl, rfl, HR, HA⟩ := hrel
    by_cases hlt : j < l.length
    · obtain ⟨c, hc⟩ : ∃ c, l[j]? = some c := ⟨_, List.getElem?_eq_getElem hlt⟩
      have hD : l.drop j = c :: l.drop (j + 1) := by
        obtain ⟨g1, g2⟩ := List.getElem?_eq_some_iff.1 hc
        rw [List.drop_eq_getElem_cons g1, g2]
      have h1 : (j : Int) < (S l).size := by show (j : Int) < (l.length : Nat); omega
      have h0 : (0 : Int) ≤ j := by omega
      obtain ⟨x1, x2⟩ := s_at (S l) j c (by rw [S_toList]; exact hc)
      have HA2 := HA.out
      rw [hD] at HA2
      cases U with
      | leaf => simp [atT] at HA2
      | node a b =>
        obtain ⟨bb, pl, pr, rfl, c0, c1, rl, rr⟩ := HR.out.open
        simp only [atT] at HA2
        by_cases k1 : c = 48
        · subst k1
          rw [if_pos rfl] at HA2
          have t1 : (((48 : UInt8).toNat : Int) == 48) = true := rfl
          have RL := Lib.hid rl
          have HA3 := Lib.hid HA2
          clear HA2 hc hD rl rr HR HA
          go_wp2_with fail
          exact ⟨⟨j + 1, a, pl, by omega, by go_num, rfl, RL.out, HA3.out⟩, by simp [intOf]; omega⟩
        · rw [if_neg k1] at HA2
          by_cases k2 : c = 49
          · subst k2
            rw [if_pos rfl] at HA2
            have t1 : (((49 : UInt8).toNat : Int) == 48) = false := rfl
            have t2 : (((49 : UInt8).toNat : Int) == 49) = true := rfl
            have RL := Lib.hid rr
            have HA3 := Lib.hid HA2
            clear HA2 hc hD rl rr HR HA k1
            go_wp2_with fail
            exact ⟨⟨j + 1, b, pr, by omega, by go_num, rfl, RL.out, HA3.out⟩, by simp [intOf]; omega⟩
          · rw [if_neg k2] at HA2
            cases HA2
    · have h1 : ((S l).size : Int) ≤ j := by show ((l.length : Nat) : Int) ≤ j; omega
      have HV : Hid (Rep w V q) := by
        have := HA.out
        rw [List.drop_eq_nil_of_le (by omega)] at this
        cases U with
        | leaf => cases this; exact HR.out
        | node a b => cases this; exact HR.out
      go_wp2_with fail
      go_ret2
      exact ⟨q, rfl, HV.out, rfl⟩
theorem three_cells {w w' : World} {a b c : Addr} {x y z : Value} (h0 : w.cell? a = some x) (h1 : w.cell? b = some y) (h2 : w.cell? c = some z) (h : Ext w w') : w'.cell? a = some x ∧ w'.cell? b = some y ∧ w'.cell? c = some z ∧ Ext w w' := ⟨h.cell h0, h.cell h1, h.cell h2, h⟩
set_option maxHeartbeats 3200000 in
set_option maxRecDepth 100000 in
theorem partsClo (T W0 : Tr) (hP : Part T W0) (hd : T.depth < 1000000) (pw : Option Addr) (v : Value) (b c : Nat) (w : World) (hb : w.cell? ⟨b, 0, none⟩ = some (.pointer pw)) (hc : w.cell? ⟨c, 0, none⟩ = some v) (hv : Reads w v (sls (addrs T []))) (hw : Rep w W0 pw) :
    Clo w (T.carets + 1) (fun i => (partsT T W0).getD i .leaf) 90 #[.pointer (some ⟨b, 0, none⟩), .pointer (some ⟨c, 0, none⟩)] := by
  refine ⟨run_of Tryz.func90 (by kernel_rfl) (by kernel_rfl), fun k hk w' hx => ?_⟩
  have hk1 : k < (addrs T []).length := by rw [addrs_length]; exact hk
  obtain ⟨x, hx1⟩ : ∃ x, (addrs T [])[k]? = some x := ⟨_, List.getElem?_eq_getElem hk1⟩
  have hxl : x.length < 1000000 := by have := addrs_depth T [] x (List.mem_of_getElem? hx1); simp at this; omega
  have hk2 : k < (partsT T W0).length := by rw [parts_length T W0 hP]; exact hk
  have hat : atT x W0 = some ((partsT T W0).getD k .leaf) := by
    rw [at_parts T W0 hP k x hx1, List.getD_eq_getElem?_getD, List.getElem?_eq_getElem hk2]; rfl
  obtain ⟨A, cp, rfl, _, rd⟩ := hv.ext hx
  rw [sls_length] at *
  obtain ⟨ad, rfl, ca⟩ := rd (by omega)
  have c3 := ca k (.string (S x)) (by simp only [sls, List.getElem?_map, hx1, Option.map_some])
  have hb := hx.cell hb
  have hc := hx.cell hc
  have C1 := Lib.hid (fun W (h : Ext w' W) => at_calls W0 _ x hxl hat pw W ((hw.ext hx).ext h))
  have h0 : (0 : Int) ≤ k := by omega
  have h1 : (k : Int) < (addrs T []).length := by omega
  show Calls Tryz.prog 90 #[.int .i64 k, .pointer (some ⟨b, 0, none⟩), .pointer (some ⟨c, 0, none⟩)] w' (GivesT w' ((partsT T W0).getD k .leaf))
  generalize (partsT T W0).getD k .leaf = V at *
  generalize (addrs T []).length = m at *
  clear hx rd ca hx1 hat hk1 hk2 hk hw hv
  go_enter Tryz.func90, Tryz.ntmps90
  go_wp2_with fail
  go_region_held3 (fun w2 => w2.cell? ⟨b, 0, none⟩ = some (.pointer pw) ∧ w2.cell? ⟨c, 0, none⟩ = some (.slice (some ad) m cp) ∧ w2.cell? (ad.add k) = some (.string (S x)) ∧ Ext w' w2)
    (first | with_reducible exact three_cells hb hc c3 (Ext.refl _).drew | exact three_cells hb hc c3 (Ext.refl _).drew | fail)
    (first | (go_at_call 91; refine (C1.out _ (Ext.refl _).drew).mono ?_; rintro e w3 ⟨q, rfl, rq, rfl⟩) | fail)
  go_wp2_with fail
  go_ret
  exact ⟨q, rfl, rq, (Ext.refl _).drew⟩
set_option maxHeartbeats 3200000 in
set_option maxRecDepth 100000 in
theorem parts_calls (T W0 : Tr) (hP : Part T W0) (hT : T.carets < 1000000) (pt pw : Option Addr) (w : World) (ht : Rep w T pt) (hw : Rep w W0 pw) :
    Calls Tryz.prog 68 #[.pointer pt, .pointer pw] w fun e w' => ∃ b c, e = .returned (.func (.func 90) #[] #[.pointer (some ⟨b, 0, none⟩), .pointer (some ⟨c, 0, none⟩)]) ∧ Clo w' (T.carets + 1) (fun i => (partsT T W0).getD i .leaf) 90 #[.pointer (some ⟨b, 0, none⟩), .pointer (some ⟨c, 0, none⟩)] ∧ Ext w w' := by
  have X1 := Lib.hid ((Ext.refl w).alloc (.cells #[.pointer pw] 51))
  have c0 : (w.alloc (.cells #[.pointer pw] 51)).cell? ⟨w.heap.size, 0, none⟩ = some (.pointer pw) := by go_simp
  have C1 := Lib.hid (fun W (h : Ext w W) => addresses_calls T [] ⟨#[]⟩ pt W (by omega) (by simp; omega) rfl (ht.ext h))
  have HW := Lib.hid hw
  have PC := Lib.hid (partsClo T W0 hP (by have := T.depth_le; omega) pw)
  clear hP ht hw
  go_enter Tryz.func68, Tryz.ntmps68
  go_wp2_with fail
  generalize w.alloc (.cells #[.pointer pw] 51) = W at *
  refine (C1.out _ X1.out).mono ?_
  rintro e w1 ⟨v, rfl, o1, x1⟩
  have X2 := Lib.hid ((X1.out.trans x1).alloc (.cells #[v] 71))
  have c1 : (w1.alloc (.cells #[v] 71)).cell? ⟨w1.heap.size, 0, none⟩ = some v := by go_simp
  have c0 := (x1.alloc (.cells #[v] 71)).cell c0
  have O1 := Lib.hid (o1.reads.ext ((Ext.refl w1).alloc (.cells #[v] 71)))
  obtain ⟨A, cp, rfl, _, _⟩ := o1.reads
  rw [sls_length] at *
  clear o1 x1
  go_wp2_with fail
  go_ret
  exact ⟨_, _, rfl, PC.out _ _ _ _ c0 c1 O1.out (HW.out.ext X2.out), X2.out⟩
end Go.Proofs.YtgnepbogadfinaaGreatDoor.N
namespace Go.Proofs.YtgnepbogadfinaaGreatDoor.N
open Go.RowKit
theorem boxQQ_facts (w : World) (a b c d x y : Value) (t u : TypeId) :
    Ext w (((w.alloc (.cells #[a, b] t)).alloc (.cells #[c, d] t)).alloc (.cells #[x, y] u)) ∧
    (((w.alloc (.cells #[a, b] t)).alloc (.cells #[c, d] t)).alloc (.cells #[x, y] u)).cell? ⟨w.heap.size, 0, none⟩ = some a ∧
    (((w.alloc (.cells #[a, b] t)).alloc (.cells #[c, d] t)).alloc (.cells #[x, y] u)).cell? ⟨w.heap.size, 1, none⟩ = some b ∧
    (((w.alloc (.cells #[a, b] t)).alloc (.cells #[c, d] t)).alloc (.cells #[x, y] u)).cell? ⟨w.heap.size + 1, 0, none⟩ = some c ∧
    (((w.alloc (.cells #[a, b] t)).alloc (.cells #[c, d] t)).alloc (.cells #[x, y] u)).cell? ⟨w.heap.size + 1, 1, none⟩ = some d ∧
    Two (((w.alloc (.cells #[a, b] t)).alloc (.cells #[c, d] t)).alloc (.cells #[x, y] u)) (w.heap.size + 1 + 1) u := by
  have h0 := (((Ext.refl (w.alloc (.cells #[a, b] t))).alloc (.cells #[c, d] t)).alloc (.cells #[x, y] u)).at (heap_alloc_new w (.cells #[a, b] t))
  have h1 := ((Ext.refl ((w.alloc (.cells #[a, b] t)).alloc (.cells #[c, d] t))).alloc (.cells #[x, y] u)).at (heap_alloc_new (w.alloc (.cells #[a, b] t)) (.cells #[c, d] t))
  rw [show (w.alloc (.cells #[a, b] t)).heap.size = w.heap.size + 1 by simp] at h1
  exact ⟨(((Ext.refl w).alloc _).alloc _).alloc _, (cells_of h0).1, (cells_of h0).2, (cells_of h1).1, (cells_of h1).2, Two.new _ _ _ _ (by simp)⟩
set_option maxHeartbeats 3200000 in
set_option maxRecDepth 100000 in
theorem times_calls (A B C D : Tr) (hAB : A.carets = B.carets) (hCD : C.carets = D.carets) (hB : B.carets < 100000) (hC : C.carets < 100000) (pa pb pc pd : Option Addr) (w : World) (ra : Rep w A pa) (rb : Rep w B pb) (rc : Rep w C pc) (rd : Rep w D pd) :
    Calls Tryz.prog 34 #[.agg #[.pointer pa, .pointer pb], .agg #[.pointer pc, .pointer pd]] w (GivesP w (mul (A, B) (C, D)).1 (mul (A, B) (C, D)).2) := by
  obtain ⟨X0, c0, c1, c2, c3, t0⟩ := boxQQ_facts w (.pointer pa) (.pointer pb) (.pointer pc) (.pointer pd) (.pointer none) (.pointer none) 53 53
  have C1 := Lib.hid (fun W (h : Ext w W) => join_calls B C pb pc W (rb.ext h) (rc.ext h))
  have C2 := Lib.hid (fun pw W (h : Ext w W) hw => parts_calls B (join B C) (part_join_l B C) (by omega) pb pw W (rb.ext h) hw)
  have C3 := Lib.hid (fun pw W (h : Ext w W) hw => parts_calls C (join B C) (part_join_r B C) (by omega) pc pw W (rc.ext h) hw)
  have C4 := Lib.hid (fun cap W (h : Ext w W) hk => grown_calls (fun i => (partsT B (join B C)).getD i .leaf) (B.carets + 1) 90 cap A pa 0 W (by omega) (by omega) (ra.ext h) hk)
  have C5 := Lib.hid (fun cap W (h : Ext w W) hk => grown_calls (fun i => (partsT C (join B C)).getD i .leaf) (C.carets + 1) 90 cap D pd 0 W (by omega) (by omega) (rd.ext h) hk)
  obtain ⟨mc1, mc2⟩ := mul0_carets (p := (A, B)) (q := (C, D)) hAB hCD
  have jc := join_carets B C
  have C6 := Lib.hid (fun p1 p2 W => reduced_calls (mul0 (A, B) (C, D)).1 (mul0 (A, B) (C, D)).2 (by rw [mc1]; simp only; omega) (by rw [mc2]; simp only; omega) p1 p2 W)
  have EM : Hid (GivesP w (mul (A, B) (C, D)).1 (mul (A, B) (C, D)).2 = GivesP w (red ((mul0 (A, B) (C, D)).1, (mul0 (A, B) (C, D)).2)).1 (red ((mul0 (A, B) (C, D)).1, (mul0 (A, B) (C, D)).2)).2) := rfl
  rw [EM.out]
  change Hid (∀ (cap : Array Value) (W : World), Ext w W → Clo W _ _ _ cap → Calls _ _ _ W (GivesT W (mul0 (A, B) (C, D)).1)) at C4
  change Hid (∀ (cap : Array Value) (W : World), Ext w W → Clo W _ _ _ cap → Calls _ _ _ W (GivesT W (mul0 (A, B) (C, D)).2)) at C5
  generalize (red ((mul0 (A, B) (C, D)).1, (mul0 (A, B) (C, D)).2)).1 = Z1 at *
  generalize (red ((mul0 (A, B) (C, D)).1, (mul0 (A, B) (C, D)).2)).2 = Z2 at *
  generalize (mul0 (A, B) (C, D)).1 = Y1 at *
  generalize (mul0 (A, B) (C, D)).2 = Y2 at *
  have X0 := Lib.hid X0
  clear hAB hCD hB hC ra rb rc rd mc1 mc2 jc EM
  go_enter Tryz.func34, Tryz.ntmps34
  go_wp2_with fail
  generalize ((w.alloc (.cells #[.pointer pa, .pointer pb] 53)).alloc (.cells #[.pointer pc, .pointer pd] 53)).alloc (.cells #[.pointer none, .pointer none] 53) = W at *
  refine (C1.out _ X0.out).mono ?_
  rintro e w1 ⟨pw, rfl, rw1, x1⟩
  have X1 := Lib.hid (X0.out.trans x1)
  have c0 := x1.cell c0
  have c1 := x1.cell c1
  have c2 := x1.cell c2
  have c3 := x1.cell c3
  have T1 := Lib.hid (t0.ext x1)
  have RW := Lib.hid rw1
  clear t0 x1 rw1
  go_wp2_with fail
  go_region_held3 (fun w' => w'.cell? ⟨w.heap.size, 0, none⟩ = some (.pointer pa) ∧ w'.cell? ⟨w.heap.size, 1, none⟩ = some (.pointer pb) ∧ Ext w1 w')
    (first | with_reducible exact two_cells c0 c1 (Ext.refl _).drew | with_reducible exact two_cells c0 c1 x3 | with_reducible exact two_cells c0 c1 x2 | fail)
    (first
      | (go_at_call 68; refine (C2.out pw _ (X1.out.trans (Ext.refl _).drew) (RW.out.ext (Ext.refl _).drew)).mono ?_; rintro e w2 ⟨b1, b2, rfl, cl, hx2⟩; have x2 := (Ext.refl w1).drew.trans hx2)
      | (go_at_call 67; refine (C4.out _ _ (X1.out.trans x2) cl).mono ?_; rintro e w3 ⟨y1, rfl, ry1, hx3⟩; have x3 := x2.trans hx3)
      | fail)
  have X3 := Lib.hid (X1.out.trans x3)
  have c2 := x3.cell c2
  have c3 := x3.cell c3
  have T3 := Lib.hid (T1.out.ext x3)
  have RW3 := Lib.hid (RW.out.ext x3)
  have RY1 := Lib.hid ry1
  clear x3 x2 hx2 hx3 cl ry1
  go_wp2_with fail
  go_region_held3 (fun w' => w'.cell? ⟨w.heap.size + 1, 0, none⟩ = some (.pointer pc) ∧ w'.cell? ⟨w.heap.size + 1, 1, none⟩ = some (.pointer pd) ∧ Ext w3 w')
    (first | with_reducible exact two_cells c2 c3 (Ext.refl _).drew | with_reducible exact two_cells c2 c3 x5 | with_reducible exact two_cells c2 c3 x4 | fail)
    (first
      | (go_at_call 68; refine (C3.out pw _ (X3.out.trans (Ext.refl _).drew) (RW3.out.ext (Ext.refl _).drew)).mono ?_; rintro e w4 ⟨b1, b2, rfl, cl, hx4⟩; have x4 := (Ext.refl w3).drew.trans hx4)
      | (go_at_call 67; refine (C5.out _ _ (X3.out.trans x4) cl).mono ?_; rintro e w5 ⟨y2, rfl, ry2, hx5⟩; have x5 := x4.trans hx5)
      | fail)
  have X5 := Lib.hid (X3.out.trans x5)
  have T5 := Lib.hid (T3.out.ext x5)
  have RY1 := Lib.hid (RY1.out.ext x5)
  have RY2 := Lib.hid ry2
  clear x5 x4 hx4 hx5 cl ry2
  go_wp2_with fail
  refine (C6.out y1 y2 _ RY1.out RY2.out).mono ?_
  rintro e w6 ⟨z1, z2, rfl, rz1, rz2, x6⟩
  have T6 := T5.out.ext x6
  obtain ⟨u, v, k0, k1, f0, f1⟩ := T6.facts
  have T6 := Lib.hid T6
  have X6 := Lib.hid (X5.out.trans x6)
  have R6 := Lib.hid (And.intro rz1 rz2)
  clear x6 rz1 rz2
  go_wp2_with fail
  have HH := set2_heap T6.out (.pointer z1) (.pointer z2)
  have Q1 := Rep.set2 T6.out (by decide) (.pointer z1) (.pointer z2) R6.out.1
  have Q2 := Rep.set2 T6.out (by decide) (.pointer z1) (.pointer z2) R6.out.2
  have XX := X6.out.set2 (g := w.heap.size + 1 + 1) (by omega) (.pointer z1) (.pointer z2)
  change bodyPost _ _ _ _ _ (N.set2 _ (w.heap.size + 1 + 1) (.pointer z1) (.pointer z2))
  obtain ⟨hc0, hc1⟩ := cells_of HH
  generalize N.set2 _ (w.heap.size + 1 + 1) (.pointer z1) (.pointer z2) = W3 at *
  exact bodyPost_ret (v := .agg #[.pointer z1, .pointer z2]) (by simp [results, Tryz.results34, go_sem, hc0, hc1]) rfl ⟨z1, z2, rfl, Q1, Q2, XX⟩
set_option maxHeartbeats 3200000 in
theorem inverse_calls (pa pb : Option Addr) (w : World) :
    Calls Tryz.prog 30 #[.agg #[.pointer pa, .pointer pb]] w fun e w' => e = .returned (.agg #[.pointer pb, .pointer pa]) ∧ Ext w w' := by
  have X2 := Lib.hid (((Ext.refl w).alloc (.cells #[.pointer pa, .pointer pb] 53)).alloc (.cells #[.pointer pb, .pointer pa] 53))
  have HH := heap_alloc_new (w.alloc (.cells #[.pointer pa, .pointer pb] 53)) (.cells #[.pointer pb, .pointer pa] 53)
  rw [show (w.alloc (.cells #[.pointer pa, .pointer pb] 53)).heap.size = w.heap.size + 1 by simp] at HH
  obtain ⟨hc0, hc1⟩ := cells_of HH
  go_enter Tryz.func30, Tryz.ntmps30
  go_wp2_with fail
  exact bodyPost_ret (v := .agg #[.pointer pb, .pointer pa]) (by simp [results, Tryz.results30, go_sem, hc0, hc1]) rfl ⟨rfl, X2.out⟩
theorem quad_ext {w0 W W' : World} {a b : Nat} {u0 u1 v0 v1 : Value}
    (h : W.cell? ⟨a, 0, none⟩ = some u0 ∧ W.cell? ⟨a, 1, none⟩ = some u1 ∧ W.cell? ⟨b, 0, none⟩ = some v0 ∧ W.cell? ⟨b, 1, none⟩ = some v1 ∧ Ext w0 W) (hx : Ext W W') :
    W'.cell? ⟨a, 0, none⟩ = some u0 ∧ W'.cell? ⟨a, 1, none⟩ = some u1 ∧ W'.cell? ⟨b, 0, none⟩ = some v0 ∧ W'.cell? ⟨b, 1, none⟩ = some v1 ∧ Ext w0 W' :=
  ⟨hx.cell h.1, hx.cell h.2.1, hx.cell h.2.2.1, hx.cell h.2.2.2.1, h.2.2.2.2.trans hx⟩
theorem quad_far {w0 W : World} {a b g : Nat} {u0 u1 v0 v1 : Value} (x y : Value)
    (h : W.cell? ⟨a, 0, none⟩ = some u0 ∧ W.cell? ⟨a, 1, none⟩ = some u1 ∧ W.cell? ⟨b, 0, none⟩ = some v0 ∧ W.cell? ⟨b, 1, none⟩ = some v1 ∧ Ext w0 W) (ha : a ≠ g) (hb : b ≠ g) (hg : w0.heap.size ≤ g) :
    ((W.setCell ⟨g, 0, none⟩ x).setCell ⟨g, 1, none⟩ y).cell? ⟨a, 0, none⟩ = some u0 ∧ ((W.setCell ⟨g, 0, none⟩ x).setCell ⟨g, 1, none⟩ y).cell? ⟨a, 1, none⟩ = some u1 ∧ ((W.setCell ⟨g, 0, none⟩ x).setCell ⟨g, 1, none⟩ y).cell? ⟨b, 0, none⟩ = some v0 ∧ ((W.setCell ⟨g, 0, none⟩ x).setCell ⟨g, 1, none⟩ y).cell? ⟨b, 1, none⟩ = some v1 ∧ Ext w0 ((W.setCell ⟨g, 0, none⟩ x).setCell ⟨g, 1, none⟩ y) :=
  ⟨set2_far ha x y h.1, set2_far ha x y h.2.1, set2_far hb x y h.2.2.1, set2_far hb x y h.2.2.2.1, h.2.2.2.2.set2 hg x y⟩
end Go.Proofs.YtgnepbogadfinaaGreatDoor.N
namespace Go.Proofs.YtgnepbogadfinaaGreatDoor.N
open Go.RowKit
abbrev shy (o : Op) : Op := o
theorem same {P : Program} {f : Nat} {args : Array Value} {w : World} {v : Value} (h : Calls P f args w fun e w' => e = .returned v ∧ w = w') : Calls P f args w fun e w' => e = .returned v ∧ w' = w := h.mono fun _ _ h => ⟨h.1, h.2.symm⟩
theorem trCarets_tree (A : Tr) (hA : A.carets ≤ 1000) (w : World) : Calls Tryz.prog 59 #[.string (tx A)] w fun e w' => e = .returned (.int .i64 A.carets) ∧ w = w' := by
  have := trCarets_calls (tx A) (by have := A.txt_length; show A.txt.length < _; omega) w
  rw [show (tx A).toList = A.txt from S_toList _, cnt_txt] at this
  exact this
theorem boxS1_facts (w : World) (s t : ByteArray) :
    Ext w (w.alloc (.cells #[.string s, .string t] 25)) ∧ (w.alloc (.cells #[.string s, .string t] 25)).cell? ⟨w.heap.size, 0, none⟩ = some (.string s) ∧ (w.alloc (.cells #[.string s, .string t] 25)).cell? ⟨w.heap.size, 1, none⟩ = some (.string t) :=
  ⟨(Ext.refl w).alloc _, by go_simp, by go_simp⟩
set_option maxHeartbeats 3200000 in
set_option maxRecDepth 100000 in
theorem prGood_no (s t : ByteArray) (h : ¬ Good s t) (w : World) :
    Calls Tryz.prog 26 #[.agg #[.string s, .string t]] w fun e w' => e = .returned (.bool false) ∧ Ext w w' := by
  obtain ⟨X1, c0, c1⟩ := boxS1_facts w s t
  have X1 := Lib.hid X1
  by_cases h1 : ∃ T, s = tx T ∧ T.carets ≤ 8
  · obtain ⟨A, rfl, hA⟩ := h1
    have C1 := fun W => trIs_yes A hA W
    by_cases h2 : ∃ T, t = tx T ∧ T.carets ≤ 8
    · obtain ⟨B, rfl, hB⟩ := h2
      have C2 := fun W => trIs_yes B hB W
      have hne : A.carets ≠ B.carets := fun e => h ⟨A, B, rfl, rfl, e, hB⟩
      have C3 := fun W => trCarets_tree A (by omega) W
      have C4 := fun W => trCarets_tree B (by omega) W
      have q : ((A.carets : Int) == (B.carets : Int)) = false := by rw [beq_eq_false_iff_ne]; omega
      clear h hne
      go_enter Tryz.func26, Tryz.ntmps26
      go_wp2_with fail
      go_quiet (first
        | (go_at_call_of 58 (Value.string (tx A)); exact Calls.quiet_of_same (same (C1 _)))
        | (go_at_call_of 58 (Value.string (tx B)); exact Calls.quiet_of_same (same (C2 _)))
        | (go_at_call_of 59 (Value.string (tx A)); exact Calls.quiet_of_same (same (C3 _)))
        | (go_at_call_of 59 (Value.string (tx B)); exact Calls.quiet_of_same (same (C4 _)))
        | fail)
      go_wp2_with fail
      go_ret
      exact ⟨rfl, X1.out.drewN _⟩
    · have C2 := fun W => trIs_no t h2 W
      clear h h2
      go_enter Tryz.func26, Tryz.ntmps26
      go_wp2_with fail
      go_quiet (first
        | (go_at_call_of 58 (Value.string (tx A)); exact Calls.quiet_of_same (same (C1 _)))
        | (go_at_call_of 58 (Value.string t); exact Calls.quiet_of_same (same (C2 _)))
        | fail)
      go_wp2_with fail
      go_ret
      exact ⟨rfl, X1.out.drewN _⟩
  · have C1 := fun W => trIs_no s h1 W
    clear h h1
    go_enter Tryz.func26, Tryz.ntmps26
    go_wp2_with fail
    go_quiet (first
      | (go_at_call_of 58 (Value.string s); exact Calls.quiet_of_same (same (C1 _)))
      | fail)
    go_wp2_with fail
    go_ret
    exact ⟨rfl, X1.out.drewN _⟩
set_option maxHeartbeats 3200000 in
set_option maxRecDepth 100000 in
theorem prGood_yes (A B : Tr) (hc : A.carets = B.carets) (hB : B.carets ≤ 8) (w : World) :
    Calls Tryz.prog 26 #[.agg #[.string (tx A), .string (tx B)]] w fun e w' => e = .returned (.bool true) ∧ Ext w w' := by
  obtain ⟨X1, c0, c1⟩ := boxS1_facts w (tx A) (tx B)
  have X1 := Lib.hid X1
  have C1 := fun W => trIs_yes A (by omega) W
  have C2 := fun W => trIs_yes B hB W
  have C3 := fun W => trCarets_tree A (by omega) W
  have C4 := fun W => trCarets_tree B (by omega) W
  rw [hc] at C3
  clear hc hB
  go_enter Tryz.func26, Tryz.ntmps26
  go_wp2_with fail
  go_quiet (first
    | (go_at_call_of 58 (Value.string (tx A)); exact Calls.quiet_of_same (same (C1 _)))
    | (go_at_call_of 58 (Value.string (tx B)); exact Calls.quiet_of_same (same (C2 _)))
    | (go_at_call_of 59 (Value.string (tx A)); exact Calls.quiet_of_same (same (C3 _)))
    | (go_at_call_of 59 (Value.string (tx B)); exact Calls.quiet_of_same (same (C4 _)))
    | fail)
  go_wp2_with fail
  go_ret
  exact ⟨rfl, X1.out.drewN _⟩
end Go.Proofs.YtgnepbogadfinaaGreatDoor.N
namespace Go.Proofs.YtgnepbogadfinaaGreatDoor.N
def NZ (ws : List Int) : Prop := ∀ x ∈ ws, x ≠ 0
theorem NZ.of {a b : List Int} (h : NZ a) (k : NZ b) : NZ (a ++ b) := fun x hx => (List.mem_append.1 hx).elim (h x) (k x)
section
variable {α : Type} (less : α → α → Bool)
end
end Go.Proofs.YtgnepbogadfinaaGreatDoor.N
namespace Go.Proofs.YtgnepbogadfinaaGreatDoor.N
def parseT (s : ByteArray) : Option Tr := match rd (s.size + 1) s.toList with
  | some (T, []) => some T
  | _ => none
theorem parseT_tx (T : Tr) : parseT (tx T) = some T := by
  have hd := T.depth_le
  have hl := T.txt_length
  unfold parseT
  rw [show (tx T).toList = T.txt from S_toList _, rd_txt' T _ (by show T.depth < T.txt.length + 1; omega)]
theorem parseT_some {s : ByteArray} {T : Tr} (h : parseT s = some T) : s = tx T := by
  unfold parseT at h
  split at h
  · rename_i T' e
    injection h with h
    subst h
    have := (rd_some e).1
    rw [List.append_nil] at this
    rw [S_of s, this]; rfl
  · cases h
def pairT (s t : ByteArray) : Option (Tr × Tr) := match parseT s, parseT t with
  | some A, some B => if A.carets = B.carets ∧ B.carets ≤ 8 then some (A, B) else none
  | _, _ => none
theorem pairT_yes {A B : Tr} (h1 : A.carets = B.carets) (h2 : B.carets ≤ 8) : pairT (tx A) (tx B) = some (A, B) := by
  unfold pairT; rw [parseT_tx, parseT_tx]; exact if_pos ⟨h1, h2⟩
theorem pairT_some {s t : ByteArray} {p : Tr × Tr} (h : pairT s t = some p) : s = tx p.1 ∧ t = tx p.2 ∧ p.1.carets = p.2.carets ∧ p.2.carets ≤ 8 := by
  unfold pairT at h
  split at h
  · rename_i A B e1 e2
    split at h
    · rename_i hc
      injection h with h
      subst h
      exact ⟨parseT_some e1, parseT_some e2, hc.1, hc.2⟩
    · cases h
  · cases h
theorem pairT_cases (s t : ByteArray) : (∃ A B, s = tx A ∧ t = tx B ∧ A.carets = B.carets ∧ B.carets ≤ 8 ∧ pairT s t = some (A, B)) ∨ (¬ Good s t ∧ pairT s t = none) := by
  cases h : pairT s t with
  | some p => obtain ⟨a, b, c, d⟩ := pairT_some h; exact .inl ⟨p.1, p.2, a, b, c, d, rfl⟩
  | none =>
    refine .inr ⟨fun ⟨A, B, h1, h2, h3, h4⟩ => ?_, rfl⟩
    rw [h1, h2, pairT_yes h3 h4] at h
    cases h
def okP (p : Tr × Tr) : ByteArray × ByteArray × Bool := (tx p.1, tx p.2, true)
def noP : ByteArray × ByteArray × Bool := (⟨#[]⟩, ⟨#[]⟩, false)
def ifF (p : Tr × Tr) : ByteArray × ByteArray × Bool := if p.1.carets ≤ 8 then okP p else noP
def vP (r : ByteArray × ByteArray × Bool) : Value := .tuple #[.agg #[.string r.1, .string r.2.1], .bool r.2.2]
theorem ifP_vP (p : Tr × Tr) : ifP p = vP (ifF p) := by unfold ifP ifF; split <;> rfl
def anyT (m : Nat) (s t : ByteArray) : Option (Tr × Tr) := match parseT s, parseT t with
  | some A, some B => if A.carets = B.carets ∧ B.carets ≤ m then some (A, B) else none
  | _, _ => none
end Go.Proofs.YtgnepbogadfinaaGreatDoor.N
namespace Go.Proofs.YtgnepbogadfinaaGreatDoor.N
open Go.RowKit
set_option maxHeartbeats 1600000 in
theorem trRight_calls (n : Nat) (hn : n < 100000) (w : World) :
    Calls Tryz.prog 77 #[.int .i64 n] w fun e w' => e = .returned (.string (tx (comb n))) ∧ w = w' := by
  go_enter Tryz.func77, Tryz.ntmps77
  go_wp2_with fail
  go_loop [0, 3] (fun i t => ∃ k : Nat, k ≤ n ∧ i = .int .i64 ((n - k : Nat) : Int) ∧ t = .string (tx (comb k))) (fun i _ => (intOf i).toNat)
  case atStart => exact ⟨0, Nat.zero_le _, rfl, rfl⟩
  case round =>
    obtain ⟨k, hk, rfl, rfl⟩ := hrel
    by_cases hlt : k < n
    · have h1 : (0 : Int) < ((n - k : Nat) : Int) := by omega
      have h2 : ((n - k : Nat) : Int) < 100000 := by omega
      have E : Hid (((n - k : Nat) : Int) - 1 = ((n - (k + 1) : Nat) : Int)) := by show _ = _; omega
      have C := Lib.hid (trOf_tree .leaf (comb k) (by simp [Tr.carets]) (by rw [comb_carets]; omega) w)
      rw [tx_leaf] at C
      generalize ((n - k : Nat) : Int) = d at *
      go_wp2_with fail
      refine C.out.mono ?_
      rintro e w1 ⟨rfl, rfl⟩
      go_wp2_with fail
      exact ⟨⟨k + 1, by omega, by rw [E.out], rfl⟩, by simp [intOf]; omega⟩
    · obtain rfl : k = n := by omega
      have h1 : ((k - k : Nat) : Int) = 0 := by omega
      rw [h1]
      go_wp2_with fail
      go_ret
      exact ⟨rfl, rfl⟩
set_option maxHeartbeats 3200000 in
set_option maxRecDepth 100000 in
theorem trGraft_calls (a b : List UInt8) (o : ByteArray) (hl : a.length + b.length < 1000000) (ho : o.size < 1000000) (w : World) :
    Calls Tryz.prog 76 #[.string (S (a ++ 46 :: b)), .int .i64 (dots a), .string o] w fun e w' => e = .returned (.string ((S a ++ o) ++ S b)) ∧ ∃ n, w' = w.drewN n := by
  have LN : Hid ((a ++ 46 :: b).length = a.length + b.length + 1) := by simp [Hid]; omega
  have E1 : Hid ((a ++ 46 :: b).take a.length = a) := by simp [Hid]
  have E2 : Hid ((a ++ 46 :: b).drop (a.length + 1) = b) := by
    show _ = _
    rw [List.drop_append, List.drop_eq_nil_of_le (by omega), show a.length + 1 - a.length = 1 from by omega]; rfl
  have G1 : Hid (∀ j, j < a.length → dots ((a ++ 46 :: b).take (j + 1)) ≤ dots a) := by
    intro j hj
    rw [List.take_append_of_le_length (by omega)]
    exact List.Sublist.countP_le (List.take_sublist _ _)
  have G3 : Hid ((a ++ 46 :: b)[a.length]? = some 46) := by simp [Hid]
  have DK := dots_le a
  generalize (a ++ 46 :: b) = l at *
  have D1 : Hid (dots (l.take a.length) = dots a) := by show _ = _; rw [E1.out]
  generalize hk : dots a = k at *
  go_enter Tryz.func76, Tryz.ntmps76
  go_wp2_with fail
  go_loop [7, 8] (fun n i => ∃ (j : Nat), j ≤ a.length ∧ i = .int .i64 j ∧ n = .int .i64 ((dots (l.take j) : Int) - 1)) (fun _ i => a.length + 2 - (intOf i).toNat)
  case atStart => exact ⟨0, Nat.zero_le _, rfl, rfl⟩
  case round =>
    obtain ⟨j, hj, rfl, rfl⟩ := hrel
    have b1 := dots_le (l.take j)
    have b2 : (l.take j).length ≤ j := List.length_take_le _ _
    have b3 : (0 : Int) ≤ dots (l.take j) ∧ (dots (l.take j) : Int) ≤ j := by omega
    clear b1 b2
    have hlt : j < l.length := by rw [LN.out]; omega
    obtain ⟨c, hc⟩ : ∃ c, l[j]? = some c := ⟨_, List.getElem?_eq_getElem hlt⟩
    have ST : dots (l.take (j + 1)) = dots (l.take j) + if c = 46 then 1 else 0 := by
      rw [List.take_add_one, hc]; exact dots_snoc _ _
    obtain ⟨x1, x2⟩ := s_at (S l) j c (by rw [S_toList]; exact hc)
    have h1 : (j : Int) < (S l).size := by show (j : Int) < (l.length : Nat); omega
    have h0 : (0 : Int) ≤ j := by omega
    by_cases hl2 : j = a.length
    · obtain rfl : c = 46 := by rw [hl2, G3.out] at hc; exact (Option.some.inj hc).symm
      have DD : dots (l.take j) = k := by rw [hl2]; exact D1.out
      rw [DD]
      have t1 : (((46 : UInt8).toNat : Int) == 46) = true := rfl
      have SZ : Hid ((S l).size = a.length + b.length + 1) := LN.out
      have F1 : (S l).extract 0 j = S a := by rw [S_extract, hl2, E1.out]; rfl
      have F2 : (S l).extract (j + 1) (S l).size = S b := by
        rw [S_extract, S_size, List.take_of_length_le (Nat.le_refl _), hl2, E2.out]
      have g1 : (j : Int) + 1 ≤ (S l).size := by rw [SZ.out]; omega
      have g2 : (j : Int) < 1000001 := by omega
      have g3 : (k : Int) - 1 + 1 = k := by omega
      have g4 : (9223372036854775807 < (S a).size + o.size) = False := by rw [S_size]; simp; omega
      have g5 : (9223372036854775807 < (S a).size + o.size + (S b).size) = False := by rw [S_size, S_size]; simp; omega
      have g6 : (k : Int) < 1000001 ∧ (0 : Int) ≤ k := by omega
      clear ST hc hl2 DD b3
      go_wp2_with fail
      go_region
      go_wp2_with fail
      go_ret
      exact ⟨rfl, 1, rfl⟩
    · have G := G1.out j (by omega)
      by_cases c1 : c = 46
      · have t1 : ((c.toNat : Int) == 46) = true := by subst c1; rfl
        rw [if_pos c1] at ST
        have t3 : (dots (l.take j) : Int) - 1 + 1 = dots (l.take j) := by omega
        have t2 : (((dots (l.take j) : Nat) : Int) == (k : Int)) = false := by rw [beq_eq_false_iff_ne]; omega
        have ST := Lib.hid ST
        clear c1 hc G
        go_wp2_with fail
        exact ⟨⟨j + 1, by omega, by go_num, by rw [ST.out]; go_num⟩, by simp [intOf]; omega⟩
      · have t1 : ((c.toNat : Int) == 46) = false := byte_ne c1
        rw [if_neg c1] at ST
        have t2 : (((dots (l.take j) : Nat) : Int) - 1 == (k : Int)) = false := by rw [beq_eq_false_iff_ne]; omega
        have ST := Lib.hid ST
        clear c1 hc G
        go_wp2_with fail
        exact ⟨⟨j + 1, by omega, by go_num, by rw [ST.out]; go_num⟩, by simp [intOf]; omega⟩
theorem trGraft_tree (T O : Tr) (n : Nat) (hT : T.carets < 1000) (hO : O.carets < 1000) (hn : n < T.carets + 1) (w : World) :
    Calls Tryz.prog 76 #[.string (tx T), .int .i64 n, .string (tx O)] w fun e w' => e = .returned (.string (tx (graft T n O))) ∧ ∃ m, w' = w.drewN m := by
  obtain ⟨a, b, e1, e2, e3⟩ := graft_txt O n T 0 (Nat.zero_le _) (by omega)
  have hl := T.txt_length
  have ho := O.txt_length
  rw [e1] at hl
  simp at hl
  have e4 : n = dots a := by omega
  have e5 : (S a ++ tx O) ++ S b = tx (graft T n O) := by
    show (S a ++ S O.txt) ++ S b = S ((T.grown _ 0).txt)
    rw [e2, S_append, S_append, List.append_assoc]
  rw [← e5, e4, show tx T = S (a ++ 46 :: b) by rw [tx, e1]]
  exact trGraft_calls a b (tx O) (by omega) (by show O.txt.length < _; omega) w
set_option maxHeartbeats 1600000 in
set_option maxRecDepth 100000 in
theorem prGenerator_calls (i : Nat) (hi : i < 900) (w : World) :
    Calls Tryz.prog 49 #[.int .i64 i] w fun e w' => e = .returned (.agg #[.string (tx (gen i).1), .string (tx (gen i).2)]) ∧ Ext w w' := by
  have X0 := Lib.hid ((Ext.refl w).alloc (.cells #[.string ⟨#[]⟩, .string ⟨#[]⟩] 25))
  have t0 := Two.new w (.string ⟨#[]⟩) (.string ⟨#[]⟩) 25 rfl
  have C1 := Lib.hid (fun W => trRight_calls i (by omega) W)
  have C3 := Lib.hid (fun W => trRight_calls (i + 2) (by omega) W)
  have C2 := Lib.hid (fun W => trGraft_tree (comb i) (.node (.node .leaf .leaf) .leaf) i (by rw [comb_carets]; omega) (by simp [Tr.carets]) (by rw [comb_carets]; omega) W)
  rw [show tx (.node (.node .leaf .leaf) .leaf) = ⟨#[40, 40, 46, 46, 41, 46, 41]⟩ from rfl] at C2
  have hi' : (i : Int) < 1000 ∧ (0 : Int) ≤ i := by omega
  have W2 : Hid ((i : Int) + 2 = ((i + 2 : Nat) : Int)) := by show _ = _; omega
  rw [show gen i = (graft (comb i) i (.node (.node .leaf .leaf) .leaf), comb (i + 2)) from rfl]
  generalize tx (comb i) = s1 at *
  generalize tx (graft (comb i) i (.node (.node .leaf .leaf) .leaf)) = s2 at *
  generalize tx (comb (i + 2)) = s3 at *
  go_enter Tryz.func49, Tryz.ntmps49
  go_wp2_with fail
  generalize w.alloc (.cells #[.string ⟨#[]⟩, .string ⟨#[]⟩] 25) = W at *
  refine (C1.out _).mono ?_
  rintro e w1 ⟨rfl, rfl⟩
  go_wp2_with fail
  refine (C2.out _).mono ?_
  rintro e w2 ⟨rfl, n2, rfl⟩
  go_wp2_with fail
  rw [W2.out]
  refine (C3.out _).mono ?_
  rintro e w3 ⟨rfl, rfl⟩
  have x3 := (Ext.refl W).drewN n2
  obtain ⟨u, v, k0, k1, f0, f1⟩ := (t0.ext x3).facts
  go_wp2_with fail
  have HH := set2_heap (t0.ext x3) (.string s2) (.string s3)
  have XX := (X0.out.trans x3).set2 (g := w.heap.size) (Nat.le_refl _) (.string s2) (.string s3)
  change bodyPost _ _ _ _ _ (N.set2 _ w.heap.size (.string s2) (.string s3))
  obtain ⟨hc0, hc1⟩ := cells_of HH
  generalize N.set2 _ w.heap.size (.string s2) (.string s3) = W3 at *
  exact bodyPost_ret (v := .agg #[.string s2, .string s3]) (by simp [results, Tryz.results49, go_sem, hc0, hc1]) rfl ⟨rfl, XX⟩
end Go.Proofs.YtgnepbogadfinaaGreatDoor.N
namespace Go.Proofs.YtgnepbogadfinaaGreatDoor.N
open Go.RowKit
def TwoPost (w : World) (s1 t1 s2 t2 : ByteArray) (e : Ending) (w' : World) : Prop := ∃ pa pb pc pd b, e = .returned (.tuple #[.agg #[.pointer pa, .pointer pb], .agg #[.pointer pc, .pointer pd], .bool b]) ∧ Ext w w' ∧
  Hid (b = true → ∃ A B C D, s1 = tx A ∧ t1 = tx B ∧ s2 = tx C ∧ t2 = tx D ∧ A.carets = B.carets ∧ B.carets ≤ 8 ∧ C.carets = D.carets ∧ D.carets ≤ 8 ∧ Rep w' A pa ∧ Rep w' B pb ∧ Rep w' C pc ∧ Rep w' D pd) ∧ Hid (b = false → ¬ (Good s1 t1 ∧ Good s2 t2))
set_option maxHeartbeats 3200000 in
set_option maxRecDepth 100000 in
theorem two_calls (s1 t1 s2 t2 : ByteArray) (w : World) :
    Calls Tryz.prog 33 #[.agg #[.string s1, .string t1], .agg #[.string s2, .string t2]] w (TwoPost w s1 t1 s2 t2) := by
  have C1 := Lib.hid (pairOf_calls s1 t1)
  have C2 := Lib.hid (pairOf_calls s2 t2)
  let W0 := ((w.alloc (.cells #[.string s1, .string t1] 25)).alloc (.cells #[.string s2, .string t2] 25)).alloc (.cells #[.pointer none, .pointer none] 53)
  have X4 := Lib.hid (((((Ext.refl w).alloc (.cells #[.string s1, .string t1] 25)).alloc (.cells #[.string s2, .string t2] 25)).alloc (.cells #[.pointer none, .pointer none] 53)).alloc (.cells #[.pointer none, .pointer none] 53))
  have c0 : (W0.alloc (.cells #[.pointer none, .pointer none] 53)).cell? ⟨w.heap.size + 1, 0, none⟩ = some (.string s2) := by simp only [W0]; go_simp
  have c1 : (W0.alloc (.cells #[.pointer none, .pointer none] 53)).cell? ⟨w.heap.size + 1, 1, none⟩ = some (.string t2) := by simp only [W0]; go_simp
  have t0 := (Two.new ((w.alloc (.cells #[.string s1, .string t1] 25)).alloc (.cells #[.string s2, .string t2] 25)) (n := w.heap.size + 1 + 1) (.pointer none) (.pointer none) 53 (by simp)).ext ((Ext.refl _).alloc (.cells #[.pointer none, .pointer none] 53))
  have t1' := Two.new W0 (n := w.heap.size + 1 + 1 + 1) (.pointer none) (.pointer none) 53 (by simp [W0])
  have SZ : w.heap.size + 1 + 1 + 1 < (W0.alloc (.cells #[.pointer none, .pointer none] 53)).heap.size := by simp [W0]
  simp only [W0] at c0 c1 t1' SZ
  clear W0
  go_enter Tryz.func33, Tryz.ntmps33
  go_wp2_with fail
  generalize (((w.alloc (.cells #[.string s1, .string t1] 25)).alloc (.cells #[.string s2, .string t2] 25)).alloc (.cells #[.pointer none, .pointer none] 53)).alloc (.cells #[.pointer none, .pointer none] 53) = W at *
  refine (C1.out _).mono ?_
  rintro e w1 ⟨pa, pb, b1, rfl, x1, y1, n1⟩
  have d0 := (x1.alloc (.cells #[.pointer pa, .pointer pb] 53)).cell c0
  have d1 := (x1.alloc (.cells #[.pointer pa, .pointer pb] 53)).cell c1
  have B1 := heap_alloc_new w1 (.cells #[.pointer pa, .pointer pb] 53)
  have X1 := Lib.hid (x1.alloc (.cells #[.pointer pa, .pointer pb] 53))
  have SX := Lib.hid x1.size
  clear c0 c1 x1
  have XW := Lib.hid ((Ext.refl w1).alloc (.cells #[.pointer pa, .pointer pb] 53))
  have B1 := Lib.hid B1
  go_wp2_with fail
  have SZ1 : w.heap.size + 1 + 1 + 1 < w1.heap.size := Nat.lt_of_lt_of_le SZ SX.out
  generalize w1.alloc (.cells #[.pointer pa, .pointer pb] 53) = W1 at *
  refine (C2.out _).mono ?_
  rintro e w2 ⟨pc, pd, b2, rfl, x2, y2, n2⟩
  have B2 := heap_alloc_new w2 (.cells #[.pointer pc, .pointer pd] 53)
  have X2 := Lib.hid (x2.alloc (.cells #[.pointer pc, .pointer pd] 53))
  have B1' := X2.out.at B1.out
  have SZ2 : w1.heap.size < w2.heap.size := Nat.lt_of_lt_of_le (Array.getElem?_eq_some_iff.1 B1.out).1 x2.size
  have E1 := XW.out.trans X2.out
  have e0 := (t0.ext X1.out).ext X2.out
  have e1 := (t1'.ext X1.out).ext X2.out
  obtain ⟨g0, g1, g2, g3, g4, g5⟩ := e0.facts
  obtain ⟨l0, l1, l2, l3, l4, l5⟩ := e1.facts
  have E0 := Lib.hid e0
  have E1' := Lib.hid e1
  clear e0 e1 t0 t1' d0 d1
  obtain ⟨k0, k1⟩ := cells_of B1'
  obtain ⟨k2, k3⟩ := cells_of B2
  have Q2 := Lib.hid ((Ext.refl w2).alloc (.cells #[.pointer pc, .pointer pd] 53))
  have n1' : w1.heap.size ≠ w.heap.size + 1 + 1 := by omega
  have n2' : w1.heap.size ≠ w.heap.size + 1 + 1 + 1 := by omega
  have n3' : w2.heap.size ≠ w.heap.size + 1 + 1 := by omega
  have n4' : w2.heap.size ≠ w.heap.size + 1 + 1 + 1 := by omega
  clear B1' B2 E1 B1 SX SZ1 SZ2 SZ
  go_wp2_with fail
  generalize w2.alloc (.cells #[.pointer pc, .pointer pd] 53) = W2 at *
  have EN : Hid (∀ b, ((b1 && b2) = b) → ∀ a W, a.defers = [] → a.tmps[6]? = some (.bool b) → a.tmps[4]? = some (.pointer (some ⟨w.heap.size + 1 + 1, 0, none⟩)) → a.tmps[5]? = some (.pointer (some ⟨w.heap.size + 1 + 1 + 1, 0, none⟩)) →
      W = (N.set2 (N.set2 W2 (w.heap.size + 1 + 1) (.pointer pa) (.pointer pb)) (w.heap.size + 1 + 1 + 1) (.pointer pc) (.pointer pd)).drew → bodyPost Tryz.prog Tryz.f33 (TwoPost w s1 t1 s2 t2) .ret a W) := by
    intro b hb a W hd ha h4 h5 hW
    have F0 := E0.out
    have F1 : Two (N.set2 W2 (w.heap.size + 1 + 1) (.pointer pa) (.pointer pb)) (w.heap.size + 1 + 1 + 1) 53 := by
      obtain ⟨u, v, e⟩ := E1'.out
      exact ⟨u, v, by rw [set2_other (by omega)]; exact e⟩
    have H1 := set2_heap F1 (.pointer pc) (.pointer pd)
    have H0 : (N.set2 (N.set2 W2 (w.heap.size + 1 + 1) (.pointer pa) (.pointer pb)) (w.heap.size + 1 + 1 + 1) (.pointer pc) (.pointer pd)).heap[w.heap.size + 1 + 1]? = some (.cells #[.pointer pa, .pointer pb] 53) := by
      rw [set2_other (by omega)]; exact set2_heap F0 (.pointer pa) (.pointer pb)
    have XX := ((((X4.out.trans X1.out).trans X2.out).set2 (g := w.heap.size + 1 + 1) (by omega) (.pointer pa) (.pointer pb)).set2 (g := w.heap.size + 1 + 1 + 1) (by omega) (.pointer pc) (.pointer pd)).drew
    have RR : ∀ T p, Rep W2 T p → Rep W T p := by
      intro T p h
      subst hW
      exact (Rep.set2 F1 (by decide) _ _ (Rep.set2 F0 (by decide) _ _ h)).ext (Ext.refl _).drew
    obtain ⟨q0, q1⟩ := cells_of H0
    obtain ⟨q2, q3⟩ := cells_of H1
    rw [← hW] at XX
    have q0 : W.cell? ⟨w.heap.size + 1 + 1, 0, none⟩ = some (.pointer pa) := by rw [hW]; exact q0
    have q1 : W.cell? ⟨w.heap.size + 1 + 1, 1, none⟩ = some (.pointer pb) := by rw [hW]; exact q1
    have q2 : W.cell? ⟨w.heap.size + 1 + 1 + 1, 0, none⟩ = some (.pointer pc) := by rw [hW]; exact q2
    have q3 : W.cell? ⟨w.heap.size + 1 + 1 + 1, 1, none⟩ = some (.pointer pd) := by rw [hW]; exact q3
    refine bodyPost_ret (v := .tuple #[.agg #[.pointer pa, .pointer pb], .agg #[.pointer pc, .pointer pd], .bool b]) ?_ hd ⟨_, _, _, _, _, rfl, XX, ?_, ?_⟩
    · simp [results, Tryz.results33, go_sem, q0, q1, q2, q3, ha, h4, h5]
    · intro hbt
      subst hbt
      rw [Bool.and_eq_true] at hb
      obtain ⟨A, B, e1, e2, e3, e4, r1, r2⟩ := y1.out hb.1
      obtain ⟨C, D, f1, f2, f3, f4, r3, r4⟩ := y2.out hb.2
      have E := XW.out.trans X2.out
      have E2 := Q2.out
      exact ⟨A, B, C, D, e1, e2, f1, f2, e3, e4, f3, f4, RR _ _ (r1.ext E), RR _ _ (r2.ext E), RR _ _ (r3.ext E2), RR _ _ (r4.ext E2)⟩
    · intro hbf
      subst hbf
      rintro ⟨G1, G2⟩
      cases b1 with
      | false => exact n1.out rfl G1
      | true =>
        cases b2 with
        | false => exact n2.out rfl G2
        | true => cases hb
  clear y1 y2 n1 n2 X4 X1 XW X2 E0 E1' Q2
  cases b1 <;> cases b2
  all_goals
    go_region
    go_wp2_with fail
  case false.false => exact EN.out false rfl _ _ rfl rfl rfl rfl rfl
  case false.true => exact EN.out false rfl _ _ rfl rfl rfl rfl rfl
  case true.false => exact EN.out false rfl _ _ rfl rfl rfl rfl rfl
  case true.true => exact EN.out true rfl _ _ rfl rfl rfl rfl rfl
theorem two_yes (A B C D : Tr) (hc : A.carets = B.carets) (hB : B.carets ≤ 8) (hd : C.carets = D.carets) (hD : D.carets ≤ 8) (w : World) : Calls Tryz.prog 33 #[.agg #[.string (tx A), .string (tx B)], .agg #[.string (tx C), .string (tx D)]] w fun e w' => ∃ pa pb pc pd, e = .returned (.tuple #[.agg #[.pointer pa, .pointer pb], .agg #[.pointer pc, .pointer pd], .bool true]) ∧ Rep w' A pa ∧ Rep w' B pb ∧ Rep w' C pc ∧ Rep w' D pd ∧ Ext w w' := by
  refine (two_calls _ _ _ _ w).mono ?_
  rintro e w1 ⟨pa, pb, pc, pd, b, rfl, x1, y1, n1⟩
  cases b with
  | false => exact absurd ⟨⟨A, B, rfl, rfl, hc, hB⟩, ⟨C, D, rfl, rfl, hd, hD⟩⟩ (n1.out rfl)
  | true =>
    obtain ⟨A', B', C', D', h1, h2, h3, h4, _, _, _, _, rA, rB, rC, rD⟩ := y1.out rfl
    obtain rfl := tx_inj h1
    obtain rfl := tx_inj h2
    obtain rfl := tx_inj h3
    obtain rfl := tx_inj h4
    exact ⟨pa, pb, pc, pd, rfl, rA, rB, rC, rD, x1⟩
theorem two_no (s1 t1 s2 t2 : ByteArray) (h : ¬ (Good s1 t1 ∧ Good s2 t2)) (w : World) : Calls Tryz.prog 33 #[.agg #[.string s1, .string t1], .agg #[.string s2, .string t2]] w fun e w' => ∃ pa pb pc pd, e = .returned (.tuple #[.agg #[.pointer pa, .pointer pb], .agg #[.pointer pc, .pointer pd], .bool false]) ∧ Ext w w' := by
  refine (two_calls _ _ _ _ w).mono ?_
  rintro e w1 ⟨pa, pb, pc, pd, b, rfl, x1, y1, n1⟩
  cases b with
  | false => exact ⟨pa, pb, pc, pd, rfl, x1⟩
  | true =>
    obtain ⟨A', B', C', D', h1, h2, h3, h4, g1, g2, g3, g4, rA, rB, rC, rD⟩ := y1.out rfl
    exact absurd ⟨⟨A', B', h1, h2, g1, g2⟩, ⟨C', D', h3, h4, g3, g4⟩⟩ h
end Go.Proofs.YtgnepbogadfinaaGreatDoor.N
namespace Go.Proofs.YtgnepbogadfinaaGreatDoor.N
open Go.RowKit
theorem boxSS_facts (w : World) (s t s2 t2 : ByteArray) (x y : Value) (ty : TypeId) :
    Ext w (((w.alloc (.cells #[.string s, .string t] 25)).alloc (.cells #[.string s2, .string t2] 25)).alloc (.cells #[x, y] ty)) ∧
    Two (((w.alloc (.cells #[.string s, .string t] 25)).alloc (.cells #[.string s2, .string t2] 25)).alloc (.cells #[x, y] ty)) (w.heap.size + 1 + 1) ty :=
  ⟨(((Ext.refl w).alloc _).alloc _).alloc _, Two.new _ _ _ _ (by simp)⟩
end Go.Proofs.YtgnepbogadfinaaGreatDoor.N
namespace Go.Proofs.YtgnepbogadfinaaGreatDoor.N
open Go.RowKit
theorem cells4_of {w : World} {b : Nat} {x y z u : Value} {t : TypeId} (h : w.heap[b]? = some (.cells #[x, y, z, u] t)) : w.cell? ⟨b, 0, none⟩ = some x ∧ w.cell? ⟨b, 1, none⟩ = some y ∧ w.cell? ⟨b, 2, none⟩ = some z ∧ w.cell? ⟨b, 3, none⟩ = some u := by
  simp [World.cell?, h]
set_option maxHeartbeats 1600000 in
theorem place_calls (m D g : Nat) (h : D * g = 1099511627776) (hm : m ≤ D) (hD : 0 < D) (w : World) :
    Calls Tryz.prog 25 #[.agg #[.int .i64 m, .int .i64 D]] w fun e w' => e = .returned (.int .i64 ((m * g : Nat) : Int)) ∧ Ext w w' := by
  have X0 := Lib.hid ((Ext.refl w).alloc (.cells #[.int .i64 m, .int .i64 D] 27))
  obtain ⟨c0, c1⟩ := cells_of (heap_alloc_new w (.cells #[.int .i64 m, .int .i64 D] 27))
  have q : (1099511627776 : Int).tdiv (D : Int) = (g : Int) := by
    rw [Int.tdiv_eq_ediv_of_nonneg (by omega)]
    refine Int.ediv_eq_of_eq_mul_right (by omega) ?_
    rw [← Int.natCast_mul, h]; rfl
  have hb : m * g ≤ 1099511627776 := by rw [← h]; exact Nat.mul_le_mul_right _ hm
  have HP : Hid (((m * g : Nat) : Int) = (m : Int) * (g : Int)) := Int.natCast_mul m g
  have hb2 : (m : Int) * (g : Int) ≤ 1099511627776 := by rw [← HP.out]; omega
  have hb3 : 0 ≤ (m : Int) * (g : Int) := by rw [← HP.out]; omega
  have g1 : (g : Int) ≤ 1099511627776 := by
    have : g ≤ 1099511627776 := by rw [← h]; exact Nat.le_mul_of_pos_left _ hD
    omega
  have d0 : (D : Int) ≠ 0 := by omega
  rw [HP.out]
  go_enter Tryz.func25, Tryz.ntmps25
  go_wp2_with fail
  generalize w.alloc (.cells #[.int .i64 m, .int .i64 D] 27) = W at *
  go_quiet (fail)
  have X1 := Lib.hid (X0.out.drewN nq)
  go_wp2_with fail
  go_ret
  exact ⟨rfl, X1.out⟩
set_option maxHeartbeats 1600000 in
theorem slope_calls (a b : Int) (l l2 : Nat) (hl : l ≤ 100) (hl2 : l2 ≤ 100) (w : World) :
    Calls Tryz.prog 82 #[.agg #[.int .i64 a, .int .i64 b, .int .i64 l, .int .i64 l2]] w fun e w' => e = .returned (.int .i64 ((l : Int) - l2)) ∧ Ext w w' := by
  have X0 := Lib.hid ((Ext.refl w).alloc (.cells #[.int .i64 a, .int .i64 b, .int .i64 l, .int .i64 l2] 87))
  go_enter Tryz.func82, Tryz.ntmps82
  go_wp2_with fail
  go_ret
  exact ⟨rfl, X0.out⟩
set_option maxHeartbeats 1600000 in
theorem end_calls (a b : Int) (l l2 g : Nat) (hl : l ≤ 40) (hg : 2 ^ l * g = 1099511627776) (ha : 0 ≤ a ∧ a ≤ 1099511627776) (w : World) :
    Calls Tryz.prog 81 #[.agg #[.int .i64 a, .int .i64 b, .int .i64 l, .int .i64 l2]] w fun e w' => e = .returned (.int .i64 (a + g)) ∧ Ext w w' := by
  have X0 := Lib.hid ((Ext.refl w).alloc (.cells #[.int .i64 a, .int .i64 b, .int .i64 l, .int .i64 l2] 87))
  have ml : min l 64 = l := by omega
  have hp : 0 < 2 ^ l := Nat.two_pow_pos l
  have q : (1099511627776 : Int) / 2 ^ l = (g : Int) := by
    refine Int.ediv_eq_of_eq_mul_right (by have : (2 : Int) ^ l = ((2 ^ l : Nat) : Int) := by rw [Int.natCast_pow]; rfl
                                           omega) ?_
    rw [show (2 : Int) ^ l = ((2 ^ l : Nat) : Int) by rw [Int.natCast_pow]; rfl, ← Int.natCast_mul, hg]; rfl
  have g1 : (g : Int) ≤ 1099511627776 := by
    have : g ≤ 1099511627776 := by rw [← hg]; exact Nat.le_mul_of_pos_left _ hp
    omega
  clear hg hp
  go_enter Tryz.func81, Tryz.ntmps81
  go_wp2_with fail
  go_quiet (fail)
  have X1 := Lib.hid (X0.out.drewN nq)
  go_wp2_with fail
  go_ret
  exact ⟨rfl, X1.out⟩
set_option maxHeartbeats 1600000 in
theorem value_up (a b p : Int) (l l2 : Nat) (hl : l2 ≤ l) (hl2 : l ≤ 40) (hp : 0 ≤ a ∧ a ≤ p ∧ p ≤ 1099511627776) (hb : 0 ≤ b ∧ b ≤ 1099511627776) (hv : (p - a) * 2 ^ (l - l2) ≤ 1099511627776) (w : World) :
    Calls Tryz.prog 57 #[.agg #[.int .i64 a, .int .i64 b, .int .i64 l, .int .i64 l2], .int .i64 p] w fun e w' => e = .returned (.int .i64 (b + (p - a) * 2 ^ (l - l2))) ∧ Ext w w' := by
  have X0 := Lib.hid ((Ext.refl w).alloc (.cells #[.int .i64 a, .int .i64 b, .int .i64 l, .int .i64 l2] 87))
  have C1 := Lib.hid (fun W => slope_calls a b l l2 (by omega) (by omega) W)
  have HN : Hid ((w.alloc (.cells #[.int .i64 a, .int .i64 b, .int .i64 l, .int .i64 l2] 87)).heap[w.heap.size]? = some (.cells #[.int .i64 a, .int .i64 b, .int .i64 l, .int .i64 l2] 87)) := heap_alloc_new w _
  have e1 : (l : Int) - l2 = ((l - l2 : Nat) : Int) := by omega
  rw [e1] at C1
  have f1 : l - l2 ≤ 40 := by omega
  have hv0 : 0 ≤ (p - a) * 2 ^ (l - l2) := Int.mul_nonneg (by omega) (Int.pow_nonneg (by omega))
  clear e1
  generalize l - l2 = s at *
  go_enter Tryz.func57, Tryz.ntmps57
  go_wp2_with fail
  refine (C1.out _).mono ?_
  rintro e w1 ⟨rfl, x1⟩
  obtain ⟨c0, c1, c2, c3⟩ := cells4_of (x1.at HN.out)
  have X1 := Lib.hid (X0.out.trans x1)
  clear x1
  go_wp2_with fail
  go_ret
  exact ⟨rfl, X1.out⟩
set_option maxHeartbeats 1600000 in
theorem value_down (a b p : Int) (l l2 : Nat) (hl : l < l2) (hl2 : l2 ≤ 40) (hp : 0 ≤ a ∧ a ≤ p ∧ p ≤ 1099511627776) (hb : 0 ≤ b ∧ b ≤ 1099511627776) (w : World) :
    Calls Tryz.prog 57 #[.agg #[.int .i64 a, .int .i64 b, .int .i64 l, .int .i64 l2], .int .i64 p] w fun e w' => e = .returned (.int .i64 (b + (p - a) / 2 ^ (l2 - l))) ∧ Ext w w' := by
  have X0 := Lib.hid ((Ext.refl w).alloc (.cells #[.int .i64 a, .int .i64 b, .int .i64 l, .int .i64 l2] 87))
  have C1 := Lib.hid (fun W => slope_calls a b l l2 (by omega) (by omega) W)
  have HN : Hid ((w.alloc (.cells #[.int .i64 a, .int .i64 b, .int .i64 l, .int .i64 l2] 87)).heap[w.heap.size]? = some (.cells #[.int .i64 a, .int .i64 b, .int .i64 l, .int .i64 l2] 87)) := heap_alloc_new w _
  have e1 : (l : Int) - l2 = -((l2 - l : Nat) : Int) := by omega
  rw [e1] at C1
  have f1 : 0 < l2 - l ∧ l2 - l ≤ 40 := by omega
  have f2 : ((l2 - l : Nat) : Int) ≤ 40 := by omega
  have f3 : (0 : Int) < ((l2 - l : Nat) : Int) := by omega
  have m1 : min (l2 - l) 64 = l2 - l := by omega
  have hq0 : 0 ≤ (p - a) / 2 ^ (l2 - l) := Int.ediv_nonneg (by omega) (Int.pow_nonneg (by omega))
  have hq1 : (p - a) / 2 ^ (l2 - l) ≤ p - a := Int.ediv_le_self _ (by omega)
  clear e1
  generalize l2 - l = s at *
  go_enter Tryz.func57, Tryz.ntmps57
  go_wp2_with fail
  refine (C1.out _).mono ?_
  rintro e w1 ⟨rfl, x1⟩
  obtain ⟨c0, c1, c2, c3⟩ := cells4_of (x1.at HN.out)
  have X1 := Lib.hid (X0.out.trans x1)
  clear x1
  go_wp2_with fail
  go_ret
  exact ⟨rfl, X1.out⟩
def part (k : Nat) : Nat := 2 ^ (40 - k)
theorem part_step {k : Nat} (h : k < 40) : part k = part (k + 1) * 2 := by unfold part; rw [show 40 - k = (40 - (k + 1)) + 1 by omega, Nat.pow_succ]
theorem part_mul {k : Nat} (h : k ≤ 40) : 2 ^ k * part k = 1099511627776 := by unfold part; rw [← Nat.pow_add, show k + (40 - k) = 40 by omega]
theorem part_zero : part 0 = 1099511627776 := rfl
def plI (a : List UInt8) : Nat → Nat
  | 0 => 0
  | i + 1 => plI a i + if a[i]? = some 49 then part (i + 1) else 0
theorem plI_le (a : List UInt8) : ∀ i, i ≤ 40 → plI a i + part i ≤ 1099511627776
  | 0, _ => by simp [plI, part_zero]
  | i + 1, h => by
    have := plI_le a i (by omega)
    have e := part_step (show i < 40 by omega)
    simp only [plI]
    generalize part (i + 1) = u at *
    split <;> omega
set_option maxHeartbeats 1600000 in
theorem placeOf_calls (a : List UInt8) (ha : a.length ≤ 40) (w : World) :
    Calls Tryz.prog 44 #[.string (S a)] w fun e w' => e = .returned (.int .i64 (plI a a.length : Nat)) ∧ w = w' := by
  go_enter Tryz.func44, Tryz.ntmps44
  go_wp2_with fail
  go_loop [8, 3, 4] (fun i pl pa => ∃ k : Nat, k ≤ a.length ∧ i = .int .i64 k ∧ pl = .int .i64 (plI a k : Nat) ∧ pa = .int .i64 (part k : Nat)) (fun i _ _ => a.length - (intOf i).toNat)
  case atStart => exact ⟨0, Nat.zero_le _, rfl, rfl, rfl⟩
  case round =>
    obtain ⟨k, hk, rfl, rfl, rfl⟩ := hrel
    have hz : ((S a).size : Int) = a.length := rfl
    by_cases hlt : k < a.length
    · obtain ⟨c, hc⟩ : ∃ c, a[k]? = some c := ⟨_, List.getElem?_eq_getElem hlt⟩
      obtain ⟨x1, x2⟩ := s_at (S a) k c (by rw [S_toList]; exact hc)
      have h0 : (0 : Int) ≤ k := by omega
      have h1 : (k : Int) < (S a).size := by rw [hz]; omega
      have HB := plI_le a k (by omega)
      have PS := part_step (show k < 40 by omega)
      have q0 : (part k : Int).tdiv 2 = (part (k + 1) : Int) := by
        rw [Int.tdiv_eq_ediv_of_nonneg (by omega)]
        omega
      have P1 : Hid (plI a (k + 1) = plI a k + if c = 49 then part (k + 1) else 0) := by
        show _ = _
        simp only [plI, hc, Option.some.injEq]
      have hu : Hid (∀ x : Nat, part (k + 1) = x → Value.int .i64 (x : Int) = Value.int .i64 ((part (k + 1) : Nat) : Int)) := fun x h => by rw [h]
      obtain ⟨u, hu1⟩ : ∃ u, part (k + 1) = u := ⟨_, rfl⟩
      have HU := Lib.hid (hu.out u hu1)
      rw [hu1] at PS q0 P1
      clear hu hu1
      generalize part k = v at *
      generalize plI a k = z at *
      clear hc
      by_cases h49 : c = 49
      · subst h49
        rw [if_pos rfl] at P1
        have t4 : (((49 : UInt8).toNat : Int) == 49) = true := rfl
        go_wp2_with fail
        exact ⟨⟨k + 1, by omega, by go_num, by rw [P1.out]; go_num, HU.out⟩, by simp [intOf]; omega⟩
      · rw [if_neg h49] at P1
        have t4 : ((c.toNat : Int) == 49) = false := by
          rw [beq_eq_false_iff_ne]; intro h
          exact h49 (UInt8.toNat_inj.1 (by show c.toNat = 49; omega))
        go_wp2_with fail
        exact ⟨⟨k + 1, by omega, by go_num, by rw [P1.out]; rfl, HU.out⟩, by simp [intOf]; omega⟩
    · have h1 : ¬ (k : Int) < (S a).size := by rw [hz]; omega
      obtain rfl : k = a.length := by omega
      go_wp2_with fail
      go_ret
      exact ⟨rfl, rfl⟩
def halve : Nat → Nat → Nat → Nat × Nat
  | 0, p, d => (p, d)
  | f + 1, p, d => if 1 < d ∧ p % 2 = 0 then halve f (p / 2) (d / 2) else (p, d)
theorem halve_stop (f p d : Nat) (h : ¬ (1 < d ∧ p % 2 = 0)) : halve f p d = (p, d) := by cases f <;> simp [halve, h]
set_option maxHeartbeats 3200000 in
set_option maxRecDepth 100000 in
theorem fractionAt_calls (p : Nat) (hp : p ≤ 1099511627776) (w : World) :
    Calls Tryz.prog 54 #[.int .i64 p] w fun e w' => e = .returned (.tuple #[.agg #[.int .i64 ((halve 40 p 1099511627776).1 : Nat), .int .i64 ((halve 40 p 1099511627776).2 : Nat)], .bool (decide ((halve 40 p 1099511627776).2 ≤ 1024))]) ∧ Ext w w' := by
  have X0 := Lib.hid ((Ext.refl w).alloc (.cells #[.int .i64 0, .int .i64 0] 27))
  have T0 := Lib.hid (Two.new w (.int .i64 0) (.int .i64 0) 27 rfl)
  have hp1 : ¬ (p : Int) < 0 := by omega
  have hp2 : ¬ (1099511627776 : Int) < p := by omega
  go_enter Tryz.func54, Tryz.ntmps54
  go_wp2_with fail
  generalize w.alloc (.cells #[.int .i64 0, .int .i64 0] 27) = W at *
  go_loop [0, 4] (fun x y => ∃ f q d : Nat, x = .int .i64 q ∧ y = .int .i64 d ∧ q ≤ 1099511627776 ∧ d ≤ 2 ^ f ∧ f ≤ 40 ∧ Hid (halve f q d = halve 40 p 1099511627776)) (fun _ y => (intOf y).toNat)
  case atStart => exact ⟨40, p, 1099511627776, rfl, rfl, hp, by decide, by omega, rfl⟩
  case round =>
    obtain ⟨f, q, d, rfl, rfl, hq, hd, hf, HE⟩ := hrel
    have d40 : d ≤ 1099511627776 := Nat.le_trans hd (Nat.le_trans (Nat.pow_le_pow_right (by omega) hf) (by decide))
    by_cases hc : 1 < d ∧ q % 2 = 0
    · cases f with
      | zero => simp at hd; omega
      | succ f =>
        have HE2 : Hid (halve f (q / 2) (d / 2) = halve 40 p 1099511627776) := by show _ = _; rw [← HE.out]; simp [halve, hc]
        have hd2 : d / 2 ≤ 2 ^ f := by rw [Nat.pow_succ] at hd; omega
        have q0 : (q : Int).tdiv 2 = ((q / 2 : Nat) : Int) := by rw [Int.tdiv_eq_ediv_of_nonneg (by omega)]; omega
        have q1 : (d : Int).tdiv 2 = ((d / 2 : Nat) : Int) := by rw [Int.tdiv_eq_ediv_of_nonneg (by omega)]; omega
        have t1 : ((q : Int) % 2 == 0) = true := by rw [beq_iff_eq]; omega
        have g1 : (1 : Int) < d := by omega
        have l1 : q / 2 ≤ q := Nat.div_le_self _ _
        have l2 : d / 2 < d := by omega
        generalize q / 2 = q' at *
        generalize d / 2 = d' at *
        have l3 : (q' : Int) ≤ 1099511627776 := by omega
        have l4 : (d' : Int) ≤ 1099511627776 := by omega
        clear hc HE hd
        go_wp2_with fail
        exact ⟨⟨f, q', d', by go_num, by go_num, by omega, hd2, by omega, HE2.out⟩, by simp [intOf]; omega⟩
    · have HE2 : Hid (halve 40 p 1099511627776 = (q, d)) := by show _ = _; rw [← HE.out, halve_stop _ _ _ hc]
      obtain ⟨u, v, k0, k1, f0, f1⟩ := T0.out.facts
      have ED : decide ((d : Int) ≤ 1024) = decide (d ≤ 1024) := decide_eq_decide.2 (by omega)
      by_cases g1 : 1 < d
      · have g1' : (1 : Int) < d := by omega
        have t1 : ((q : Int) % 2 == 0) = false := by rw [beq_eq_false_iff_ne]; omega
        clear hc HE
        go_wp2_with fail
        have HH := set2_heap T0.out (.int .i64 q) (.int .i64 d)
        have XX := X0.out.set2 (g := w.heap.size) (Nat.le_refl _) (.int .i64 q) (.int .i64 d)
        change bodyPost _ _ _ _ _ (N.set2 W w.heap.size (.int .i64 q) (.int .i64 d))
        obtain ⟨hc0, hc1⟩ := cells_of HH
        generalize N.set2 W w.heap.size (.int .i64 q) (.int .i64 d) = W3 at *
        refine bodyPost_ret (v := .tuple #[.agg #[.int .i64 q, .int .i64 d], .bool (decide (d ≤ 1024))]) (by simp [results, Tryz.results54, go_sem, hc0, hc1]) rfl ⟨?_, XX⟩
        rw [HE2.out]
      · have g1' : ¬ (1 : Int) < d := by omega
        clear hc HE
        go_wp2_with fail
        have HH := set2_heap T0.out (.int .i64 q) (.int .i64 d)
        have XX := X0.out.set2 (g := w.heap.size) (Nat.le_refl _) (.int .i64 q) (.int .i64 d)
        change bodyPost _ _ _ _ _ (N.set2 W w.heap.size (.int .i64 q) (.int .i64 d))
        obtain ⟨hc0, hc1⟩ := cells_of HH
        generalize N.set2 W w.heap.size (.int .i64 q) (.int .i64 d) = W3 at *
        refine bodyPost_ret (v := .tuple #[.agg #[.int .i64 q, .int .i64 d], .bool (decide (d ≤ 1024))]) (by simp [results, Tryz.results54, go_sem, hc0, hc1]) rfl ⟨?_, XX⟩
        rw [HE2.out]
end Go.Proofs.YtgnepbogadfinaaGreatDoor.N
namespace Go.Proofs.YtgnepbogadfinaaGreatDoor.N
open Go.RowKit
theorem infoPiece : (Tryz.prog.info? 87).map (fun i => (i.zero, i.size, i.bytes)) = some (some (.agg #[.int .i64 0, .int .i64 0, .int .i64 0, .int .i64 0]), 4, 32) := by kernel_rfl
def pcV (a b : List UInt8) : List Value := [.int .i64 (plI a a.length : Nat), .int .i64 (plI b b.length : Nat), .int .i64 (a.length : Nat), .int .i64 (b.length : Nat)]
def pcsV : List (List UInt8) → List (List UInt8) → List Value
  | a :: l, b :: m => pcV a b ++ pcsV l m
  | _, _ => []
theorem pcsV_take : ∀ (l m : List (List UInt8)) (k : Nat) (a b : List UInt8), l[k]? = some a → m[k]? = some b → pcsV (l.take (k + 1)) (m.take (k + 1)) = pcsV (l.take k) (m.take k) ++ pcV a b
  | x :: l, y :: m, 0, a, b, h1, h2 => by
    simp only [List.getElem?_cons_zero, Option.some.injEq] at h1 h2
    subst h1; subst h2
    simp [pcsV]
  | x :: l, y :: m, k + 1, a, b, h1, h2 => by
    simp only [List.getElem?_cons_succ] at h1 h2
    simp only [List.take_succ_cons, pcsV, pcsV_take l m k a b h1 h2, List.append_assoc]
  | [], _, _, _, _, h1, _ => by simp at h1
  | _ :: _, [], _, _, _, _, h2 => by simp at h2
theorem pcsV_get : ∀ (l m : List (List UInt8)) (k : Nat) (a b : List UInt8), l[k]? = some a → m[k]? = some b → ∀ i u, (pcV a b)[i]? = some u → (pcsV l m)[k * 4 + i]? = some u
  | x :: l, y :: m, 0, a, b, h1, h2, i, u, hu => by
    simp only [List.getElem?_cons_zero, Option.some.injEq] at h1 h2
    subst h1; subst h2
    have hi : i < (pcV x y).length := (List.getElem?_eq_some_iff.1 hu).1
    rw [pcsV, Nat.zero_mul, Nat.zero_add, List.getElem?_append_left hi]; exact hu
  | x :: l, y :: m, k + 1, a, b, h1, h2, i, u, hu => by
    simp only [List.getElem?_cons_succ] at h1 h2
    have := pcsV_get l m k a b h1 h2 i u hu
    rw [pcsV, List.getElem?_append_right (by simp [pcV]; omega)]
    rw [← this]; congr 1; simp [pcV]; omega
  | [], _, _, _, _, h1, _, _, _, _ => by simp at h1
  | _ :: _, [], _, _, _, _, h2, _, _, _ => by simp at h2
set_option maxHeartbeats 6400000 in
set_option maxRecDepth 100000 in
theorem pieces_calls (A B : Tr) (hc : A.carets = B.carets) (hB : B.carets ≤ 30) (pa pb : Option Addr) (w : World) (ra : Rep w A pa) (rb : Rep w B pb) :
    Calls Tryz.prog 56 #[.agg #[.pointer pa, .pointer pb]] w fun e w' => ∃ v, e = .returned v ∧ w'.ownsRow w.heap.size 87 4 v (A.carets + 1) (pcsV (addrs A []) (addrs B [])) ∧ Ext w w' := by
  have X0 := Lib.hid ((Ext.refl w).alloc (.cells #[.pointer pa, .pointer pb] 53))
  have B0 := Lib.hid (heap_alloc_new w (.cells #[.pointer pa, .pointer pb] 53))
  have C1 := Lib.hid (fun W (h : Ext w W) => addresses_calls A [] ⟨#[]⟩ pa W (by omega) (by simp; omega) rfl (ra.ext h))
  have C2 := Lib.hid (fun W (h : Ext w W) => addresses_calls B [] ⟨#[]⟩ pb W (by omega) (by simp; omega) rfl (rb.ext h))
  have LA := addrs_length A []
  have LB := addrs_length B []
  rw [← LA]
  have DA : Hid (∀ x ∈ addrs A [], x.length ≤ 40) := fun x hx => by have := addrs_depth A [] x hx; have := A.depth_le; simp at *; omega
  have DB : Hid (∀ x ∈ addrs B [], x.length ≤ 40) := fun x hx => by have := addrs_depth B [] x hx; have := B.depth_le; simp at *; omega
  have LL : Hid ((addrs A []).length = (addrs B []).length) := by show _ = _; omega
  have L31 : (addrs A []).length ≤ 31 := by omega
  generalize addrs A [] = la at *
  generalize addrs B [] = lb at *
  clear hc hB ra rb LA LB
  obtain ⟨c0, c1⟩ := cells_of B0.out
  go_enter Tryz.func56, Tryz.ntmps56
  go_wp2_with fail
  generalize w.alloc (.cells #[.pointer pa, .pointer pb] 53) = W at *
  refine (C2.out _ X0.out).mono ?_
  rintro e w1 ⟨v1, rfl, o1, x1⟩
  obtain ⟨A1, q1, rfl, _, _⟩ := o1.reads
  rw [sls_length] at o1 ⊢
  have X1 := Lib.hid (X0.out.trans x1)
  have R1 := Lib.hid o1.reads
  obtain ⟨c0, c1⟩ := cells_of (x1.at B0.out)
  clear o1 x1
  go_wp2_with fail
  refine (C1.out _ X1.out).mono ?_
  rintro e w2 ⟨v2, rfl, o2, x2⟩
  obtain ⟨A2, q2, rfl, _, _⟩ := o2.reads
  rw [sls_length] at o2 ⊢
  have X2 := Lib.hid (X1.out.trans x2)
  have R1 := Lib.hid (R1.out.ext x2)
  have R2 := Lib.hid o2.reads
  clear o2 x2 c0 c1
  go_wp2_with fail
  go_loopw [14, 3] (fun i o wr => ∃ k : Nat, k ≤ la.length ∧ i = .int .i64 k ∧ Hid (wr.ownsRow w2.heap.size 87 4 o k (pcsV (la.take k) (lb.take k))) ∧ Hid (Ext w2 wr)) (fun i _ _ => la.length - (intOf i).toNat)
  case atStart => exact ⟨0, Nat.zero_le _, rfl, World.ownsRow_nil _ _ _ _, Ext.refl _⟩
  case round =>
    obtain ⟨k, hk, rfl, HO, HX⟩ := hrel
    by_cases hlt : k < la.length
    · have hlt2 : k < lb.length := by rw [← LL.out]; exact hlt
      obtain ⟨Ax, cx, e1, _, rd⟩ := R2.out.ext HX.out
      rw [sls_length] at rd e1
      obtain ⟨ad, e2, ca⟩ := rd (by omega)
      injection e1 with e3 e4 e5
      subst e3 e5
      subst e2
      clear e4
      have c1 := ca k _ (sls_get la k hlt)
      obtain ⟨Ay, cy, e1, _, rd⟩ := R1.out
      rw [sls_length] at rd e1
      obtain ⟨ad2, e2, cb⟩ := rd (by omega)
      injection e1 with e3 e4 e5
      subst e3 e5
      subst e2
      clear e4
      have d0 := cb k _ (sls_get lb k hlt2)
      have d1 := HX.out.cell d0
      have h0 : (0 : Int) ≤ k := by omega
      have h1 : (k : Int) < la.length := by omega
      have h2 : (k : Int) < lb.length := by omega
      have PT := Lib.hid (pcsV_take la lb k la[k] lb[k] (List.getElem?_eq_getElem hlt) (List.getElem?_eq_getElem hlt2))
      have LA := DA.out _ (List.getElem_mem hlt)
      have LB := DB.out _ (List.getElem_mem hlt2)
      have PA := Lib.hid (fun W => placeOf_calls la[k] LA W)
      have PB := Lib.hid (fun W => placeOf_calls lb[k] LB W)
      unfold pcV at PT
      have SA : Hid ((S la[k]).size = la[k].length) := rfl
      have SB : Hid ((S lb[k]).size = lb[k].length) := rfl
      clear ca cb rd
      generalize la[k] = xa at *
      generalize lb[k] = xb at *
      generalize plI xa xa.length = na at *
      generalize plI xb xb.length = nb at *
      have LO := Lib.hid (fun j hj => (HO.out.lt j hj).1)
      go_wp2_with fail
      have XL := Lib.hid ((HX.out.alloc (.cells #[.int .i64 (na : Nat), .int .i64 (nb : Nat), .int .i64 (xa.length : Nat), .int .i64 (xb.length : Nat)] 87)).drew)
      have XR := Lib.hid (((Ext.refl wr).alloc (.cells #[.int .i64 (na : Nat), .int .i64 (nb : Nat), .int .i64 (xa.length : Nat), .int .i64 (xb.length : Nat)] 87)).drew)
      rw [← SA.out, ← SB.out] at XL PT XR
      go_region_held3 (fun w' => w'.cell? (ad2.add k) = some (.string (S xb)) ∧ Ext w2 w')
        (first | with_reducible exact ⟨HX.out.drew.cell d0, HX.out.drew⟩ | with_reducible exact ⟨XL.out.cell d0, XL.out⟩ | with_reducible exact ⟨x4.cell d0, x4⟩ | fail)
        (first
          | (go_at_call_of 44 (Value.string (S xa)); refine (PA.out _).mono ?_; rintro e w1 ⟨rfl, rfl⟩)
          | (go_at_call_of 44 (Value.string (S xb)); refine (PB.out _).mono ?_; rintro e w1 ⟨rfl, rfl⟩)
          | (refine step_appK (by rfl) (.tmp 19) (.tmp 35) 89 (by rfl) w2.heap.size 87 _ 4 32 Tryz.underlying89 infoPiece rfl (by omega) _ k 1 1 _ _ [.int .i64 (na : Nat), .int .i64 (nb : Nat), .int .i64 ((S xa).size : Nat), .int .i64 ((S xb).size : Nat)] (by rfl) (by rfl) (row_ext HO.out XR.out) rfl (new_cells wr #[.int .i64 (na : Nat), .int .i64 (nb : Nat), .int .i64 ((S xa).size : Nat), .int .i64 ((S xb).size : Nat)] _) (by simp [Value.oneCell']) (by unfold maxLen; omega) (by omega) XL.out.size ?_; intro v4 w4 o4 g4 _; have x4 := XL.out.grown g4 LO.out; rw [← PT.out] at o4)
          | fail)
      have O4 := Lib.hid o4
      have X4 := Lib.hid x4
      clear o4 g4 x4
      go_wp2_with fail
      exact ⟨⟨k + 1, by omega, by go_num, O4.out, X4.out⟩, by simp [intOf]; omega⟩
    · have h1 : (la.length : Int) ≤ k := by omega
      obtain rfl : k = la.length := by omega
      have HO2 := HO.out
      rw [List.take_length, show lb.take la.length = lb by rw [LL.out, List.take_length]] at HO2
      have HO2 := Lib.hid HO2
      go_wp2_with fail
      go_ret
      exact ⟨_, rfl, row_mono HO2.out X2.out.size, X2.out.trans HX.out⟩
theorem facts4 {w : World} {g : Nat} {x y z u : Value} {t : TypeId} (h : w.heap[g]? = some (.cells #[x, y, z, u] t)) : (w.cell? ⟨g, 0, none⟩ = some x ∧ w.cell? ⟨g, 1, none⟩ = some y ∧ w.cell? ⟨g, 2, none⟩ = some z ∧ w.cell? ⟨g, 3, none⟩ = some u) ∧ w.frozen? ⟨g, 0, none⟩ = false ∧ w.frozen? ⟨g, 1, none⟩ = false ∧ w.frozen? ⟨g, 2, none⟩ = false ∧ w.frozen? ⟨g, 3, none⟩ = false := by
  simp [World.cell?, World.frozen?, h]
def set4 (w : World) (g : Nat) (a b c d : Value) : World := (((w.setCell ⟨g, 0, none⟩ a).setCell ⟨g, 1, none⟩ b).setCell ⟨g, 2, none⟩ c).setCell ⟨g, 3, none⟩ d
theorem set4_heap {w : World} {g : Nat} {t : TypeId} {x y z u : Value} (h : w.heap[g]? = some (.cells #[x, y, z, u] t)) (a b c d : Value) : (set4 w g a b c d).heap[g]? = some (.cells #[a, b, c, d] t) := by
  have hg := (Array.getElem?_eq_some_iff.1 h).1
  unfold set4
  simp [World.setCell, Array.getElem?_modify, h]
theorem Ext.set4 {a w : World} (h : Ext a w) {g : Nat} (hg : a.heap.size ≤ g) (u v x y : Value) : Ext a (N.set4 w g u v x y) := (((h.setCell (p := ⟨g, 0, none⟩) hg u).setCell (p := ⟨g, 1, none⟩) hg v).setCell (p := ⟨g, 2, none⟩) hg x).setCell (p := ⟨g, 3, none⟩) hg y
def pcAt (ls : List (List UInt8)) (p : Nat) : Nat := (ls.findIdx? fun a => decide (p < plI a a.length + part a.length)).getD (ls.length - 1)
set_option maxHeartbeats 6400000 in
set_option maxRecDepth 100000 in
theorem pieceAt_calls (la lb : List (List UInt8)) (hl : la.length = lb.length) (h1 : 0 < la.length) (h31 : la.length ≤ 31) (hd : ∀ x ∈ la, x.length ≤ 40) (p base : Nat) (hp : p ≤ 1099511627776) (v : Value) (w : World) (hv : w.ownsRow base 87 4 v la.length (pcsV la lb)) :
    Calls Tryz.prog 55 #[v, .int .i64 p] w fun e w' => ∃ a b, la[pcAt la p]? = some a ∧ lb[pcAt la p]? = some b ∧ e = .returned (.agg (pcV a b).toArray) ∧ Ext w w' := by
  obtain ⟨g, c, rfl, hcell⟩ := new_slice_cell hv h1
  have HV := Lib.hid hcell
  have X0 := Lib.hid ((Ext.refl w).alloc (.cells #[.int .i64 0, .int .i64 0, .int .i64 0, .int .i64 0] 87))
  have HL := Lib.hid hl
  clear hv hcell hl
  go_enter Tryz.func55, Tryz.ntmps55
  go_wp2_with fail
  have N0 : Hid ((w.alloc (.cells #[.int .i64 0, .int .i64 0, .int .i64 0, .int .i64 0] 87)).heap[w.heap.size]? = some (.cells #[.int .i64 0, .int .i64 0, .int .i64 0, .int .i64 0] 87)) := heap_alloc_new w _
  generalize w.alloc (.cells #[.int .i64 0, .int .i64 0, .int .i64 0, .int .i64 0] 87) = W at *
  go_loopw [9] (fun i wr => ∃ k : Nat, k ≤ la.length ∧ i = .int .i64 k ∧ Hid (∀ j a, j < k → la[j]? = some a → plI a a.length + part a.length ≤ p) ∧ Hid (Ext W wr)) (fun i _ => la.length - (intOf i).toNat)
  case atStart => exact ⟨0, Nat.zero_le _, rfl, (fun j a h => absurd h (Nat.not_lt_zero _)), Ext.refl _⟩
  case round =>
    obtain ⟨k, hk, rfl, HP, HX⟩ := hrel
    by_cases hlt : k < la.length
    · have hlt2 : k < lb.length := by rw [← HL.out]; exact hlt
      have HA := List.getElem?_eq_getElem hlt
      have HB := List.getElem?_eq_getElem hlt2
      have LA := hd _ (List.getElem_mem hlt)
      have PL := plI_le la[k] la[k].length LA
      have G := pcsV_get la lb k _ _ HA HB
      have xx := X0.out.trans HX.out
      have c0 : wr.cell? ⟨g, k * 4, none⟩ = some (.int .i64 (plI la[k] la[k].length : Nat)) := xx.cell (HV.out _ _ (G 0 _ rfl))
      have c1 : wr.cell? ⟨g, k * 4 + 1, none⟩ = some (.int .i64 (plI lb[k] lb[k].length : Nat)) := xx.cell (HV.out _ _ (G 1 _ rfl))
      have c2 : wr.cell? ⟨g, k * 4 + 2, none⟩ = some (.int .i64 (la[k].length : Nat)) := xx.cell (HV.out _ _ (G 2 _ rfl))
      have c3 : wr.cell? ⟨g, k * 4 + 3, none⟩ = some (.int .i64 (lb[k].length : Nat)) := xx.cell (HV.out _ _ (G 3 _ rfl))
      have HA := Lib.hid HA
      have HB := Lib.hid HB
      have PM := part_mul LA
      have CE := Lib.hid (fun W => end_calls (plI la[k] la[k].length : Nat) (plI lb[k] lb[k].length : Nat) la[k].length lb[k].length (part la[k].length) LA PM (by omega) W)
      have PVV : Hid ((pcV la[k] lb[k]).toArray = #[.int .i64 (plI la[k] la[k].length : Nat), .int .i64 (plI lb[k] lb[k].length : Nat), .int .i64 (la[k].length : Nat), .int .i64 (lb[k].length : Nat)]) := rfl
      have g0 : (0 : Int) ≤ k := by omega
      have g1 : (k : Int) < la.length := by omega
      have N1 := Lib.hid (HX.out.at N0.out)
      have NW : Hid (Ext wr (wr.alloc (.cells #[.int .i64 (plI la[k] la[k].length : Nat), .int .i64 (plI lb[k] lb[k].length : Nat), .int .i64 (la[k].length : Nat), .int .i64 (lb[k].length : Nat)] 87))) := (Ext.refl wr).alloc _
      have NB : Hid ((wr.alloc (.cells #[.int .i64 (plI la[k] la[k].length : Nat), .int .i64 (plI lb[k] lb[k].length : Nat), .int .i64 (la[k].length : Nat), .int .i64 (lb[k].length : Nat)] 87)).heap[wr.heap.size]? = some (.cells #[.int .i64 (plI la[k] la[k].length : Nat), .int .i64 (plI lb[k] lb[k].length : Nat), .int .i64 (la[k].length : Nat), .int .i64 (lb[k].length : Nat)] 87)) := heap_alloc_new wr _
      have PK : Hid (p < plI la[k] la[k].length + part la[k].length → pcAt la p = k) := fun h => by
        unfold pcAt
        rw [List.findIdx?_eq_some_iff_getElem.2 ⟨hlt, by simpa using h, fun j hj => by
          have := HP.out j la[j] hj (List.getElem?_eq_getElem _)
          simp; omega⟩]; rfl
      have PNX : Hid (¬ p < plI la[k] la[k].length + part la[k].length → ∀ j a, j < k + 1 → la[j]? = some a → plI a a.length + part a.length ≤ p) := fun h j a hj ha => by
        rcases Nat.lt_or_eq_of_le (Nat.lt_succ_iff.1 hj) with hj | rfl
        · exact HP.out j a hj ha
        · rw [HA.out] at ha; injection ha with ha; subst ha; omega
      clear G PM xx
      generalize plI la[k] la[k].length = na at *
      generalize plI lb[k] lb[k].length = nb at *
      generalize part la[k].length = pk at *
      generalize hla : la[k].length = l1 at *
      generalize hlb : lb[k].length = l2 at *
      clear hla hlb
      go_wp2_with fail
      generalize wr.alloc (.cells #[.int .i64 (na : Nat), .int .i64 (nb : Nat), .int .i64 (l1 : Nat), .int .i64 (l2 : Nat)] 87) = W1 at *
      refine (CE.out _).mono ?_
      rintro e w2 ⟨rfl, x2⟩
      have X2 := Lib.hid (X0.out.trans (HX.out.trans (NW.out.trans x2)))
      have X2' := Lib.hid (HX.out.trans (NW.out.trans x2))
      have XS : Hid (w.heap.size ≤ w.heap.size) := Nat.le_refl _
      by_cases hp2 : p < na + pk
      · have t1 : (p : Int) < (na : Int) + pk := by omega
        obtain ⟨⟨d0, d1, d2, d3⟩, _⟩ := facts4 (x2.at NB.out)
        obtain ⟨⟨e0, e1, e2, e3⟩, f0, f1, f2, f3⟩ := facts4 ((NW.out.trans x2).at N1.out)
        have HH := Lib.hid (set4_heap ((NW.out.trans x2).at N1.out) (.int .i64 na) (.int .i64 nb) (.int .i64 l1) (.int .i64 l2))
        have PE := Lib.hid (PK.out hp2)
        clear x2
        go_wp2_with fail
        change bodyPost _ _ _ _ _ (N.set4 _ w.heap.size (.int .i64 na) (.int .i64 nb) (.int .i64 l1) (.int .i64 l2))
        obtain ⟨⟨hc0, hc1, hc2, hc3⟩, _⟩ := facts4 HH.out
        have XX := X2.out.set4 (g := w.heap.size) XS.out (.int .i64 na) (.int .i64 nb) (.int .i64 l1) (.int .i64 l2)
        generalize N.set4 _ w.heap.size (.int .i64 na) (.int .i64 nb) (.int .i64 l1) (.int .i64 l2) = W3 at *
        refine bodyPost_ret (v := .agg #[.int .i64 na, .int .i64 nb, .int .i64 l1, .int .i64 l2]) (by simp [results, Tryz.results55, go_sem, hc0, hc1, hc2, hc3]) rfl ?_
        rw [PE.out]
        exact ⟨_, _, HA.out, HB.out, by rw [PVV.out], XX⟩
      · have t1 : ¬ (p : Int) < (na : Int) + pk := by omega
        have HP2 := Lib.hid (PNX.out hp2)
        clear x2
        go_wp2_with fail
        exact ⟨⟨k + 1, by omega, by go_num, HP2.out, X2'.out⟩, by simp [intOf]; omega⟩
    · obtain rfl : k = la.length := by omega
      obtain ⟨m, hm⟩ : ∃ m, la.length = m + 1 := ⟨la.length - 1, by omega⟩
      have hlt : m < la.length := by omega
      have hlt2 : m < lb.length := by rw [← HL.out]; exact hlt
      have HA := Lib.hid (List.getElem?_eq_getElem hlt)
      have HB := Lib.hid (List.getElem?_eq_getElem hlt2)
      have G := pcsV_get la lb m _ _ HA.out HB.out
      have xx := X0.out.trans HX.out
      have c0 : wr.cell? ⟨g, m * 4, none⟩ = some (.int .i64 (plI la[m] la[m].length : Nat)) := xx.cell (HV.out _ _ (G 0 _ rfl))
      have c1 : wr.cell? ⟨g, m * 4 + 1, none⟩ = some (.int .i64 (plI lb[m] lb[m].length : Nat)) := xx.cell (HV.out _ _ (G 1 _ rfl))
      have c2 : wr.cell? ⟨g, m * 4 + 2, none⟩ = some (.int .i64 (la[m].length : Nat)) := xx.cell (HV.out _ _ (G 2 _ rfl))
      have c3 : wr.cell? ⟨g, m * 4 + 3, none⟩ = some (.int .i64 (lb[m].length : Nat)) := xx.cell (HV.out _ _ (G 3 _ rfl))
      have PVV : Hid ((pcV la[m] lb[m]).toArray = #[.int .i64 (plI la[m] la[m].length : Nat), .int .i64 (plI lb[m] lb[m].length : Nat), .int .i64 (la[m].length : Nat), .int .i64 (lb[m].length : Nat)]) := rfl
      have PE : Hid (pcAt la p = m) := by
        show _ = _
        unfold pcAt
        rw [List.findIdx?_eq_none_iff.2 (fun x hx => by
          obtain ⟨j, hj, rfl⟩ := List.mem_iff_getElem.1 hx
          have := HP.out j la[j] hj (List.getElem?_eq_getElem _)
          simp; omega)]
        show la.length - 1 = m
        omega
      have N1 := Lib.hid (HX.out.at N0.out)
      have X2 := Lib.hid xx
      have XS : Hid (w.heap.size ≤ w.heap.size) := Nat.le_refl _
      have q1 : (la.length : Int) - 1 = (m : Int) := by omega
      have g0 : (0 : Int) ≤ m := by omega
      have g1 : (m : Int) < la.length := by omega
      clear G xx hm
      generalize plI la[m] la[m].length = na at *
      generalize plI lb[m] lb[m].length = nb at *
      generalize hla : la[m].length = l1 at *
      generalize hlb : lb[m].length = l2 at *
      clear hla hlb
      obtain ⟨⟨e0, e1, e2, e3⟩, f0, f1, f2, f3⟩ := facts4 N1.out
      have HH := Lib.hid (set4_heap N1.out (.int .i64 na) (.int .i64 nb) (.int .i64 l1) (.int .i64 l2))
      go_wp2_with fail
      change bodyPost _ _ _ _ _ (N.set4 _ w.heap.size (.int .i64 na) (.int .i64 nb) (.int .i64 l1) (.int .i64 l2))
      obtain ⟨⟨hc0, hc1, hc2, hc3⟩, _⟩ := facts4 HH.out
      have XX := X2.out.set4 (g := w.heap.size) XS.out (.int .i64 na) (.int .i64 nb) (.int .i64 l1) (.int .i64 l2)
      generalize N.set4 _ w.heap.size (.int .i64 na) (.int .i64 nb) (.int .i64 l1) (.int .i64 l2) = W3 at *
      refine bodyPost_ret (v := .agg #[.int .i64 na, .int .i64 nb, .int .i64 l1, .int .i64 l2]) (by simp [results, Tryz.results55, go_sem, hc0, hc1, hc2, hc3]) rfl ?_
      rw [PE.out]
      exact ⟨_, _, HA.out, HB.out, by rw [PVV.out], XX⟩
end Go.Proofs.YtgnepbogadfinaaGreatDoor.N
namespace Go.Proofs.YtgnepbogadfinaaGreatDoor.N
def plA (a : List UInt8) : Nat := plI a a.length
theorem plI_append (a b : List UInt8) : ∀ i, i ≤ a.length → plI (a ++ b) i = plI a i
  | 0, _ => rfl
  | i + 1, h => by
    simp only [plI, plI_append a b i (by omega)]
    rw [List.getElem?_append_left (by omega)]
theorem plA_zero (a : List UInt8) : plA (a ++ [48]) = plA a := by
  unfold plA
  rw [List.length_append, List.length_singleton]
  simp only [plI]
  rw [plI_append _ _ _ (Nat.le_refl _), List.getElem?_append_right (Nat.le_refl _)]
  simp
theorem plA_one (a : List UInt8) : plA (a ++ [49]) = plA a + part (a.length + 1) := by
  unfold plA
  rw [List.length_append, List.length_singleton]
  simp only [plI]
  rw [plI_append _ _ _ (Nat.le_refl _), List.getElem?_append_right (Nat.le_refl _)]
  simp
def Chn (s e : Nat) : List (List UInt8) → Prop
  | [] => s = e
  | a :: l => plA a = s ∧ Chn (s + part a.length) e l
theorem Chn.append : ∀ {l1 l2 : List (List UInt8)} {s m e : Nat}, Chn s m l1 → Chn m e l2 → Chn s e (l1 ++ l2)
  | [], _, _, _, _, h1, h2 => by cases h1; exact h2
  | a :: l, _, _, _, _, h1, h2 => ⟨h1.1, h1.2.append h2⟩
theorem addrs_chn : ∀ (T : Tr) (a : List UInt8), a.length + T.depth ≤ 40 → Chn (plA a) (plA a + part a.length) (addrs T a)
  | .leaf, a, _ => ⟨rfl, rfl⟩
  | .node l r, a, h => by
    simp only [Tr.depth] at h
    have h1 := addrs_chn l (a ++ [48]) (by simp; omega)
    have h2 := addrs_chn r (a ++ [49]) (by simp; omega)
    rw [plA_zero] at h1
    rw [plA_one] at h2
    have e := part_step (k := a.length) (by omega)
    simp only [List.length_append, List.length_singleton] at h1 h2
    simp only [addrs]
    rw [e, show plA a + part (a.length + 1) * 2 = plA a + part (a.length + 1) + part (a.length + 1) by omega]
    exact h1.append h2
def fi (p : Nat) : List (List UInt8) → Nat
  | [] => 0
  | a :: l => if p < plA a + part a.length then 0 else if l = [] then 0 else 1 + fi p l
theorem pcAt_fi (p : Nat) : ∀ l, pcAt l p = fi p l
  | [] => rfl
  | a :: l => by
    have ih := pcAt_fi p l
    unfold pcAt at ih ⊢
    simp only [fi]
    rw [List.findIdx?_cons]
    by_cases h : p < plA a + part a.length
    · rw [if_pos h, if_pos (by simpa [plA] using h)]; rfl
    · rw [if_neg h, if_neg (by simpa [plA] using h)]
      cases l with
      | nil => simp
      | cons b l =>
        rw [if_neg (by simp), ← ih]
        cases List.findIdx? (fun a => decide (p < plI a a.length + part a.length)) (b :: l) with
        | none => simp; omega
        | some x => simp; omega
theorem fi_in (p : Nat) : ∀ (l : List (List UInt8)) (s e : Nat), Chn s e l → l ≠ [] → s ≤ p → p ≤ e → ∃ a, l[fi p l]? = some a ∧ plA a ≤ p ∧ p ≤ plA a + part a.length
  | [], _, _, _, h, _, _ => absurd rfl h
  | a :: l, s, e, hc, _, hs, he => by
    simp only [fi]
    by_cases h : p < plA a + part a.length
    · rw [if_pos h]; exact ⟨a, rfl, by rw [hc.1]; exact hs, by omega⟩
    · rw [if_neg h]
      by_cases hl : l = []
      · rw [if_pos hl]
        subst hl
        have : s + part a.length = e := hc.2
        exact ⟨a, rfl, by rw [hc.1]; exact hs, by rw [hc.1]; omega⟩
      · rw [if_neg hl]
        obtain ⟨b, h1, h2, h3⟩ := fi_in p l _ e hc.2 hl (by rw [hc.1] at h; omega) he
        exact ⟨b, by rw [Nat.add_comm, List.getElem?_cons_succ]; exact h1, h2, h3⟩
def si (p : Nat) : List (List UInt8) → Nat → Nat → Nat
  | [], _, c => c
  | a :: l, k, c => si p l (k + 1) (if plA a ≤ p then k else c)
theorem si_far (p : Nat) : ∀ (l : List (List UInt8)) (s e k c : Nat), Chn s e l → p < s → si p l k c = c
  | [], _, _, _, _, _, _ => rfl
  | a :: l, s, e, k, c, hc, h => by
    simp only [si]
    rw [hc.1, if_neg (by omega)]
    exact si_far p l _ e _ _ hc.2 (by omega)
theorem si_fi (p : Nat) : ∀ (l : List (List UInt8)) (s e k c : Nat), Chn s e l → l ≠ [] → s ≤ p → p ≤ e → si p l k c = k + fi p l
  | [], _, _, _, _, _, h, _, _ => absurd rfl h
  | a :: l, s, e, k, c, hc, _, hs, he => by
    simp only [si, fi]
    rw [hc.1, if_pos hs]
    by_cases h : p < s + part a.length
    · rw [if_pos h]; exact si_far p l _ e _ _ hc.2 h
    · rw [if_neg h]
      by_cases hl : l = []
      · subst hl; simp [si]
      · rw [if_neg hl, si_fi p l _ e _ _ hc.2 hl (by omega) he]; omega
def vaL (a b : List UInt8) (p : Nat) : Nat := if b.length ≤ a.length then plA b + (p - plA a) * 2 ^ (a.length - b.length) else plA b + (p - plA a) / 2 ^ (b.length - a.length)
theorem part_pow {l s : Nat} (h : l + s ≤ 40) : part (l + s) * 2 ^ s = part l := by unfold part; rw [← Nat.pow_add]; congr 1; omega
theorem vaL_le (a b : List UInt8) (p : Nat) (ha : a.length ≤ 40) (hb : b.length ≤ 40) (h1 : plA a ≤ p) (h2 : p ≤ plA a + part a.length) : vaL a b p ≤ 1099511627776 ∧ (b.length ≤ a.length → (p - plA a) * 2 ^ (a.length - b.length) ≤ 1099511627776) := by
  have hB : plA b + part b.length ≤ 1099511627776 := plI_le b b.length hb
  unfold vaL
  split
  · rename_i h
    have e := part_pow (l := b.length) (s := a.length - b.length) (by omega)
    rw [show b.length + (a.length - b.length) = a.length by omega] at e
    have : (p - plA a) * 2 ^ (a.length - b.length) ≤ part a.length * 2 ^ (a.length - b.length) := Nat.mul_le_mul_right _ (by omega)
    constructor
    · omega
    · intro _; omega
  · rename_i h
    have e := part_pow (l := a.length) (s := b.length - a.length) (by omega)
    rw [show a.length + (b.length - a.length) = b.length by omega] at e
    have : (p - plA a) / 2 ^ (b.length - a.length) ≤ part b.length := by
      rw [← e] at h2
      refine Nat.div_le_of_le_mul ?_
      rw [Nat.mul_comm]; omega
    exact ⟨by omega, fun h' => absurd h' h⟩
def vaF (A B : Tr) (p : Nat) : Nat := vaL ((addrs A []).getD (fi p (addrs A [])) []) ((addrs B []).getD (fi p (addrs A [])) []) p
def frF (V : Nat) : Option (Nat × Nat) := if (halve 40 V 1099511627776).2 ≤ 1024 then some (halve 40 V 1099511627776) else none
theorem goodB_true {n d : Int} (h : goodB n d = true) : ∃ m k : Nat, n = m ∧ d = ((2 ^ k : Nat) : Int) ∧ k ≤ 10 ∧ m ≤ 2 ^ k ∧ (k = 0 ∨ m % 2 = 1) := by
  unfold goodB at h
  simp only [Bool.and_eq_true, decide_eq_true_eq, Bool.or_eq_true, beq_iff_eq] at h
  obtain ⟨⟨⟨⟨h1, h2⟩, h3⟩, h4, h5⟩, h6⟩ := h
  obtain ⟨k, hk, hd⟩ := (isP2_iff _).1 h3
  refine ⟨n.toNat, k, by omega, by omega, hk, by omega, ?_⟩
  rcases h6 with h6 | h6
  · left
    rw [h6] at hd
    rcases Nat.eq_zero_or_pos k with h0 | h0
    · exact h0
    · have := Nat.pow_le_pow_right (show 0 < 2 by omega) h0
      simp at hd; omega
  · right; omega
end Go.Proofs.YtgnepbogadfinaaGreatDoor.N
namespace Go.Proofs.YtgnepbogadfinaaGreatDoor.N
def sp (p : Nat) : Str := fun i => decide (i < 40) && p.testBit (39 - i)
theorem sp_tail (p : Nat) : sp p = scons (p.testBit 39) (sp (2 * p % 1099511627776)) := by
  funext i
  cases i with
  | zero => simp [sp, scons]
  | succ i =>
    simp only [sp, scons]
    by_cases h : i < 39
    · have h1 : i + 1 < 40 := by omega
      have h2 : i < 40 := by omega
      rw [decide_eq_true h1, decide_eq_true h2, Bool.true_and, Bool.true_and, show (1099511627776 : Nat) = 2 ^ 40 from rfl, Nat.testBit_mod_two_pow, decide_eq_true (by omega), Bool.true_and, show 39 - i = (39 - (i + 1)) + 1 by omega, Nat.testBit_succ, show 2 * p / 2 = p by omega]
    · have h1 : ¬ i + 1 < 40 := by omega
      rw [decide_eq_false h1, Bool.false_and]
      by_cases h2 : i < 40
      · have : i = 39 := by omega
        subst this
        rw [decide_eq_true h2, Bool.true_and, show 39 - 39 = 0 from rfl, Nat.testBit_zero]
        simp <;> omega
      · rw [decide_eq_false h2, Bool.false_and]
theorem top_bit (p : Nat) (h : p < 1099511627776) : p.testBit 39 = decide (549755813888 ≤ p) := by
  rw [Nat.testBit_eq_decide_div_mod_eq, show (2 : Nat) ^ 39 = 549755813888 from rfl]
  by_cases h1 : 549755813888 ≤ p
  · rw [decide_eq_true h1]; simp <;> omega
  · rw [decide_eq_false h1]; simp <;> omega
theorem sp_head (b : Bool) (q : Nat) (h : 2 * q < 1099511627776) : scons b (sp (2 * q)) = sp ((if b then 549755813888 else 0) + q) := by
  have hq : q < 549755813888 := by omega
  cases b with
  | true =>
    rw [sp_tail ((if true = true then 549755813888 else 0) + q), top_bit _ (by simp only [if_true]; omega)]
    simp only [if_true]
    rw [decide_eq_true (by omega), show 2 * (549755813888 + q) % 1099511627776 = 2 * q by omega]
  | false =>
    rw [sp_tail ((if false = true then 549755813888 else 0) + q), top_bit _ (by simp only [Bool.false_eq_true, if_false]; omega)]
    simp only [Bool.false_eq_true, if_false]
    rw [decide_eq_false (by omega), show 2 * (0 + q) % 1099511627776 = 2 * q by omega]
def nb : List Bool → Nat
  | [] => 0
  | b :: l => (if b then 2 ^ l.length else 0) + nb l
theorem nb_lt : ∀ v : List Bool, nb v < 2 ^ v.length
  | [] => by simp [nb]
  | b :: l => by
    have := nb_lt l
    simp only [nb, List.length_cons, Nat.pow_succ]
    split <;> omega
theorem sapp_sp : ∀ (v : List Bool) (q : Nat), v.length ≤ 40 → q < part v.length → sapp v (sp (q * 2 ^ v.length)) = sp (nb v * part v.length + q)
  | [], q, _, h => by simp [sapp, nb]
  | b :: l, q, hl, h => by
    simp only [List.length_cons] at hl h
    have hp := part_step (k := l.length) (by omega)
    have hm := part_mul (k := l.length) (by omega)
    have hn := nb_lt l
    have ih := sapp_sp l (2 * q) (by omega) (by omega)
    have e1 : q * 2 ^ (l.length + 1) = 2 * q * 2 ^ l.length := by rw [Nat.pow_succ]; ac_rfl
    simp only [sapp, List.length_cons]
    rw [e1, ih]
    have hle : nb l * part l.length + 2 * q < 1099511627776 := by
      have : nb l * part l.length + part l.length ≤ 2 ^ l.length * part l.length := by
        have := Nat.mul_le_mul_right (part l.length) (show nb l + 1 ≤ 2 ^ l.length by omega)
        rw [Nat.add_mul, Nat.one_mul] at this; exact this
      omega
    have e2 : nb l * part l.length + 2 * q = 2 * (nb l * part (l.length + 1) + q) := by rw [hp, Nat.mul_add]; congr 1; ac_rfl
    rw [e2, sp_head b _ (by omega)]
    congr 1
    simp only [nb]
    rw [Nat.add_mul]
    cases b with
    | true =>
      simp only [if_true]
      have : 2 ^ l.length * part (l.length + 1) = 549755813888 := by
        rw [hp] at hm
        have : 2 ^ l.length * (part (l.length + 1) * 2) = 2 * (2 ^ l.length * part (l.length + 1)) := by ac_rfl
        omega
      omega
    | false => simp
end Go.Proofs.YtgnepbogadfinaaGreatDoor.N
