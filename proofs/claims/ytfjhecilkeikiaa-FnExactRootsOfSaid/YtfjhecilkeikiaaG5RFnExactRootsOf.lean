import Derived.Test.YtfjhecilkeikiaaG1RFnExactRootsOf
import Derived.Test.YtfjhecilkeikiaaG2RFnExactRootsOf
import Derived.Test.YtfjhecilkeikiaaProg
import Derived.Test.YtfjhecilkeikiaaG3RFnExactRootsOf
import Derived.Test.YtfjhecilkeikiaaG4RFnExactRootsOf
import Derived.Deep.LoopGhost
import Derived.StillTailTactics
import Derived.LoopTactic
/- Pairs as values: drop, reduced, plain and their kin. -/
namespace Go.Proofs.Ytfjhecilkeikiaa.N
open Go.RowKit
set_option linter.unusedVariables false
set_option linter.unusedSimpArgs false

theorem Ext.setCell {a b : World} (h : Ext a b) {p : Addr} (hp : a.heap.size ≤ p.block) (u : Value) : Ext a (b.setCell p u) := Below.setCell h hp u
theorem Ext.old {a b : World} (h : Ext a b) {k : Nat} (hk : k < a.heap.size) : b.heap[k]? = a.heap[k]? := h.block k hk
theorem Ext.frozen {a b : World} (h : Ext a b) {p : Addr} (hp : p.block < a.heap.size) : b.frozen? p = a.frozen? p := Below.frozen h hp
/-- A block of two cells, as a store finds it. -/
structure Two (w : World) (g : Nat) (t : TypeId) : Prop where
  at_ : ∃ u v, w.heap[g]? = some (.cells #[u, v] t)
theorem Two.ext {w w' : World} {g t} (h : Two w g t) (hx : Ext w w') : Two w' g t := ⟨let ⟨u, v, e⟩ := h.at_; ⟨u, v, hx.at e⟩⟩
theorem Two.new (w : World) {n : Nat} (u v : Value) (t : TypeId) (h : w.heap.size = n) : Two (w.alloc (.cells #[u, v] t)) n t := ⟨u, v, h ▸ heap_alloc_new w _⟩
theorem Two.facts {w : World} {g t} (h : Two w g t) : ∃ u v, w.cell? ⟨g, 0, none⟩ = some u ∧ w.cell? ⟨g, 1, none⟩ = some v ∧ w.frozen? ⟨g, 0, none⟩ = false ∧ w.frozen? ⟨g, 1, none⟩ = false := by
  obtain ⟨u, v, e⟩ := h.at_
  exact ⟨u, v, (cells_of e).1, (cells_of e).2, by simp [World.frozen?, e], by simp [World.frozen?, e]⟩
/-- The two cells of a struct set. -/
def set2 (w : World) (g : Nat) (a b : Value) : World := (w.setCell ⟨g, 0, none⟩ a).setCell ⟨g, 1, none⟩ b
theorem set2_heap {w : World} {g t} (h : Two w g t) (a b : Value) : (set2 w g a b).heap[g]? = some (.cells #[a, b] t) := by
  obtain ⟨u, v, e⟩ := h.at_
  have h1 := heap_setCell_same w g 0 #[u, v] t a e
  have h2 := heap_setCell_same (w.setCell ⟨g, 0, none⟩ a) g 1 _ t b h1
  exact h2
theorem set2_other {w : World} {g k : Nat} (hk : k ≠ g) (a b : Value) : (set2 w g a b).heap[k]? = w.heap[k]? := by
  unfold set2
  rw [Below.heap_setCell _ _ _ _ (by exact hk), Below.heap_setCell _ _ _ _ (by exact hk)]
theorem set2_far {w : World} {g : Nat} {q : Addr} {x : Value} (hq : q.block ≠ g) (a b : Value) (h : w.cell? q = some x) : (set2 w g a b).cell? q = some x := (World.cell?_of_block (set2_other hq a b)).trans h
theorem Ext.set2 {a w : World} (h : Ext a w) {g : Nat} (hg : a.heap.size ≤ g) (u v : Value) : Ext a (N.set2 w g u v) := (h.setCell (p := ⟨g, 0, none⟩) hg u).setCell (p := ⟨g, 1, none⟩) hg v
theorem Rep.set2 {w : World} {g t} (h : Two w g t) (ht : t ≠ 126) (a b : Value) : ∀ {T p}, Rep w T p → Rep (N.set2 w g a b) T p
  | .leaf, _, hr => hr
  | .node _ _, _, ⟨c, pl, pr, e, h0, hl, hr⟩ => ⟨c, pl, pr, e, by
      rw [set2_other (fun e2 => by
        obtain ⟨u, v, e3⟩ := h.at_
        rw [← e2, h0] at e3
        injection e3 with e3
        injection e3 with _ e4
        exact ht e4.symm)]; exact h0, Rep.set2 h ht a b hl, Rep.set2 h ht a b hr⟩
theorem two_cells_set {w0 W : World} {b g : Nat} {u0 u1 : Value} (a v : Value) (c0 : W.cell? ⟨b, 0, none⟩ = some u0) (c1 : W.cell? ⟨b, 1, none⟩ = some u1) (hne : b ≠ g) (hx : Ext w0 W) (hg : w0.heap.size ≤ g) :
    (set2 W g a v).cell? ⟨b, 0, none⟩ = some u0 ∧ (set2 W g a v).cell? ⟨b, 1, none⟩ = some u1 ∧ Ext w0 (set2 W g a v) :=
  ⟨(World.cell?_of_block (set2_other hne a v)).trans c0, (World.cell?_of_block (set2_other hne a v)).trans c1, hx.set2 hg a v⟩
/-- A tree stays while cells of a block beyond are set. -/
theorem Rep.set {w : World} {q : Addr} {u : Value} (hq : ∀ l r, w.heap[q.block]? ≠ some (.cells #[l, r] 126)) : ∀ {T p}, Rep w T p → Rep (w.setCell q u) T p
  | .leaf, _, hr => hr
  | .node _ _, _, ⟨b, pl, pr, e, h0, hl, hr⟩ => ⟨b, pl, pr, e, by
      rw [Below.heap_setCell _ _ _ _ (fun e2 => hq _ _ (e2 ▸ h0))]; exact h0, Rep.set hq hl, Rep.set hq hr⟩
/-- A pair that is given back. -/
def GivesP (w : World) (A B : Tr) (e : Ending) (w' : World) : Prop := ∃ pa pb, e = .returned (.agg #[.pointer pa, .pointer pb]) ∧ Rep w' A pa ∧ Rep w' B pb ∧ Ext w w'

set_option maxHeartbeats 3200000 in
set_option maxRecDepth 100000 in
theorem drop_calls (A B : Tr) (k : Nat) (hA : A.carets < 10000000) (hB : B.carets < 10000000) (kA : k ∈ expo A 0) (kB : k ∈ expo B 0) (pa pb : Option Addr) (w : World) (ra : Rep w A pa) (rb : Rep w B pb) :
    Calls Try.prog 86 #[.agg #[.pointer pa, .pointer pb], .int .i64 k] w (GivesP w (without A k) (without B k)) := by
  have X1 := Lib.hid ((Ext.refl w).alloc (.cells #[.pointer pa, .pointer pb] 48))
  have X2 := Lib.hid (X1.out.alloc (.cells #[.pointer none, .pointer none] 48))
  have C1 := fun W (hx : Ext w W) => without_calls A k pa W (by omega) kA (ra.ext hx)
  have C2 := fun W (hx : Ext w W) => without_calls B k pb W (by omega) kB (rb.ext hx)
  have c0 : ((w.alloc (.cells #[.pointer pa, .pointer pb] 48)).alloc (.cells #[.pointer none, .pointer none] 48)).cell? ⟨w.heap.size, 0, none⟩ = some (.pointer pa) := by go_simp
  have c1 : ((w.alloc (.cells #[.pointer pa, .pointer pb] 48)).alloc (.cells #[.pointer none, .pointer none] 48)).cell? ⟨w.heap.size, 1, none⟩ = some (.pointer pb) := by go_simp
  have t0 : Two ((w.alloc (.cells #[.pointer pa, .pointer pb] 48)).alloc (.cells #[.pointer none, .pointer none] 48)) (w.heap.size + 1) 48 := ⟨_, _, by
    have := heap_alloc_new (w.alloc (.cells #[.pointer pa, .pointer pb] 48)) (.cells #[.pointer none, .pointer none] 48)
    simpa using this⟩
  clear kA kB ra rb hA hB
  go_enter Try.func86, Try.ntmps86
  go_wp2_with fail
  generalize (w.alloc (.cells #[.pointer pa, .pointer pb] 48)).alloc (.cells #[.pointer none, .pointer none] 48) = W at *
  go_region_held3 (fun w' => w'.cell? ⟨w.heap.size, 0, none⟩ = some (.pointer pa) ∧ w'.cell? ⟨w.heap.size, 1, none⟩ = some (.pointer pb) ∧ Ext w w')
    (first | exact ⟨c0, c1, X2.out.drew⟩ | exact two_cells_set _ _ (x3.cell c0) (x3.cell c1) (by omega) (X2.out.trans x3) (by omega) | exact ⟨x3.cell c0, x3.cell c1, X2.out.trans x3⟩ | exact ⟨x1.cell c0, x1.cell c1, X2.out.trans x1⟩ | fail)
    (first
      | (go_at_call_of 112 (Value.pointer pa); refine (C1 _ (X2.out.trans (Ext.refl W).drew)).mono ?_; rintro e w1 ⟨p1, rfl, r1, hx1⟩; have x1 := (Ext.refl W).drew.trans hx1)
      | (go_at_call_of 112 (Value.pointer pb); refine (C2 _ (X2.out.trans x1)).mono ?_; rintro e w3 ⟨p3, rfl, r3, hx3⟩; have x3 := x1.trans hx3; obtain ⟨u, v, k0, k1, f0, f1⟩ := (t0.ext x3).facts)
      | fail)
  have T3 := t0.ext x3
  have HH := set2_heap T3 (.pointer p1) (.pointer p3)
  have R1 := Rep.set2 T3 (by decide) (.pointer p1) (.pointer p3) (r1.ext hx3)
  have R3 := Rep.set2 T3 (by decide) (.pointer p1) (.pointer p3) r3
  have XX := (X2.out.trans x3).set2 (g := w.heap.size + 1) (by omega) (.pointer p1) (.pointer p3)
  change Exit.then _ _ _ _ (N.set2 w3 (w.heap.size + 1) (.pointer p1) (.pointer p3))
  obtain ⟨hc0, hc1⟩ := cells_of HH
  generalize N.set2 w3 (w.heap.size + 1) (.pointer p1) (.pointer p3) = W3 at *
  go_wp2_with fail
  exact bodyPost_ret (v := .agg #[.pointer p1, .pointer p3]) (by simp [results, Try.results86, go_sem, hc0, hc1]) rfl ⟨p1, p3, rfl, R1, R3, XX⟩

set_option maxHeartbeats 3200000 in
set_option maxRecDepth 100000 in
theorem reduced_calls (A B : Tr) (hA : A.carets < 10000000) (hB : B.carets < 10000000) (pa pb : Option Addr) (w : World) (ra : Rep w A pa) (rb : Rep w B pb) :
    Calls Try.prog 53 #[.agg #[.pointer pa, .pointer pb]] w (GivesP w (red (A, B)).1 (red (A, B)).2) := by
  have X1 := Lib.hid ((Ext.refl w).alloc (.cells #[.pointer pa, .pointer pb] 48))
  have X2 := Lib.hid (X1.out.alloc (.cells #[.pointer none, .pointer none] 48))
  have B0 : Hid (((w.alloc (.cells #[.pointer pa, .pointer pb] 48)).alloc (.cells #[.pointer none, .pointer none] 48)).heap[w.heap.size]? = some (.cells #[.pointer pa, .pointer pb] 48)) := ((Ext.refl _).alloc _).at (heap_alloc_new w _)
  have t0 : Hid (Two ((w.alloc (.cells #[.pointer pa, .pointer pb] 48)).alloc (.cells #[.pointer none, .pointer none] 48)) (w.heap.size + 1) 48) := ⟨_, _, by
    have := heap_alloc_new (w.alloc (.cells #[.pointer pa, .pointer pb] 48)) (.cells #[.pointer none, .pointer none] 48)
    simpa using this⟩
  have RA := Lib.hid (ra.ext X2.out)
  have RB := Lib.hid (rb.ext X2.out)
  have LE := Lib.hid (And.intro hA hB)
  clear hA hB ra rb
  go_enter Try.func53, Try.ntmps53
  go_wp2_with fail
  generalize (w.alloc (.cells #[.pointer pa, .pointer pb] 48)).alloc (.cells #[.pointer none, .pointer none] 48) = W at *
  go_loopg [3] A.carets (fun f v3 wr => ∃ (C D : Tr) (qa qb : Option Addr), Hid (C.carets = f) ∧ Hid (C.carets < 10000000 ∧ D.carets < 10000000) ∧ Hid (red (C, D) = red (A, B)) ∧ Hid (wr.heap[w.heap.size]? = some (.cells #[.pointer qa, .pointer qb] 48)) ∧ Hid (Two wr (w.heap.size + 1) 48) ∧ Hid (Rep wr C qa) ∧ Hid (Rep wr D qb) ∧ Hid (Ext w wr))
  case atStart => exact ⟨A, B, pa, pb, rfl, LE.out, rfl, B0.out, t0.out, RA.out, RB.out, X2.out⟩
  case round =>
    obtain ⟨C, D, qa, qb, HF, HL, HR, HB, HT, HC, HD, HX⟩ := hrel
    obtain ⟨c0, c1⟩ := cells_of HB.out
    have CB := both_calls C D HL.out.1 HL.out.2 qa qb wr HC.out HD.out
    cases hb : bothT C D with
    | nil =>
      rw [hb] at CB
      have CB := Lib.hid CB
      have RN : Hid (red (A, B) = (C, D)) := by show _ = _; rw [← HR.out, red_nil hb]
      clear hb
      go_wp2_with fail
      refine CB.out.mono ?_
      rintro e w1 ⟨v1, rfl, o1, x1⟩
      obtain ⟨A1, n1, e1, _⟩ := o1.reads
      subst e1
      have X1 := Lib.hid x1
      obtain ⟨d0, d1⟩ := cells_of (x1.at HB.out)
      obtain ⟨u, v, k0, k1, f0, f1⟩ := (HT.out.ext x1).facts
      clear o1 x1 c0 c1
      go_wp2_with fail
      have T3 := HT.out.ext X1.out
      have HH := set2_heap T3 (.pointer qa) (.pointer qb)
      have R1 := Rep.set2 T3 (by decide) (.pointer qa) (.pointer qb) (HC.out.ext X1.out)
      have R3 := Rep.set2 T3 (by decide) (.pointer qa) (.pointer qb) (HD.out.ext X1.out)
      have XX := (HX.out.trans X1.out).set2 (g := w.heap.size + 1) (by omega) (.pointer qa) (.pointer qb)
      change bodyPost _ _ _ _ _ (N.set2 w1 (w.heap.size + 1) (.pointer qa) (.pointer qb))
      obtain ⟨hc0, hc1⟩ := cells_of HH
      generalize N.set2 w1 (w.heap.size + 1) (.pointer qa) (.pointer qb) = W3 at *
      refine bodyPost_ret (v := .agg #[.pointer qa, .pointer qb]) (by simp [results, Try.results53, go_sem, hc0, hc1]) rfl ?_
      rw [RN.out]
      exact ⟨qa, qb, rfl, R1, R3, XX⟩
    | cons k l =>
      rw [hb] at CB
      have CB := Lib.hid CB
      have MB := Lib.hid (mem_both (A := C) (B := D) (k := k) (by rw [hb]; exact List.mem_cons_self))
      have RN : Hid (red (without C k, without D k) = red (A, B)) := by show _ = _; rw [← HR.out]; exact (red_cons (p := (C, D)) hb).symm
      have LC := Lib.hid (And.intro (without_carets C k MB.out.1) (without_carets D k MB.out.2))
      clear hb
      go_wp2_with fail
      refine CB.out.mono ?_
      rintro e w1 ⟨v1, rfl, o1, x1⟩
      obtain ⟨A1, n1, e1, _, rd⟩ := o1.reads
      subst e1
      rw [nats_length] at *
      obtain ⟨ad, hA1, ca⟩ := rd (by simp)
      subst hA1
      have c2 : w1.cell? ad = some (.int .i64 k) := ca 0 _ (nats_get (k :: l) 0 (by simp))
      have X1 := Lib.hid x1
      obtain ⟨d0, d1⟩ := cells_of (x1.at HB.out)
      have CD := fun W' (hx : Ext w1 W') => drop_calls C D k HL.out.1 HL.out.2 MB.out.1 MB.out.2 qa qb W' (HC.out.ext (x1.trans hx)) (HD.out.ext (x1.trans hx))
      have hlen : 0 < (k :: l).length := by simp
      clear o1 x1 c0 c1 rd ca
      generalize (k :: l).length = m at *
      have t1 : ((m : Int) == 0) = false := by rw [beq_eq_false_iff_ne]; omega
      have t2 : (0 : Int) < m := by omega
      go_wp2_with fail
      go_still_tail 4, (by kernel_rfl)
      go_wp2_with fail
      refine (CD _ (Ext.refl _).drew).mono ?_
      rintro e w2 ⟨p1, p2, rfl, r1, r2, hx2⟩
      have x2 : Ext w1 w2 := (Ext.refl _).drew.trans hx2
      have X2 := Lib.hid (X1.out.trans x2)
      have TB : Hid (Two w2 w.heap.size 48) := ⟨_, _, X2.out.at HB.out⟩
      obtain ⟨u, v, k0, k1, f0, f1⟩ := TB.out.facts
      clear CD hx2 x2
      go_wp2_with fail
      have R1 := Lib.hid (Rep.set2 TB.out (by decide) (.pointer p1) (.pointer p2) r1)
      have R2 := Lib.hid (Rep.set2 TB.out (by decide) (.pointer p1) (.pointer p2) r2)
      have XX := Lib.hid ((HX.out.trans X2.out).set2 (g := w.heap.size) (Nat.le_refl _) (.pointer p1) (.pointer p2))
      have HH := Lib.hid (set2_heap TB.out (.pointer p1) (.pointer p2))
      have T3 : Hid (Two (N.set2 w2 w.heap.size (.pointer p1) (.pointer p2)) (w.heap.size + 1) 48) := by
        obtain ⟨u, v, e⟩ := HT.out.ext X2.out
        exact ⟨u, v, by rw [set2_other (by omega)]; exact e⟩
      clear r1 r2 k0 k1 f0 f1
      go_roundg (without C k).carets
      · exact ⟨without C k, without D k, p1, p2, rfl, ⟨by have := LC.out; have := HL.out; omega, by have := LC.out; have := HL.out; omega⟩, RN.out, HH.out, T3.out, R1.out, R2.out, XX.out⟩
      · have := LC.out
        have := HF.out
        omega
end Go.Proofs.Ytfjhecilkeikiaa.N
/- The reference's functions on the texts of trees. -/
namespace Go.Proofs.Ytfjhecilkeikiaa.N
open Go.RowKit
set_option linter.unusedVariables false
set_option linter.unusedSimpArgs false

theorem S_at (l : List UInt8) (i : Nat) (c : UInt8) (h : l[i]? = some c) : i < (S l).size ∧ ∀ h : i < (S l).size, (((S l)[i]'h).toNat : Int) = (c.toNat : Int) := by
  obtain ⟨h1, h2⟩ := List.getElem?_eq_some_iff.1 h
  exact ⟨h1, fun _ => by rw [← h2]; rfl⟩
theorem s_at (s : ByteArray) (i : Nat) (c : UInt8) (h : s.toList[i]? = some c) : i < s.size ∧ ∀ h : i < s.size, ((s[i]'h).toNat : Int) = (c.toNat : Int) := by
  obtain ⟨l, rfl⟩ : ∃ l, s = S l := ⟨_, S_of s⟩
  rw [S_toList] at h
  exact S_at l i c h
theorem s_len (s : ByteArray) : s.toList.length = s.size := by
  have := congrArg ByteArray.size (S_of s); rw [S_size] at this; exact this.symm
theorem drop_cons {α : Type} {l : List α} {i : Nat} {c : α} {r : List α} (h : l.drop i = c :: r) : l[i]? = some c ∧ l.drop (i + 1) = r ∧ i < l.length := by
  have hi : i < l.length := by
    apply Nat.lt_of_not_le; intro hh; rw [List.drop_eq_nil_of_le hh] at h; cases h
  rw [List.drop_eq_getElem_cons hi] at h
  injection h with h1 h2
  exact ⟨by rw [List.getElem?_eq_getElem hi, h1], h2, hi⟩

def endAt (N : Nat) : Option (Tr × List UInt8) → Int
  | none => -1
  | some (_, r) => (N : Int) - r.length
/-- What is left behind a tree is a tail of the text. -/
theorem rd_tail {n : Nat} {l : List UInt8} {i : Nat} {T : Tr} {r : List UInt8} (h : rd n (l.drop i) = some (T, r)) (hi : i ≤ l.length) : ∃ j, i < j ∧ j ≤ l.length ∧ r = l.drop j ∧ (l.length : Int) - r.length = j ∧ j = i + T.txt.length := by
  obtain ⟨e, _⟩ := rd_some h
  have hl := congrArg List.length e
  rw [List.length_drop, List.length_append] at hl
  have hp : 0 < T.txt.length := by rw [T.txt_length]; omega
  refine ⟨i + T.txt.length, by omega, by omega, ?_, by omega, rfl⟩
  rw [← List.drop_drop, e, List.drop_left]

set_option maxHeartbeats 1600000 in
set_option maxRecDepth 100000 in
theorem trEnd_calls (s : ByteArray) (hs : s.size < 1000000) (n : Nat) : ∀ (i d : Nat) (w : World), d + n = 61 → i ≤ s.size →
    Calls Try.prog 104 #[.string s, .int .i64 i, .int .i64 d] w fun e w' => e = .returned (.int .i64 (endAt s.size (rd n (s.toList.drop i)))) ∧ w = w' := by
  induction n with
  | zero =>
    intro i d w hd hi
    obtain rfl : d = 61 := by omega
    by_cases h : i < s.size
    · have h1 : (i : Int) < s.size := by omega
      clear hd
      go_enter Try.func104, Try.ntmps104
      go_wp2_with fail
      go_ret
      exact ⟨rfl, rfl⟩
    · have h1 : (s.size : Int) ≤ i := by omega
      clear hd
      go_enter Try.func104, Try.ntmps104
      go_wp2_with fail
      go_ret
      exact ⟨rfl, rfl⟩
  | succ n ih =>
    intro i d w hd hi
    cases hl : s.toList.drop i with
    | nil =>
      have h1 : (s.size : Int) ≤ i := by
        have := congrArg List.length hl
        rw [List.length_drop, s_len] at this
        simp at this; omega
      clear hd hl ih
      go_enter Try.func104, Try.ntmps104
      go_wp2_with fail
      go_ret
      exact ⟨rfl, rfl⟩
    | cons c l =>
      obtain ⟨g1, g2, g3⟩ := drop_cons hl
      rw [s_len] at g3
      obtain ⟨x1, x2⟩ := s_at s i c g1
      have h1 : (i : Int) < s.size := by omega
      have h2 : (d : Int) ≤ 60 := by omega
      have h0 : (0 : Int) ≤ i := by omega
      by_cases c1 : c = 46
      · have t1 : ((c.toNat : Int) == 46) = true := by subst c1; rfl
        have E : Hid (endAt s.size (rd (n + 1) (c :: l)) = (i : Int) + 1) := by
          subst c1
          have := congrArg List.length g2
          rw [List.length_drop, s_len] at this
          simp [Hid, rd, endAt]; omega
        clear hd hl g1 g2 ih
        go_enter Try.func104, Try.ntmps104
        go_wp2_with fail
        go_ret
        exact ⟨by rw [E.out]; rfl, rfl⟩
      · have t1 : ((c.toNat : Int) == 46) = false := byte_ne c1
        by_cases c2 : c = 40
        · have t2 : ((c.toNat : Int) != 40) = false := by subst c2; rfl
          have hR : Hid (rd (n + 1) (c :: l) = match rd n l with
              | none => none
              | some (a, l1) => match rd n l1 with
                | some (b, 41 :: l3) => some (.node a b, l3)
                | _ => none) := by subst c2; rfl
          have c1 := ih (i + 1) (d + 1) w (by omega) (by omega)
          rw [g2] at c1
          have C1 := Lib.hid c1
          have G2 := Lib.hid g2
          have HD := Lib.hid hd
          have d0 : 0 ≤ (d : Int) := by omega
          have IH := Lib.hid ih
          clear hd hl g1 g2 c1 ih
          go_enter Try.func104, Try.ntmps104
          go_wp2_with fail
          refine (C1.out).mono ?_
          cases ho : rd n l with
          | none =>
            have HO := Lib.hid ho
            clear ho
            rintro e w1 ⟨rfl, rfl⟩
            simp only [endAt]
            go_wp2_with fail
            go_ret
            refine ⟨?_, rfl⟩
            rw [hR.out, HO.out]
            rfl
          | some ab =>
            obtain ⟨A, l1⟩ := ab
            obtain ⟨j, j1, j2, j3, j4, j5⟩ := rd_tail (l := s.toList) (i := i + 1) (by rw [G2.out]; exact ho) (by rw [s_len]; omega)
            rw [s_len] at j2 j4
            have HO := Lib.hid ho
            have J3 := Lib.hid j3
            have E1 : endAt s.size (some (A, l1)) = (j : Int) := j4
            clear ho j3 j4 j5
            rw [E1]
            clear E1
            rintro e w1 ⟨rfl, rfl⟩
            have j0 : (0 : Int) ≤ j := by omega
            have C2 := Lib.hid (IH.out j (d + 1) w (by have := HD.out; omega) j2)
            rw [← J3.out] at C2
            go_wp2_with fail
            refine (C2.out).mono ?_
            cases ho : rd n l1 with
            | none =>
              have HO2 := Lib.hid ho
              clear ho
              rintro e w2 ⟨rfl, rfl⟩
              simp only [endAt]
              go_wp2_with fail
              go_ret
              refine ⟨?_, rfl⟩
              rw [hR.out, HO.out]
              simp only [HO2.out]
              rfl
            | some ab =>
              obtain ⟨B, l2⟩ := ab
              obtain ⟨m, m1, m2, m3, m4, m5⟩ := rd_tail (l := s.toList) (i := j) (by rw [← J3.out]; exact ho) (by rw [s_len]; omega)
              rw [s_len] at m2 m4
              have HO2 := Lib.hid ho
              have E2 : endAt s.size (some (B, l2)) = (m : Int) := m4
              rw [E2]
              clear E2 ho m5
              rintro e w2 ⟨rfl, rfl⟩
              have m0 : (0 : Int) ≤ m := by omega
              cases l2 with
              | nil =>
                have h3 : (s.size : Int) ≤ m := by simp at m4; omega
                clear m3 m4
                go_wp2_with fail
                go_ret
                refine ⟨?_, rfl⟩
                rw [hR.out, HO.out]
                simp only [HO2.out]
                rfl
              | cons q l3 =>
                obtain ⟨q1, q2, q3⟩ := drop_cons m3.symm
                rw [s_len] at q3
                obtain ⟨y1, y2⟩ := s_at s m q q1
                have h3 : (m : Int) < s.size := by omega
                by_cases c3 : q = 41
                · have t3 : ((q.toNat : Int) != 41) = false := by subst c3; rfl
                  have E : Hid (endAt s.size (some (Tr.node A B, l3)) = (m : Int) + 1) := by
                    have := congrArg List.length q2
                    rw [List.length_drop, s_len] at this
                    simp only [Hid, endAt]; omega
                  clear m3 m4 q1 q2
                  go_wp2_with fail
                  go_ret
                  refine ⟨?_, rfl⟩
                  rw [hR.out, HO.out]
                  simp only [HO2.out]
                  subst c3
                  simp only
                  rw [E.out]
                  rfl
                · have t3 : ((q.toNat : Int) != 41) = true := byte_bne c3
                  clear m3 m4 q1 q2
                  go_wp2_with fail
                  go_ret
                  refine ⟨?_, rfl⟩
                  rw [hR.out, HO.out]
                  simp only [HO2.out]
                  have : (match (some (B, q :: l3) : Option (Tr × List UInt8)) with | some (b, 41 :: l3) => some (Tr.node A b, l3) | _ => none) = none := by
                    split
                    · rename_i h; simp at h; exact absurd h.2.1 c3
                    · rfl
                  rw [this]
                  rfl
        · have t2 : ((c.toNat : Int) != 40) = true := byte_bne c2
          have E : Hid (rd (n + 1) (c :: l) = none) := by simp [Hid, rd, c1, c2]
          clear hd hl g1 g2 ih
          go_enter Try.func104, Try.ntmps104
          go_wp2_with fail
          go_ret
          exact ⟨by rw [E.out]; rfl, rfl⟩

def cnt (l : List UInt8) : Nat := l.countP (· == 40)
theorem cnt_txt : ∀ T : Tr, cnt T.txt = T.carets
  | .leaf => rfl
  | .node l r => by
    have h1 := cnt_txt l; have h2 := cnt_txt r
    simp only [cnt] at h1 h2
    simp [cnt, Tr.txt, Tr.carets, List.countP_cons, List.countP_append, h1, h2]; omega
theorem cnt_snoc (l : List UInt8) (c : UInt8) : cnt (l ++ [c]) = cnt l + if c = 40 then 1 else 0 := by
  simp [cnt, List.countP_append, List.countP_cons]
theorem cnt_le (l : List UInt8) : cnt l ≤ l.length := List.countP_le_length
theorem take_snoc (s : ByteArray) (k : Nat) (c : UInt8) (h : s.toList[k]? = some c) : s.toList.take (k + 1) = s.toList.take k ++ [c] := by
  rw [List.take_add_one, h]; rfl
theorem byte_at (s : ByteArray) (k : Nat) (h : k < s.size) : ∃ c, s.toList[k]? = some c := ⟨_, List.getElem?_eq_getElem (by rw [s_len]; exact h)⟩

set_option maxHeartbeats 1600000 in
theorem trCarets_calls (s : ByteArray) (hs : s.size < 1000000) (w : World) :
    Calls Try.prog 75 #[.string s] w fun e w' => e = .returned (.int .i64 (cnt s.toList)) ∧ w = w' := by
  go_enter Try.func75, Try.ntmps75
  go_wp2
  go_loop [3, 4] (fun n i => ∃ k : Nat, k ≤ s.size ∧ i = .int .i64 k ∧ n = .int .i64 (cnt (s.toList.take k))) (fun _ i => s.size - (intOf i).toNat)
  case atStart => exact ⟨0, Nat.zero_le _, rfl, rfl⟩
  case round =>
    obtain ⟨k, hk, rfl, rfl⟩ := hrel
    have b1 := cnt_le (s.toList.take k)
    have b2 : (s.toList.take k).length ≤ k := List.length_take_le _ _
    have b3 : (0 : Int) ≤ cnt (s.toList.take k) ∧ (cnt (s.toList.take k) : Int) ≤ k := by omega
    clear b1 b2
    by_cases hlt : k < s.size
    · obtain ⟨c, hc⟩ := byte_at s k hlt
      obtain ⟨x1, x2⟩ := s_at s k c hc
      have h1 : (k : Int) < s.size := by omega
      have h0 : (0 : Int) ≤ k := by omega
      have E := Lib.hid (show cnt (s.toList.take (k + 1)) = cnt (s.toList.take k) + if c = 40 then 1 else 0 from by rw [take_snoc s k c hc, cnt_snoc])
      clear hc
      by_cases c1 : c = 40
      · have t1 : ((c.toNat : Int) == 40) = true := by subst c1; rfl
        go_wp2
        go_round
        case rel => exact ⟨k + 1, by omega, by go_num, by rw [E.out, if_pos c1]; go_num⟩
        case measure => simp [intOf]; omega
      · have t1 : ((c.toNat : Int) == 40) = false := byte_ne c1
        go_wp2
        go_round
        case rel => exact ⟨k + 1, by omega, by go_num, by rw [E.out, if_neg c1]; go_num⟩
        case measure => simp [intOf]; omega
    · have h1 : (s.size : Int) ≤ k := by omega
      have E := Lib.hid (show s.toList.take k = s.toList from List.take_of_length_le (by rw [s_len]; omega))
      go_wp2
      go_ret
      exact ⟨by rw [E.out]; rfl, rfl⟩

theorem trIs_yes (T : Tr) (hT : T.carets ≤ 8) (w : World) :
    Calls Try.prog 74 #[.string (tx T)] w fun e w' => e = .returned (.bool true) ∧ w = w' := by
  have z : (tx T).size = 3 * T.carets + 1 := T.txt_length
  have hz : ((tx T).size : Int) ≤ 33 := by omega
  have C1 := Lib.hid (trCarets_calls (tx T) (by omega) w)
  have C2 := Lib.hid (trEnd_calls (tx T) (by omega) 61 0 0 w rfl (Nat.zero_le _))
  have E1 : Hid (cnt (tx T).toList = T.carets) := by rw [tx, S_toList]; exact cnt_txt T
  have E2 : Hid (endAt (tx T).size (rd 61 ((tx T).toList.drop 0)) = ((tx T).size : Int)) := by
    rw [tx, S_toList, List.drop_zero, rd_txt' T 61 (by have := T.depth_le; omega)]
    simp [Hid, endAt]
  have hc : (T.carets : Int) ≤ 8 := by omega
  clear z hT
  go_enter Try.func74, Try.ntmps74
  go_wp2_with fail
  refine C1.out.mono ?_
  rintro e w1 ⟨rfl, rfl⟩
  rw [E1.out]
  go_wp2_with fail
  refine C2.out.mono ?_
  rintro e w1 ⟨rfl, rfl⟩
  rw [E2.out]
  go_wp2_with fail
  go_ret
  exact ⟨by simp, rfl⟩

theorem trIs_no (s : ByteArray) (hT : ¬ ∃ T, s = tx T ∧ T.carets ≤ 8) (w : World) :
    Calls Try.prog 74 #[.string s] w fun e w' => e = .returned (.bool false) ∧ w = w' := by
  by_cases z : s.size ≤ 33
  · have hz : (s.size : Int) ≤ 33 := by omega
    have C1 := Lib.hid (trCarets_calls s (by omega) w)
    have C2 := Lib.hid (trEnd_calls s (by omega) 61 0 0 w rfl (Nat.zero_le _))
    by_cases hc : cnt s.toList ≤ 8
    · have hc' : (cnt s.toList : Int) ≤ 8 := by omega
      have E2 : (endAt s.size (rd 61 (s.toList.drop 0)) == (s.size : Int)) = false := by
        rw [beq_eq_false_iff_ne, List.drop_zero]
        cases hr : rd 61 s.toList with
        | none => simp only [endAt]; omega
        | some x =>
          obtain ⟨T, r⟩ := x
          obtain ⟨e1, e2⟩ := rd_some hr
          simp only [endAt]
          intro h
          have hr0 : r = [] := List.eq_nil_of_length_eq_zero (by omega)
          subst hr0
          rw [List.append_nil] at e1
          refine hT ⟨T, by rw [S_of s, e1]; rfl, ?_⟩
          rw [e1, cnt_txt] at hc
          exact hc
      generalize endAt s.size (rd 61 (s.toList.drop 0)) = E at *
      have h0 : (0 : Int) ≤ cnt s.toList := by omega
      clear hc z hT
      go_enter Try.func74, Try.ntmps74
      go_wp2_with fail
      refine C1.out.mono ?_
      rintro e w1 ⟨rfl, rfl⟩
      go_wp2_with fail
      refine C2.out.mono ?_
      rintro e w1 ⟨rfl, rfl⟩
      go_wp2_with fail
      go_ret
      exact ⟨rfl, rfl⟩
    · have hc' : (8 : Int) < (cnt s.toList : Int) := by omega
      clear hc z hT
      go_enter Try.func74, Try.ntmps74
      go_wp2_with fail
      refine C1.out.mono ?_
      rintro e w1 ⟨rfl, rfl⟩
      go_wp2_with fail
      go_ret
      exact ⟨rfl, rfl⟩
  · have hz : (33 : Int) < s.size := by omega
    clear z hT
    go_enter Try.func74, Try.ntmps74
    go_wp2_with fail
    go_ret
    exact ⟨rfl, rfl⟩

theorem trOf_calls (a b : ByteArray) (ha : a.size ≤ 3000000000) (hb : b.size ≤ 3000000000) (w : World) :
    Calls Try.prog 65 #[.string a, .string b] w fun e w' => e = .returned (.string (((⟨#[40]⟩ ++ a) ++ b) ++ ⟨#[41]⟩)) ∧ w = w' := by
  go_enter Try.func65, Try.ntmps65
  go_wp2
  go_ret
  exact ⟨rfl, rfl⟩
theorem tx_size (T : Tr) : (tx T).size = 3 * T.carets + 1 := T.txt_length
theorem trOf_tx (l r : Tr) (hl : l.carets ≤ 900000000) (hr : r.carets ≤ 900000000) (w : World) :
    Calls Try.prog 65 #[.string (tx l), .string (tx r)] w fun e w' => e = .returned (.string (tx (.node l r))) ∧ w = w' := by
  refine (trOf_calls (tx l) (tx r) (by rw [tx_size]; omega) (by rw [tx_size]; omega) w).mono ?_
  rintro e w' ⟨rfl, rfl⟩
  exact ⟨by rw [tx_node], rfl⟩

theorem trLeaf_leaf (w : World) : Calls Try.prog 105 #[.string (tx .leaf)] w fun e w' => e = .returned (.bool true) ∧ w = w' := by
  have h : ((tx .leaf).toList == [46]) = true := by rw [tx, S_toList]; rfl
  generalize tx .leaf = s at *
  go_enter Try.func105, Try.ntmps105
  go_wp2
  go_ret
  exact ⟨rfl, rfl⟩
theorem trLeaf_node (l r : Tr) (w : World) : Calls Try.prog 105 #[.string (tx (.node l r))] w fun e w' => e = .returned (.bool false) ∧ w = w' := by
  have h : ((tx (.node l r)).toList == [46]) = false := by rw [tx, S_toList]; simp [Tr.txt]
  generalize tx (.node l r) = s at *
  go_enter Try.func105, Try.ntmps105
  go_wp2
  go_ret
  exact ⟨rfl, rfl⟩

theorem trSides_calls (l r : Tr) (hd : (Tr.node l r).depth ≤ 60) (hc : (Tr.node l r).carets ≤ 300000) (w : World) :
    Calls Try.prog 106 #[.string (tx (.node l r))] w fun e w' => e = .returned (.tuple #[.string (tx l), .string (tx r)]) ∧ ∃ n, w' = w.drewN n := by
  have zl := tx_size l
  have zr := tx_size r
  have zs := tx_size (.node l r)
  have hcc : (Tr.node l r).carets = 1 + l.carets + r.carets := rfl
  have C := Lib.hid (trEnd_calls (tx (.node l r)) (by omega) 61 1 0 w rfl (by omega))
  have X1 : Hid ((tx (.node l r)).extract 1 (1 + (tx l).size) = tx l) := by
    show (S (40 :: (l.txt ++ (r.txt ++ [41])))).extract 1 (1 + l.txt.length) = S l.txt
    rw [S_extract, Nat.add_comm 1]
    simp
  have X2 : Hid ((tx (.node l r)).extract (1 + (tx l).size) ((tx (.node l r)).size - 1) = tx r) := by
    show (S (40 :: (l.txt ++ (r.txt ++ [41])))).extract (1 + l.txt.length) ((40 :: (l.txt ++ (r.txt ++ [41]))).length - 1) = S r.txt
    rw [S_extract]
    congr 1
    have e : (40 :: (l.txt ++ (r.txt ++ [41]))).length - 1 = (40 :: (l.txt ++ r.txt)).length := by simp; omega
    rw [e, show (40 :: (l.txt ++ (r.txt ++ [41])) : List UInt8) = (40 :: (l.txt ++ r.txt)) ++ [41] from by simp, List.take_left, Nat.add_comm 1]
    simp
  have E1 : Hid (endAt (tx (.node l r)).size (rd 61 ((tx (.node l r)).toList.drop 1)) = ((1 + (tx l).size : Nat) : Int)) := by
    rw [tx, S_toList, show (Tr.node l r).txt.drop 1 = l.txt ++ (r.txt ++ [41]) from rfl, rd_txt l 61 _ (by simp only [Tr.depth] at hd; omega)]
    show ((S _).size : Int) - _ = _
    rw [S_size]
    have := l.txt_length; have := r.txt_length; have := (Tr.node l r).txt_length
    simp only [Hid, List.length_append, List.length_singleton]
    omega
  generalize hk : 1 + (tx l).size = k at *
  generalize tx (.node l r) = s at *
  have b1 : (1 : Int) ≤ k := by omega
  have b2 : (k : Int) ≤ (s.size : Int) - 1 := by omega
  have b4 : (1 : Int) ≤ s.size := by omega
  have b3 : (s.size : Int) ≤ 1000000 := by omega
  have E2 : ((s.size : Int) - 1).toNat = s.size - 1 := by omega
  clear zl zr zs hcc hk hd hc
  go_enter Try.func106, Try.ntmps106
  go_wp2_with fail
  refine C.out.mono ?_
  rw [E1.out]
  rintro e w1 ⟨rfl, rfl⟩
  go_wp2_with fail
  go_quiet (fail)
  go_wp2_with fail
  go_ret2
  exact ⟨by rw [← X1.out, ← X2.out]; rfl, nq, rfl⟩

end Go.Proofs.Ytfjhecilkeikiaa.N
