import Derived.Test.YtpmmajfdcicjiaaG1RFnRotationsMade
import Derived.Test.YtpmmajfdcicjiaaG2RFnRotationsMade
import Derived.Test.YtpmmajfdcicjiaaProg
import Derived.Test.YtpmmajfdcicjiaaG5RFnRotationsMade
import Derived.Test.YtpmmajfdcicjiaaG3RFnRotationsMade
import Derived.Test.YtpmmajfdcicjiaaG4RFnRotationsMade
import Derived.Test.YtpmmajfdcicjiaaG24RFnRotationsMade
import Derived.Test.YtpmmajfdcicjiaaG25RFnRotationsMade
import Derived.Test.YtpmmajfdcicjiaaG12RFnRotationsMade
import Derived.Test.YtpmmajfdcicjiaaG7RFnRotationsMade
import Derived.Test.YtpmmajfdcicjiaaG22RFnRotationsMade
import Derived.Deep.LoopGhost
import Derived.Deep.RegionHeld3
import Derived.Deep.QuietTactic
import Derived.StillTailTactics
/- Products and conjugates of pairs, as the program has them. -/
namespace Go.Proofs.Ytpmmajfdcicjiaa.N
open Go.RowKit
set_option linter.unusedVariables false
set_option linter.unusedSimpArgs false

theorem boxQQ_facts (w : World) (a b c d x y : Value) (t u : TypeId) :
    Ext w (((w.alloc (.cells #[a, b] t)).alloc (.cells #[c, d] t)).alloc (.cells #[x, y] u)) ∧
    (((w.alloc (.cells #[a, b] t)).alloc (.cells #[c, d] t)).alloc (.cells #[x, y] u)).cell? ⟨w.heap.size, 0, none⟩ = some a ∧
    (((w.alloc (.cells #[a, b] t)).alloc (.cells #[c, d] t)).alloc (.cells #[x, y] u)).cell? ⟨w.heap.size, 1, none⟩ = some b ∧
    (((w.alloc (.cells #[a, b] t)).alloc (.cells #[c, d] t)).alloc (.cells #[x, y] u)).cell? ⟨w.heap.size + 1, 0, none⟩ = some c ∧
    (((w.alloc (.cells #[a, b] t)).alloc (.cells #[c, d] t)).alloc (.cells #[x, y] u)).cell? ⟨w.heap.size + 1, 1, none⟩ = some d ∧
    Two (((w.alloc (.cells #[a, b] t)).alloc (.cells #[c, d] t)).alloc (.cells #[x, y] u)) (w.heap.size + 1 + 1) u := by
  have h0 := (((Ext.refl (w.alloc (.cells #[a, b] t))).alloc (.cells #[c, d] t)).alloc (.cells #[x, y] u)).at (heap_alloc_new w (.cells #[a, b] t))
  have h1 := ((Ext.refl ((w.alloc (.cells #[a, b] t)).alloc (.cells #[c, d] t))).alloc (.cells #[x, y] u)).at (heap_alloc_new (w.alloc (.cells #[a, b] t)) (.cells #[c, d] t))
  rw [show (w.alloc (.cells #[a, b] t)).heap.size = w.heap.size + 1 by simp] at h1
  exact ⟨(((Ext.refl w).alloc _).alloc _).alloc _, (cells_of h0).1, (cells_of h0).2, (cells_of h1).1, (cells_of h1).2, Two.new _ _ _ _ (by simp)⟩
set_option maxHeartbeats 3200000 in
set_option maxRecDepth 100000 in
theorem times_calls (A B C D : Tr) (hAB : A.carets = B.carets) (hCD : C.carets = D.carets) (hB : B.carets < 100000) (hC : C.carets < 100000) (pa pb pc pd : Option Addr) (w : World) (ra : Rep w A pa) (rb : Rep w B pb) (rc : Rep w C pc) (rd : Rep w D pd) :
    Calls Try.prog 141 #[.agg #[.pointer pa, .pointer pb], .agg #[.pointer pc, .pointer pd]] w (GivesP w (mul (A, B) (C, D)).1 (mul (A, B) (C, D)).2) := by
  obtain ⟨X0, c0, c1, c2, c3, t0⟩ := boxQQ_facts w (.pointer pa) (.pointer pb) (.pointer pc) (.pointer pd) (.pointer none) (.pointer none) 93 93
  have C1 := Lib.hid (fun W (h : Ext w W) => join_calls B C pb pc W (rb.ext h) (rc.ext h))
  have C2 := Lib.hid (fun pw W (h : Ext w W) hw => parts_calls B (join B C) (part_join_l B C) (by omega) pb pw W (rb.ext h) hw)
  have C3 := Lib.hid (fun pw W (h : Ext w W) hw => parts_calls C (join B C) (part_join_r B C) (by omega) pc pw W (rc.ext h) hw)
  have C4 := Lib.hid (fun cap W (h : Ext w W) hk => grown_calls (fun i => (partsT B (join B C)).getD i .leaf) (B.carets + 1) 203 cap A pa 0 W (by omega) (by omega) (ra.ext h) hk)
  have C5 := Lib.hid (fun cap W (h : Ext w W) hk => grown_calls (fun i => (partsT C (join B C)).getD i .leaf) (C.carets + 1) 203 cap D pd 0 W (by omega) (by omega) (rd.ext h) hk)
  obtain ⟨mc1, mc2⟩ := mul0_carets (p := (A, B)) (q := (C, D)) hAB hCD
  have jc := join_carets B C
  have C6 := Lib.hid (fun p1 p2 W => reduced_calls (mul0 (A, B) (C, D)).1 (mul0 (A, B) (C, D)).2 (by rw [mc1]; simp only; omega) (by rw [mc2]; simp only; omega) p1 p2 W)
  have EM : Hid (GivesP w (mul (A, B) (C, D)).1 (mul (A, B) (C, D)).2 = GivesP w (red ((mul0 (A, B) (C, D)).1, (mul0 (A, B) (C, D)).2)).1 (red ((mul0 (A, B) (C, D)).1, (mul0 (A, B) (C, D)).2)).2) := rfl
  rw [EM.out]
  change Hid (∀ (cap : Array Value) (W : World), Ext w W → Clo W _ _ _ cap → Calls _ _ _ W (GivesT W (mul0 (A, B) (C, D)).1)) at C4
  change Hid (∀ (cap : Array Value) (W : World), Ext w W → Clo W _ _ _ cap → Calls _ _ _ W (GivesT W (mul0 (A, B) (C, D)).2)) at C5
  generalize (red ((mul0 (A, B) (C, D)).1, (mul0 (A, B) (C, D)).2)).1 = Z1 at *
  generalize (red ((mul0 (A, B) (C, D)).1, (mul0 (A, B) (C, D)).2)).2 = Z2 at *
  generalize (mul0 (A, B) (C, D)).1 = Y1 at *
  generalize (mul0 (A, B) (C, D)).2 = Y2 at *
  have X0 := Lib.hid X0
  clear hAB hCD hB hC ra rb rc rd mc1 mc2 jc EM
  go_enter Try.func141, Try.ntmps141
  go_wp2_with fail
  generalize ((w.alloc (.cells #[.pointer pa, .pointer pb] 93)).alloc (.cells #[.pointer pc, .pointer pd] 93)).alloc (.cells #[.pointer none, .pointer none] 93) = W at *
  refine (C1.out _ X0.out).mono ?_
  rintro e w1 ⟨pw, rfl, rw1, x1⟩
  have X1 := Lib.hid (X0.out.trans x1)
  have c0 := x1.cell c0
  have c1 := x1.cell c1
  have c2 := x1.cell c2
  have c3 := x1.cell c3
  have T1 := Lib.hid (t0.ext x1)
  have RW := Lib.hid rw1
  clear t0 x1 rw1
  go_wp2_with fail
  go_region_held3 (fun w' => w'.cell? ⟨w.heap.size, 0, none⟩ = some (.pointer pa) ∧ w'.cell? ⟨w.heap.size, 1, none⟩ = some (.pointer pb) ∧ Ext w1 w')
    (first | with_reducible exact two_cells c0 c1 (Ext.refl _).drew | with_reducible exact two_cells c0 c1 x3 | with_reducible exact two_cells c0 c1 x2 | fail)
    (first
      | (go_at_call 187; refine (C2.out pw _ (X1.out.trans (Ext.refl _).drew) (RW.out.ext (Ext.refl _).drew)).mono ?_; rintro e w2 ⟨b1, b2, rfl, cl, hx2⟩; have x2 := (Ext.refl w1).drew.trans hx2)
      | (go_at_call 179; refine (C4.out _ _ (X1.out.trans x2) cl).mono ?_; rintro e w3 ⟨y1, rfl, ry1, hx3⟩; have x3 := x2.trans hx3)
      | fail)
  have X3 := Lib.hid (X1.out.trans x3)
  have c2 := x3.cell c2
  have c3 := x3.cell c3
  have T3 := Lib.hid (T1.out.ext x3)
  have RW3 := Lib.hid (RW.out.ext x3)
  have RY1 := Lib.hid ry1
  clear x3 x2 hx2 hx3 cl ry1
  go_wp2_with fail
  go_region_held3 (fun w' => w'.cell? ⟨w.heap.size + 1, 0, none⟩ = some (.pointer pc) ∧ w'.cell? ⟨w.heap.size + 1, 1, none⟩ = some (.pointer pd) ∧ Ext w3 w')
    (first | with_reducible exact two_cells c2 c3 (Ext.refl _).drew | with_reducible exact two_cells c2 c3 x5 | with_reducible exact two_cells c2 c3 x4 | fail)
    (first
      | (go_at_call 187; refine (C3.out pw _ (X3.out.trans (Ext.refl _).drew) (RW3.out.ext (Ext.refl _).drew)).mono ?_; rintro e w4 ⟨b1, b2, rfl, cl, hx4⟩; have x4 := (Ext.refl w3).drew.trans hx4)
      | (go_at_call 179; refine (C5.out _ _ (X3.out.trans x4) cl).mono ?_; rintro e w5 ⟨y2, rfl, ry2, hx5⟩; have x5 := x4.trans hx5)
      | fail)
  have X5 := Lib.hid (X3.out.trans x5)
  have T5 := Lib.hid (T3.out.ext x5)
  have RY1 := Lib.hid (RY1.out.ext x5)
  have RY2 := Lib.hid ry2
  clear x5 x4 hx4 hx5 cl ry2
  go_wp2_with fail
  refine (C6.out y1 y2 _ RY1.out RY2.out).mono ?_
  rintro e w6 ⟨z1, z2, rfl, rz1, rz2, x6⟩
  have T6 := T5.out.ext x6
  obtain ⟨u, v, k0, k1, f0, f1⟩ := T6.facts
  have T6 := Lib.hid T6
  have X6 := Lib.hid (X5.out.trans x6)
  have R6 := Lib.hid (And.intro rz1 rz2)
  clear x6 rz1 rz2
  go_wp2_with fail
  have HH := set2_heap T6.out (.pointer z1) (.pointer z2)
  have Q1 := Rep.set2 T6.out (by decide) (.pointer z1) (.pointer z2) R6.out.1
  have Q2 := Rep.set2 T6.out (by decide) (.pointer z1) (.pointer z2) R6.out.2
  have XX := X6.out.set2 (g := w.heap.size + 1 + 1) (by omega) (.pointer z1) (.pointer z2)
  change bodyPost _ _ _ _ _ (N.set2 _ (w.heap.size + 1 + 1) (.pointer z1) (.pointer z2))
  obtain ⟨hc0, hc1⟩ := cells_of HH
  generalize N.set2 _ (w.heap.size + 1 + 1) (.pointer z1) (.pointer z2) = W3 at *
  exact bodyPost_ret (v := .agg #[.pointer z1, .pointer z2]) (by simp [results, Try.results141, go_sem, hc0, hc1]) rfl ⟨z1, z2, rfl, Q1, Q2, XX⟩

set_option maxHeartbeats 3200000 in
theorem inverse_calls (pa pb : Option Addr) (w : World) :
    Calls Try.prog 139 #[.agg #[.pointer pa, .pointer pb]] w fun e w' => e = .returned (.agg #[.pointer pb, .pointer pa]) ∧ Ext w w' := by
  have X2 := Lib.hid (((Ext.refl w).alloc (.cells #[.pointer pa, .pointer pb] 93)).alloc (.cells #[.pointer pb, .pointer pa] 93))
  have HH := heap_alloc_new (w.alloc (.cells #[.pointer pa, .pointer pb] 93)) (.cells #[.pointer pb, .pointer pa] 93)
  rw [show (w.alloc (.cells #[.pointer pa, .pointer pb] 93)).heap.size = w.heap.size + 1 by simp] at HH
  obtain ⟨hc0, hc1⟩ := cells_of HH
  go_enter Try.func139, Try.ntmps139
  go_wp2_with fail
  exact bodyPost_ret (v := .agg #[.pointer pb, .pointer pa]) (by simp [results, Try.results139, go_sem, hc0, hc1]) rfl ⟨rfl, X2.out⟩

/-- The conjugate of p by q. -/
def conj (p q : Tr × Tr) : Tr × Tr := mul (mul (q.2, q.1) p) q
theorem conj_carets {p q : Tr × Tr} (hp : p.1.carets = p.2.carets) (hq : q.1.carets = q.2.carets) : (conj p q).1.carets = (conj p q).2.carets ∧ (conj p q).2.carets ≤ q.1.carets + p.1.carets + q.1.carets := by
  have h1 := mul_carets (p := (q.2, q.1)) (q := p) hq.symm hp
  have h2 := mul_carets (p := mul (q.2, q.1) p) (q := q) h1.1 hq
  simp only at h1
  exact ⟨h2.1, by have := h2.2; unfold conj; omega⟩
theorem quad_ext {w0 W W' : World} {a b : Nat} {u0 u1 v0 v1 : Value}
    (h : W.cell? ⟨a, 0, none⟩ = some u0 ∧ W.cell? ⟨a, 1, none⟩ = some u1 ∧ W.cell? ⟨b, 0, none⟩ = some v0 ∧ W.cell? ⟨b, 1, none⟩ = some v1 ∧ Ext w0 W) (hx : Ext W W') :
    W'.cell? ⟨a, 0, none⟩ = some u0 ∧ W'.cell? ⟨a, 1, none⟩ = some u1 ∧ W'.cell? ⟨b, 0, none⟩ = some v0 ∧ W'.cell? ⟨b, 1, none⟩ = some v1 ∧ Ext w0 W' :=
  ⟨hx.cell h.1, hx.cell h.2.1, hx.cell h.2.2.1, hx.cell h.2.2.2.1, h.2.2.2.2.trans hx⟩
theorem quad_far {w0 W : World} {a b g : Nat} {u0 u1 v0 v1 : Value} (x y : Value)
    (h : W.cell? ⟨a, 0, none⟩ = some u0 ∧ W.cell? ⟨a, 1, none⟩ = some u1 ∧ W.cell? ⟨b, 0, none⟩ = some v0 ∧ W.cell? ⟨b, 1, none⟩ = some v1 ∧ Ext w0 W) (ha : a ≠ g) (hb : b ≠ g) (hg : w0.heap.size ≤ g) :
    ((W.setCell ⟨g, 0, none⟩ x).setCell ⟨g, 1, none⟩ y).cell? ⟨a, 0, none⟩ = some u0 ∧ ((W.setCell ⟨g, 0, none⟩ x).setCell ⟨g, 1, none⟩ y).cell? ⟨a, 1, none⟩ = some u1 ∧ ((W.setCell ⟨g, 0, none⟩ x).setCell ⟨g, 1, none⟩ y).cell? ⟨b, 0, none⟩ = some v0 ∧ ((W.setCell ⟨g, 0, none⟩ x).setCell ⟨g, 1, none⟩ y).cell? ⟨b, 1, none⟩ = some v1 ∧ Ext w0 ((W.setCell ⟨g, 0, none⟩ x).setCell ⟨g, 1, none⟩ y) :=
  ⟨set2_far ha x y h.1, set2_far ha x y h.2.1, set2_far hb x y h.2.2.1, set2_far hb x y h.2.2.2.1, h.2.2.2.2.set2 hg x y⟩
end Go.Proofs.Ytpmmajfdcicjiaa.N
/- Texts filled, as the reference has them. -/
namespace Go.Proofs.Ytpmmajfdcicjiaa.N
open Go.RowKit
set_option linter.unusedVariables false
set_option linter.unusedSimpArgs false

theorem one_byte (l : List UInt8) (j : Nat) (c : UInt8) (h : l[j]? = some c) : (S l).extract j (j + 1) = S [c] := by
  obtain ⟨h1, h2⟩ := List.getElem?_eq_some_iff.1 h
  rw [S_extract, List.take_add_one, h, List.drop_append]
  simp [List.length_take, Nat.min_eq_left (Nat.le_of_lt h1)]
set_option maxHeartbeats 3200000 in
set_option maxRecDepth 100000 in
theorem prFill_calls (l : List UInt8) (ps : List ByteArray) (hl : l.length < 1000000) (hp : ps.length < 1000000) (hd : dots l ≤ ps.length) (hb : ∀ p ∈ ps, p.size ≤ 100000) (v : Value) (w : World) (hv : Reads w v (strs ps)) :
    Calls Try.prog 101 #[.string (S l), v] w fun e w' => e = .returned (.string (S (fillP l ps))) ∧ w = w' := by
  obtain ⟨A, cp, rfl, _, rd⟩ := hv
  rw [strs_length] at *
  have RD := Lib.hid rd
  have HD := Lib.hid (And.intro hd hb)
  clear rd hd hb
  go_enter Try.func101, Try.ntmps101
  go_wp2_with fail
  go_loop [5, 6, 7] (fun o n i => ∃ (j k : Nat) (acc : List UInt8), j ≤ l.length ∧ k ≤ j ∧ i = .int .i64 j ∧ n = .int .i64 k ∧ o = .string (S acc) ∧ Hid (k = dots (l.take j)) ∧ Hid (acc.length ≤ j * 100001) ∧ Hid (fillP l ps = acc ++ fillP (l.drop j) (ps.drop k))) (fun _ _ i => l.length - (intOf i).toNat)
  case atStart => exact ⟨0, 0, [], Nat.zero_le _, Nat.le_refl _, rfl, rfl, rfl, rfl, Nat.zero_le _, rfl⟩
  case round =>
    obtain ⟨j, k, acc, hj, hk, rfl, rfl, rfl, HK, HA, HF⟩ := hrel
    by_cases hlt : j < l.length
    · obtain ⟨c, hc⟩ : ∃ c, l[j]? = some c := ⟨_, List.getElem?_eq_getElem hlt⟩
      have h1 : (j : Int) < (S l).size := by show (j : Int) < (l.length : Nat); omega
      have h0 : (0 : Int) ≤ j := by omega
      obtain ⟨x1, x2⟩ := s_at (S l) j c (by rw [S_toList]; exact hc)
      have ST : dots (l.take (j + 1)) = dots (l.take j) + if c = 46 then 1 else 0 := by
        rw [List.take_add_one, hc]; simp [dots, List.countP_append, List.countP_cons]
      by_cases c1 : c = 46
      · subst c1
        have hk2 : k < ps.length := by rw [HK.out]; exact Nat.lt_of_lt_of_le (dots_lt l j hc) HD.out.1
        obtain ⟨ad, rfl, ca⟩ := RD.out (by omega)
        have c1 := ca k _ (strs_get ps k hk2)
        have F2 := Lib.hid (fill_step_dot l ps j k hc hk2)
        have PB := Lib.hid (HD.out.2 ps[k] (List.getElem_mem hk2))
        have t1 : (((46 : UInt8).toNat : Int) == 46) = true := rfl
        have k1 : (k : Int) < ps.length := by omega
        have k0 : (0 : Int) ≤ k := by omega
        have HK2 : Hid (k + 1 = dots (l.take (j + 1))) := by show _ = _; rw [ST, ← HK.out]; rfl
        generalize ps[k] = p at *
        have g4 : (9223372036854775807 < (S acc).size + p.size) = False := by rw [S_size]; have := HA.out; have := PB.out; simp; omega
        have EA : Hid (S acc ++ p = S (acc ++ p.toList)) := by show _ = _; rw [← S_append, ← S_of]
        have LA : Hid ((acc ++ p.toList).length ≤ (j + 1) * 100001) := by
          have := HA.out; have := PB.out
          show _ ≤ _
          rw [List.length_append, s_len]; omega
        have FF : Hid (fillP l ps = (acc ++ p.toList) ++ fillP (l.drop (j + 1)) (ps.drop (k + 1))) := by show _ = _; rw [HF.out, F2.out, List.append_assoc]
        clear hc ca ST F2 PB
        go_wp2_with fail
        rw [EA.out]
        exact ⟨⟨j + 1, k + 1, acc ++ p.toList, by omega, by omega, by go_num, by go_num, rfl, HK2.out, LA.out, FF.out⟩, by simp [intOf]; omega⟩
      · have t1 : ((c.toNat : Int) == 46) = false := byte_ne c1
        have F2 := Lib.hid (fill_step_other l ps j k c hc c1)
        have OB := one_byte l j c hc
        have HK2 : Hid (k = dots (l.take (j + 1))) := by show _ = _; rw [ST, ← HK.out, if_neg c1]; rfl
        have g4 : (9223372036854775807 < (S acc).size + 1) = False := by rw [S_size]; have := HA.out; simp; omega
        have g5 : (9223372036854775807 < (S acc).size + (S [c]).size) = False := by rw [S_size, S_size]; have := HA.out; simp; omega
        have EA : Hid (S acc ++ S [c] = S (acc ++ [c])) := S_append _ _
        have LA : Hid ((acc ++ [c]).length ≤ (j + 1) * 100001) := by
          have := HA.out
          show _ ≤ _
          rw [List.length_append]; simp; omega
        have FF : Hid (fillP l ps = (acc ++ [c]) ++ fillP (l.drop (j + 1)) (ps.drop k)) := by show _ = _; rw [HF.out, F2.out, List.append_assoc]; rfl
        clear hc ST F2 c1
        go_wp2_with fail
        rw [EA.out]
        exact ⟨⟨j + 1, k, acc ++ [c], by omega, by omega, by go_num, by go_num, rfl, HK2.out, LA.out, FF.out⟩, by simp [intOf]; omega⟩
    · have h1 : ((S l).size : Int) ≤ j := by show ((l.length : Nat) : Int) ≤ j; omega
      have E : Hid (fillP l ps = acc) := by show _ = _; rw [HF.out, List.drop_eq_nil_of_le (by omega)]; simp [fillP]
      go_wp2_with fail
      go_ret
      exact ⟨by rw [E.out]; rfl, rfl⟩

def okL (m : List UInt8) : Prop := ∀ c ∈ m, 97 ≤ c.toNat ∧ c.toNat ≤ 122
def ones (m : List UInt8) : List ByteArray := m.map fun c => S [c]
/-- What a text of brackets gives. -/
def BrPost (w : World) (T : Tr) (m : List UInt8) (e : Ending) (w' : World) : Prop :=
  (okL m → e = .returned (.tuple #[.string (S (fillP T.txt (ones m))), .bool true])) ∧ (¬ okL m → e = .returned (.tuple #[.string ⟨#[]⟩, .bool false])) ∧ Ext w w'
theorem ones_take (m : List UInt8) (j : Nat) (c : UInt8) (h : m[j]? = some c) : ones (m.take (j + 1)) = ones (m.take j) ++ [S [c]] := by
  unfold ones; rw [List.take_add_one, h]; simp
theorem ones_length (m : List UInt8) : (ones m).length = m.length := by simp [ones]
theorem ok_step {m : List UInt8} {j : Nat} {c : UInt8} (h : okL (m.take j)) (hc : m[j]? = some c) (h1 : 97 ≤ c.toNat) (h2 : c.toNat ≤ 122) : okL (m.take (j + 1)) := by
  intro d hd
  rw [List.take_add_one, hc] at hd
  rcases List.mem_append.1 hd with hd | hd
  · exact h d hd
  · obtain rfl : d = c := by simpa using hd
    exact ⟨h1, h2⟩
theorem not_ok {m : List UInt8} {j : Nat} {c : UInt8} (hc : m[j]? = some c) (h : ¬ (97 ≤ c.toNat ∧ c.toNat ≤ 122)) : ¬ okL m := fun hh => h (hh c (List.mem_of_getElem? hc))
set_option maxHeartbeats 3200000 in
set_option maxRecDepth 100000 in
theorem specBr_yes (T : Tr) (hT : T.carets ≤ 8) (m : List UInt8) (hm : m.length = T.carets + 1) (w : World) :
    Calls Try.prog 24 #[.string (tx T), .string (S m)] w (BrPost w T m) := by
  have C1 := Lib.hid (trIs_yes T hT)
  have C2 := Lib.hid (fun W => trCarets_calls (tx T) (by have := T.txt_length; show T.txt.length < _; omega) W)
  rw [show (tx T).toList = T.txt from S_toList _, cnt_txt] at C2
  have C3 := Lib.hid (fun v W => prFill_calls T.txt (ones m) (by have := T.txt_length; omega) (by rw [ones_length]; omega) (by rw [dots_txt, ones_length]; omega) (by intro p hp; obtain ⟨c, _, rfl⟩ := List.mem_map.1 hp; show 1 ≤ _; omega) v W)
  have q : ((S m).size : Int) = (T.carets : Int) + 1 := by show ((m.length : Nat) : Int) = _; omega
  have q1 : (((T.carets : Int) + 1) != ((T.carets : Int) + 1)) = false := by simp
  have hT' : (T.carets : Int) ≤ 8 ∧ (0 : Int) ≤ T.carets := by omega
  go_enter Try.func24, Try.ntmps24
  go_wp2_with fail
  refine (C1.out _).mono ?_
  rintro e w1 ⟨rfl, rfl⟩
  go_wp2_with fail
  refine (C2.out _).mono ?_
  rintro e w1 ⟨rfl, rfl⟩
  go_wp2_with fail
  go_loopw [6, 7] (fun o i wr => ∃ j : Nat, j ≤ m.length ∧ i = .int .i64 j ∧ Hid (okL (m.take j)) ∧ Hid (Own wr w.heap.size 9 o (strs (ones (m.take j)))) ∧ Hid (Ext w wr)) (fun _ i _ => m.length - (intOf i).toNat)
  case atStart => exact ⟨0, Nat.zero_le _, rfl, (show okL [] from fun c hc => nomatch hc), Own.nil _ _ _, Ext.refl _⟩
  case round =>
    obtain ⟨j, hj, rfl, HK, HO, HX⟩ := hrel
    by_cases hlt : j < m.length
    · obtain ⟨c, hc⟩ : ∃ c, m[j]? = some c := ⟨_, List.getElem?_eq_getElem hlt⟩
      have h1 : (j : Int) < (S m).size := by show (j : Int) < (m.length : Nat); omega
      have h0 : (0 : Int) ≤ j := by omega
      obtain ⟨x1, x2⟩ := s_at (S m) j c (by rw [S_toList]; exact hc)
      by_cases l1 : c.toNat < 97
      · have NO := Lib.hid (not_ok hc (by omega))
        have d1 : (c.toNat : Int) < 97 := by omega
        clear hc l1
        go_wp2_with fail
        go_ret2
        exact ⟨fun h => absurd h NO.out, fun _ => rfl, HX.out⟩
      · by_cases l2 : 122 < c.toNat
        · have NO := Lib.hid (not_ok hc (by omega))
          have d1 : ¬ (c.toNat : Int) < 97 := by omega
          have d2 : (122 : Int) < c.toNat := by omega
          clear hc l1 l2
          go_wp2_with fail
          go_ret2
          exact ⟨fun h => absurd h NO.out, fun _ => rfl, HX.out⟩
        · have OK2 := Lib.hid (ok_step HK.out hc (by omega) (by omega))
          have OB := one_byte m j c hc
          have OT := Lib.hid (ones_take m j c hc)
          have d1 : ¬ (c.toNat : Int) < 97 := by omega
          have d2 : ¬ (122 : Int) < c.toNat := by omega
          have RL := Lib.hid (Own.lit wr 0 9 #[.string (S [c])] (Nat.zero_le _) (by show 1 ≤ maxLen; decide)).reads
          have O2 := HO.out.ext ((Ext.refl _).alloc (.cells #[.string (S [c])] 9))
          have LL : Hid (((strs (ones (m.take j))).length + (strs [S [c]]).length) * 16 ≤ 140737488355328) := by
            show _ ≤ _; rw [strs_length, strs_length, ones_length]; have : (m.take j).length ≤ j := List.length_take_le _ _; show (_ + 1) * 16 ≤ _; omega
          have B1 := Lib.hid (HX.out.alloc (.cells #[.string (S [c])] 9)).size
          clear hc l1 l2
          go_wp2_with (at_builtin; refine wpList_app rfl (.tmp 35) (.tmp 41) 52 rfl w.heap.size 9 (.string ⟨#[]⟩) 16 Try.underlying52 infoStr rfl (by omega) _ _ _ (strs [S [c]]) rfl rfl O2 RL.out (strs_one _) LL.out B1.out ?_; intro v4 w4 o4 g4 _)
          have X4 := Lib.hid ((HX.out.alloc _).grown g4 O2.lo)
          rw [strs_append] at o4
          have O4 := Lib.hid o4
          clear o4 g4 O2
          go_wp2_with fail
          exact ⟨⟨j + 1, by omega, by go_num, OK2.out, OT.out.symm ▸ O4.out, X4.out⟩, by simp [intOf]; omega⟩
    · have h1 : ((S m).size : Int) ≤ j := by show ((m.length : Nat) : Int) ≤ j; omega
      have E : Hid (m.take j = m) := List.take_of_length_le (by omega)
      have HK2 := Lib.hid (E.out ▸ HK.out)
      have HO2 := Lib.hid (E.out ▸ HO.out)
      go_wp2_with fail
      refine (C3.out _ _ HO2.out.reads).mono ?_
      rintro e w5 ⟨rfl, rfl⟩
      go_wp2_with fail
      go_ret2
      exact ⟨fun _ => rfl, fun h => absurd HK2.out h, HX.out⟩
set_option maxHeartbeats 1600000 in
theorem specBr_no (s m : ByteArray) (h : ¬ ∃ T, s = tx T ∧ T.carets ≤ 8 ∧ m.size = T.carets + 1) (w : World) :
    Calls Try.prog 24 #[.string s, .string m] w fun e w' => e = .returned (.tuple #[.string ⟨#[]⟩, .bool false]) ∧ Ext w w' := by
  by_cases hT : ∃ T, s = tx T ∧ T.carets ≤ 8
  · obtain ⟨T, rfl, hT⟩ := hT
    have C1 := Lib.hid (trIs_yes T hT)
    have C2 := Lib.hid (fun W => trCarets_calls (tx T) (by have := T.txt_length; show T.txt.length < _; omega) W)
    rw [show (tx T).toList = T.txt from S_toList _, cnt_txt] at C2
    have hne : m.size ≠ T.carets + 1 := fun e => h ⟨T, rfl, hT, e⟩
    have q1 : ((m.size : Int) != ((T.carets : Int) + 1)) = true := by rw [bne_iff_ne]; omega
    have hT' : (T.carets : Int) ≤ 8 ∧ (0 : Int) ≤ T.carets := by omega
    clear h hne
    go_enter Try.func24, Try.ntmps24
    go_wp2_with fail
    refine (C1.out _).mono ?_
    rintro e w1 ⟨rfl, rfl⟩
    go_wp2_with fail
    refine (C2.out _).mono ?_
    rintro e w1 ⟨rfl, rfl⟩
    go_wp2_with fail
    go_ret2
    exact ⟨rfl, Ext.refl _⟩
  · have C1 := Lib.hid (trIs_no s hT)
    clear h hT
    go_enter Try.func24, Try.ntmps24
    go_wp2_with fail
    refine (C1.out _).mono ?_
    rintro e w1 ⟨rfl, rfl⟩
    go_wp2_with fail
    go_ret2
    exact ⟨rfl, Ext.refl _⟩
end Go.Proofs.Ytpmmajfdcicjiaa.N
