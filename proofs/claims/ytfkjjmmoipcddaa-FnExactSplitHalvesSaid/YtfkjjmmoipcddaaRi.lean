import Derived.Test.YtfkjjmmoipcddaaBa
import Derived.Test.YtfkjjmmoipcddaaPu
import Derived.Test.YtfkjjmmoipcddaaSl
import Derived.Test.YtfkjjmmoipcddaaProg
import Derived.Test.YtfkjjmmoipcddaaTn
import Derived.Test.YtfkjjmmoipcddaaTs
import Derived.Test.YtfkjjmmoipcddaaPp
import Derived.Test.YtfkjjmmoipcddaaPh
import Derived.Test.YtfkjjmmoipcddaaWl
import Derived.Test.YtfkjjmmoipcddaaTp
import Derived.Test.YtfkjjmmoipcddaaTr
import Derived.Test.YtfkjjmmoipcddaaTu
import Derived.Test.YtfkjjmmoipcddaaSx
import Derived.Test.YtfkjjmmoipcddaaSy
import Derived.Test.YtfkjjmmoipcddaaSz
import Derived.Test.YtfkjjmmoipcddaaWp
import Derived.Test.YtfkjjmmoipcddaaWq
import Derived.Test.YtfkjjmmoipcddaaRh
import Derived.Deep.LoopGhost
import Derived.StillTailTactics
import Derived.Deep.RegionHeld3
import Derived.Deep.QuietTactic
/- A pair split into halves: the program's function and the law. -/
namespace Go.Proofs.Ytfkjjmmoipcddaa.N
open Go.RowKit
set_option linter.unusedVariables false
set_option linter.unusedSimpArgs false

theorem six_far {w0 W : World} {a b c g : Nat} {u0 u1 v0 v1 z0 z1 : Value} (x y : Value)
    (h : W.cell? ⟨a, 0, none⟩ = some u0 ∧ W.cell? ⟨a, 1, none⟩ = some u1 ∧ W.cell? ⟨b, 0, none⟩ = some v0 ∧ W.cell? ⟨b, 1, none⟩ = some v1 ∧ W.cell? ⟨c, 0, none⟩ = some z0 ∧ W.cell? ⟨c, 1, none⟩ = some z1 ∧ Ext w0 W) (ha : a ≠ g) (hb : b ≠ g) (hc : c ≠ g) (hg : w0.heap.size ≤ g) :
    (set2 W g x y).cell? ⟨a, 0, none⟩ = some u0 ∧ (set2 W g x y).cell? ⟨a, 1, none⟩ = some u1 ∧ (set2 W g x y).cell? ⟨b, 0, none⟩ = some v0 ∧ (set2 W g x y).cell? ⟨b, 1, none⟩ = some v1 ∧ (set2 W g x y).cell? ⟨c, 0, none⟩ = some z0 ∧ (set2 W g x y).cell? ⟨c, 1, none⟩ = some z1 ∧ Ext w0 (set2 W g x y) :=
  ⟨set2_far ha _ _ h.1, set2_far ha _ _ h.2.1, set2_far hb _ _ h.2.2.1, set2_far hb _ _ h.2.2.2.1, set2_far hc _ _ h.2.2.2.2.1, set2_far hc _ _ h.2.2.2.2.2.1, h.2.2.2.2.2.2.set2 hg _ _⟩
theorem six_far' {w0 W : World} {a b c g : Nat} {u0 u1 v0 v1 z0 z1 : Value} (x y : Value)
    (h : W.cell? ⟨a, 0, none⟩ = some u0 ∧ W.cell? ⟨a, 1, none⟩ = some u1 ∧ W.cell? ⟨b, 0, none⟩ = some v0 ∧ W.cell? ⟨b, 1, none⟩ = some v1 ∧ W.cell? ⟨c, 0, none⟩ = some z0 ∧ W.cell? ⟨c, 1, none⟩ = some z1 ∧ Ext w0 W) (ha : a ≠ g) (hb : b ≠ g) (hc : c ≠ g) (hg : w0.heap.size ≤ g) :
    ((W.setCell ⟨g, 0, none⟩ x).setCell ⟨g, 1, none⟩ y).cell? ⟨a, 0, none⟩ = some u0 ∧ ((W.setCell ⟨g, 0, none⟩ x).setCell ⟨g, 1, none⟩ y).cell? ⟨a, 1, none⟩ = some u1 ∧ ((W.setCell ⟨g, 0, none⟩ x).setCell ⟨g, 1, none⟩ y).cell? ⟨b, 0, none⟩ = some v0 ∧ ((W.setCell ⟨g, 0, none⟩ x).setCell ⟨g, 1, none⟩ y).cell? ⟨b, 1, none⟩ = some v1 ∧ ((W.setCell ⟨g, 0, none⟩ x).setCell ⟨g, 1, none⟩ y).cell? ⟨c, 0, none⟩ = some z0 ∧ ((W.setCell ⟨g, 0, none⟩ x).setCell ⟨g, 1, none⟩ y).cell? ⟨c, 1, none⟩ = some z1 ∧ Ext w0 ((W.setCell ⟨g, 0, none⟩ x).setCell ⟨g, 1, none⟩ y) := six_far x y h ha hb hc hg
theorem six_ext {w0 W W' : World} {a b c : Nat} {u0 u1 v0 v1 z0 z1 : Value}
    (h : W.cell? ⟨a, 0, none⟩ = some u0 ∧ W.cell? ⟨a, 1, none⟩ = some u1 ∧ W.cell? ⟨b, 0, none⟩ = some v0 ∧ W.cell? ⟨b, 1, none⟩ = some v1 ∧ W.cell? ⟨c, 0, none⟩ = some z0 ∧ W.cell? ⟨c, 1, none⟩ = some z1 ∧ Ext w0 W) (hx : Ext W W') :
    W'.cell? ⟨a, 0, none⟩ = some u0 ∧ W'.cell? ⟨a, 1, none⟩ = some u1 ∧ W'.cell? ⟨b, 0, none⟩ = some v0 ∧ W'.cell? ⟨b, 1, none⟩ = some v1 ∧ W'.cell? ⟨c, 0, none⟩ = some z0 ∧ W'.cell? ⟨c, 1, none⟩ = some z1 ∧ Ext w0 W' :=
  ⟨hx.cell h.1, hx.cell h.2.1, hx.cell h.2.2.1, hx.cell h.2.2.2.1, hx.cell h.2.2.2.2.1, hx.cell h.2.2.2.2.2.1, h.2.2.2.2.2.2.trans hx⟩
theorem Rep.apart {w : World} {l r : Tr} {b g : Nat} {pl pr : Option Addr} {t : TypeId} (h : w.heap[b]? = some (.cells #[.pointer pl, .pointer pr] 99)) (h2 : Two w g t) (ht : t ≠ 99) : b ≠ g := by
  rintro rfl
  obtain ⟨u, v, e⟩ := h2.at_
  rw [h] at e
  injection e with e
  injection e with _ e4
  exact ht e4.symm
set_option maxHeartbeats 3200000 in
set_option maxRecDepth 100000 in
theorem implSplit_no (s t : ByteArray) (h : ¬ Good s t) (w : World) :
    Calls Try.prog 26 #[.agg #[.string s, .string t]] w fun e w' => e = .returned (SpV none) ∧ Ext w w' := by
  obtain ⟨X2, t0, t1, t2⟩ := boxPP_facts w s t
  have X2 := Lib.hid X2
  have C1 := Lib.hid (pairOf_no s t h)
  clear h
  show Calls _ _ _ _ (fun e w' => e = .returned (ppb ⟨#[]⟩ ⟨#[]⟩ ⟨#[]⟩ ⟨#[]⟩ false) ∧ Ext w w')
  unfold ppb
  go_enter Try.func26, Try.ntmps26
  go_wp2_with fail
  generalize ((w.alloc (.cells #[.string s, .string t] 29)).alloc (.cells #[.string ⟨#[]⟩, .string ⟨#[]⟩] 29)).alloc (.cells #[.string ⟨#[]⟩, .string ⟨#[]⟩] 29) = W at *
  refine (C1.out _).mono ?_
  rintro e w1 ⟨pa, pb, rfl, x1⟩
  have x1 := x1.alloc (.cells #[.pointer pa, .pointer pb] 78)
  have X1 := Lib.hid (X2.out.trans x1)
  have T1 := t1.ext x1
  have T2 := t2.ext x1
  obtain ⟨u, v, k0, k1, f0, f1⟩ := T1.facts
  obtain ⟨u', v', k0', k1', f0', f1'⟩ := T2.facts
  have TT := Lib.hid (And.intro T1 T2)
  clear x1 t0 t1 t2 T1 T2
  go_wp2_with fail
  obtain ⟨hc0, hc1, hc2, hc3, XX⟩ := two_results TT.out.1 TT.out.2 (.string ⟨#[]⟩) (.string ⟨#[]⟩) (.string ⟨#[]⟩) (.string ⟨#[]⟩) X1.out (by omega)
  change bodyPost _ _ _ _ _ (N.set2 (N.set2 (w1.alloc (.cells #[.pointer pa, .pointer pb] 78)) (w.heap.size + 1) (.string ⟨#[]⟩) (.string ⟨#[]⟩)) (w.heap.size + 1 + 1) (.string ⟨#[]⟩) (.string ⟨#[]⟩))
  generalize N.set2 (N.set2 (w1.alloc (.cells #[.pointer pa, .pointer pb] 78)) (w.heap.size + 1) (.string ⟨#[]⟩) (.string ⟨#[]⟩)) (w.heap.size + 1 + 1) (.string ⟨#[]⟩) (.string ⟨#[]⟩) = W3 at *
  exact bodyPost_ret (v := .tuple #[.agg #[.string ⟨#[]⟩, .string ⟨#[]⟩], .agg #[.string ⟨#[]⟩, .string ⟨#[]⟩], .bool false]) (by simp [results, Try.results26, go_sem, hc0, hc1, hc2, hc3]) rfl ⟨rfl, XX⟩
set_option maxHeartbeats 6400000 in
set_option maxRecDepth 100000 in
theorem implSplit_yes (A B : Tr) (hc : A.carets = B.carets) (hB : B.carets ≤ 8) (w : World) :
    Calls Try.prog 26 #[.agg #[.string (tx A), .string (tx B)]] w fun e w' => e = .returned (SpV (splitT (red (A, B)))) ∧ Ext w w' := by
  obtain ⟨X2, _, t1, t2⟩ := boxPP_facts w (tx A) (tx B)
  have X2 := Lib.hid X2
  have C1 := Lib.hid (fun W => pairOf_yes A B hc hB W)
  have C2 := Lib.hid (fun pa pb W => reduced_calls A B (by omega) (by omega) pa pb W)
  have hs := red_same (p := (A, B)) hc
  have hle := (red_le (A, B)).2
  obtain ⟨C, D, hCD⟩ : ∃ C D, red (A, B) = (C, D) := ⟨_, _, rfl⟩
  rw [hCD] at C2 hs hle ⊢
  simp only at C2 hs hle
  clear hCD
  generalize tx A = a at *
  generalize tx B = b at *
  cases C with
  | leaf =>
    have C4 := Lib.hid (fun W => IdentityPair_calls W)
    clear hs hle hc hB
    show Calls _ _ _ _ (fun e w' => e = .returned (ppb (tx .leaf) (tx .leaf) (tx .leaf) (tx .leaf) true) ∧ Ext w w')
    unfold ppb
    generalize tx .leaf = z at *
    go_enter Try.func26, Try.ntmps26
    go_wp2_with fail
    generalize ((w.alloc (.cells #[.string a, .string b] 29)).alloc (.cells #[.string ⟨#[]⟩, .string ⟨#[]⟩] 29)).alloc (.cells #[.string ⟨#[]⟩, .string ⟨#[]⟩] 29) = W at *
    refine (C1.out _).mono ?_
    rintro e w1 ⟨pa, pb, rfl, rA, rB, x1⟩
    have xa := (Ext.refl w1).alloc (.cells #[.pointer pa, .pointer pb] 78)
    have RA := Lib.hid (rA.ext xa)
    have RB := Lib.hid (rB.ext xa)
    have X1 := Lib.hid (X2.out.trans (x1.trans xa))
    have T1 := Lib.hid (t1.ext (x1.trans xa))
    have T2 := Lib.hid (t2.ext (x1.trans xa))
    have T5 := Lib.hid (Two.new w1 (.pointer pa) (.pointer pb) 78 rfl)
    have G5 := Lib.hid (X2.out.trans x1).size
    have G6 := Lib.hid (And.intro (t1.ext x1) (t2.ext x1))
    clear rA rB t1 t2 x1 xa
    go_wp2_with fail
    generalize w1.alloc (.cells #[.pointer pa, .pointer pb] 78) = W1 at *
    have g1 : w.heap.size + 1 ≠ w1.heap.size := by
      obtain ⟨u, v, e⟩ := G6.out.1.at_
      have := (Array.getElem?_eq_some_iff.1 e).1; omega
    have g2 : w.heap.size + 1 + 1 ≠ w1.heap.size := by
      obtain ⟨u, v, e⟩ := G6.out.2.at_
      have := (Array.getElem?_eq_some_iff.1 e).1; omega
    have GG := Lib.hid (And.intro g1 g2)
    clear g1 g2
    refine (C2.out pa pb _ RA.out RB.out).mono ?_
    rintro e w2 ⟨q1, q2, rfl, r1, r2, x2⟩
    obtain rfl : q1 = none := r1
    have T5' := T5.out.ext x2
    obtain ⟨u, v, k0, k1, f0, f1⟩ := T5'.facts
    obtain ⟨d0, d1⟩ := cells_of (set2_heap T5' (.pointer none) (.pointer q2))
    have T1 := Lib.hid ((T1.out.ext x2).far (g := w1.heap.size) GG.out.1 (.pointer none) (.pointer q2))
    have T2 := Lib.hid ((T2.out.ext x2).far (g := w1.heap.size) GG.out.2 (.pointer none) (.pointer q2))
    have X3 := Lib.hid ((X1.out.trans x2).set2 (g := w1.heap.size) G5.out (.pointer none) (.pointer q2))
    clear x2 r2 T5'
    go_wp2_with fail
    change Calls _ _ _ (N.set2 w2 w1.heap.size (.pointer none) (.pointer q2)) _
    generalize N.set2 w2 w1.heap.size (.pointer none) (.pointer q2) = w3 at *
    refine (C4.out _).mono ?_
    rintro e w5 ⟨rfl, x5⟩
    have X5 := Lib.hid (X3.out.trans x5)
    have T1 := Lib.hid (T1.out.ext x5)
    have T2 := Lib.hid (T2.out.ext x5)
    clear x5
    go_wp2_with fail
    refine (C4.out _).mono ?_
    rintro e w6 ⟨rfl, x6⟩
    have X6 := Lib.hid (X5.out.trans x6)
    have T1 := T1.out.ext x6
    have T2 := T2.out.ext x6
    obtain ⟨u, v, k0, k1, f0, f1⟩ := T1.facts
    obtain ⟨u', v', k0', k1', f0', f1'⟩ := T2.facts
    have TT := Lib.hid (And.intro T1 T2)
    clear x6 T1 T2
    go_wp2_with fail
    obtain ⟨hc0, hc1, hc2, hc3, XX⟩ := two_results TT.out.1 TT.out.2 (.string z) (.string z) (.string z) (.string z) X6.out (by omega)
    change bodyPost _ _ _ _ _ (N.set2 (N.set2 w6 (w.heap.size + 1) (.string z) (.string z)) (w.heap.size + 1 + 1) (.string z) (.string z))
    generalize N.set2 (N.set2 w6 (w.heap.size + 1) (.string z) (.string z)) (w.heap.size + 1 + 1) (.string z) (.string z) = W3 at *
    exact bodyPost_ret (v := .tuple #[.agg #[.string z, .string z], .agg #[.string z, .string z], .bool true]) (by simp [results, Try.results26, go_sem, hc0, hc1, hc2, hc3]) rfl ⟨rfl, XX⟩
  | node l r =>
    cases D with
    | leaf => simp only [Tr.carets] at hs; omega
    | node l2 r2 =>
    simp only [Tr.carets] at hs hle
    have C6 := Lib.hid (fun p W h => carets_calls l p W (by omega) h)
    have C7 := Lib.hid (fun p W h => carets_calls l2 p W (by omega) h)
    have C8 := Lib.hid (fun pa pb W => plain_calls l l2 (by omega) (by omega) pa pb W)
    have C9 := Lib.hid (fun pa pb W => plain_calls r r2 (by omega) (by omega) pa pb W)
    by_cases hll : l.carets = l2.carets
    · have e1 : splitT (.node l r, .node l2 r2) = some ((l, l2), (r, r2)) := if_pos hll
      have q1 : ((l.carets : Int) != (l2.carets : Int)) = false := by rw [hll]; simp
      rw [e1]
      clear hs hle hc hB hll e1
      show Calls _ _ _ _ (fun e w' => e = .returned (ppb (tx l) (tx l2) (tx r) (tx r2) true) ∧ Ext w w')
      unfold ppb
      generalize tx l = sl at *
      generalize tx r = sr at *
      generalize tx l2 = sl2 at *
      generalize tx r2 = sr2 at *
      go_enter Try.func26, Try.ntmps26
      go_wp2_with fail
      generalize ((w.alloc (.cells #[.string a, .string b] 29)).alloc (.cells #[.string ⟨#[]⟩, .string ⟨#[]⟩] 29)).alloc (.cells #[.string ⟨#[]⟩, .string ⟨#[]⟩] 29) = W at *
      refine (C1.out _).mono ?_
      rintro e w1 ⟨pa, pb, rfl, rA, rB, x1⟩
      have xa := (Ext.refl w1).alloc (.cells #[.pointer pa, .pointer pb] 78)
      have RA := Lib.hid (rA.ext xa)
      have RB := Lib.hid (rB.ext xa)
      have X1 := Lib.hid (X2.out.trans (x1.trans xa))
      have T1 := Lib.hid (t1.ext (x1.trans xa))
      have T2 := Lib.hid (t2.ext (x1.trans xa))
      have T5 := Lib.hid (Two.new w1 (.pointer pa) (.pointer pb) 78 rfl)
      have G5 := Lib.hid (X2.out.trans x1).size
      have G6 := Lib.hid (And.intro (t1.ext x1) (t2.ext x1))
      clear rA rB t1 t2 x1 xa
      go_wp2_with fail
      generalize w1.alloc (.cells #[.pointer pa, .pointer pb] 78) = W1 at *
      have g1 : w.heap.size + 1 ≠ w1.heap.size := by
        obtain ⟨u, v, e⟩ := G6.out.1.at_
        have := (Array.getElem?_eq_some_iff.1 e).1; omega
      have g2 : w.heap.size + 1 + 1 ≠ w1.heap.size := by
        obtain ⟨u, v, e⟩ := G6.out.2.at_
        have := (Array.getElem?_eq_some_iff.1 e).1; omega
      have GG := Lib.hid (And.intro g1 g2)
      clear g1 g2
      refine (C2.out pa pb _ RA.out RB.out).mono ?_
      rintro e w2 ⟨q1, q2, rfl, r1, r2, x2⟩
      have T5' := T5.out.ext x2
      obtain ⟨u, v, k0, k1, f0, f1⟩ := T5'.facts
      obtain ⟨d0, d1⟩ := cells_of (set2_heap T5' (.pointer q1) (.pointer q2))
      have R1 := Rep.set2 T5' (by decide) (.pointer q1) (.pointer q2) r1
      have R2 := Rep.set2 T5' (by decide) (.pointer q1) (.pointer q2) r2
      have T1 := Lib.hid ((T1.out.ext x2).far (g := w1.heap.size) GG.out.1 (.pointer q1) (.pointer q2))
      have T2 := Lib.hid ((T2.out.ext x2).far (g := w1.heap.size) GG.out.2 (.pointer q1) (.pointer q2))
      have X3 := Lib.hid ((X1.out.trans x2).set2 (g := w1.heap.size) G5.out (.pointer q1) (.pointer q2))
      obtain ⟨b1, pl, pr, rfl, hb1, hl, hr⟩ := R1
      obtain ⟨b2, pl2, pr2, rfl, hb2, hl2, hr2⟩ := R2
      have BB := Lib.hid (And.intro (And.intro (Rep.apart (l := l) (r := r) hb1 T1.out (by decide)) (Rep.apart (l := l) (r := r) hb1 T2.out (by decide))) (And.intro (Rep.apart (l := l) (r := r) hb2 T1.out (by decide)) (Rep.apart (l := l) (r := r) hb2 T2.out (by decide))))
      obtain ⟨e10, e11⟩ := cells_of hb1
      obtain ⟨e20, e21⟩ := cells_of hb2
      have HL := Lib.hid hl
      have HR := Lib.hid hr
      have HL2 := Lib.hid hl2
      have HR2 := Lib.hid hr2
      clear x2 r1 r2 T5' hl hr hl2 hr2 hb1 hb2
      go_wp2_with fail
      change Code.wp _ _ _ _ (N.set2 w2 w1.heap.size (.pointer (some ⟨b1, 0, none⟩)) (.pointer (some ⟨b2, 0, none⟩)))
      generalize N.set2 w2 w1.heap.size (.pointer (some ⟨b1, 0, none⟩)) (.pointer (some ⟨b2, 0, none⟩)) = w3 at *
      go_quiet (first
        | (go_at_call_of 74 (Value.pointer pl); exact Calls.quiet_of (C6.out _ _ (HL.out.ext ((Ext.refl _).drewN _))))
        | (go_at_call_of 74 (Value.pointer pl2); exact Calls.quiet_of (C7.out _ _ (HL2.out.ext ((Ext.refl _).drewN _))))
        | fail)
      have xd : Ext w3 (w3.drewN nq) := (Ext.refl _).drewN _
      have X3 := Lib.hid (X3.out.trans xd)
      have T1 := Lib.hid (T1.out.ext xd)
      have T2 := Lib.hid (T2.out.ext xd)
      have HL := Lib.hid (HL.out.ext xd)
      have HR := Lib.hid (HR.out.ext xd)
      have HL2 := Lib.hid (HL2.out.ext xd)
      have HR2 := Lib.hid (HR2.out.ext xd)
      have d0 := xd.cell d0
      have d1 := xd.cell d1
      have e10 := xd.cell e10
      have e11 := xd.cell e11
      have e20 := xd.cell e20
      have e21 := xd.cell e21
      clear xd
      generalize w3.drewN nq = w4 at *
      go_wp2_with fail
      have SX := Lib.hid (And.intro d0 (And.intro d1 (And.intro e10 (And.intro e11 (And.intro e20 (And.intro e21 X3.out))))))
      go_region_held3 (fun w' => w'.cell? ⟨w1.heap.size, 0, none⟩ = some (.pointer (some ⟨b1, 0, none⟩)) ∧ w'.cell? ⟨w1.heap.size, 1, none⟩ = some (.pointer (some ⟨b2, 0, none⟩)) ∧ w'.cell? ⟨b1, 0, none⟩ = some (.pointer pl) ∧ w'.cell? ⟨b1, 1, none⟩ = some (.pointer pr) ∧ w'.cell? ⟨b2, 0, none⟩ = some (.pointer pl2) ∧ w'.cell? ⟨b2, 1, none⟩ = some (.pointer pr2) ∧ Ext w w')
        (first
          | with_reducible exact six_ext SX.out (Ext.refl _).drew
          | with_reducible exact six_ext SX.out x6
          | with_reducible exact six_ext SX.out x5
          | with_reducible exact six_far' _ _ (six_ext SX.out x6) GG.out.1.symm BB.out.1.1 BB.out.2.1 (Nat.le_succ _)
          | with_reducible exact six_far' _ _ (six_ext SX.out x6) GG.out.2.symm BB.out.1.2 BB.out.2.2 (Nat.le_succ_of_le (Nat.le_succ _))
          | with_reducible exact six_far' _ _ (six_far' _ _ (six_ext SX.out x6) GG.out.1.symm BB.out.1.1 BB.out.2.1 (Nat.le_succ _)) GG.out.2.symm BB.out.1.2 BB.out.2.2 (Nat.le_succ_of_le (Nat.le_succ _))
          | fail)
        (first
          | (go_at_call_of 67 (Value.agg #[.pointer pl, .pointer pl2]); refine (C8.out _ _ _ (HL.out.ext (Ext.refl _).drew) (HL2.out.ext (Ext.refl _).drew)).mono ?_; rintro e w5 ⟨rfl, hx5⟩; have x5 := (Ext.refl w4).drew.trans hx5)
          | (go_at_call_of 67 (Value.agg #[.pointer pr, .pointer pr2]); refine (C9.out _ _ _ (HR.out.ext x5) (HR2.out.ext x5)).mono ?_; rintro e w6 ⟨rfl, hx6⟩; have x6 := x5.trans hx6; obtain ⟨u, v, k0, k1, f0, f1⟩ := (T1.out.ext x6).facts; obtain ⟨u', v', k0', k1', f0', f1'⟩ := (T2.out.ext x6).facts)
          | fail)
      have TT := Lib.hid (And.intro (T1.out.ext x6) (T2.out.ext x6))
      have X6 := Lib.hid (X3.out.trans x6)
      clear x5 x6 hx5 hx6 k0 k1 f0 f1 k0' k1' f0' f1'
      obtain ⟨hc0, hc1, hc2, hc3, XX⟩ := two_results TT.out.1 TT.out.2 (.string sl) (.string sl2) (.string sr) (.string sr2) X6.out (by omega)
      change Exit.then _ _ _ _ (N.set2 (N.set2 w6 (w.heap.size + 1) (.string sl) (.string sl2)) (w.heap.size + 1 + 1) (.string sr) (.string sr2))
      generalize N.set2 (N.set2 w6 (w.heap.size + 1) (.string sl) (.string sl2)) (w.heap.size + 1 + 1) (.string sr) (.string sr2) = W3 at *
      go_wp2_with fail
      exact bodyPost_ret (v := .tuple #[.agg #[.string sl, .string sl2], .agg #[.string sr, .string sr2], .bool true]) (by simp [results, Try.results26, go_sem, hc0, hc1, hc2, hc3]) rfl ⟨rfl, XX⟩
    · have e1 : splitT (.node l r, .node l2 r2) = none := if_neg hll
      have q1 : ((l.carets : Int) != (l2.carets : Int)) = true := by rw [bne_iff_ne]; omega
      rw [e1]
      clear hs hle hc hB hll e1 C8 C9
      show Calls _ _ _ _ (fun e w' => e = .returned (ppb ⟨#[]⟩ ⟨#[]⟩ ⟨#[]⟩ ⟨#[]⟩ false) ∧ Ext w w')
      unfold ppb
      go_enter Try.func26, Try.ntmps26
      go_wp2_with fail
      generalize ((w.alloc (.cells #[.string a, .string b] 29)).alloc (.cells #[.string ⟨#[]⟩, .string ⟨#[]⟩] 29)).alloc (.cells #[.string ⟨#[]⟩, .string ⟨#[]⟩] 29) = W at *
      refine (C1.out _).mono ?_
      rintro e w1 ⟨pa, pb, rfl, rA, rB, x1⟩
      have xa := (Ext.refl w1).alloc (.cells #[.pointer pa, .pointer pb] 78)
      have RA := Lib.hid (rA.ext xa)
      have RB := Lib.hid (rB.ext xa)
      have X1 := Lib.hid (X2.out.trans (x1.trans xa))
      have T1 := Lib.hid (t1.ext (x1.trans xa))
      have T2 := Lib.hid (t2.ext (x1.trans xa))
      have T5 := Lib.hid (Two.new w1 (.pointer pa) (.pointer pb) 78 rfl)
      have G5 := Lib.hid (X2.out.trans x1).size
      have G6 := Lib.hid (And.intro (t1.ext x1) (t2.ext x1))
      clear rA rB t1 t2 x1 xa
      go_wp2_with fail
      generalize w1.alloc (.cells #[.pointer pa, .pointer pb] 78) = W1 at *
      have g1 : w.heap.size + 1 ≠ w1.heap.size := by
        obtain ⟨u, v, e⟩ := G6.out.1.at_
        have := (Array.getElem?_eq_some_iff.1 e).1; omega
      have g2 : w.heap.size + 1 + 1 ≠ w1.heap.size := by
        obtain ⟨u, v, e⟩ := G6.out.2.at_
        have := (Array.getElem?_eq_some_iff.1 e).1; omega
      have GG := Lib.hid (And.intro g1 g2)
      clear g1 g2
      refine (C2.out pa pb _ RA.out RB.out).mono ?_
      rintro e w2 ⟨q1, q2, rfl, r1, r2, x2⟩
      have T5' := T5.out.ext x2
      obtain ⟨u, v, k0, k1, f0, f1⟩ := T5'.facts
      obtain ⟨d0, d1⟩ := cells_of (set2_heap T5' (.pointer q1) (.pointer q2))
      have R1 := Rep.set2 T5' (by decide) (.pointer q1) (.pointer q2) r1
      have R2 := Rep.set2 T5' (by decide) (.pointer q1) (.pointer q2) r2
      have T1 := Lib.hid ((T1.out.ext x2).far (g := w1.heap.size) GG.out.1 (.pointer q1) (.pointer q2))
      have T2 := Lib.hid ((T2.out.ext x2).far (g := w1.heap.size) GG.out.2 (.pointer q1) (.pointer q2))
      have X3 := Lib.hid ((X1.out.trans x2).set2 (g := w1.heap.size) G5.out (.pointer q1) (.pointer q2))
      obtain ⟨b1, pl, pr, rfl, hb1, hl, hr⟩ := R1
      obtain ⟨b2, pl2, pr2, rfl, hb2, hl2, hr2⟩ := R2
      have BB := Lib.hid (And.intro (And.intro (Rep.apart (l := l) (r := r) hb1 T1.out (by decide)) (Rep.apart (l := l) (r := r) hb1 T2.out (by decide))) (And.intro (Rep.apart (l := l) (r := r) hb2 T1.out (by decide)) (Rep.apart (l := l) (r := r) hb2 T2.out (by decide))))
      obtain ⟨e10, e11⟩ := cells_of hb1
      obtain ⟨e20, e21⟩ := cells_of hb2
      have HL := Lib.hid hl
      have HR := Lib.hid hr
      have HL2 := Lib.hid hl2
      have HR2 := Lib.hid hr2
      clear x2 r1 r2 T5' hl hr hl2 hr2 hb1 hb2
      go_wp2_with fail
      change Code.wp _ _ _ _ (N.set2 w2 w1.heap.size (.pointer (some ⟨b1, 0, none⟩)) (.pointer (some ⟨b2, 0, none⟩)))
      generalize N.set2 w2 w1.heap.size (.pointer (some ⟨b1, 0, none⟩)) (.pointer (some ⟨b2, 0, none⟩)) = w3 at *
      go_quiet (first
        | (go_at_call_of 74 (Value.pointer pl); exact Calls.quiet_of (C6.out _ _ (HL.out.ext ((Ext.refl _).drewN _))))
        | (go_at_call_of 74 (Value.pointer pl2); exact Calls.quiet_of (C7.out _ _ (HL2.out.ext ((Ext.refl _).drewN _))))
        | fail)
      have xd : Ext w3 (w3.drewN nq) := (Ext.refl _).drewN _
      have X3 := Lib.hid (X3.out.trans xd)
      have T1 := Lib.hid (T1.out.ext xd)
      have T2 := Lib.hid (T2.out.ext xd)
      have HL := Lib.hid (HL.out.ext xd)
      have HR := Lib.hid (HR.out.ext xd)
      have HL2 := Lib.hid (HL2.out.ext xd)
      have HR2 := Lib.hid (HR2.out.ext xd)
      have d0 := xd.cell d0
      have d1 := xd.cell d1
      have e10 := xd.cell e10
      have e11 := xd.cell e11
      have e20 := xd.cell e20
      have e21 := xd.cell e21
      clear xd
      generalize w3.drewN nq = w4 at *
      have T1 := T1.out
      have T2 := T2.out
      obtain ⟨u, v, k0, k1, f0, f1⟩ := T1.facts
      obtain ⟨u', v', k0', k1', f0', f1'⟩ := T2.facts
      have TT := Lib.hid (And.intro T1 T2)
      clear T1 T2
      go_wp2_with fail
      obtain ⟨hc0, hc1, hc2, hc3, XX⟩ := two_results TT.out.1 TT.out.2 (.string ⟨#[]⟩) (.string ⟨#[]⟩) (.string ⟨#[]⟩) (.string ⟨#[]⟩) X3.out (by omega)
      change bodyPost _ _ _ _ _ (N.set2 (N.set2 w4 (w.heap.size + 1) (.string ⟨#[]⟩) (.string ⟨#[]⟩)) (w.heap.size + 1 + 1) (.string ⟨#[]⟩) (.string ⟨#[]⟩))
      generalize N.set2 (N.set2 w4 (w.heap.size + 1) (.string ⟨#[]⟩) (.string ⟨#[]⟩)) (w.heap.size + 1 + 1) (.string ⟨#[]⟩) (.string ⟨#[]⟩) = W3 at *
      exact bodyPost_ret (v := .tuple #[.agg #[.string ⟨#[]⟩, .string ⟨#[]⟩], .agg #[.string ⟨#[]⟩, .string ⟨#[]⟩], .bool false]) (by simp [results, Try.results26, go_sem, hc0, hc1, hc2, hc3]) rfl ⟨rfl, XX⟩

theorem SpV_ppb (o : Option ((Tr × Tr) × (Tr × Tr))) : ∃ a b c d f, SpV o = ppb a b c d f := by
  cases o with
  | none => exact ⟨_, _, _, _, _, rfl⟩
  | some x => exact ⟨_, _, _, _, _, rfl⟩
theorem both_SplitHalves (s t : ByteArray) : ∃ a b c d f, (∀ w, Calls Try.prog 24 #[.agg #[.string s, .string t]] w fun e w' => e = .returned (ppb a b c d f) ∧ Ext w w') ∧ ∀ w, Calls Try.prog 26 #[.agg #[.string s, .string t]] w fun e w' => e = .returned (ppb a b c d f) ∧ Ext w w' := by
  by_cases h : Good s t
  · obtain ⟨A, B, rfl, rfl, h1, h2⟩ := h
    obtain ⟨a, b, c, d, f, e⟩ := SpV_ppb (splitT (red (A, B)))
    refine ⟨a, b, c, d, f, ?_⟩
    rw [← e]
    exact ⟨specSplit_yes A B h1 h2, implSplit_yes A B h1 h2⟩
  · exact ⟨_, _, _, _, _, specSplit_no s t h, implSplit_no s t h⟩
set_option maxHeartbeats 3200000 in
set_option maxRecDepth 100000 in
theorem walk_FnExactSplitHalves (s t : ByteArray) (hs : s.size ≤ maxLen) (ht : t.size ≤ maxLen) (w : World) :
    Calls Try.prog 5 #[.agg #[.string s, .string t]] w fun e w' => e = .returned (.bool true) ∧ Ext w w' := by
  obtain ⟨x, y, x2, y2, b, C1, C2⟩ := both_SplitHalves s t
  have C1 := Lib.hid C1
  have C2 := Lib.hid C2
  have C3 := Lib.hid (fun w => szPair_calls s t 1048576 (by omega) hs ht w)
  have C4 := Lib.hid (fun w => toPair_calls s t w)
  have X0 := Lib.hid ((Ext.refl w).alloc (.cells #[.string s, .string t] 33))
  have c0 : (w.alloc (.cells #[.string s, .string t] 33)).cell? ⟨w.heap.size, 0, none⟩ = some (.string s) := by go_simp
  have c1 : (w.alloc (.cells #[.string s, .string t] 33)).cell? ⟨w.heap.size, 1, none⟩ = some (.string t) := by go_simp
  clear hs ht
  go_enter Try.func5, Try.ntmps5
  go_wp2_with fail
  generalize w.alloc (.cells #[.string s, .string t] 33) = W at *
  refine (C3.out _).mono ?_
  rintro e w1 ⟨r, rfl, hr, x1⟩
  have c0 := x1.cell c0
  have c1 := x1.cell c1
  have X1 := Lib.hid (X0.out.trans x1)
  have hr := Lib.hid hr.out
  clear x1
  by_cases hr0 : r < 0
  · go_wp2_with fail
    go_ret
    exact ⟨rfl, X1.out⟩
  · go_wp2_with fail
    refine (C4.out _).mono ?_
    rintro e w2 ⟨rfl, x2'⟩
    have c0 := x2'.cell c0
    have c1 := x2'.cell c1
    have X2 := Lib.hid (X1.out.trans x2')
    clear x2'
    go_wp2_with fail
    refine (C1.out _).mono ?_
    rintro e w3 ⟨rfl, x3⟩
    unfold ppb
    have xx := (x3.alloc (.cells #[.string x, .string y] 29)).alloc (.cells #[.string x2, .string y2] 29)
    have c0 := xx.cell c0
    have c1 := xx.cell c1
    have X3 := Lib.hid (X2.out.trans xx)
    obtain ⟨d0, d1⟩ := cells_of (((Ext.refl _).alloc (.cells #[.string x2, .string y2] 29)).at (heap_alloc_new w3 (.cells #[.string x, .string y] 29)))
    obtain ⟨f0, f1⟩ := cells_of (show ((w3.alloc (.cells #[.string x, .string y] 29)).alloc (.cells #[.string x2, .string y2] 29)).heap[w3.heap.size + 1]? = some (.cells #[.string x2, .string y2] 29) from by
      have := heap_alloc_new (w3.alloc (.cells #[.string x, .string y] 29)) (.cells #[.string x2, .string y2] 29)
      simpa using this)
    clear x3 xx
    go_wp2_with fail
    generalize (w3.alloc (.cells #[.string x, .string y] 29)).alloc (.cells #[.string x2, .string y2] 29) = W3 at *
    refine (C4.out _).mono ?_
    rintro e w4 ⟨rfl, x4⟩
    have d0 := x4.cell d0
    have d1 := x4.cell d1
    have f0 := x4.cell f0
    have f1 := x4.cell f1
    have X4 := Lib.hid (X3.out.trans x4)
    clear x4 c0 c1
    go_wp2_with fail
    refine (C2.out _).mono ?_
    rintro e w5 ⟨rfl, x5⟩
    unfold ppb
    have xx := (x5.alloc (.cells #[.string x, .string y] 29)).alloc (.cells #[.string x2, .string y2] 29)
    have d0 := xx.cell d0
    have d1 := xx.cell d1
    have f0 := xx.cell f0
    have f1 := xx.cell f1
    obtain ⟨g0, g1⟩ := cells_of (((Ext.refl _).alloc (.cells #[.string x2, .string y2] 29)).at (heap_alloc_new w5 (.cells #[.string x, .string y] 29)))
    obtain ⟨h0, h1⟩ := cells_of (show ((w5.alloc (.cells #[.string x, .string y] 29)).alloc (.cells #[.string x2, .string y2] 29)).heap[w5.heap.size + 1]? = some (.cells #[.string x2, .string y2] 29) from by
      have := heap_alloc_new (w5.alloc (.cells #[.string x, .string y] 29)) (.cells #[.string x2, .string y2] 29)
      simpa using this)
    have X5 := Lib.hid (X4.out.trans xx)
    clear x5 xx
    go_wp2_with fail
    generalize (w5.alloc (.cells #[.string x, .string y] 29)).alloc (.cells #[.string x2, .string y2] 29) = W5 at *
    refine (eqPair_calls x y _).mono ?_
    rintro e w6 ⟨rfl, x6⟩
    have f0 := x6.cell f0
    have f1 := x6.cell f1
    have h0 := x6.cell h0
    have h1 := x6.cell h1
    have X6 := Lib.hid (X5.out.trans x6)
    clear x6
    go_wp2_with fail
    refine (eqPair_calls x2 y2 _).mono ?_
    rintro e w7 ⟨rfl, x7⟩
    have X7 := Lib.hid (X6.out.trans x7)
    clear x7
    cases b
    all_goals
      go_wp2_with fail
      go_ret
      exact ⟨rfl, X7.out⟩
end Go.Proofs.Ytfkjjmmoipcddaa.N
