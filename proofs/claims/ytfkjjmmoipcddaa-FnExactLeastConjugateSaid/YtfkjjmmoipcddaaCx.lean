import Derived.Test.YtfkjjmmoipcddaaBa
import Derived.Test.YtfkjjmmoipcddaaPu
import Derived.Test.YtfkjjmmoipcddaaSl
import Derived.Test.YtfkjjmmoipcddaaProg
import Derived.Test.YtfkjjmmoipcddaaTn
import Derived.Test.YtfkjjmmoipcddaaTs
import Derived.Test.YtfkjjmmoipcddaaPp
import Derived.Test.YtfkjjmmoipcddaaPg
import Derived.Test.YtfkjjmmoipcddaaPh
import Derived.Test.YtfkjjmmoipcddaaWl
import Derived.Test.YtfkjjmmoipcddaaTp
import Derived.Test.YtfkjjmmoipcddaaTr
import Derived.Test.YtfkjjmmoipcddaaTu
import Derived.Test.YtfkjjmmoipcddaaTg
import Derived.Test.YtfkjjmmoipcddaaSg
import Derived.Test.YtfkjjmmoipcddaaVt
import Derived.Test.YtfkjjmmoipcddaaTk
import Derived.Test.YtfkjjmmoipcddaaSj
import Derived.Test.YtfkjjmmoipcddaaCl
import Derived.Test.YtfkjjmmoipcddaaSx
import Derived.Test.YtfkjjmmoipcddaaSy
import Derived.Test.YtfkjjmmoipcddaaSz
import Derived.Test.YtfkjjmmoipcddaaWp
import Derived.Test.YtfkjjmmoipcddaaWq
import Derived.Test.YtfkjjmmoipcddaaRh
import Derived.Test.YtfkjjmmoipcddaaCw
import Derived.Test.YtfkjjmmoipcddaaWt
import Derived.Test.YtfkjjmmoipcddaaWu
import Derived.Deep.LoopGhost
import Derived.Deep.RegionHeld3
import Derived.Deep.QuietTactic
import Derived.StillTailTactics
/- A pair conjugated by a word: where it fails, the reference and the law. -/
namespace Go.Proofs.Ytfkjjmmoipcddaa.N
open Go.RowKit
set_option linter.unusedVariables false
set_option linter.unusedSimpArgs false

def CwGood (s t : ByteArray) (xs : List Int) : Prop := Good s t ∧ xs.length ≤ 6 ∧ TwoL xs
set_option maxHeartbeats 3200000 in
set_option maxRecDepth 100000 in
theorem implCW_no (s t : ByteArray) (xs : List Int) (hxl : xs.length ≤ 1048576) (h : ¬ CwGood s t xs) (v : Value) (w : World) (hv : Reads w v (ints xs)) :
    Calls Try.prog 42 #[.agg #[.string s, .string t], v] w fun e w' => e = .returned (CwV none) ∧ Ext w w' := by
  obtain ⟨X2, _, t1, _⟩ := boxP_facts w s t
  have X2 := Lib.hid X2
  show Calls _ _ _ _ (fun e w' => e = .returned (pb ⟨#[]⟩ ⟨#[]⟩ false) ∧ Ext w w')
  unfold pb
  have C0 := Lib.hid (fun W (h : Ext w W) => areTwo_calls xs (by omega) v W (hv.ext h))
  obtain ⟨AA, cc, rfl, _, _⟩ := hv
  rw [ints_length] at *
  by_cases hg : Good s t
  · obtain ⟨A, B, rfl, rfl, h1, h2⟩ := hg
    have C1 := Lib.hid (fun W => pairOf_yes A B h1 h2 W)
    by_cases hl : xs.length ≤ 6
    · have hT : ¬ TwoL xs := fun hT => h ⟨⟨A, B, rfl, rfl, h1, h2⟩, hl, hT⟩
      rw [decide_eq_false hT] at C0
      have hl' : (xs.length : Int) ≤ 6 := by omega
      clear h1 h2 hT hl h
      generalize tx A = a at *
      generalize tx B = b at *
      go_enter Try.func42, Try.ntmps42
      go_wp2_with fail
      generalize (w.alloc (.cells #[.string a, .string b] 29)).alloc (.cells #[.string ⟨#[]⟩, .string ⟨#[]⟩] 29) = W at *
      refine (C1.out _).mono ?_
      rintro e w1 ⟨p1, p2, rfl, rA, rB, x1⟩
      have x1 := x1.alloc (.cells #[.pointer p1, .pointer p2] 78)
      have X1 := Lib.hid (X2.out.trans x1)
      have T1 := t1.ext x1
      obtain ⟨u, v, k0, k1, f0, f1⟩ := T1.facts
      have T1 := Lib.hid T1
      clear rA rB t1 x1
      go_wp2_with fail
      generalize w1.alloc (.cells #[.pointer p1, .pointer p2] 78) = W1 at *
      refine (C0.out _ X1.out).mono ?_
      rintro e w2 ⟨rfl, rfl⟩
      go_wp2_with fail
      have HH := set2_heap T1.out (.string ⟨#[]⟩) (.string ⟨#[]⟩)
      have XX := X1.out.set2 (g := w.heap.size + 1) (by omega) (.string ⟨#[]⟩) (.string ⟨#[]⟩)
      change bodyPost _ _ _ _ _ (N.set2 W1 (w.heap.size + 1) (.string ⟨#[]⟩) (.string ⟨#[]⟩))
      obtain ⟨hc0, hc1⟩ := cells_of HH
      generalize N.set2 W1 (w.heap.size + 1) (.string ⟨#[]⟩) (.string ⟨#[]⟩) = W3 at *
      exact bodyPost_ret (v := .tuple #[.agg #[.string ⟨#[]⟩, .string ⟨#[]⟩], .bool false]) (by simp [results, Try.results42, go_sem, hc0, hc1]) rfl ⟨rfl, XX⟩
    · have hl' : (6 : Int) < xs.length := by omega
      clear h1 h2 hl h C0
      generalize tx A = a at *
      generalize tx B = b at *
      go_enter Try.func42, Try.ntmps42
      go_wp2_with fail
      generalize (w.alloc (.cells #[.string a, .string b] 29)).alloc (.cells #[.string ⟨#[]⟩, .string ⟨#[]⟩] 29) = W at *
      refine (C1.out _).mono ?_
      rintro e w1 ⟨p1, p2, rfl, rA, rB, x1⟩
      have x1 := x1.alloc (.cells #[.pointer p1, .pointer p2] 78)
      have X1 := Lib.hid (X2.out.trans x1)
      have T1 := t1.ext x1
      obtain ⟨u, v, k0, k1, f0, f1⟩ := T1.facts
      have T1 := Lib.hid T1
      clear rA rB t1 x1
      go_wp2_with fail
      have HH := set2_heap T1.out (.string ⟨#[]⟩) (.string ⟨#[]⟩)
      have XX := X1.out.set2 (g := w.heap.size + 1) (by omega) (.string ⟨#[]⟩) (.string ⟨#[]⟩)
      change bodyPost _ _ _ _ _ (N.set2 (w1.alloc (.cells #[.pointer p1, .pointer p2] 78)) (w.heap.size + 1) (.string ⟨#[]⟩) (.string ⟨#[]⟩))
      obtain ⟨hc0, hc1⟩ := cells_of HH
      generalize N.set2 (w1.alloc (.cells #[.pointer p1, .pointer p2] 78)) (w.heap.size + 1) (.string ⟨#[]⟩) (.string ⟨#[]⟩) = W3 at *
      exact bodyPost_ret (v := .tuple #[.agg #[.string ⟨#[]⟩, .string ⟨#[]⟩], .bool false]) (by simp [results, Try.results42, go_sem, hc0, hc1]) rfl ⟨rfl, XX⟩
  · have C1 := Lib.hid (fun W => pairOf_no s t hg W)
    clear hg h C0
    go_enter Try.func42, Try.ntmps42
    go_wp2_with fail
    generalize (w.alloc (.cells #[.string s, .string t] 29)).alloc (.cells #[.string ⟨#[]⟩, .string ⟨#[]⟩] 29) = W at *
    refine (C1.out _).mono ?_
    rintro e w1 ⟨p1, p2, rfl, x1⟩
    have x1 := x1.alloc (.cells #[.pointer p1, .pointer p2] 78)
    have X1 := Lib.hid (X2.out.trans x1)
    have T1 := t1.ext x1
    obtain ⟨u, v, k0, k1, f0, f1⟩ := T1.facts
    have T1 := Lib.hid T1
    clear t1 x1
    go_wp2_with fail
    have HH := set2_heap T1.out (.string ⟨#[]⟩) (.string ⟨#[]⟩)
    have XX := X1.out.set2 (g := w.heap.size + 1) (by omega) (.string ⟨#[]⟩) (.string ⟨#[]⟩)
    change bodyPost _ _ _ _ _ (N.set2 (w1.alloc (.cells #[.pointer p1, .pointer p2] 78)) (w.heap.size + 1) (.string ⟨#[]⟩) (.string ⟨#[]⟩))
    obtain ⟨hc0, hc1⟩ := cells_of HH
    generalize N.set2 (w1.alloc (.cells #[.pointer p1, .pointer p2] 78)) (w.heap.size + 1) (.string ⟨#[]⟩) (.string ⟨#[]⟩) = W3 at *
    exact bodyPost_ret (v := .tuple #[.agg #[.string ⟨#[]⟩, .string ⟨#[]⟩], .bool false]) (by simp [results, Try.results42, go_sem, hc0, hc1]) rfl ⟨rfl, XX⟩

set_option maxHeartbeats 3200000 in
set_option maxRecDepth 100000 in
theorem specCW_no (s t : ByteArray) (xs : List Int) (hxl : xs.length ≤ 1048576) (h : ¬ CwGood s t xs) (v : Value) (w : World) (hv : Reads w v (ints xs)) :
    Calls Try.prog 40 #[.agg #[.string s, .string t], v] w fun e w' => e = .returned (CwV none) ∧ Ext w w' := by
  obtain ⟨X2, _, t1, _⟩ := boxP_facts w s t
  have X2 := Lib.hid X2
  show Calls _ _ _ _ (fun e w' => e = .returned (pb ⟨#[]⟩ ⟨#[]⟩ false) ∧ Ext w w')
  unfold pb
  have C0 := Lib.hid (fun W (h : Ext w W) => wdIs_calls xs 1 (by omega) (by omega) v W (hv.ext h))
  obtain ⟨AA, cc, rfl, _, _⟩ := hv
  rw [ints_length] at *
  by_cases hg : Good s t
  · obtain ⟨A, B, rfl, rfl, h1, h2⟩ := hg
    have C1 := Lib.hid (fun W => prGood_yes A B h1 h2 W)
    by_cases hl : xs.length ≤ 6
    · have hT : ¬ LetL 1 xs := fun hT => h ⟨⟨A, B, rfl, rfl, h1, h2⟩, hl, (LetL_two xs).1 hT⟩
      rw [decide_eq_false hT] at C0
      have hl' : (xs.length : Int) ≤ 6 := by omega
      clear h1 h2 hT hl h
      generalize tx A = a at *
      generalize tx B = b at *
      go_enter Try.func40, Try.ntmps40
      go_wp2_with fail
      generalize (w.alloc (.cells #[.string a, .string b] 29)).alloc (.cells #[.string ⟨#[]⟩, .string ⟨#[]⟩] 29) = W at *
      refine (C1.out _).mono ?_
      rintro e w1 ⟨rfl, x1⟩
      have X1 := Lib.hid (X2.out.trans x1)
      have T1 := t1.ext x1
      obtain ⟨u, v, k0, k1, f0, f1⟩ := T1.facts
      have T1 := Lib.hid T1
      clear t1 x1
      go_wp2_with fail
      refine (C0.out _ X1.out).mono ?_
      rintro e w2 ⟨rfl, rfl⟩
      go_wp2_with fail
      have HH := set2_heap T1.out (.string ⟨#[]⟩) (.string ⟨#[]⟩)
      have XX := X1.out.set2 (g := w.heap.size + 1) (by omega) (.string ⟨#[]⟩) (.string ⟨#[]⟩)
      change bodyPost _ _ _ _ _ (N.set2 w1 (w.heap.size + 1) (.string ⟨#[]⟩) (.string ⟨#[]⟩))
      obtain ⟨hc0, hc1⟩ := cells_of HH
      generalize N.set2 w1 (w.heap.size + 1) (.string ⟨#[]⟩) (.string ⟨#[]⟩) = W3 at *
      exact bodyPost_ret (v := .tuple #[.agg #[.string ⟨#[]⟩, .string ⟨#[]⟩], .bool false]) (by simp [results, Try.results40, go_sem, hc0, hc1]) rfl ⟨rfl, XX⟩
    · have hl' : (6 : Int) < xs.length := by omega
      clear h1 h2 hl h C0
      generalize tx A = a at *
      generalize tx B = b at *
      go_enter Try.func40, Try.ntmps40
      go_wp2_with fail
      generalize (w.alloc (.cells #[.string a, .string b] 29)).alloc (.cells #[.string ⟨#[]⟩, .string ⟨#[]⟩] 29) = W at *
      refine (C1.out _).mono ?_
      rintro e w1 ⟨rfl, x1⟩
      have X1 := Lib.hid (X2.out.trans x1)
      have T1 := t1.ext x1
      obtain ⟨u, v, k0, k1, f0, f1⟩ := T1.facts
      have T1 := Lib.hid T1
      clear t1 x1
      go_wp2_with fail
      have HH := set2_heap T1.out (.string ⟨#[]⟩) (.string ⟨#[]⟩)
      have XX := X1.out.set2 (g := w.heap.size + 1) (by omega) (.string ⟨#[]⟩) (.string ⟨#[]⟩)
      change bodyPost _ _ _ _ _ (N.set2 w1 (w.heap.size + 1) (.string ⟨#[]⟩) (.string ⟨#[]⟩))
      obtain ⟨hc0, hc1⟩ := cells_of HH
      generalize N.set2 w1 (w.heap.size + 1) (.string ⟨#[]⟩) (.string ⟨#[]⟩) = W3 at *
      exact bodyPost_ret (v := .tuple #[.agg #[.string ⟨#[]⟩, .string ⟨#[]⟩], .bool false]) (by simp [results, Try.results40, go_sem, hc0, hc1]) rfl ⟨rfl, XX⟩
  · have C1 := Lib.hid (fun W => prGood_no s t hg W)
    clear hg h C0
    go_enter Try.func40, Try.ntmps40
    go_wp2_with fail
    generalize (w.alloc (.cells #[.string s, .string t] 29)).alloc (.cells #[.string ⟨#[]⟩, .string ⟨#[]⟩] 29) = W at *
    refine (C1.out _).mono ?_
    rintro e w1 ⟨rfl, x1⟩
    have X1 := Lib.hid (X2.out.trans x1)
    have T1 := t1.ext x1
    obtain ⟨u, v, k0, k1, f0, f1⟩ := T1.facts
    have T1 := Lib.hid T1
    clear t1 x1
    go_wp2_with fail
    have HH := set2_heap T1.out (.string ⟨#[]⟩) (.string ⟨#[]⟩)
    have XX := X1.out.set2 (g := w.heap.size + 1) (by omega) (.string ⟨#[]⟩) (.string ⟨#[]⟩)
    change bodyPost _ _ _ _ _ (N.set2 w1 (w.heap.size + 1) (.string ⟨#[]⟩) (.string ⟨#[]⟩))
    obtain ⟨hc0, hc1⟩ := cells_of HH
    generalize N.set2 w1 (w.heap.size + 1) (.string ⟨#[]⟩) (.string ⟨#[]⟩) = W3 at *
    exact bodyPost_ret (v := .tuple #[.agg #[.string ⟨#[]⟩, .string ⟨#[]⟩], .bool false]) (by simp [results, Try.results40, go_sem, hc0, hc1]) rfl ⟨rfl, XX⟩
set_option maxHeartbeats 6400000 in
set_option maxRecDepth 100000 in
theorem specCW_yes (A B : Tr) (hc : A.carets = B.carets) (hB : B.carets ≤ 8) (xs : List Int) (hl : xs.length ≤ 6) (hT : TwoL xs) (v : Value) (w : World) (hv : Reads w v (ints xs)) :
    Calls Try.prog 40 #[.agg #[.string (tx A), .string (tx B)], v] w fun e w' => e = .returned (CwV (cjW xs (red (A, B)))) ∧ Ext w w' := by
  obtain ⟨X2, t0, t1, b0⟩ := boxP_facts w (tx A) (tx B)
  have X2 := Lib.hid X2
  have C1 := Lib.hid (fun W => prGood_yes A B hc hB W)
  have C0 := Lib.hid (fun W (h : Ext w W) => wdIs_calls xs 1 (by omega) (by omega) v W (hv.ext h))
  rw [decide_eq_true ((LetL_two xs).2 hT)] at C0
  have C2 := Lib.hid (fun W => prReduce_calls A B (by omega) (by omega) W)
  have hs : Hid ((red (A, B)).1.carets = (red (A, B)).2.carets ∧ (red (A, B)).2.carets ≤ 8) := ⟨red_same (p := (A, B)) hc, by have := (red_le (A, B)).2; simp only at this; omega⟩
  have V := Lib.hid hv
  have HT := Lib.hid hT
  obtain ⟨AA, cc, rfl, _, _⟩ := hv
  rw [ints_length] at *
  have hl' : (xs.length : Int) ≤ 6 := by omega
  generalize hp : red (A, B) = p0 at *
  generalize tx A = a at *
  generalize tx B = b at *
  clear hT hc hB hp
  go_enter Try.func40, Try.ntmps40
  go_wp2_with fail
  generalize (w.alloc (.cells #[.string a, .string b] 29)).alloc (.cells #[.string ⟨#[]⟩, .string ⟨#[]⟩] 29) = W at *
  refine (C1.out _).mono ?_
  rintro e w1 ⟨rfl, x1⟩
  have X1 := Lib.hid (X2.out.trans x1)
  have T1 := Lib.hid (t1.ext x1)
  have T0 := Lib.hid (t0.ext x1)
  obtain ⟨d0, d1⟩ := cells_of (x1.at b0)
  clear t1 x1 t0 b0
  go_wp2_with fail
  refine (C0.out _ X1.out).mono ?_
  rintro e w2 ⟨rfl, rfl⟩
  go_wp2_with fail
  refine (C2.out _).mono ?_
  rintro e w2 ⟨rfl, x2⟩
  have T0' := T0.out.ext x2
  obtain ⟨u, v, k0, k1, f0, f1⟩ := T0'.facts
  have HB := Lib.hid (set2_heap T0' (.string (tx p0.1)) (.string (tx p0.2)))
  have T1 := Lib.hid ((T1.out.ext x2).far (g := w.heap.size) (by omega) (.string (tx p0.1)) (.string (tx p0.2)))
  have X3 := Lib.hid ((X1.out.trans x2).set2 (g := w.heap.size) (Nat.le_refl _) (.string (tx p0.1)) (.string (tx p0.2)))
  clear x2 T0' d0 d1 X1
  go_wp2_with fail
  change Code.wp _ _ _ _ (N.set2 w2 w.heap.size (.string (tx p0.1)) (.string (tx p0.2)))
  generalize N.set2 w2 w.heap.size (.string (tx p0.1)) (.string (tx p0.2)) = w3 at *
  clear k0 k1 f0 f1
  go_loopw [26] (fun i wr => ∃ (j : Nat) (C D : Tr), j ≤ xs.length ∧ i = .int .i64 j ∧ Hid (C.carets = D.carets ∧ D.carets ≤ 8) ∧ Hid (cjW xs p0 = cjW (xs.drop j) (C, D)) ∧ Hid (wr.heap[w.heap.size]? = some (.cells #[.string (tx C), .string (tx D)] 29)) ∧ Hid (Two wr (w.heap.size + 1) 29) ∧ Hid (Ext w wr)) (fun i _ => xs.length - (intOf i).toNat)
  case atStart => exact ⟨0, p0.1, p0.2, Nat.zero_le _, rfl, hs.out, rfl, HB.out, T1.out, X3.out⟩
  case round =>
    obtain ⟨j, C, D, hj, rfl, HS, HC, HB, HT1, HX⟩ := hrel
    obtain ⟨d0, d1⟩ := cells_of HB.out
    by_cases hlt : j < xs.length
    · have hx : xs[j]? = some xs[j] := List.getElem?_eq_getElem hlt
      obtain ⟨A1, c1, e1, _, rd⟩ := V.out.ext HX.out
      rw [ints_length] at *
      injection e1 with e1 _ e3
      subst e1 e3
      obtain ⟨ad, rfl, ca⟩ := rd (by omega)
      have c2 := ca j _ (ints_get xs j hlt)
      have h0 : (0 : Int) ≤ j := by omega
      have h1 : (j : Int) < xs.length := by omega
      have LT := HT.out _ (List.mem_of_getElem? hx)
      have ST := Lib.hid (cjW_step xs j _ hx (C, D))
      have CL := Lib.hid (fun W => wdLetter_calls xs[j] ⟨LT.1, by omega, by omega⟩ W)
      have LC := letP_carets LT.1
      obtain ⟨m1, m2⟩ := conj_carets (p := (C, D)) (q := letP xs[j]) HS.out.1 (by omega)
      have CC := Lib.hid (fun W => cjBy_calls C D (letP xs[j]).1 (letP xs[j]).2 HS.out.1 (by omega) (by have := HS.out; omega) W)
      rw [show ((letP xs[j]).1, (letP xs[j]).2) = letP xs[j] from rfl] at CC
      have M := Lib.hid (And.intro m1 m2)
      have MB : Hid ((conj (C, D) (letP xs[j])).2.carets < 100) := by show _ < _; simp only at m2; have := HS.out; omega
      generalize conj (C, D) (letP xs[j]) = np at *
      generalize xs[j] = x at *
      generalize tx (letP x).1 = l1 at *
      generalize tx (letP x).2 = l2 at *
      clear rd ca hx LT LC m1 m2
      have TB : Hid (Two wr w.heap.size 29) := ⟨_, _, HB.out⟩
      generalize tx C = sc at *
      generalize tx D = sd at *
      obtain ⟨z1, hz1⟩ : ∃ z, z = tx np.1 := ⟨_, rfl⟩
      obtain ⟨z2, hz2⟩ : ∃ z, z = tx np.2 := ⟨_, rfl⟩
      rw [← hz1, ← hz2] at CC
      have HZ := Lib.hid (And.intro hz1 hz2)
      clear hz1 hz2
      go_wp2_with fail
      rw [show Op.load 29 (Operand.tmp 2) = shy (Op.load 29 (Operand.tmp 2)) from rfl]
      go_region_held3 (fun w' => Ext w w')
        (first | with_reducible exact HX.out.drew | with_reducible exact HX.out.trans x2 | with_reducible exact HX.out.trans x3 | exact (HX.out.trans x3).set2 (g := w.heap.size) (Nat.le_refl _) _ _ | fail)
        (first
          | (go_at_call 96; refine (CL.out _).mono ?_; rintro e w5 ⟨rfl, hx2⟩; have x2 : Ext wr w5 := (Ext.refl wr).drew.trans hx2; have d0' := x2.cell d0; have d1' := x2.cell d1)
          | (go_at_call 87; refine (CC.out _).mono ?_; rintro e w6 ⟨rfl, hx3⟩; have x3 := x2.trans hx3; obtain ⟨u, v, k0, k1, f0, f1⟩ := (TB.out.ext x3).facts)
          | fail)
      all_goals
        have TX := TB.out.ext x3
        have HH := Lib.hid (set2_heap TX (.string z1) (.string z2))
        have T1 := Lib.hid ((HT1.out.ext x3).far (g := w.heap.size) (by omega) (.string z1) (.string z2))
        have XX := Lib.hid ((HX.out.trans x3).set2 (g := w.heap.size) (Nat.le_refl _) (.string z1) (.string z2))
        change Exit.then _ _ _ _ (N.set2 w6 w.heap.size (.string z1) (.string z2))
        obtain ⟨d0, d1⟩ := cells_of HH.out
        clear k0 k1 f0 f1 TX x3 x2 hx2 hx3 d0' d1'
        generalize N.set2 w6 w.heap.size (.string z1) (.string z2) = w7 at *
        have CA := Lib.hid (trCarets_tree np.1 (by have := M.out.1; have := MB.out; omega) w7)
        rw [← HZ.out.1] at CA
        have bn : (0 : Int) ≤ np.1.carets := by omega
        have T1 := T1.out
        obtain ⟨u, v, k0, k1, f0, f1⟩ := T1.facts
        have T1 := Lib.hid T1
        go_wp2_with fail
        refine CA.out.mono ?_
        rintro e w8 ⟨rfl, rfl⟩
        by_cases h8 : (8 : Int) < np.1.carets
        · have EV : Hid (CwV (cjW xs p0) = pb ⟨#[]⟩ ⟨#[]⟩ false) := by show _ = _; rw [HC.out, ST.out, if_pos (by omega)]; rfl
          go_wp2_with fail
          have HH := set2_heap T1.out (.string ⟨#[]⟩) (.string ⟨#[]⟩)
          have XX := XX.out.set2 (g := w.heap.size + 1) (by omega) (.string ⟨#[]⟩) (.string ⟨#[]⟩)
          change bodyPost _ _ _ _ _ (N.set2 w7 (w.heap.size + 1) (.string ⟨#[]⟩) (.string ⟨#[]⟩))
          obtain ⟨hc0, hc1⟩ := cells_of HH
          generalize N.set2 w7 (w.heap.size + 1) (.string ⟨#[]⟩) (.string ⟨#[]⟩) = W3 at *
          exact bodyPost_ret (v := .tuple #[.agg #[.string ⟨#[]⟩, .string ⟨#[]⟩], .bool false]) (by simp [results, Try.results40, go_sem, hc0, hc1]) rfl ⟨by rw [EV.out]; rfl, XX⟩
        · have EV : Hid (cjW xs p0 = cjW (xs.drop (j + 1)) (np.1, np.2)) := by show _ = _; rw [HC.out, ST.out, if_neg (by omega)]
          have HH := Lib.hid (HZ.out.1 ▸ HZ.out.2 ▸ HH.out)
          clear k0 k1 f0 f1
          go_wp2_with fail
          exact ⟨⟨j + 1, np.1, np.2, by omega, by go_num, ⟨M.out.1, by have := M.out.1; omega⟩, EV.out, HH.out, T1.out, XX.out⟩, by simp [intOf]; omega⟩
    · have h1 : (xs.length : Int) ≤ j := by omega
      have EV : Hid (CwV (cjW xs p0) = pb (tx C) (tx D) true) := by show _ = _; rw [HC.out, List.drop_eq_nil_of_le (by omega)]; rfl
      generalize tx C = rc at *
      generalize tx D = rd at *
      have T1 := HT1.out
      obtain ⟨u, v, k0, k1, f0, f1⟩ := T1.facts
      have T1 := Lib.hid T1
      go_wp2_with fail
      have HH := set2_heap T1.out (.string rc) (.string rd)
      have XX := HX.out.set2 (g := w.heap.size + 1) (by omega) (.string rc) (.string rd)
      change bodyPost _ _ _ _ _ (N.set2 wr (w.heap.size + 1) (.string rc) (.string rd))
      obtain ⟨hc0, hc1⟩ := cells_of HH
      generalize N.set2 wr (w.heap.size + 1) (.string rc) (.string rd) = W3 at *
      exact bodyPost_ret (v := .tuple #[.agg #[.string rc, .string rd], .bool true]) (by simp [results, Try.results40, go_sem, hc0, hc1]) rfl ⟨by rw [EV.out]; rfl, XX⟩
theorem CwV_pb (o : Option (Tr × Tr)) : ∃ x y b, CwV o = pb x y b := by cases o <;> exact ⟨_, _, _, rfl⟩
theorem both_CW (s t : ByteArray) (xs : List Int) (hxl : xs.length ≤ 1048576) : ∃ x y b, (∀ v w, Reads w v (ints xs) → Calls Try.prog 40 #[.agg #[.string s, .string t], v] w fun e w' => e = .returned (pb x y b) ∧ Ext w w') ∧ ∀ v w, Reads w v (ints xs) → Calls Try.prog 42 #[.agg #[.string s, .string t], v] w fun e w' => e = .returned (pb x y b) ∧ Ext w w' := by
  by_cases h : CwGood s t xs
  · obtain ⟨⟨A, B, rfl, rfl, h1, h2⟩, h3, h4⟩ := h
    obtain ⟨x, y, b, e⟩ := CwV_pb (cjW xs (red (A, B)))
    refine ⟨x, y, b, ?_⟩
    rw [← e]
    exact ⟨specCW_yes A B h1 h2 xs h3 h4, implCW_yes A B h1 h2 xs h3 h4⟩
  · exact ⟨_, _, _, specCW_no s t xs hxl h, implCW_no s t xs hxl h⟩

set_option maxHeartbeats 3200000 in
set_option maxRecDepth 100000 in
theorem walk_FnExactConjugateByWord (s t : ByteArray) (hs : s.size ≤ maxLen) (ht : t.size ≤ maxLen) (xs : List Int) (hxs : xs.length ≤ maxLen) (v : Value) (w : World) (hv : Reads w v (ints xs)) :
    Calls Try.prog 11 #[.agg #[.string s, .string t], v] w fun e w' => e = .returned (.bool true) ∧ Ext w w' := by
  have X0 := Lib.hid ((Ext.refl w).alloc (.cells #[.string s, .string t] 33))
  have V := Lib.hid hv
  obtain ⟨AA, cc, rfl, _, _⟩ := hv
  rw [ints_length] at *
  have C3 := Lib.hid (fun w => szPair_calls s t 1048576 (by omega) hs ht w)
  have C4 := Lib.hid (fun w => toPair_calls s t w)
  have c0 : (w.alloc (.cells #[.string s, .string t] 33)).cell? ⟨w.heap.size, 0, none⟩ = some (.string s) := by go_simp
  have c1 : (w.alloc (.cells #[.string s, .string t] 33)).cell? ⟨w.heap.size, 1, none⟩ = some (.string t) := by go_simp
  unfold maxLen at hxs
  clear hs ht
  by_cases hb2 : (1048576 : Int) < xs.length
  · go_enter Try.func11, Try.ntmps11
    go_wp2_with fail
    go_ret
    exact ⟨rfl, X0.out⟩
  obtain ⟨x, y, b, C1, C2⟩ := both_CW s t xs (by omega)
  have C1 := Lib.hid C1
  have C2 := Lib.hid C2
  have C5 := Lib.hid (fun W (h : Ext w W) => toIntS_calls xs (by omega) _ W (V.out.ext h))
  have C6 := Lib.hid (fun va vb w ha h => eqIntS_calls xs (by omega) va vb w ha h)
  go_enter Try.func11, Try.ntmps11
  go_wp2_with fail
  generalize w.alloc (.cells #[.string s, .string t] 33) = W at *
  refine (C3.out _).mono ?_
  rintro e w1 ⟨r, rfl, hr, x1⟩
  have c0 := x1.cell c0
  have c1 := x1.cell c1
  have X1 := Lib.hid (X0.out.trans x1)
  have hr := Lib.hid hr.out
  clear x1
  by_cases hr0 : r < 0
  · go_wp2_with fail
    go_ret
    exact ⟨rfl, X1.out⟩
  go_wp2_with fail
  refine (C4.out _).mono ?_
  rintro e w2 ⟨rfl, x2⟩
  have c0 := x2.cell c0
  have c1 := x2.cell c1
  have X2 := Lib.hid (X1.out.trans x2)
  clear x2
  go_wp2_with fail
  refine (C5.out _ X2.out).mono ?_
  rintro e w3 ⟨u1, rfl, o1, x3⟩
  have c0 := x3.cell c0
  have c1 := x3.cell c1
  have X3 := Lib.hid (X2.out.trans x3)
  have O1 := Lib.hid o1
  clear o1 x3
  go_wp2_with fail
  refine (C1.out _ _ O1.out.reads).mono ?_
  rintro e w4 ⟨rfl, x4⟩
  unfold pb
  have c0 := (x4.alloc (.cells #[.string x, .string y] 29)).cell c0
  have c1 := (x4.alloc (.cells #[.string x, .string y] 29)).cell c1
  have X4 := Lib.hid (X3.out.trans (x4.alloc (.cells #[.string x, .string y] 29)))
  obtain ⟨d0, d1⟩ := cells_of (heap_alloc_new w4 (.cells #[.string x, .string y] 29))
  clear x4 O1
  go_wp2_with fail
  generalize w4.alloc (.cells #[.string x, .string y] 29) = W4 at *
  refine (C5.out _ X4.out).mono ?_
  rintro e w5 ⟨u2, rfl, o2, x5⟩
  have c0 := x5.cell c0
  have c1 := x5.cell c1
  have d0 := x5.cell d0
  have d1 := x5.cell d1
  have X5 := Lib.hid (X4.out.trans x5)
  have O2 := Lib.hid o2
  clear o2 x5
  go_wp2_with fail
  refine (C4.out _).mono ?_
  rintro e w6 ⟨rfl, x6⟩
  have d0 := x6.cell d0
  have d1 := x6.cell d1
  have X6 := Lib.hid (X5.out.trans x6)
  have O2 := Lib.hid (O2.out.ext x6)
  clear x6 c0 c1
  go_wp2_with fail
  refine (C2.out _ _ O2.out.reads).mono ?_
  rintro e w7 ⟨rfl, x7⟩
  unfold pb
  have xx := x7.alloc (.cells #[.string x, .string y] 29)
  have d0 := xx.cell d0
  have d1 := xx.cell d1
  have O2 := Lib.hid (O2.out.ext xx)
  obtain ⟨f0, f1⟩ := cells_of (heap_alloc_new w7 (.cells #[.string x, .string y] 29))
  have X7 := Lib.hid (X6.out.trans xx)
  clear x7 xx
  go_wp2_with fail
  generalize w7.alloc (.cells #[.string x, .string y] 29) = W7 at *
  refine (eqPair_calls x y _).mono ?_
  rintro e w8 ⟨rfl, x8⟩
  have X8 := Lib.hid (X7.out.trans x8)
  have O2 := Lib.hid (O2.out.ext x8)
  clear x8
  cases b
  all_goals
    go_wp2_with fail
    refine (C5.out _ X8.out).mono ?_
    rintro e w9 ⟨u3, rfl, o3, x9⟩
    have X9 := Lib.hid (X8.out.trans x9)
    have O2 := Lib.hid (O2.out.ext x9)
    have O3 := Lib.hid o3
    clear o3 x9
    go_wp2_with fail
    refine (C6.out _ _ _ O2.out.reads O3.out.reads).mono ?_
    rintro e w10 ⟨rfl, n10, rfl⟩
    go_wp2_with fail
    go_ret
    exact ⟨rfl, X9.out.drewN n10⟩
end Go.Proofs.Ytfkjjmmoipcddaa.N
