import Derived.Test.YtfkjjmmoipcddaaBa
import Derived.Test.YtfkjjmmoipcddaaPu
import Derived.Test.YtfkjjmmoipcddaaSl
import Derived.Test.YtfkjjmmoipcddaaProg
import Derived.Test.YtfkjjmmoipcddaaTn
import Derived.Test.YtfkjjmmoipcddaaTs
import Derived.Test.YtfkjjmmoipcddaaPp
import Derived.Test.YtfkjjmmoipcddaaPg
import Derived.Test.YtfkjjmmoipcddaaPh
import Derived.Test.YtfkjjmmoipcddaaWl
import Derived.Test.YtfkjjmmoipcddaaWt
import Derived.Test.YtfkjjmmoipcddaaTp
import Derived.Test.YtfkjjmmoipcddaaTr
import Derived.Test.YtfkjjmmoipcddaaTu
import Derived.Test.YtfkjjmmoipcddaaTv
import Derived.Test.YtfkjjmmoipcddaaTw
import Derived.Test.YtfkjjmmoipcddaaTg
import Derived.Test.YtfkjjmmoipcddaaSx
import Derived.Test.YtfkjjmmoipcddaaSy
import Derived.Test.YtfkjjmmoipcddaaSz
import Derived.Test.YtfkjjmmoipcddaaSw
import Derived.Test.YtfkjjmmoipcddaaSg
import Derived.Test.YtfkjjmmoipcddaaSj
import Derived.Test.YtfkjjmmoipcddaaTk
import Derived.Test.YtfkjjmmoipcddaaCl
import Derived.Test.YtfkjjmmoipcddaaCw
import Derived.Test.YtfkjjmmoipcddaaCx
import Derived.Test.YtfkjjmmoipcddaaWp
import Derived.Test.YtfkjjmmoipcddaaWq
import Derived.Test.YtfkjjmmoipcddaaAc
import Derived.Test.YtfkjjmmoipcddaaAw
import Derived.Test.YtfkjjmmoipcddaaRw
import Derived.Test.YtfkjjmmoipcddaaPn
import Derived.Test.YtfkjjmmoipcddaaPt
import Derived.Test.YtfkjjmmoipcddaaLp
import Derived.Test.YtfkjjmmoipcddaaLc
import Derived.Test.YtfkjjmmoipcddaaLd
import Derived.Test.YtfkjjmmoipcddaaCz
import Derived.Test.YtfkjjmmoipcddaaCy
import Derived.Test.YtfkjjmmoipcddaaLe
import Derived.Deep.LoopGhost
import Derived.Deep.RegionHeld3
import Derived.Deep.QuietTactic
import Derived.StillTailTactics
import Derived.BigQuiet
import Derived.Deep.CutRange
/- LeastConjugate: the reference's, and the law. -/
namespace Go.Proofs.Ytfkjjmmoipcddaa.N
open Go.RowKit
set_option linter.unusedVariables false
set_option linter.unusedSimpArgs false

set_option maxHeartbeats 3200000 in
set_option maxRecDepth 100000 in
theorem implLC_no (s t : ByteArray) (m : Int) (h : ¬ (Good s t ∧ 0 ≤ m ∧ m ≤ 4)) (w : World) :
    Calls Try.prog 54 #[.agg #[.string s, .string t], .int .i64 m] w fun e w' => e = .returned (pb ⟨#[]⟩ ⟨#[]⟩ false) ∧ Ext w w' := by
  obtain ⟨X2, _, t1, _⟩ := boxP_facts w s t
  have X2 := Lib.hid X2
  unfold pb
  by_cases hg : Good s t
  · have hm : ¬ (0 ≤ m ∧ m ≤ 4) := fun k => h ⟨hg, k⟩
    obtain ⟨A, B, rfl, rfl, h1, h2⟩ := hg
    have C1 := Lib.hid (fun W => pairOf_yes A B h1 h2 W)
    have C0 := Lib.hid (fun W => isMost_calls m W)
    rw [decide_eq_false hm] at C0
    clear h1 h2 h hm
    generalize tx A = a at *
    generalize tx B = b at *
    go_enter Try.func54, Try.ntmps54
    go_wp2_with fail
    generalize (w.alloc (.cells #[.string a, .string b] 29)).alloc (.cells #[.string ⟨#[]⟩, .string ⟨#[]⟩] 29) = W at *
    refine (C1.out _).mono ?_
    rintro e w1 ⟨p1, p2, rfl, rA, rB, x1⟩
    have x1 := x1.alloc (.cells #[.pointer p1, .pointer p2] 78)
    have X1 := Lib.hid (X2.out.trans x1)
    have T1 := t1.ext x1
    obtain ⟨u, v, k0, k1, f0, f1⟩ := T1.facts
    have T1 := Lib.hid T1
    clear rA rB t1 x1
    go_wp2_with fail
    generalize w1.alloc (.cells #[.pointer p1, .pointer p2] 78) = W1 at *
    refine (C0.out _).mono ?_
    rintro e w2 ⟨rfl, rfl⟩
    go_wp2_with fail
    have HH := set2_heap T1.out (.string ⟨#[]⟩) (.string ⟨#[]⟩)
    have XX := X1.out.set2 (g := w.heap.size + 1) (by omega) (.string ⟨#[]⟩) (.string ⟨#[]⟩)
    change bodyPost _ _ _ _ _ (N.set2 W1 (w.heap.size + 1) (.string ⟨#[]⟩) (.string ⟨#[]⟩))
    obtain ⟨hc0, hc1⟩ := cells_of HH
    generalize N.set2 W1 (w.heap.size + 1) (.string ⟨#[]⟩) (.string ⟨#[]⟩) = W3 at *
    exact bodyPost_ret (v := .tuple #[.agg #[.string ⟨#[]⟩, .string ⟨#[]⟩], .bool false]) (by simp [results, Try.results54, go_sem, hc0, hc1]) rfl ⟨rfl, XX⟩
  · have C1 := Lib.hid (fun W => pairOf_no s t hg W)
    clear hg h
    go_enter Try.func54, Try.ntmps54
    go_wp2_with fail
    generalize (w.alloc (.cells #[.string s, .string t] 29)).alloc (.cells #[.string ⟨#[]⟩, .string ⟨#[]⟩] 29) = W at *
    refine (C1.out _).mono ?_
    rintro e w1 ⟨p1, p2, rfl, x1⟩
    have x1 := x1.alloc (.cells #[.pointer p1, .pointer p2] 78)
    have X1 := Lib.hid (X2.out.trans x1)
    have T1 := t1.ext x1
    obtain ⟨u, v, k0, k1, f0, f1⟩ := T1.facts
    have T1 := Lib.hid T1
    clear t1 x1
    go_wp2_with fail
    have HH := set2_heap T1.out (.string ⟨#[]⟩) (.string ⟨#[]⟩)
    have XX := X1.out.set2 (g := w.heap.size + 1) (by omega) (.string ⟨#[]⟩) (.string ⟨#[]⟩)
    change bodyPost _ _ _ _ _ (N.set2 (w1.alloc (.cells #[.pointer p1, .pointer p2] 78)) (w.heap.size + 1) (.string ⟨#[]⟩) (.string ⟨#[]⟩))
    obtain ⟨hc0, hc1⟩ := cells_of HH
    generalize N.set2 (w1.alloc (.cells #[.pointer p1, .pointer p2] 78)) (w.heap.size + 1) (.string ⟨#[]⟩) (.string ⟨#[]⟩) = W3 at *
    exact bodyPost_ret (v := .tuple #[.agg #[.string ⟨#[]⟩, .string ⟨#[]⟩], .bool false]) (by simp [results, Try.results54, go_sem, hc0, hc1]) rfl ⟨rfl, XX⟩
set_option maxHeartbeats 3200000 in
set_option maxRecDepth 100000 in
theorem specLC_no (s t : ByteArray) (m : Int) (h : ¬ (Good s t ∧ 0 ≤ m ∧ m ≤ 4)) (w : World) :
    Calls Try.prog 53 #[.agg #[.string s, .string t], .int .i64 m] w fun e w' => e = .returned (pb ⟨#[]⟩ ⟨#[]⟩ false) ∧ Ext w w' := by
  obtain ⟨X2, _, t1, _⟩ := boxP_facts w s t
  have X2 := Lib.hid X2
  unfold pb
  by_cases hg : Good s t
  · have hm : ¬ (0 ≤ m ∧ m ≤ 4) := fun k => h ⟨hg, k⟩
    obtain ⟨A, B, rfl, rfl, h1, h2⟩ := hg
    have C1 := Lib.hid (fun W => prGood_yes A B h1 h2 W)
    have C0 := Lib.hid (fun W => l1In_calls m 0 4 W)
    rw [decide_eq_false hm] at C0
    clear h1 h2 h hm
    generalize tx A = a at *
    generalize tx B = b at *
    go_enter Try.func53, Try.ntmps53
    go_wp2_with fail
    generalize (w.alloc (.cells #[.string a, .string b] 29)).alloc (.cells #[.string ⟨#[]⟩, .string ⟨#[]⟩] 29) = W at *
    refine (C1.out _).mono ?_
    rintro e w1 ⟨rfl, x1⟩
    have X1 := Lib.hid (X2.out.trans x1)
    have T1 := t1.ext x1
    obtain ⟨u, v, k0, k1, f0, f1⟩ := T1.facts
    have T1 := Lib.hid T1
    clear t1 x1
    go_wp2_with fail
    refine (C0.out _).mono ?_
    rintro e w2 ⟨rfl, rfl⟩
    go_wp2_with fail
    have HH := set2_heap T1.out (.string ⟨#[]⟩) (.string ⟨#[]⟩)
    have XX := X1.out.set2 (g := w.heap.size + 1) (by omega) (.string ⟨#[]⟩) (.string ⟨#[]⟩)
    change bodyPost _ _ _ _ _ (N.set2 w1 (w.heap.size + 1) (.string ⟨#[]⟩) (.string ⟨#[]⟩))
    obtain ⟨hc0, hc1⟩ := cells_of HH
    generalize N.set2 w1 (w.heap.size + 1) (.string ⟨#[]⟩) (.string ⟨#[]⟩) = W3 at *
    exact bodyPost_ret (v := .tuple #[.agg #[.string ⟨#[]⟩, .string ⟨#[]⟩], .bool false]) (by simp [results, Try.results53, go_sem, hc0, hc1]) rfl ⟨rfl, XX⟩
  · have C1 := Lib.hid (fun W => prGood_no s t hg W)
    clear hg h
    go_enter Try.func53, Try.ntmps53
    go_wp2_with fail
    generalize (w.alloc (.cells #[.string s, .string t] 29)).alloc (.cells #[.string ⟨#[]⟩, .string ⟨#[]⟩] 29) = W at *
    refine (C1.out _).mono ?_
    rintro e w1 ⟨rfl, x1⟩
    have X1 := Lib.hid (X2.out.trans x1)
    have T1 := t1.ext x1
    obtain ⟨u, v, k0, k1, f0, f1⟩ := T1.facts
    have T1 := Lib.hid T1
    clear t1 x1
    go_wp2_with fail
    have HH := set2_heap T1.out (.string ⟨#[]⟩) (.string ⟨#[]⟩)
    have XX := X1.out.set2 (g := w.heap.size + 1) (by omega) (.string ⟨#[]⟩) (.string ⟨#[]⟩)
    change bodyPost _ _ _ _ _ (N.set2 w1 (w.heap.size + 1) (.string ⟨#[]⟩) (.string ⟨#[]⟩))
    obtain ⟨hc0, hc1⟩ := cells_of HH
    generalize N.set2 w1 (w.heap.size + 1) (.string ⟨#[]⟩) (.string ⟨#[]⟩) = W3 at *
    exact bodyPost_ret (v := .tuple #[.agg #[.string ⟨#[]⟩, .string ⟨#[]⟩], .bool false]) (by simp [results, Try.results53, go_sem, hc0, hc1]) rfl ⟨rfl, XX⟩

theorem leastR_at (p : Tr × Tr) (n j : Nat) {ws : List Int} (h : (redWd (n + 1))[j]? = some ws) (s : Tr × Tr) : leastL ltP s ((conjsR p (n + 1)).take (j + 1)) = (if ltP (conj p (pairW ws)) (leastL ltP s ((conjsR p (n + 1)).take j)) then conj p (pairW ws) else leastL ltP s ((conjsR p (n + 1)).take j)) := by
  have e : (conjsR p (n + 1))[j]? = some (conj p (pairW ws)) := by unfold conjsR; rw [List.getElem?_map, h]; rfl
  rw [List.take_add_one, e, leastL_app]; rfl
set_option maxHeartbeats 6400000 in
set_option maxRecDepth 100000 in
theorem specLC_yes (A B : Tr) (hc : A.carets = B.carets) (hB : B.carets ≤ 8) (m : Nat) (hm : m ≤ 4) (w : World) :
    Calls Try.prog 53 #[.agg #[.string (tx A), .string (tx B)], .int .i64 m] w fun e w' => e = .returned (pb (tx (leastR (A, B) m).1) (tx (leastR (A, B) m).2) true) ∧ Ext w w' := by
  obtain ⟨X2, t0, t1, b0⟩ := boxP_facts w (tx A) (tx B)
  have X2 := Lib.hid X2
  have C1 := Lib.hid (fun W => prGood_yes A B hc hB W)
  have C0 := Lib.hid (fun W => l1In_calls m 0 4 W)
  rw [decide_eq_true (show (0 : Int) ≤ m ∧ (m : Int) ≤ 4 by omega)] at C0
  have C2 := Lib.hid (fun W => prReduce_calls A B (by omega) (by omega) W)
  have hs : Hid ((red (A, B)).1.carets = (red (A, B)).2.carets ∧ (red (A, B)).2.carets ≤ 8) := ⟨red_same (p := (A, B)) hc, by have := (red_le (A, B)).2; simp only at this; omega⟩
  obtain ⟨L, hL⟩ : ∃ L : Nat → Tr × Tr, ∀ k, L k = leastR (A, B) (k - 1) := ⟨_, fun k => rfl⟩
  have H0 : Hid (L 1 = red (A, B)) := hL 1
  have HM : Hid (leastR (A, B) m = L (m + 1)) := (hL (m + 1)).symm
  have HS : Hid (∀ k, 1 ≤ k → L (k + 1) = leastL ltP (L k) (conjsR (A, B) k)) := fun k hk => by
    obtain ⟨j, rfl⟩ : ∃ j, k = j + 1 := ⟨k - 1, by omega⟩
    rw [hL, hL]; rfl
  have CJ := Lib.hid (fun (q : Tr × Tr) (hq : Bal q) (hqc : q.1.carets ≤ 12) W => cjBy_calls A B q.1 q.2 hc hq (by omega) W)
  have CB := Lib.hid (fun (q : Tr × Tr) (hq : Bal q) => conj_carets (p := (A, B)) (q := q) hc hq)
  have hA8 : Hid (A.carets ≤ 8) := by show _ ≤ _; omega
  have LA : Hid (∀ k, 1 ≤ k → ∀ (j : Nat) (ws : List Int), (redWd k)[j]? = some ws → ∀ s, leastL ltP s ((conjsR (A, B) k).take (j + 1)) = (if ltP (conj (A, B) (pairW ws)) (leastL ltP s ((conjsR (A, B) k).take j)) then conj (A, B) (pairW ws) else leastL ltP s ((conjsR (A, B) k).take j))) := fun k hk j ws h s => by
    obtain ⟨n, rfl⟩ : ∃ n, k = n + 1 := ⟨k - 1, by omega⟩
    exact leastR_at (A, B) n j h s
  have LNN : Hid (∀ n, (conjsR (A, B) n).length = (redWd n).length) := fun n => by simp [conjsR]
  rw [HM.out]
  clear hL HM
  generalize conjsR (A, B) = CR at *
  generalize hp : red (A, B) = p0 at *
  have hm' : (m : Int) ≤ 4 := by omega
  generalize hpp : ((A, B) : Tr × Tr) = pp at *
  have PP : Hid (pp.1 = A ∧ pp.2 = B) := by rw [← hpp]; exact ⟨rfl, rfl⟩
  generalize tx A = a at *
  generalize tx B = b at *
  clear hc hB hp hpp
  go_enter Try.func53, Try.ntmps53
  go_wp2_with fail
  generalize (w.alloc (.cells #[.string a, .string b] 29)).alloc (.cells #[.string ⟨#[]⟩, .string ⟨#[]⟩] 29) = W at *
  refine (C1.out _).mono ?_
  rintro e w1 ⟨rfl, x1⟩
  have X1 := Lib.hid (X2.out.trans x1)
  have T1 := Lib.hid (t1.ext x1)
  have B0 := Lib.hid (x1.at b0)
  obtain ⟨d0, d1⟩ := cells_of B0.out
  clear t1 x1 t0 b0
  go_wp2_with fail
  refine (C0.out _).mono ?_
  rintro e w2 ⟨rfl, rfl⟩
  go_wp2_with fail
  refine (C2.out _).mono ?_
  rintro e w2 ⟨rfl, x2⟩
  have xb := x2.alloc (.cells #[.string (tx p0.1), .string (tx p0.2)] 29)
  have B6 := Lib.hid (heap_alloc_new w2 (.cells #[.string (tx p0.1), .string (tx p0.2)] 29))
  have X3 := Lib.hid (X1.out.trans xb)
  have NE : Hid (w.heap.size + 1 ≠ w2.heap.size ∧ w.heap.size ≤ w2.heap.size ∧ w.heap.size ≠ w2.heap.size) := by have := T1.out.lt; have := x2.size; have := X1.out.size; exact ⟨by omega, by omega, by omega⟩
  have T1 := Lib.hid (T1.out.ext xb)
  have B0 := Lib.hid (xb.at B0.out)
  clear x2 xb d0 d1 X1
  go_wp2_with fail
  generalize w2.alloc (.cells #[.string (tx p0.1), .string (tx p0.2)] 29) = W2 at *
  go_loopw [7] (fun i wr => ∃ k : Nat, 1 ≤ k ∧ k ≤ m + 1 ∧ i = .int .i64 k ∧ Hid ((L k).1.carets ≤ 100 ∧ (L k).2.carets ≤ 100) ∧ Hid (wr.heap[w2.heap.size]? = some (.cells #[.string (tx (L k).1), .string (tx (L k).2)] 29)) ∧ Hid (wr.heap[w.heap.size]? = some (.cells #[.string a, .string b] 29)) ∧ Hid (Two wr (w.heap.size + 1) 29) ∧ Hid (Ext w wr)) (fun i _ => m + 2 - (intOf i).toNat)
  case atStart => exact ⟨1, by omega, by omega, rfl, by rw [H0.out]; have := hs.out; exact ⟨by omega, by omega⟩, by rw [H0.out]; exact B6.out, B0.out, T1.out, X3.out⟩
  case round =>
    obtain ⟨k, hk1, hk, rfl, HC, HB, HA, HT, HX⟩ := hrel
    generalize wr = wk at *
    by_cases hlt : k ≤ m
    · have h0 : (0 : Int) ≤ k := by omega
      have h1 : (k : Int) ≤ m := by omega
      have LK := Lib.hid (LA.out k hk1)
      have LK1 := Lib.hid (HS.out k hk1)
      have LEN : Hid ((redWd k).length ≤ 256) := Nat.le_trans (redWd_length k) (Nat.pow_le_pow_right (by omega) (show k ≤ 4 by omega))
      have WW := Lib.hid (fun w (hw : w ∈ redWd k) => redWd_words hw)
      have CL := Lib.hid (LNN.out k)
      have CW := Lib.hid (fun W => cjWords_calls k (by omega) W)
      have K4 : Hid (k ≤ 4) := by show _ ≤ _; omega
      go_wp2_with fail
      refine (CW.out _).mono ?_
      rintro e w5 ⟨v5, rfl, r5, x5⟩
      obtain ⟨A5, c5, rfl, _, _⟩ := r5.reads.open
      have RD := Lib.hid r5
      have GK : Hid (w2.heap.size < wk.heap.size) := (Array.getElem?_eq_some_iff.1 HB.out).1
      have HB := Lib.hid (x5.at HB.out)
      have HA := Lib.hid (x5.at HA.out)
      have HT := Lib.hid (HT.out.ext x5)
      have X5 := Lib.hid (HX.out.trans x5)
      have LE' := LEN.out
      clear r5 x5
      generalize redWd k = RL at *
      go_wp2_with fail
      go_loopw [32] (fun i wr => ∃ (j : Nat) (s : Tr × Tr), j ≤ RL.length ∧ i = .int .i64 j ∧ Hid (s = leastL ltP (L k) ((CR k).take j)) ∧ Hid (s.1.carets ≤ 100 ∧ s.2.carets ≤ 100) ∧ Hid (wr.heap[w2.heap.size]? = some (.cells #[.string (tx s.1), .string (tx s.2)] 29)) ∧ Hid (wr.heap[w.heap.size]? = some (.cells #[.string a, .string b] 29)) ∧ Hid (Two wr (w.heap.size + 1) 29) ∧ Hid (Ext w wr) ∧ Hid (OwnR wr wk.heap.size (.slice A5 RL.length c5) RL)) (fun i _ => RL.length - (intOf i).toNat)
      case atStart => exact ⟨0, L k, Nat.zero_le _, rfl, rfl, HC.out, HB.out, HA.out, HT.out, X5.out, RD.out⟩
      case round =>
        obtain ⟨j, s, hj, rfl, HS2, HC2, HB2, HA2, HT2, HX2, HR2⟩ := hrel
        generalize wr = wj at *
        by_cases hjl : j < RL.length
        · have g0 : (0 : Int) ≤ j := by omega
          have g1 : (j : Int) < RL.length := by omega
          have hw : RL[j]? = some RL[j] := List.getElem?_eq_getElem hjl
          obtain ⟨A6, c6, e6, _, rd6⟩ := HR2.out.reads.open
          injection e6 with e7 _ e8
          subst e7 e8
          obtain ⟨ad, B, d, rfl, cj, rw1⟩ := rd6 j _ hw
          have WJ := WW.out _ (List.mem_of_getElem? hw)
          have ST := LK.out j _ hw (L k)
          rw [← HS2.out] at ST
          have ST := Lib.hid ST
          generalize RL[j] = ws at *
          have WB : ∀ x ∈ ws, x ≠ 0 ∧ -2 ≤ x ∧ x ≤ 2 := fun x hx => lts_bound (WJ.2 x hx)
          have bq := pairW_bal (fun y hy => (WB y hy).1 : NZ ws)
          have qc := pairW_carets _ ws rfl WB
          have ql : ws.length ≤ 4 := by rw [WJ.1]; exact K4.out
          have CP := Lib.hid (fun W (h : Ext wj W) => cjPair_calls ws ql WB _ W (rw1.ext h))
          have CY := Lib.hid (fun W => CJ.out (pairW ws) bq (by unfold Bal at bq; omega) W)
          rw [show ((pairW ws).1, (pairW ws).2) = pairW ws from rfl] at CY
          have yc := CB.out (pairW ws) bq
          have YC : Hid ((conj pp (pairW ws)).1.carets ≤ 100 ∧ (conj pp (pairW ws)).2.carets ≤ 100) := by
            have := PP.out; have := hA8.out; unfold Bal at bq; rw [PP.out.1] at yc; exact ⟨by omega, by omega⟩
          generalize conj pp (pairW ws) = y at *
          generalize pairW ws = q at *
          clear yc qc ql bq WB hw WJ
          obtain ⟨z1, hz1⟩ : ∃ z, tx y.1 = z := ⟨_, rfl⟩
          obtain ⟨z2, hz2⟩ : ∃ z, tx y.2 = z := ⟨_, rfl⟩
          rw [hz1, hz2] at CY
          have HZ := Lib.hid (And.intro hz1 hz2)
          clear hz1 hz2
          generalize tx q.1 = q1 at *
          generalize tx q.2 = q2 at *
          obtain ⟨e0, e1⟩ := cells_of HA2.out
          go_wp2_with fail
          have KX : ∀ w', Ext wj w' → w'.cell? ⟨w.heap.size, 0, none⟩ = some (.string a) ∧ w'.cell? ⟨w.heap.size, 1, none⟩ = some (.string b) := fun w' h => ⟨h.cell e0, h.cell e1⟩
          go_cut [10] from 36 to 39 (fun u wx => ∃ g, u = .pointer (some ⟨g, 0, none⟩) ∧ wx.heap[g]? = some (.cells #[.string z1, .string z2] 29) ∧ Ext wj wx)
          case first =>
            go_region_held3 (fun w' => w'.cell? ⟨w.heap.size, 0, none⟩ = some (.string a) ∧ w'.cell? ⟨w.heap.size, 1, none⟩ = some (.string b))
              (first | exact KX _ (Ext.refl _).drew | exact KX _ ((Ext.refl _).alloc _).drew | exact KX _ ((Ext.refl _).drew.alloc _) | exact KX _ x3 | exact KX _ (x3.alloc _) | exact KX _ x4 | exact KX _ (x4.alloc _) | exact KX _ (x4.set2 hg (.string z1) (.string z2)) | fail)
              (first
                | (go_at_call 87; refine (CY.out _).mono ?_; rintro e w4 ⟨rfl, hx4⟩; (first | (with_reducible have x4 := x3.trans hx4; (first | (with_reducible have TW := TW.ext hx4; obtain ⟨u, v, k0, k1, f0, f1⟩ := TW.facts) | skip)) | (have TW := (Two.new w3 (.string ⟨#[]⟩) (.string ⟨#[]⟩) 29 rfl).ext hx4; have hg := Ext.heap x3; have x4 := (x3.alloc _).trans hx4; obtain ⟨u, v, k0, k1, f0, f1⟩ := TW.facts)))
                | (go_at_call 109; (first | ((with_reducible refine (CP.out _ (Ext.refl wj).drew).mono ?_); rintro e w3 ⟨rfl, hx3⟩; have x3 := (Ext.refl wj).drew.trans hx3) | (refine (CP.out _ ((Ext.refl wj).alloc _).drew).mono ?_; rintro e w3 ⟨rfl, hx3⟩; have TW := ((Two.new wj (.string ⟨#[]⟩) (.string ⟨#[]⟩) 29 rfl).ext (Ext.refl _).drew).ext hx3; have hg := Nat.le_refl wj.heap.size; have x3 := ((Ext.refl wj).alloc _).drew.trans hx3)))
                | fail)
            all_goals
              go_wp2_with fail
              go_meet
              first
                | exact ⟨_, rfl, heap_alloc_new w4 _, x4.alloc _⟩
                | exact ⟨_, rfl, set2_heap TW (.string z1) (.string z2), x4.set2 hg (.string z1) (.string z2)⟩
          case rest =>
            obtain ⟨g, rfl, hq, XA⟩ := hcut
            have HB3 := Lib.hid (XA.at HB2.out)
            have HA3 := Lib.hid (XA.at HA2.out)
            have HT3 := Lib.hid (HT2.out.ext XA)
            have HX3 := Lib.hid (HX2.out.trans XA)
            have HR3 := Lib.hid (HR2.out.ext XA)
            have QB := Lib.hid hq
            clear KX e0 e1 cj rw1 rd6 XA CP CY HB2 HA2 HT2 HX2 HR2
            generalize wc = wd at *
            obtain ⟨c0, c1⟩ := cells_of hq
            obtain ⟨c2, c3⟩ := cells_of HB3.out
            have N1 := Lib.hid (fun W => trCarets_tree y.1 (by have := YC.out; omega) W)
            have N2 := Lib.hid (fun W => trCarets_tree s.1 (by have := HC2.out; omega) W)
            have P1 := fun W => prText_calls y.1 y.2 (by have := YC.out; omega) (by have := YC.out; omega) W
            have P2 := fun W => prText_calls s.1 s.2 (by have := HC2.out; omega) (by have := HC2.out; omega) W
            rw [HZ.out.1, HZ.out.2, show (y.1, y.2) = y from rfl] at P1
            rw [HZ.out.1] at N1
            rw [show (s.1, s.2) = s from rfl] at P2
            have L1 := @ltP_true y s
            have L2 := @ltP_false y s
            generalize hs1 : tx s.1 = s1 at *
            generalize hs2 : tx s.2 = s2 at *
            have HSS := Lib.hid (And.intro hs1 hs2)
            clear hs1 hs2 hq
            go_wp2_with fail
            go_quiet (first
              | (go_at_call_of 72 (Value.string z1); exact Calls.quiet_of_same (same (N1.out _)))
              | (go_at_call_of 72 (Value.string s1); exact Calls.quiet_of_same (same (N2.out _))))
            have xd : Ext wd (wd.drewN nq) := (Ext.refl _).drewN _
            have c0 := xd.cell c0
            have c1 := xd.cell c1
            have c2 := xd.cell c2
            have c3 := xd.cell c3
            have HB3 := Lib.hid (xd.at HB3.out)
            have HA3 := Lib.hid (xd.at HA3.out)
            have HT3 := Lib.hid (HT3.out.ext xd)
            have HX3 := Lib.hid (HX3.out.trans xd)
            have HR3 := Lib.hid (HR3.out.ext xd)
            clear xd QB N1 N2
            generalize wd.drewN nq = wf at *
            have FT : Hid (∀ W2, Ext wf W2 → ltP y s = true → y = leastL ltP (L k) ((CR k).take (j + 1)) ∧ (N.set2 W2 w2.heap.size (.string z1) (.string z2)).heap[w2.heap.size]? = some (.cells #[.string (tx y.1), .string (tx y.2)] 29) ∧ (N.set2 W2 w2.heap.size (.string z1) (.string z2)).heap[w.heap.size]? = some (.cells #[.string a, .string b] 29) ∧ Two (N.set2 W2 w2.heap.size (.string z1) (.string z2)) (w.heap.size + 1) 29 ∧ Ext w (N.set2 W2 w2.heap.size (.string z1) (.string z2)) ∧ OwnR (N.set2 W2 w2.heap.size (.string z1) (.string z2)) wk.heap.size (.slice (some ad) RL.length c5) RL) := by
              intro W2 hx hl
              have T2 : Two W2 w2.heap.size 29 := ⟨_, _, hx.at HB3.out⟩
              refine ⟨by rw [ST.out, hl]; rfl, by rw [HZ.out.1, HZ.out.2]; exact set2_heap T2 _ _, (set2_other NE.out.2.2 _ _).trans (hx.at HA3.out), (HT3.out.ext hx).far NE.out.1 _ _, (HX3.out.trans hx).set2 NE.out.2.1 _ _, (HR3.out.ext hx).same fun i hi => set2_other (by have := GK.out; omega) _ _⟩
            have FF : Hid (∀ W2, Ext wf W2 → ltP y s = false → s = leastL ltP (L k) ((CR k).take (j + 1)) ∧ W2.heap[w2.heap.size]? = some (.cells #[.string (tx s.1), .string (tx s.2)] 29) ∧ W2.heap[w.heap.size]? = some (.cells #[.string a, .string b] 29) ∧ Two W2 (w.heap.size + 1) 29 ∧ Ext w W2 ∧ OwnR W2 wk.heap.size (.slice (some ad) RL.length c5) RL) := by
              intro W2 hx hl
              exact ⟨by rw [ST.out, hl]; rfl, by rw [HSS.out.1, HSS.out.2]; exact hx.at HB3.out, hx.at HA3.out, HT3.out.ext hx, HX3.out.trans hx, HR3.out.ext hx⟩
            have T0 : Hid (∀ W2, Ext wf W2 → Two W2 w2.heap.size 29) := fun W2 hx => ⟨_, _, hx.at HB3.out⟩
            have n0 : (0 : Int) ≤ y.1.carets := by omega
            have n1 : (0 : Int) ≤ s.1.carets := by omega
            have KX : ∀ w', Ext wf w' → w'.cell? ⟨g, 0, none⟩ = some (.string z1) ∧ w'.cell? ⟨g, 1, none⟩ = some (.string z2) ∧ w'.cell? ⟨w2.heap.size, 0, none⟩ = some (.string s1) ∧ w'.cell? ⟨w2.heap.size, 1, none⟩ = some (.string s2) := fun w' h => ⟨h.cell c0, h.cell c1, h.cell c2, h.cell c3⟩
            by_cases h1 : y.1.carets < s.1.carets
            · have FT := Lib.hid (fun W2 hx => FT.out W2 hx (L1.2 (.inl h1)))
              have i1 : (y.1.carets : Int) < s.1.carets := by omega
              clear FF L1 L2 P1 P2
              generalize (y.1.carets : Int) = ym at *
              generalize (s.1.carets : Int) = sn at *
              go_wp2_with fail
              go_quiet (fail)
              have xd : Ext wf (wf.drewN nq) := (Ext.refl _).drewN _
              have c0 := xd.cell c0
              have c1 := xd.cell c1
              obtain ⟨u, v', k0, k1, f0, f1⟩ := (T0.out _ xd).facts
              have F := Lib.hid (FT.out _ xd)
              clear xd
              generalize wf.drewN nq = W2' at *
              go_wp2_with fail
              exact ⟨⟨j + 1, y, by omega, by go_num, F.out.1, YC.out, F.out.2.1, F.out.2.2.1, F.out.2.2.2.1, F.out.2.2.2.2.1, F.out.2.2.2.2.2⟩, by simp [intOf]; omega⟩
            · have i1 : ¬ (y.1.carets : Int) < s.1.carets := by omega
              by_cases h2 : y.1.carets = s.1.carets
              · have i2 : ((y.1.carets : Int) == s.1.carets) = true := by rw [h2]; simp
                cases h3 : blt (ptx y) (ptx s) with
                | true =>
                  have FT := Lib.hid (fun W2 hx => FT.out W2 hx (L1.2 (.inr ⟨h2, h3⟩)))
                  have i3 : Op.bytesLess (ptx y).toList (ptx s).toList = true := h3
                  clear FF L1 L2 h1 h2 h3
                  generalize (y.1.carets : Int) = ym at *
                  generalize (s.1.carets : Int) = sn at *
                  generalize ptx y = ty at *
                  generalize ptx s = ts at *
                  have i4 : decide (ym < sn) = false := decide_eq_false i1
                  go_wp2_with fail
                  go_region_held3 (fun w' => w'.cell? ⟨g, 0, none⟩ = some (.string z1) ∧ w'.cell? ⟨g, 1, none⟩ = some (.string z2) ∧ w'.cell? ⟨w2.heap.size, 0, none⟩ = some (.string s1) ∧ w'.cell? ⟨w2.heap.size, 1, none⟩ = some (.string s2))
                    (first | with_reducible exact KX _ (Ext.refl _).drew | with_reducible exact KX _ x2 | with_reducible exact KX _ x3 | fail)
                    (first
                      | (go_at_call_of 110 (Value.agg #[Value.string z1, Value.string z2]); refine (P1 _).mono ?_; rintro e w2' ⟨rfl, hx⟩; have x2 := (Ext.refl wf).drew.trans hx)
                      | (go_at_call_of 110 (Value.agg #[Value.string s1, Value.string s2]); refine (P2 _).mono ?_; rintro e w3 ⟨rfl, hx⟩; have x3 := x2.trans hx)
                      | fail)
                  have x3' := x3
                  obtain ⟨u, v', k0, k1, f0, f1⟩ := (T0.out _ x3).facts
                  have F := Lib.hid (FT.out _ x3)
                  have c0 := x3.cell c0
                  have c1 := x3.cell c1
                  clear x2 x3 x3' hx c2 c3
                  generalize w3 = W2' at *
                  go_wp2_with fail
                  exact ⟨⟨j + 1, y, by omega, by go_num, F.out.1, YC.out, F.out.2.1, F.out.2.2.1, F.out.2.2.2.1, F.out.2.2.2.2.1, F.out.2.2.2.2.2⟩, by simp [intOf]; omega⟩
                | false =>
                  have FF := Lib.hid (fun W2 hx => FF.out W2 hx (L2.2 ⟨by omega, fun _ => h3⟩))
                  have i3 : Op.bytesLess (ptx y).toList (ptx s).toList = false := h3
                  clear FT L1 L2 h1 h2 h3
                  generalize (y.1.carets : Int) = ym at *
                  generalize (s.1.carets : Int) = sn at *
                  generalize ptx y = ty at *
                  generalize ptx s = ts at *
                  have i4 : decide (ym < sn) = false := decide_eq_false i1
                  go_wp2_with fail
                  go_region_held3 (fun w' => w'.cell? ⟨g, 0, none⟩ = some (.string z1) ∧ w'.cell? ⟨g, 1, none⟩ = some (.string z2) ∧ w'.cell? ⟨w2.heap.size, 0, none⟩ = some (.string s1) ∧ w'.cell? ⟨w2.heap.size, 1, none⟩ = some (.string s2))
                    (first | with_reducible exact KX _ (Ext.refl _).drew | with_reducible exact KX _ x2 | with_reducible exact KX _ x3 | fail)
                    (first
                      | (go_at_call_of 110 (Value.agg #[Value.string z1, Value.string z2]); refine (P1 _).mono ?_; rintro e w2' ⟨rfl, hx⟩; have x2 := (Ext.refl wf).drew.trans hx)
                      | (go_at_call_of 110 (Value.agg #[Value.string s1, Value.string s2]); refine (P2 _).mono ?_; rintro e w3 ⟨rfl, hx⟩; have x3 := x2.trans hx)
                      | fail)
                  have F := Lib.hid (FF.out _ x3)
                  clear x2 x3 hx
                  go_wp2_with fail
                  exact ⟨⟨j + 1, s, by omega, by go_num, F.out.1, HC2.out, F.out.2.1, F.out.2.2.1, F.out.2.2.2.1, F.out.2.2.2.2.1, F.out.2.2.2.2.2⟩, by simp [intOf]; omega⟩
              · have FF := Lib.hid (fun W2 hx => FF.out W2 hx (L2.2 ⟨by omega, fun h => absurd h h2⟩))
                have i2 : ((y.1.carets : Int) == s.1.carets) = false := by rw [beq_eq_false_iff_ne]; omega
                clear FT L1 L2 P1 P2 h1 h2
                generalize (y.1.carets : Int) = ym at *
                generalize (s.1.carets : Int) = sn at *
                go_wp2_with fail
                go_quiet (fail)
                have xd : Ext wf (wf.drewN nq) := (Ext.refl _).drewN _
                have F := Lib.hid (FF.out _ xd)
                clear xd
                go_wp2_with fail
                exact ⟨⟨j + 1, s, by omega, by go_num, F.out.1, HC2.out, F.out.2.1, F.out.2.2.1, F.out.2.2.2.1, F.out.2.2.2.2.1, F.out.2.2.2.2.2⟩, by simp [intOf]; omega⟩
        · have g1 : (RL.length : Int) ≤ j := by omega
          obtain rfl : j = RL.length := by omega
          have ES : Hid (s = L (k + 1)) := by show _ = _; rw [LK1.out, HS2.out, ← CL.out, List.take_length]
          have HB2 := HB2.out
          have HC2 := HC2.out
          rw [ES.out] at HB2 HC2
          have HB2 := Lib.hid HB2
          have HC2 := Lib.hid HC2
          go_wp2_with fail
          exact ⟨⟨k + 1, by omega, by omega, by go_num, HC2.out, HB2.out, HA2.out, HT2.out, HX2.out⟩, by simp [intOf]; omega⟩
    · have h1 : ¬ (k : Int) ≤ m := by omega
      obtain rfl : k = m + 1 := by omega
      obtain ⟨d0, d1⟩ := cells_of HB.out
      obtain ⟨rc, hrc⟩ : ∃ rc, tx (L (m + 1)).1 = rc := ⟨_, rfl⟩
      obtain ⟨rd, hrd⟩ : ∃ rd, tx (L (m + 1)).2 = rd := ⟨_, rfl⟩
      rw [hrc] at d0
      rw [hrd] at d1
      have HRC := Lib.hid hrc
      have HRD := Lib.hid hrd
      clear hrc hrd
      obtain ⟨u, v, k0, k1, f0, f1⟩ := HT.out.facts
      go_wp2_with fail
      have HH := set2_heap HT.out (.string rc) (.string rd)
      have XX := HX.out.set2 (g := w.heap.size + 1) (by omega) (.string rc) (.string rd)
      change bodyPost _ _ _ _ _ (N.set2 wk (w.heap.size + 1) (.string rc) (.string rd))
      obtain ⟨hc0, hc1⟩ := cells_of HH
      generalize N.set2 wk (w.heap.size + 1) (.string rc) (.string rd) = W3 at *
      exact bodyPost_ret (v := .tuple #[.agg #[.string rc, .string rd], .bool true]) (by simp [results, Try.results53, go_sem, hc0, hc1]) rfl ⟨by rw [HRC.out, HRD.out]; rfl, XX⟩

theorem both_LC (s t : ByteArray) (m : Int) : ∃ x y b, (∀ w, Calls Try.prog 53 #[.agg #[.string s, .string t], .int .i64 m] w fun e w' => e = .returned (pb x y b) ∧ Ext w w') ∧ ∀ w, Calls Try.prog 54 #[.agg #[.string s, .string t], .int .i64 m] w fun e w' => e = .returned (pb x y b) ∧ Ext w w' := by
  by_cases h : Good s t ∧ 0 ≤ m ∧ m ≤ 4
  · obtain ⟨⟨A, B, rfl, rfl, h1, h2⟩, h3, h4⟩ := h
    obtain ⟨n, rfl⟩ : ∃ n : Nat, m = n := ⟨m.toNat, by omega⟩
    have e := least_eq (p := (A, B)) h1 n
    refine ⟨_, _, _, fun w => specLC_yes A B h1 h2 n (by omega) w, fun w => ?_⟩
    rw [← e]
    exact implLC_yes A B h1 h2 n (by omega) w
  · exact ⟨_, _, _, specLC_no s t m h, implLC_no s t m h⟩
set_option maxHeartbeats 3200000 in
set_option maxRecDepth 100000 in
theorem walk_FnExactLeastConjugate (s t : ByteArray) (hs : s.size ≤ maxLen) (ht : t.size ≤ maxLen) (m : Int) (hm : (Lit.int IntKind.i64 m).wf = true) (w : World) :
    Calls Try.prog 14 #[.agg #[.string s, .string t], .int .i64 m] w fun e w' => e = .returned (.bool true) ∧ Ext w w' := by
  obtain ⟨x, y, b, C1, C2⟩ := both_LC s t m
  have C1 := Lib.hid C1
  have C2 := Lib.hid C2
  have X0 := Lib.hid ((Ext.refl w).alloc (.cells #[.string s, .string t] 33))
  have C3 := Lib.hid (fun w => szPair_calls s t 1048576 (by omega) hs ht w)
  have C4 := Lib.hid (fun w => toPair_calls s t w)
  have c0 : (w.alloc (.cells #[.string s, .string t] 33)).cell? ⟨w.heap.size, 0, none⟩ = some (.string s) := by go_simp
  have c1 : (w.alloc (.cells #[.string s, .string t] 33)).cell? ⟨w.heap.size, 1, none⟩ = some (.string t) := by go_simp
  clear hs ht hm
  go_enter Try.func14, Try.ntmps14
  go_wp2_with fail
  generalize w.alloc (.cells #[.string s, .string t] 33) = W at *
  refine (C3.out _).mono ?_
  rintro e w1 ⟨r, rfl, hr, x1⟩
  have c0 := x1.cell c0
  have c1 := x1.cell c1
  have X1 := Lib.hid (X0.out.trans x1)
  clear x1 hr
  by_cases hr0 : r < 0
  · go_wp2_with fail
    go_ret
    exact ⟨rfl, X1.out⟩
  go_wp2_with fail
  refine (C4.out _).mono ?_
  rintro e w2 ⟨rfl, x2⟩
  have c0 := x2.cell c0
  have c1 := x2.cell c1
  have X2 := Lib.hid (X1.out.trans x2)
  clear x2
  go_wp2_with fail
  refine (C1.out _).mono ?_
  rintro e w4 ⟨rfl, x4⟩
  unfold pb
  have c0 := (x4.alloc (.cells #[.string x, .string y] 29)).cell c0
  have c1 := (x4.alloc (.cells #[.string x, .string y] 29)).cell c1
  have X4 := Lib.hid (X2.out.trans (x4.alloc (.cells #[.string x, .string y] 29)))
  obtain ⟨d0, d1⟩ := cells_of (heap_alloc_new w4 (.cells #[.string x, .string y] 29))
  clear x4
  go_wp2_with fail
  generalize w4.alloc (.cells #[.string x, .string y] 29) = W4 at *
  refine (C4.out _).mono ?_
  rintro e w6 ⟨rfl, x6⟩
  have d0 := x6.cell d0
  have d1 := x6.cell d1
  have X6 := Lib.hid (X4.out.trans x6)
  clear x6 c0 c1
  go_wp2_with fail
  refine (C2.out _).mono ?_
  rintro e w7 ⟨rfl, x7⟩
  unfold pb
  have xx := x7.alloc (.cells #[.string x, .string y] 29)
  have d0 := xx.cell d0
  have d1 := xx.cell d1
  obtain ⟨f0, f1⟩ := cells_of (heap_alloc_new w7 (.cells #[.string x, .string y] 29))
  have X7 := Lib.hid (X6.out.trans xx)
  clear x7 xx
  go_wp2_with fail
  generalize w7.alloc (.cells #[.string x, .string y] 29) = W7 at *
  refine (eqPair_calls x y _).mono ?_
  rintro e w8 ⟨rfl, x8⟩
  have X8 := Lib.hid (X7.out.trans x8)
  clear x8
  cases b
  all_goals
    go_wp2_with fail
    go_ret
    exact ⟨rfl, X8.out⟩
end Go.Proofs.Ytfkjjmmoipcddaa.N
