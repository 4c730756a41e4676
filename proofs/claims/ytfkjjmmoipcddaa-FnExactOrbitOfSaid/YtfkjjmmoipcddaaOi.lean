import Derived.Test.YtfkjjmmoipcddaaBa
import Derived.Test.YtfkjjmmoipcddaaPu
import Derived.Test.YtfkjjmmoipcddaaSl
import Derived.Test.YtfkjjmmoipcddaaProg
import Derived.Test.YtfkjjmmoipcddaaTn
import Derived.Test.YtfkjjmmoipcddaaTs
import Derived.Test.YtfkjjmmoipcddaaPh
import Derived.Test.YtfkjjmmoipcddaaWl
import Derived.Test.YtfkjjmmoipcddaaT3
import Derived.Test.YtfkjjmmoipcddaaTp
import Derived.Test.YtfkjjmmoipcddaaTr
import Derived.Test.YtfkjjmmoipcddaaTu
import Derived.Test.YtfkjjmmoipcddaaTj
import Derived.Test.YtfkjjmmoipcddaaTk
import Derived.Test.YtfkjjmmoipcddaaVt
import Derived.Test.YtfkjjmmoipcddaaRh
import Derived.Test.YtfkjjmmoipcddaaSx
import Derived.Test.YtfkjjmmoipcddaaSy
import Derived.Test.YtfkjjmmoipcddaaWp
import Derived.Test.YtfkjjmmoipcddaaWq
import Derived.Test.YtfkjjmmoipcddaaFa
import Derived.Test.YtfkjjmmoipcddaaFb
import Derived.Test.YtfkjjmmoipcddaaFc
import Derived.Test.YtfkjjmmoipcddaaPf
import Derived.Test.YtfkjjmmoipcddaaFd
import Derived.Test.YtfkjjmmoipcddaaFe
import Derived.Test.YtfkjjmmoipcddaaFf
import Derived.Test.YtfkjjmmoipcddaaFg
import Derived.Test.YtfkjjmmoipcddaaFh
import Derived.Test.YtfkjjmmoipcddaaFi
import Derived.Test.YtfkjjmmoipcddaaFj
import Derived.Test.YtfkjjmmoipcddaaSf
import Derived.Test.YtfkjjmmoipcddaaOg
import Derived.Test.YtfkjjmmoipcddaaOh
import Derived.Deep.LoopGhost
import Derived.Deep.RegionHeld3
import Derived.Deep.QuietTactic
import Derived.Deep.CutRange
import Derived.StillTailTactics
/- OrbitOf: the reference's, and the law. -/
namespace Go.Proofs.Ytfkjjmmoipcddaa.N
open Go.RowKit
set_option linter.unusedVariables false
set_option linter.unusedSimpArgs false

theorem set2_grown (w : World) (g : Nat) (a b : Value) : w.grownBy (N.set2 w g a b) (some g) := by
  have hs : (N.set2 w g a b).heap.size = w.heap.size := by simp [N.set2, World.setCell]
  exact ⟨rfl, rfl, rfl, by rw [hs]; exact Nat.le_refl _, fun k hk hne => set2_other (fun e => hne (by rw [e])) a b⟩
theorem row_set2 {w : World} {base g : Nat} {e : TypeId} {sz n : Nat} {v : Value} {xs : List Value} (h : w.ownsRow base e sz v n xs) (hg : g < base) (a b : Value) : (N.set2 w g a b).ownsRow base e sz v n xs :=
  World.ownsRow.kept h (set2_grown w g a b) (by
    cases hv : v.ownBlock with
    | none => exact .inl rfl
    | some k => right; intro e; injection e with e; have := (h.lt k hv).1; omega)

set_option maxHeartbeats 3200000 in
set_option maxRecDepth 100000 in
theorem implOO_no (s t : ByteArray) (n d m : Int) (h : ¬ (Good s t ∧ goodB n d = true ∧ 0 ≤ m ∧ m ≤ 20)) (w : World) :
    Calls Try.prog 49 #[.agg #[.string s, .string t], .agg #[.int .i64 n, .int .i64 d], .int .i64 m] w fun e w' => ∃ v, e = .returned (.tuple #[v, .bool false]) ∧ w'.ownsRow w.heap.size 61 2 v 0 (frs []) ∧ Ext w w' := by
  obtain ⟨X2, b3, b4⟩ := boxPF w (.string s) (.string t) (.int .i64 n) (.int .i64 d) 29 61
  have X2 := Lib.hid X2
  have B4 := Lib.hid b4
  obtain ⟨c0, c1⟩ := cells_of b3
  by_cases hg : Good s t
  · have hr : goodB n d = true → ¬ (0 ≤ m ∧ m ≤ 20) := fun k q => h ⟨hg, k, q⟩
    obtain ⟨A, B, rfl, rfl, h1, h2⟩ := hg
    have C1 := Lib.hid (fun W => pairOf_yes A B h1 h2 W)
    have C2 := Lib.hid (fun W => isFraction_calls n d W)
    clear h h1 h2 b3 b4
    generalize tx A = s at *
    generalize tx B = t at *
    cases hf : goodB n d with
    | false =>
      rw [hf] at C2
      clear hf hr
      go_enter Try.func49, Try.ntmps49
      go_wp2_with fail
      generalize (w.alloc (.cells #[.string s, .string t] 29)).alloc (.cells #[.int .i64 n, .int .i64 d] 61) = W at *
      refine (C1.out _).mono ?_
      rintro e w1 ⟨pa, pb, rfl, rA, rB, x1⟩
      have xa := x1.alloc (.cells #[.pointer pa, .pointer pb] 78)
      have X1 := Lib.hid (X2.out.trans xa)
      obtain ⟨c2, c3⟩ := cells_of (xa.at B4.out)
      clear rA rB
      go_wp2_with fail
      refine (C2.out _).mono ?_
      rintro e w2 ⟨rfl, x2⟩
      have X3 := Lib.hid (X1.out.trans x2)
      go_wp2_with fail
      go_ret2
      exact ⟨_, rfl, World.ownsRow_nil _ _ _ _, X3.out⟩
    | true =>
      rw [hf] at C2
      have hr := hr hf
      clear hf
      by_cases hm : m < 0
      · clear hr
        go_enter Try.func49, Try.ntmps49
        go_wp2_with fail
        generalize (w.alloc (.cells #[.string s, .string t] 29)).alloc (.cells #[.int .i64 n, .int .i64 d] 61) = W at *
        refine (C1.out _).mono ?_
        rintro e w1 ⟨pa, pb, rfl, rA, rB, x1⟩
        have xa := x1.alloc (.cells #[.pointer pa, .pointer pb] 78)
        have X1 := Lib.hid (X2.out.trans xa)
        obtain ⟨c2, c3⟩ := cells_of (xa.at B4.out)
        clear rA rB
        go_wp2_with fail
        refine (C2.out _).mono ?_
        rintro e w2 ⟨rfl, x2⟩
        have X3 := Lib.hid (X1.out.trans x2)
        go_wp2_with fail
        go_ret2
        exact ⟨_, rfl, World.ownsRow_nil _ _ _ _, X3.out⟩
      · have hm2 : 20 < m := by omega
        clear hr
        go_enter Try.func49, Try.ntmps49
        go_wp2_with fail
        generalize (w.alloc (.cells #[.string s, .string t] 29)).alloc (.cells #[.int .i64 n, .int .i64 d] 61) = W at *
        refine (C1.out _).mono ?_
        rintro e w1 ⟨pa, pb, rfl, rA, rB, x1⟩
        have xa := x1.alloc (.cells #[.pointer pa, .pointer pb] 78)
        have X1 := Lib.hid (X2.out.trans xa)
        obtain ⟨c2, c3⟩ := cells_of (xa.at B4.out)
        clear rA rB
        go_wp2_with fail
        refine (C2.out _).mono ?_
        rintro e w2 ⟨rfl, x2⟩
        have X3 := Lib.hid (X1.out.trans x2)
        go_wp2_with fail
        go_ret2
        exact ⟨_, rfl, World.ownsRow_nil _ _ _ _, X3.out⟩
  · have C1 := Lib.hid (fun W => pairOf_no s t hg W)
    clear h hg b3 b4
    go_enter Try.func49, Try.ntmps49
    go_wp2_with fail
    generalize (w.alloc (.cells #[.string s, .string t] 29)).alloc (.cells #[.int .i64 n, .int .i64 d] 61) = W at *
    refine (C1.out _).mono ?_
    rintro e w1 ⟨pa, pb, rfl, x1⟩
    have xa := x1.alloc (.cells #[.pointer pa, .pointer pb] 78)
    have X1 := Lib.hid (X2.out.trans xa)
    go_wp2_with fail
    go_ret2
    exact ⟨_, rfl, World.ownsRow_nil _ _ _ _, X1.out⟩

set_option maxHeartbeats 3200000 in
set_option maxRecDepth 100000 in
theorem specOO_no (s t : ByteArray) (n d m : Int) (h : ¬ (Good s t ∧ goodB n d = true ∧ 0 ≤ m ∧ m ≤ 20)) (w : World) :
    Calls Try.prog 48 #[.agg #[.string s, .string t], .agg #[.int .i64 n, .int .i64 d], .int .i64 m] w fun e w' => ∃ v, e = .returned (.tuple #[v, .bool false]) ∧ w'.ownsRow w.heap.size 61 2 v 0 (frs []) ∧ Ext w w' := by
  obtain ⟨X2, b3, b4⟩ := boxPF w (.string s) (.string t) (.int .i64 n) (.int .i64 d) 29 61
  have X2 := Lib.hid X2
  have B4 := Lib.hid b4
  obtain ⟨c0, c1⟩ := cells_of b3
  by_cases hg : Good s t
  · have hr : goodB n d = true → ¬ (0 ≤ m ∧ m ≤ 20) := fun k q => h ⟨hg, k, q⟩
    obtain ⟨A, B, rfl, rfl, h1, h2⟩ := hg
    have C1 := Lib.hid (fun W => prGood_yes A B h1 h2 W)
    have C2 := Lib.hid (fun W => mpGood_calls n d W)
    clear h h1 h2 b3 b4
    generalize tx A = s at *
    generalize tx B = t at *
    cases hf : goodB n d with
    | false =>
      rw [hf] at C2
      clear hf hr
      go_enter Try.func48, Try.ntmps48
      go_wp2_with fail
      generalize (w.alloc (.cells #[.string s, .string t] 29)).alloc (.cells #[.int .i64 n, .int .i64 d] 61) = W at *
      refine (C1.out _).mono ?_
      rintro e w1 ⟨rfl, x1⟩
      have X1 := Lib.hid (X2.out.trans x1)
      obtain ⟨c2, c3⟩ := cells_of (x1.at B4.out)
      go_wp2_with fail
      refine (C2.out _).mono ?_
      rintro e w2 ⟨rfl, x2⟩
      have X3 := Lib.hid (X1.out.trans x2)
      go_wp2_with fail
      go_ret2
      exact ⟨_, rfl, World.ownsRow_nil _ _ _ _, X3.out⟩
    | true =>
      rw [hf] at C2
      have hr := hr hf
      clear hf
      have C3 := Lib.hid (fun W => l1In_calls m 0 20 W)
      rw [decide_eq_false hr] at C3
      clear hr
      go_enter Try.func48, Try.ntmps48
      go_wp2_with fail
      generalize (w.alloc (.cells #[.string s, .string t] 29)).alloc (.cells #[.int .i64 n, .int .i64 d] 61) = W at *
      refine (C1.out _).mono ?_
      rintro e w1 ⟨rfl, x1⟩
      have X1 := Lib.hid (X2.out.trans x1)
      obtain ⟨c2, c3⟩ := cells_of (x1.at B4.out)
      go_wp2_with fail
      refine (C2.out _).mono ?_
      rintro e w2 ⟨rfl, x2⟩
      have X3 := Lib.hid (X1.out.trans x2)
      go_wp2_with fail
      refine (C3.out _).mono ?_
      rintro e w3 ⟨rfl, rfl⟩
      go_wp2_with fail
      go_ret2
      exact ⟨_, rfl, World.ownsRow_nil _ _ _ _, X3.out⟩
  · have C1 := Lib.hid (fun W => prGood_no s t hg W)
    clear h hg b3 b4
    go_enter Try.func48, Try.ntmps48
    go_wp2_with fail
    generalize (w.alloc (.cells #[.string s, .string t] 29)).alloc (.cells #[.int .i64 n, .int .i64 d] 61) = W at *
    refine (C1.out _).mono ?_
    rintro e w1 ⟨rfl, x1⟩
    have X1 := Lib.hid (X2.out.trans x1)
    go_wp2_with fail
    go_ret2
    exact ⟨_, rfl, World.ownsRow_nil _ _ _ _, X1.out⟩

set_option maxHeartbeats 6400000 in
set_option maxRecDepth 100000 in
theorem specOO_yes (A B : Tr) (hc : A.carets = B.carets) (hB : B.carets ≤ 8) (x : Nat × Nat) (hx : FrOk x) (n : Nat) (hn : n ≤ 20) (w : World) :
    Calls Try.prog 48 #[.agg #[.string (tx A), .string (tx B)], .agg #[.int .i64 (x.1 : Nat), .int .i64 (x.2 : Nat)], .int .i64 n] w fun e w' => ∃ v, e = .returned (.tuple #[v, .bool (orbT A B x n).isSome]) ∧ w'.ownsRow w.heap.size 61 2 v ((orbT A B x n).getD []).length (frs ((orbT A B x n).getD [])) ∧ Ext w w' := by
  obtain ⟨X2, b3, b4⟩ := boxPF w (.string (tx A)) (.string (tx B)) (.int .i64 (x.1 : Nat)) (.int .i64 (x.2 : Nat)) 29 61
  have X2 := Lib.hid X2
  have B3 := Lib.hid b3
  have B4 := Lib.hid b4
  obtain ⟨c0, c1⟩ := cells_of b3
  have C1 := Lib.hid (fun W => prGood_yes A B hc hB W)
  have CG := Lib.hid (fun (y : Nat × Nat) W => mpGood_calls (y.1 : Nat) (y.2 : Nat) W)
  have C2 : Hid (∀ W, Calls Try.prog 99 #[.agg #[.int .i64 (x.1 : Nat), .int .i64 (x.2 : Nat)]] W fun e w' => e = .returned (.bool true) ∧ Ext W w') := by
    intro W
    have := CG.out x W
    unfold FrOk at hx
    rw [hx] at this
    exact this
  have C3 := Lib.hid (fun W => l1In_calls n 0 20 W)
  rw [decide_eq_true (show (0 : Int) ≤ n ∧ (n : Int) ≤ 20 by omega)] at C3
  have CV : Hid (∀ y : Nat × Nat, FrOk y → ∀ W, Calls Try.prog 101 #[.agg #[.string (tx A), .string (tx B)], .agg #[.int .i64 (y.1 : Nat), .int .i64 (y.2 : Nat)]] W fun e w' => e = .returned (.agg #[.int .i64 ((nxt A B y).1 : Nat), .int .i64 ((nxt A B y).2 : Nat)]) ∧ Ext W w') := by
    intro y hy W
    obtain ⟨k, h1, h2, h3⟩ := hy.form
    have := mpValue_calls A B hc hB y.1 k h1 h3 W
    rw [← nxt_at A B y.1 k (by omega), ← h2] at this
    rw [show (y.1, y.2) = y from rfl] at this
    exact this
  have NX := Lib.hid (fun (y : Nat × Nat) (hy : FrOk y) => hy.next A B hc hB)
  have S0 : Hid (seqO A B x 0 = x) := rfl
  have SS : Hid (∀ j, seqO A B x (j + 1) = nxt A B (seqO A B x j)) := fun j => rfl
  have NN := Lib.hid (fun j => @orbT_none A B x n j)
  have YY : Hid ((∀ j, j ≤ n → (seqO A B x j).2 ≤ 1024) → orbT A B x n = some ((List.range (n + 1)).map (seqO A B x))) := fun h => by unfold orbT; rw [if_pos h]
  have HX := Lib.hid hx
  have hn' : (n : Int) ≤ 20 := by omega
  generalize orbT A B x n = R at *
  generalize seqO A B x = sq at *
  generalize nxt A B = nx at *
  generalize tx A = a at *
  generalize tx B = b at *
  clear hc hB hx b3 b4
  go_enter Try.func48, Try.ntmps48
  go_wp2_with fail
  generalize (w.alloc (.cells #[.string a, .string b] 29)).alloc (.cells #[.int .i64 (x.1 : Nat), .int .i64 (x.2 : Nat)] 61) = W at *
  refine (C1.out _).mono ?_
  rintro e w1 ⟨rfl, x1⟩
  have X1 := Lib.hid (X2.out.trans x1)
  have B3 := Lib.hid (x1.at B3.out)
  have B4 := Lib.hid (x1.at B4.out)
  obtain ⟨c2, c3⟩ := cells_of B4.out
  clear x1 c0 c1
  go_wp2_with fail
  refine (C2.out _).mono ?_
  rintro e w2 ⟨rfl, x2⟩
  have X3 := Lib.hid (X1.out.trans x2)
  have B3 := Lib.hid (x2.at B3.out)
  have B4 := Lib.hid (x2.at B4.out)
  obtain ⟨c2, c3⟩ := cells_of B4.out
  clear x2
  go_wp2_with fail
  refine (C3.out _).mono ?_
  rintro e w3 ⟨rfl, rfl⟩
  have LIT := Lib.hid (row_lit2 w2 w2.heap.size (.int .i64 (x.1 : Nat)) (.int .i64 (x.2 : Nat)) 61 (Nat.le_refl _))
  have xl := (Ext.refl w2).alloc (.cells #[.int .i64 (x.1 : Nat), .int .i64 (x.2 : Nat)] 61)
  have GL : Hid (w.heap.size + 1 < w2.heap.size ∧ w.heap.size ≤ w2.heap.size) := ⟨(Array.getElem?_eq_some_iff.1 B4.out).1, X3.out.size⟩
  have XL := Lib.hid (X3.out.trans xl)
  have B3 := Lib.hid (xl.at B3.out)
  have B4 := Lib.hid (xl.at B4.out)
  clear xl C1 C2 C3
  go_wp2_with fail
  have E0 : Hid (frs ((List.range (0 + 1)).map sq) = [.int .i64 (x.1 : Nat), .int .i64 (x.2 : Nat)]) := by show _ = _; simp [frs, S0.out]
  generalize w2.alloc (.cells #[.int .i64 (x.1 : Nat), .int .i64 (x.2 : Nat)] 61) = W2 at *
  go_loopw [9, 8] (fun i v wr => ∃ j : Nat, j ≤ n ∧ i = .int .i64 j ∧ Hid (wr.ownsRow w2.heap.size 61 2 v (j + 1) (frs ((List.range (j + 1)).map sq))) ∧ Hid (∀ i, i ≤ j → FrOk (sq i)) ∧ Hid (wr.heap[w.heap.size]? = some (.cells #[.string a, .string b] 29)) ∧ Hid (wr.heap[w.heap.size + 1]? = some (.cells #[.int .i64 ((sq j).1 : Nat), .int .i64 ((sq j).2 : Nat)] 61)) ∧ Hid (Ext w wr)) (fun i _ _ => n - (intOf i).toNat)
  case atStart => exact ⟨0, Nat.zero_le _, rfl, (by show World.ownsRow _ _ _ _ _ _ _; rw [E0.out]; exact LIT.out), (fun i hi => by obtain rfl : i = 0 := (by omega); rw [S0.out]; exact HX.out), B3.out, (by rw [S0.out]; exact B4.out), XL.out⟩
  case round =>
    obtain ⟨j, hj, rfl, HO, HK, H3, H4, HE⟩ := hrel
    by_cases hlt : j < n
    · have h0 : (0 : Int) ≤ j := by omega
      have h1 : (j : Int) < n := by omega
      have FJ := HK.out j (Nat.le_refl _)
      have CVJ := Lib.hid (CV.out (sq j) FJ)
      have NJ := Lib.hid (NX.out (sq j) FJ)
      have SJ := Lib.hid (SS.out j)
      have CGJ := Lib.hid (CG.out (nx (sq j)))
      rw [NJ.out] at CGJ
      obtain ⟨d0, d1⟩ := cells_of H3.out
      obtain ⟨d2, d3⟩ := cells_of H4.out
      have TK := Lib.hid (range_map_snoc sq (j + 1))
      generalize nx (sq j) = ny at *
      generalize (sq j).1 = m0 at *
      generalize (sq j).2 = m1 at *
      clear FJ
      go_wp2_with fail
      refine (CVJ.out _).mono ?_
      rintro e w5 ⟨rfl, x5⟩
      have T5 : Hid (Two w5 (w.heap.size + 1) 61) := ⟨_, _, x5.at H4.out⟩
      obtain ⟨u, v', k0, k1, f0, f1⟩ := T5.out.facts
      have HO5 := Lib.hid (row_ext HO.out x5)
      have HE5 := Lib.hid (HE.out.trans x5)
      have H35 := Lib.hid (x5.at H3.out)
      clear x5 d0 d1 d2 d3
      go_wp2_with fail
      have P4 := Lib.hid (set2_heap T5.out (.int .i64 (ny.1 : Nat)) (.int .i64 (ny.2 : Nat)))
      have P3 := Lib.hid ((set2_other (k := w.heap.size) (g := w.heap.size + 1) (by omega) (.int .i64 (ny.1 : Nat)) (.int .i64 (ny.2 : Nat))).trans H35.out)
      have PO := Lib.hid (row_set2 HO5.out GL.out.1 (.int .i64 (ny.1 : Nat)) (.int .i64 (ny.2 : Nat)))
      have PE := Lib.hid (HE5.out.set2 (g := w.heap.size + 1) (by omega) (.int .i64 (ny.1 : Nat)) (.int .i64 (ny.2 : Nat)))
      change Calls _ _ _ (N.set2 w5 (w.heap.size + 1) (.int .i64 (ny.1 : Nat)) (.int .i64 (ny.2 : Nat))) _
      clear k0 k1 f0 f1 T5 HO5 HE5 H35
      generalize N.set2 w5 (w.heap.size + 1) (.int .i64 (ny.1 : Nat)) (.int .i64 (ny.2 : Nat)) = W6 at *
      refine (CGJ.out _).mono ?_
      rintro e w6 ⟨rfl, x6⟩
      have P4 := Lib.hid (x6.at P4.out)
      have P3 := Lib.hid (x6.at P3.out)
      have PO := Lib.hid (row_ext PO.out x6)
      have PE := Lib.hid (PE.out.trans x6)
      obtain ⟨e0, e1⟩ := cells_of P4.out
      clear x6
      by_cases hd : ny.2 ≤ 1024
      · have KN : Hid (∀ i, i ≤ j + 1 → FrOk (sq i)) := by
          intro i hi
          by_cases hij : i ≤ j
          · exact HK.out i hij
          · obtain rfl : i = j + 1 := (by omega)
            show goodB _ _ = true
            rw [SJ.out, NJ.out, decide_eq_true hd]
        rw [decide_eq_true hd]
        have TE : Hid (frs ((List.range (j + 1 + 1)).map sq) = frs ((List.range (j + 1)).map sq) ++ [.int .i64 (ny.1 : Nat), .int .i64 (ny.2 : Nat)]) := by
          show _ = _
          rw [TK.out, frs_append, SJ.out]; rfl
        have O3 := row_ext PO.out ((Ext.refl w6).alloc (.cells #[.int .i64 (ny.1 : Nat), .int .i64 (ny.2 : Nat)] 61))
        have xq : Ext w6 (w6.alloc (.cells #[.int .i64 (ny.1 : Nat), .int .i64 (ny.2 : Nat)] 61)) := (Ext.refl w6).alloc _
        have X3' := Lib.hid (PE.out.trans xq)
        have P4 := Lib.hid (xq.at P4.out)
        have P3 := Lib.hid (xq.at P3.out)
        have LO := Lib.hid (fun j hj => (O3.lt j hj).1)
        have BS : Hid (w2.heap.size ≤ (w6.alloc (.cells #[.int .i64 (ny.1 : Nat), .int .i64 (ny.2 : Nat)] 61)).heap.size) := by
          obtain ⟨gg, cc, e9, hb9⟩ := row_block O3 (by omega)
          subst e9
          have := O3.lt gg rfl
          show _ ≤ _; omega
        clear hd xq
        obtain ⟨n1, hn1⟩ : ∃ n1 : Nat, j + 1 = n1 := ⟨_, rfl⟩
        have HN1 := Lib.hid hn1
        have I1 : n1 ≤ 21 := by omega
        rw [hn1] at O3
        clear hn1
        go_wp2_with (at_builtin; refine wpList_appK rfl (.tmp 36) (.tmp 38) 67 rfl w2.heap.size 61 _ 2 16 Try.underlying67 infoFr rfl (by omega) _ n1 1 1 _ _ [.int .i64 (ny.1 : Nat), .int .i64 (ny.2 : Nat)] rfl rfl O3 rfl (new_cells w6 #[.int .i64 (ny.1 : Nat), .int .i64 (ny.2 : Nat)] _) (by simp [Value.oneCell']) (by unfold maxLen; omega) (by omega) BS.out ?_; intro v4 w4 o4 g4 _)
        have X4 := Lib.hid (X3'.out.grown g4 (fun k hk => Nat.le_trans GL.out.2 (LO.out k hk)))
        have P4 := Lib.hid ((g4.block (w.heap.size + 1) (Array.getElem?_eq_some_iff.1 P4.out).1 (fun e => by have := LO.out _ e.symm; have := GL.out.1; omega)).trans P4.out)
        have P3 := Lib.hid ((g4.block w.heap.size (Array.getElem?_eq_some_iff.1 P3.out).1 (fun e => by have := LO.out _ e.symm; have := GL.out.1; omega)).trans P3.out)
        have P4' := P4.out
        rw [← SJ.out] at P4'
        have P4' := Lib.hid P4'
        rw [← HN1.out, ← TE.out] at o4
        have O4 := Lib.hid o4
        clear o4 g4 O3 P4 e0 e1
        go_wp2_with fail
        exact ⟨⟨j + 1, by omega, by go_num, O4.out, KN.out, P3.out, P4'.out, X4.out⟩, by simp [intOf]; omega⟩
      · have RN : Hid (R = none) := NN.out (j + 1) (by omega) (by rw [SJ.out]; exact hd)
        rw [decide_eq_false hd]
        clear hd
        go_wp2_with fail
        go_ret2
        rw [RN.out]
        exact ⟨_, rfl, World.ownsRow_nil _ _ _ _, PE.out⟩
    · have h1 : (n : Int) ≤ j := by omega
      obtain rfl : j = n := by omega
      have RS : Hid (R = some ((List.range (j + 1)).map sq)) := YY.out fun i hi => (HK.out i hi).small
      go_wp2_with fail
      go_ret2
      rw [RS.out]
      refine ⟨_, rfl, ?_, HE.out⟩
      simp only [Option.getD_some, List.length_map, List.length_range]
      exact row_mono HO.out GL.out.2
end Go.Proofs.Ytfkjjmmoipcddaa.N
