import Derived.Test.YtfkjjmmoipcddaaBa
import Derived.Test.YtfkjjmmoipcddaaPu
import Derived.Test.YtfkjjmmoipcddaaSl
import Derived.Test.YtfkjjmmoipcddaaProg
import Derived.Test.YtfkjjmmoipcddaaTs
import Derived.Test.YtfkjjmmoipcddaaTn
import Derived.Test.YtfkjjmmoipcddaaPp
import Derived.Test.YtfkjjmmoipcddaaPx
import Derived.Test.YtfkjjmmoipcddaaWl
import Derived.Test.YtfkjjmmoipcddaaT3
import Derived.Test.YtfkjjmmoipcddaaTp
import Derived.Test.YtfkjjmmoipcddaaTr
import Derived.Test.YtfkjjmmoipcddaaTu
import Derived.Test.YtfkjjmmoipcddaaSx
import Derived.Test.YtfkjjmmoipcddaaSy
import Derived.Test.YtfkjjmmoipcddaaSz
import Derived.Test.YtfkjjmmoipcddaaWp
import Derived.Test.YtfkjjmmoipcddaaWq
import Derived.Test.YtfkjjmmoipcddaaPw
import Derived.Test.YtfkjjmmoipcddaaLa
import Derived.Test.YtfkjjmmoipcddaaCl
import Derived.Test.YtfkjjmmoipcddaaVv
import Derived.Test.YtfkjjmmoipcddaaKv
import Derived.Test.YtfkjjmmoipcddaaRh
import Derived.Test.YtfkjjmmoipcddaaWs
import Derived.Test.YtfkjjmmoipcddaaWo
import Derived.Deep.LoopGhost
import Derived.Deep.RegionHeld3
import Derived.Deep.QuietTactic
/- Words of pairs of texts and their sums: the reference's functions, and the law. -/
namespace Go.Proofs.Ytfkjjmmoipcddaa.N
open Go.RowKit
set_option linter.unusedVariables false
set_option linter.unusedSimpArgs false

set_option maxHeartbeats 3200000 in
set_option maxRecDepth 100000 in
theorem wdExponents_calls (T : Tr) : ∀ (k : Nat) (w : World), T.depth ≤ 60 → T.carets ≤ 1000 → k + T.carets ≤ 100000 →
    Calls Try.prog 170 #[.string (tx T), .int .i64 k] w (GivesN w (climb T k)) := by
  induction T with
  | leaf =>
    intro k w _ _ _
    have C1 := Lib.hid (fun W => trLeaf_leaf W)
    generalize tx .leaf = z at *
    have OL : Hid (Own (w.alloc (.cells #[.int .i64 k] 3)) w.heap.size 3 (.slice (some ⟨w.heap.size, 0, none⟩) 1 1) (nats [k])) := Own.lit w w.heap.size 3 #[.int .i64 k] (Nat.le_refl _) (by show 1 ≤ maxLen; decide)
    have XL := Lib.hid ((Ext.refl w).alloc (.cells #[.int .i64 k] 3))
    go_enter Try.func170, Try.ntmps170
    go_wp2_with fail
    refine (C1.out _).mono ?_
    rintro e w1 ⟨rfl, rfl⟩
    go_wp2_with fail
    go_ret
    exact ⟨_, rfl, OL.out, XL.out⟩
  | node l r ihl ihr =>
    intro k w hd hc hk
    have C1 := Lib.hid (fun W => trLeaf_node l r W)
    have C3 := Lib.hid (fun W => trSides_calls l r hd (by omega) W)
    simp only [Tr.depth, Tr.carets] at hd hc hk
    have C5 := Lib.hid (fun W => ihl (k + 1) W (by omega) (by omega) (by omega))
    have C6 := Lib.hid (fun W => ihr 0 W (by omega) (by omega) (by omega))
    have L2 : Hid (((nats (climb l (k + 1))).length + (nats (climb r 0)).length) * 8 ≤ 140737488355328) := by show _ ≤ _; rw [nats_length, nats_length, climb_length, climb_length]; omega
    rw [show climb (.node l r) k = climb l (k + 1) ++ climb r 0 from rfl]
    have W1 : Hid ((k : Int) + 1 = ((k + 1 : Nat) : Int)) := by show _ = _; omega
    have kb : (0 : Int) ≤ k ∧ (k : Int) ≤ 100000 := by omega
    generalize climb l (k + 1) = L1 at *
    generalize climb r 0 = LR at *
    generalize tx (.node l r) = a at *
    generalize tx l = sl at *
    generalize tx r = sr at *
    clear ihl ihr hd hc hk
    go_enter Try.func170, Try.ntmps170
    go_wp2_with fail
    refine (C1.out _).mono ?_
    rintro e w1 ⟨rfl, rfl⟩
    go_wp2_with fail
    refine (C3.out _).mono ?_
    rintro e w1 ⟨rfl, n1, rfl⟩
    have X2 := Lib.hid ((Ext.refl w).drewN n1)
    generalize w.drewN n1 = w2 at *
    go_wp2_with fail
    rw [W1.out]
    refine (C5.out _).mono ?_
    rintro e w3 ⟨v3, rfl, o3, x3⟩
    have X3 := Lib.hid (X2.out.trans x3)
    have O3 := Lib.hid (o3.mono X2.out.size)
    clear o3 x3
    go_wp2_with fail
    refine (C6.out _).mono ?_
    rintro e w4 ⟨v4, rfl, o4, x4⟩
    have X4 := Lib.hid (X3.out.trans x4)
    have O4 := o4.reads
    have O3 := O3.out.ext x4
    have B1 := Lib.hid X4.out.size
    clear o4 x4
    go_wp2_with (at_builtin; refine wpList_app rfl (.tmp 19) (.tmp 21) 54 rfl w.heap.size 3 (.int .i64 0) 8 Try.underlying54 infoInt rfl (by omega) _ _ _ (nats LR) rfl rfl O3 O4 (nats_one _) L2.out B1.out ?_; intro v5 w5 o5 g5 _)
    have X5 := Lib.hid (X4.out.grown g5 O3.lo)
    rw [nats_append] at o5
    have O5 := Lib.hid o5
    clear o5 g5 O3 O4
    go_wp2_with fail
    go_ret
    exact ⟨_, rfl, O5.out, X5.out⟩

set_option maxHeartbeats 3200000 in
set_option maxRecDepth 100000 in
theorem wdRight_calls (T : Tr) : ∀ (w : World), T.depth ≤ 60 → T.carets ≤ 1000 →
    Calls Try.prog 135 #[.string (tx T)] w (GivesN w (expT T)) := by
  induction T with
  | leaf =>
    intro w _ _
    have C1 := Lib.hid (fun W => trLeaf_leaf W)
    generalize tx .leaf = z at *
    have OL : Hid (Own (w.alloc (.cells #[.int .i64 0] 3)) w.heap.size 3 (.slice (some ⟨w.heap.size, 0, none⟩) 1 1) (nats [0])) := Own.lit w w.heap.size 3 #[.int .i64 0] (Nat.le_refl _) (by show 1 ≤ maxLen; decide)
    have XL := Lib.hid ((Ext.refl w).alloc (.cells #[.int .i64 0] 3))
    go_enter Try.func135, Try.ntmps135
    go_wp2_with fail
    refine (C1.out _).mono ?_
    rintro e w1 ⟨rfl, rfl⟩
    go_wp2_with fail
    go_ret
    exact ⟨_, rfl, OL.out, XL.out⟩
  | node l r ihl ihr =>
    intro w hd hc
    have C1 := Lib.hid (fun W => trLeaf_node l r W)
    have C3 := Lib.hid (fun W => trSides_calls l r hd (by omega) W)
    simp only [Tr.depth, Tr.carets] at hd hc
    have C5 : Hid (∀ W, Calls Try.prog 170 #[.string (tx l), .int .i64 0] W (GivesN W (climb l 0))) := (fun W => wdExponents_calls l 0 W (by omega) (by omega) (by omega))
    have C6 := Lib.hid (fun W => ihr W (by omega) (by omega))
    have L2 : Hid (((nats (climb l 0)).length + (nats (expT r)).length) * 8 ≤ 140737488355328) := by show _ ≤ _; rw [nats_length, nats_length, climb_length, expT_length]; omega
    rw [show expT (.node l r) = climb l 0 ++ expT r from rfl]
    generalize climb l 0 = L1 at *
    generalize expT r = LR at *
    generalize tx (.node l r) = a at *
    generalize tx l = sl at *
    generalize tx r = sr at *
    clear ihl ihr hd hc
    go_enter Try.func135, Try.ntmps135
    go_wp2_with fail
    refine (C1.out _).mono ?_
    rintro e w1 ⟨rfl, rfl⟩
    go_wp2_with fail
    refine (C3.out _).mono ?_
    rintro e w1 ⟨rfl, n1, rfl⟩
    have X2 := Lib.hid ((Ext.refl w).drewN n1)
    generalize w.drewN n1 = w2 at *
    go_wp2_with fail
    refine (C5.out _).mono ?_
    rintro e w3 ⟨v3, rfl, o3, x3⟩
    have X3 := Lib.hid (X2.out.trans x3)
    have O3 := Lib.hid (o3.mono X2.out.size)
    clear o3 x3
    go_wp2_with fail
    refine (C6.out _).mono ?_
    rintro e w4 ⟨v4, rfl, o4, x4⟩
    have X4 := Lib.hid (X3.out.trans x4)
    have O4 := o4.reads
    have O3 := O3.out.ext x4
    have B1 := Lib.hid X4.out.size
    clear o4 x4
    go_wp2_with (at_builtin; refine wpList_app rfl (.tmp 14) (.tmp 16) 54 rfl w.heap.size 3 (.int .i64 0) 8 Try.underlying54 infoInt rfl (by omega) _ _ _ (nats LR) rfl rfl O3 O4 (nats_one _) L2.out B1.out ?_; intro v5 w5 o5 g5 _)
    have X5 := Lib.hid (X4.out.grown g5 O3.lo)
    rw [nats_append] at o5
    have O5 := Lib.hid o5
    clear o5 g5 O3 O4
    go_wp2_with fail
    go_ret
    exact ⟨_, rfl, O5.out, X5.out⟩

theorem wordT_step (xs : List Nat) (k : Nat) (h : k < xs.length) : wordT xs (k + 1) = wordT xs k ++ List.replicate xs[k] ((k : Int) + 1) := by
  simp only [wordT]
  rw [List.getD_eq_getElem?_getD, List.getElem?_eq_getElem h]; rfl
set_option maxHeartbeats 6400000 in
set_option maxRecDepth 100000 in
theorem wdOf_calls (A B : Tr) (hA : A.carets ≤ 50) (hB : B.carets ≤ 50) (w : World) :
    Calls Try.prog 91 #[.agg #[.string (tx A), .string (tx B)]] w fun e w' => ∃ u, e = .returned u ∧ Own w' w.heap.size 3 u (ints (wordP (A, B))) ∧ Ext w w' := by
  have X0 := Lib.hid ((Ext.refl w).alloc (.cells #[.string (tx A), .string (tx B)] 29))
  have B0 := Lib.hid (heap_alloc_new w (.cells #[.string (tx A), .string (tx B)] 29))
  have dA := A.depth_le
  have dB := B.depth_le
  have C1 := Lib.hid (fun W => wdRight_calls A W (by omega) (by omega))
  have C2 := Lib.hid (fun W => wdRight_calls B W (by omega) (by omega))
  have l1 := wordL_length A
  have l2 := wordL_length B
  have m1 : A.carets * (A.carets + 1) ≤ 50 * 51 := Nat.mul_le_mul hA (by omega)
  have m2 : B.carets * (B.carets + 1) ≤ 50 * 51 := Nat.mul_le_mul hB (by omega)
  have I1 := Lib.hid (fun v W => wdInverse_calls (wordL (expT B)) (by omega) (fun x hx => by have := wordT_mem _ _ x hx; rw [expT_length] at this; omega) v W)
  have L : Hid (((ints (wordL (expT A))).length + (ints (invL (wordL (expT B)))).length) * 8 ≤ 140737488355328) := by show _ ≤ _; rw [ints_length, ints_length, invL_length]; omega
  have E : Hid (ints (wordL (expT A)) ++ ints (invL (wordL (expT B))) = ints (wordP (A, B))) := by show _ = _; rw [ints_append]; rfl
  have HLA := Lib.hid (wordT_length (expT A) 50 (fun x hx => Nat.le_trans (expT_le A x hx) hA))
  have HLB := Lib.hid (wordT_length (expT B) 50 (fun x hx => Nat.le_trans (expT_le B x hx) hB))
  have HBA : Hid (∀ x ∈ expT A, x ≤ 50) := (fun x hx => Nat.le_trans (expT_le A x hx) hA)
  have HBB : Hid (∀ x ∈ expT B, x ≤ 50) := (fun x hx => Nat.le_trans (expT_le B x hx) hB)
  have elA : (expT A).length ≤ 51 := by rw [expT_length]; omega
  have elB : (expT B).length ≤ 51 := by rw [expT_length]; omega
  have EA2 : Hid (wordT (expT A) (expT A).length = wordL (expT A)) := rfl
  have EB2 : Hid (wordT (expT B) (expT B).length = wordL (expT B)) := rfl
  generalize wordP (A, B) = LP at *
  generalize expT A = EA at *
  generalize expT B = EB at *
  generalize tx A = a at *
  generalize tx B = b at *
  clear hA hB l1 l2 m1 m2 dA dB
  obtain ⟨c0, c1⟩ := cells_of B0.out
  go_enter Try.func91, Try.ntmps91
  go_wp2_with fail
  generalize w.alloc (.cells #[.string a, .string b] 29) = W at *
  refine (C1.out _).mono ?_
  rintro e w1 ⟨v1, rfl, o1, x1⟩
  obtain ⟨A1, q1, rfl, _, _⟩ := o1.reads
  rw [nats_length] at o1 ⊢
  have V1 := Lib.hid o1.reads
  have X1 := Lib.hid (X0.out.trans x1)
  have B1 := Lib.hid (x1.at B0.out)
  clear o1 x1 c0 c1
  go_wp2_with fail
  go_loopw [13, 3] (fun i o wr => ∃ k : Nat, k ≤ EA.length ∧ i = .int .i64 k ∧ Hid (Own wr w1.heap.size 3 o (ints (wordT EA k))) ∧ Hid (Ext w1 wr)) (fun i _ _ => EA.length - (intOf i).toNat)
  case atStart => exact ⟨0, Nat.zero_le _, rfl, Own.nil _ _ _, Ext.refl _⟩
  case round =>
    obtain ⟨k, hk, rfl, HO, HX⟩ := hrel
    by_cases hlt : k < EA.length
    · obtain ⟨A1, c1', e1, _, rd⟩ := V1.out.ext HX.out
      rw [nats_length] at rd e1
      obtain ⟨ad, e2, ca⟩ := rd (by omega)
      injection e1 with e3 e4 e5
      subst e3 e5
      subst e2
      clear e4
      have c1 := ca k _ (nats_get EA k hlt)
      have h0 : (0 : Int) ≤ k := by omega
      have h1 : (k : Int) < EA.length := by omega
      have WS := Lib.hid (wordT_step EA k hlt)
      have XB : Hid (EA[k] ≤ 50) := HBA.out _ (List.getElem_mem hlt)
      have LK := Lib.hid (HLA.out k)
      generalize EA[k] = n at *
      have nb : (n : Int) ≤ 50 := by have := XB.out; omega
      clear ca rd
      go_wp2_with fail
      go_loopw [6, 3] (fun i o wr => ∃ j : Nat, j ≤ n ∧ i = .int .i64 ((n : Int) - j) ∧ Hid (Own wr w1.heap.size 3 o (ints (wordT EA k ++ List.replicate j ((k : Int) + 1)))) ∧ Hid (Ext w1 wr)) (fun i _ _ => (intOf i).toNat)
      case atStart => exact ⟨0, Nat.zero_le _, by go_num, (by simpa [Hid] using HO.out), HX.out⟩
      case round =>
        obtain ⟨j, hj, rfl, HO, HX⟩ := hrel
        by_cases hjn : j < n
        · have j1 : (0 : Int) < (n : Int) - j := by omega
          have O2 := HO.out.ext ((Ext.refl _).alloc (.cells #[.int .i64 ((k : Int) + 1)] 3))
          have RL : Hid (Reads (wr.alloc (.cells #[.int .i64 ((k : Int) + 1)] 3)) (.slice (some ⟨wr.heap.size, 0, none⟩) 1 1) (ints [(k : Int) + 1])) := (Own.lit wr 0 3 #[.int .i64 ((k : Int) + 1)] (Nat.zero_le _) (by show 1 ≤ maxLen; decide)).reads
          have LL : Hid (((ints (wordT EA k ++ List.replicate j ((k : Int) + 1))).length + (ints [(k : Int) + 1]).length) * 8 ≤ 140737488355328) := by
            show _ ≤ _
            rw [ints_length, ints_length, List.length_append, List.length_replicate]
            have := LK.out; have := XB.out
            simp only [List.length_singleton]
            omega
          have BB1 := Lib.hid (HX.out.alloc (.cells #[.int .i64 ((k : Int) + 1)] 3)).size
          go_wp2_with (at_builtin; refine wpList_app rfl (.tmp 22) (.tmp 25) 54 rfl w1.heap.size 3 (.int .i64 0) 8 Try.underlying54 infoInt rfl (by omega) _ _ _ (ints [(k : Int) + 1]) rfl rfl O2 RL.out (ints_one _) LL.out BB1.out ?_; intro v4 w4 o4 g4 _)
          have X4 := Lib.hid ((HX.out.alloc _).grown g4 O2.lo)
          rw [ints_append, List.append_assoc, ← List.replicate_succ'] at o4
          have O4 := Lib.hid o4
          clear o4 g4 O2
          go_wp2_with fail
          exact ⟨⟨j + 1, by omega, by go_num, O4.out, X4.out⟩, by simp [intOf]; omega⟩
        · have j1 : (n : Int) - j ≤ 0 := by omega
          obtain rfl : j = n := by omega
          go_wp2_with fail
          exact ⟨⟨k + 1, by omega, by go_num, by rw [WS.out]; exact HO.out, HX.out⟩, by simp [intOf]; omega⟩
    · have h1 : (EA.length : Int) ≤ k := by omega
      obtain rfl : k = EA.length := by omega
      rw [EA2.out] at HO
      obtain ⟨c0, c1⟩ := cells_of (HX.out.at B1.out)
      go_wp2_with fail
      refine (C2.out _).mono ?_
      rintro e w3 ⟨v3, rfl, o3, x3⟩
      obtain ⟨A3, q3, rfl, _, _⟩ := o3.reads
      rw [nats_length] at o3 ⊢
      have V2 := Lib.hid o3.reads
      have X3 := Lib.hid (HX.out.trans x3)
      have O3 := Lib.hid (HO.out.ext x3)
      clear o3 x3 c0 c1
      go_wp2_with fail
      go_loopw [32, 4] (fun i o wr => ∃ k : Nat, k ≤ EB.length ∧ i = .int .i64 k ∧ Hid (Own wr w3.heap.size 3 o (ints (wordT EB k))) ∧ Hid (Ext w3 wr)) (fun i _ _ => EB.length - (intOf i).toNat)
      case atStart => exact ⟨0, Nat.zero_le _, rfl, Own.nil _ _ _, Ext.refl _⟩
      case round =>
        obtain ⟨k, hk, rfl, HO, HX⟩ := hrel
        by_cases hlt : k < EB.length
        · obtain ⟨A1, c1', e1, _, rd⟩ := V2.out.ext HX.out
          rw [nats_length] at rd e1
          obtain ⟨ad, e2, ca⟩ := rd (by omega)
          injection e1 with e3 e4 e5
          subst e3 e5
          subst e2
          clear e4
          have c1 := ca k _ (nats_get EB k hlt)
          have h0 : (0 : Int) ≤ k := by omega
          have h1 : (k : Int) < EB.length := by omega
          have WS := Lib.hid (wordT_step EB k hlt)
          have XB : Hid (EB[k] ≤ 50) := HBB.out _ (List.getElem_mem hlt)
          have LK := Lib.hid (HLB.out k)
          generalize EB[k] = n at *
          have nb : (n : Int) ≤ 50 := by have := XB.out; omega
          clear ca rd
          go_wp2_with fail
          go_loopw [8, 4] (fun i o wr => ∃ j : Nat, j ≤ n ∧ i = .int .i64 ((n : Int) - j) ∧ Hid (Own wr w3.heap.size 3 o (ints (wordT EB k ++ List.replicate j ((k : Int) + 1)))) ∧ Hid (Ext w3 wr)) (fun i _ _ => (intOf i).toNat)
          case atStart => exact ⟨0, Nat.zero_le _, by go_num, (by simpa [Hid] using HO.out), HX.out⟩
          case round =>
            obtain ⟨j, hj, rfl, HO, HX⟩ := hrel
            by_cases hjn : j < n
            · have j1 : (0 : Int) < (n : Int) - j := by omega
              have O2 := HO.out.ext ((Ext.refl _).alloc (.cells #[.int .i64 ((k : Int) + 1)] 3))
              have RL : Hid (Reads (wr.alloc (.cells #[.int .i64 ((k : Int) + 1)] 3)) (.slice (some ⟨wr.heap.size, 0, none⟩) 1 1) (ints [(k : Int) + 1])) := (Own.lit wr 0 3 #[.int .i64 ((k : Int) + 1)] (Nat.zero_le _) (by show 1 ≤ maxLen; decide)).reads
              have LL : Hid (((ints (wordT EB k ++ List.replicate j ((k : Int) + 1))).length + (ints [(k : Int) + 1]).length) * 8 ≤ 140737488355328) := by
                show _ ≤ _
                rw [ints_length, ints_length, List.length_append, List.length_replicate]
                have := LK.out; have := XB.out
                simp only [List.length_singleton]
                omega
              have BB1 := Lib.hid (HX.out.alloc (.cells #[.int .i64 ((k : Int) + 1)] 3)).size
              go_wp2_with (at_builtin; refine wpList_app rfl (.tmp 41) (.tmp 44) 54 rfl w3.heap.size 3 (.int .i64 0) 8 Try.underlying54 infoInt rfl (by omega) _ _ _ (ints [(k : Int) + 1]) rfl rfl O2 RL.out (ints_one _) LL.out BB1.out ?_; intro v4 w4 o4 g4 _)
              have X4 := Lib.hid ((HX.out.alloc _).grown g4 O2.lo)
              rw [ints_append, List.append_assoc, ← List.replicate_succ'] at o4
              have O4 := Lib.hid o4
              clear o4 g4 O2
              go_wp2_with fail
              exact ⟨⟨j + 1, by omega, by go_num, O4.out, X4.out⟩, by simp [intOf]; omega⟩
            · have j1 : (n : Int) - j ≤ 0 := by omega
              obtain rfl : j = n := by omega
              go_wp2_with fail
              exact ⟨⟨k + 1, by omega, by go_num, by rw [WS.out]; exact HO.out, HX.out⟩, by simp [intOf]; omega⟩
        · have h1 : (EB.length : Int) ≤ k := by omega
          obtain rfl : k = EB.length := by omega
          rw [EB2.out] at HO
          have R5 := Lib.hid HO.out.reads
          go_wp2_with fail
          refine (I1.out _ _ R5.out).mono ?_
          rintro e w5 ⟨v5, rfl, o5, x5⟩
          have O3 := O3.out.ext (HX.out.trans x5)
          have X5 := Lib.hid (X3.out.trans (HX.out.trans x5))
          have O5 := o5.reads
          have BB := Lib.hid X5.out.size
          clear o5 x5
          go_wp2_with (at_builtin; refine wpList_app rfl (.tmp 47) (.tmp 49) 54 rfl w1.heap.size 3 (.int .i64 0) 8 Try.underlying54 infoInt rfl (by omega) _ _ _ (ints (invL (wordL EB))) rfl rfl O3 O5 (ints_one _) L.out BB.out ?_; intro v6 w6 o6 g6 _)
          have X6 := Lib.hid (X5.out.grown g6 O3.lo)
          rw [E.out] at o6
          have O6 := Lib.hid o6
          clear o6 g6 O3 O5
          go_wp2_with fail
          go_ret
          exact ⟨_, rfl, O6.out.mono X1.out.size, X1.out.trans X6.out⟩

theorem l1Abs_calls (n : Int) (hn : -1000000 ≤ n ∧ n ≤ 1000000) (w : World) :
    Calls Try.prog 92 #[.int .i64 n] w fun e w' => e = .returned (.int .i64 (n.natAbs : Nat)) ∧ w = w' := by
  have C1 := Lib.hid (fun W => l1Most_calls n (-n) W)
  go_enter Try.func92, Try.ntmps92
  go_wp2_with fail
  refine (C1.out _).mono ?_
  rintro e w1 ⟨rfl, rfl⟩
  go_wp2_with fail
  all_goals go_ret
  all_goals exact ⟨ret_int (by omega), rfl⟩

set_option maxHeartbeats 3200000 in
set_option maxRecDepth 100000 in
theorem specSums_no (s t : ByteArray) (h : ¬ Good s t) (w : World) :
    Calls Try.prog 38 #[.agg #[.string s, .string t]] w fun e w' => e = .returned (SuV none) ∧ Ext w w' := by
  have X0 := Lib.hid ((Ext.refl w).alloc (.cells #[.string s, .string t] 29))
  have C1 := Lib.hid (fun W => prGood_no s t h W)
  clear h
  show Calls _ _ _ _ (fun e w' => e = .returned (.tuple #[.int .i64 0, .int .i64 0, .bool false]) ∧ Ext w w')
  obtain ⟨c0, c1⟩ := cells_of (heap_alloc_new w (.cells #[.string s, .string t] 29))
  go_enter Try.func38, Try.ntmps38
  go_wp2_with fail
  generalize w.alloc (.cells #[.string s, .string t] 29) = W at *
  refine (C1.out _).mono ?_
  rintro e w1 ⟨rfl, x1⟩
  have X1 := Lib.hid (X0.out.trans x1)
  clear x1
  go_wp2_with fail
  exact bodyPost_ret (v := .tuple #[.int .i64 0, .int .i64 0, .bool false]) (by simp [results, Try.results38, go_sem]) rfl ⟨rfl, X1.out⟩
set_option maxHeartbeats 3200000 in
set_option maxRecDepth 100000 in
theorem specSums_yes (A B : Tr) (hc : A.carets = B.carets) (hB : B.carets ≤ 8) (w : World) :
    Calls Try.prog 38 #[.agg #[.string (tx A), .string (tx B)]] w fun e w' => e = .returned (SuV (some (sumW (wordP (red (A, B)))))) ∧ Ext w w' := by
  have X0 := Lib.hid ((Ext.refl w).alloc (.cells #[.string (tx A), .string (tx B)] 29))
  have B0 := Lib.hid (heap_alloc_new w (.cells #[.string (tx A), .string (tx B)] 29))
  have C1 := Lib.hid (fun W => prGood_yes A B hc hB W)
  have C2 := Lib.hid (fun W => prReduce_calls A B (by omega) (by omega) W)
  have hs := red_same (p := (A, B)) hc
  have hle := (red_le (A, B)).2
  have C3 := Lib.hid (fun W => wdOf_calls (red (A, B)).1 (red (A, B)).2 (by simp only at hle; omega) (by simp only at hle; omega) W)
  have wl := wordP_length (red (A, B))
  have m1 : (red (A, B)).1.carets * ((red (A, B)).1.carets + 1) ≤ 8 * 9 := Nat.mul_le_mul (by simp only at hle; omega) (by simp only at hle; omega)
  have m2 : (red (A, B)).2.carets * ((red (A, B)).2.carets + 1) ≤ 8 * 9 := Nat.mul_le_mul (by simp only at hle; omega) (by simp only at hle; omega)
  have HS : Hid (∀ x ∈ wordP (red (A, B)), -1000000 ≤ x ∧ x ≤ 1000000) := (fun x hx => by have := wordP_mem hx; simp only at hle; omega)
  have hl : (wordP (red (A, B))).length ≤ 1000000 := by omega
  change Hid (∀ W, Calls _ _ _ _ fun e w' => ∃ u, e = .returned u ∧ Own w' W.heap.size 3 u (ints (wordP (red (A, B)))) ∧ Ext W w') at C3
  show Calls _ _ _ _ (fun e w' => e = .returned (.tuple #[.int .i64 (sumW (wordP (red (A, B)))).1, .int .i64 (sumW (wordP (red (A, B)))).2, .bool true]) ∧ Ext w w')
  generalize wordP (red (A, B)) = ws at *
  generalize tx (red (A, B)).1 = R1 at *
  generalize tx (red (A, B)).2 = R2 at *
  generalize tx A = a at *
  generalize tx B = b at *
  clear hc hB hs hle wl m1 m2
  obtain ⟨c0, c1⟩ := cells_of B0.out
  go_enter Try.func38, Try.ntmps38
  go_wp2_with fail
  generalize w.alloc (.cells #[.string a, .string b] 29) = W at *
  refine (C1.out _).mono ?_
  rintro e w1 ⟨rfl, x1⟩
  obtain ⟨c0, c1⟩ := cells_of (x1.at B0.out)
  have X1 := Lib.hid (X0.out.trans x1)
  clear x1
  go_wp2_with fail
  refine (C2.out _).mono ?_
  rintro e w2 ⟨rfl, x2⟩
  have X2 := Lib.hid (X1.out.trans x2)
  clear x2 c0 c1
  go_wp2_with fail
  refine (C3.out _).mono ?_
  rintro e w3 ⟨u, rfl, o3, x3⟩
  have X3 := Lib.hid (X2.out.trans x3)
  obtain ⟨A1, q1, rfl, _, rd⟩ := o3.reads
  rw [ints_length] at *
  have RD := Lib.hid rd
  clear x3 o3 rd
  go_wp2_with fail
  go_loop [17, 5, 6] (fun i a b => ∃ (k : Nat) (s : Int × Int), k ≤ ws.length ∧ i = .int .i64 k ∧ a = .int .i64 s.1 ∧ b = .int .i64 s.2 ∧ Hid (s = sumW (ws.take k))) (fun i _ _ => ws.length - (intOf i).toNat)
  case atStart => exact ⟨0, (0, 0), Nat.zero_le _, rfl, rfl, rfl, rfl⟩
  case round =>
    obtain ⟨k, s, hk, rfl, rfl, rfl, HE⟩ := hrel
    have SB := sumW_bound ws k hk
    rw [← HE.out] at SB
    by_cases hlt : k < ws.length
    · obtain ⟨ad, rfl, ca⟩ := RD.out (by omega)
      have hx : ws[k]? = some ws[k] := List.getElem?_eq_getElem hlt
      have ST := Lib.hid (sumW_take ws k _ hx)
      have XB := HS.out _ (List.getElem_mem hlt)
      have c1 := ca k _ (ints_get ws k hlt)
      have h0 : (0 : Int) ≤ k := by omega
      have h1 : (k : Int) < ws.length := by omega
      clear ca hx
      generalize ws[k] = x at *
      have CC := Lib.hid (l1Abs_calls x XB w3)
      by_cases hn : x < 0
      all_goals
        by_cases h1' : x.natAbs = 1
        all_goals
          have SS := ST.out
          rw [← HE.out] at SS
          first | rw [sumS_neg hn] at SS | rw [sumS_pos hn] at SS
          first | rw [if_pos h1'] at SS | rw [if_neg h1'] at SS
          have SS := Lib.hid SS
          obtain ⟨s1, s2⟩ := s
          simp only at SB
          have t1 : ((x.natAbs : Int) == 1) = decide (x.natAbs = 1) := by
            rw [show ((x.natAbs : Int) == 1) = decide ((x.natAbs : Int) = 1) from rfl]
            exact decide_eq_decide.2 (by omega)
          first | rw [decide_eq_true h1'] at t1 | rw [decide_eq_false h1'] at t1
          clear h1'
          generalize (x.natAbs : Int) = z at *
          go_wp2_with fail
          refine CC.out.mono ?_
          rintro e w4 ⟨rfl, rfl⟩
          go_wp2_with fail
          exact ⟨⟨k + 1, _, by omega, by go_num, rfl, rfl, SS.out.symm⟩, by simp [intOf]; omega⟩
    · have h1 : (ws.length : Int) ≤ k := by omega
      obtain rfl : k = ws.length := by omega
      have HE2 : Hid (s = sumW ws) := by show _ = _; rw [HE.out, List.take_length]
      go_wp2_with fail
      exact bodyPost_ret (v := .tuple #[.int .i64 s.1, .int .i64 s.2, .bool true]) (by simp [results, Try.results38, go_sem]) rfl ⟨by rw [← HE2.out], X3.out⟩
theorem both_SumsOfPair (s t : ByteArray) : ∃ (x y : Int) (b : Bool),
    (∀ w, Calls Try.prog 38 #[.agg #[.string s, .string t]] w fun e w' => e = .returned (.tuple #[.int .i64 x, .int .i64 y, .bool b]) ∧ Ext w w') ∧
    (∀ w, Calls Try.prog 39 #[.agg #[.string s, .string t]] w fun e w' => e = .returned (.tuple #[.int .i64 x, .int .i64 y, .bool b]) ∧ Ext w w') := by
  by_cases h : Good s t
  · obtain ⟨A, B, rfl, rfl, h1, h2⟩ := h
    exact ⟨_, _, _, specSums_yes A B h1 h2, implSums_yes A B h1 h2⟩
  · exact ⟨_, _, _, specSums_no s t h, implSums_no s t h⟩
set_option maxHeartbeats 3200000 in
set_option maxRecDepth 100000 in
theorem walk_FnExactSumsOfPair (s t : ByteArray) (hs : s.size ≤ maxLen) (ht : t.size ≤ maxLen) (w : World) :
    Calls Try.prog 10 #[.agg #[.string s, .string t]] w fun e w' => e = .returned (.bool true) ∧ Ext w w' := by
  obtain ⟨x, y, b, C1, C2⟩ := both_SumsOfPair s t
  have C1 := Lib.hid C1
  have C2 := Lib.hid C2
  have C3 := Lib.hid (fun w => szPair_calls s t 1048576 (by omega) hs ht w)
  have C4 := Lib.hid (fun w => toPair_calls s t w)
  have X0 := Lib.hid ((Ext.refl w).alloc (.cells #[.string s, .string t] 33))
  have c0 : (w.alloc (.cells #[.string s, .string t] 33)).cell? ⟨w.heap.size, 0, none⟩ = some (.string s) := by go_simp
  have c1 : (w.alloc (.cells #[.string s, .string t] 33)).cell? ⟨w.heap.size, 1, none⟩ = some (.string t) := by go_simp
  clear hs ht
  go_enter Try.func10, Try.ntmps10
  go_wp2_with fail
  generalize w.alloc (.cells #[.string s, .string t] 33) = W at *
  refine (C3.out _).mono ?_
  rintro e w1 ⟨r, rfl, hr, x1⟩
  have c0 := x1.cell c0
  have c1 := x1.cell c1
  have X1 := Lib.hid (X0.out.trans x1)
  have hr := Lib.hid hr.out
  clear x1
  by_cases hr0 : r < 0
  · go_wp2_with fail
    go_ret
    exact ⟨rfl, X1.out⟩
  · go_wp2_with fail
    refine (C4.out _).mono ?_
    rintro e w2 ⟨rfl, x2'⟩
    have c0 := x2'.cell c0
    have c1 := x2'.cell c1
    have X2 := Lib.hid (X1.out.trans x2')
    clear x2'
    go_wp2_with fail
    refine (C1.out _).mono ?_
    rintro e w3 ⟨rfl, x3⟩
    have c0 := x3.cell c0
    have c1 := x3.cell c1
    have X3 := Lib.hid (X2.out.trans x3)
    clear x3
    go_wp2_with fail
    refine (C4.out _).mono ?_
    rintro e w4 ⟨rfl, x4⟩
    have X4 := Lib.hid (X3.out.trans x4)
    clear x4 c0 c1
    go_wp2_with fail
    refine (C2.out _).mono ?_
    rintro e w5 ⟨rfl, x5⟩
    have X5 := Lib.hid (X4.out.trans x5)
    clear x5
    cases b
    all_goals
      go_wp2_with fail
      go_ret
      exact ⟨rfl, X5.out⟩
end Go.Proofs.Ytfkjjmmoipcddaa.N
