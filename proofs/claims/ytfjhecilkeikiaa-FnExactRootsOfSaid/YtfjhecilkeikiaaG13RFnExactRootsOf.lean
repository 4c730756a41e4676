import Derived.Test.YtfjhecilkeikiaaG1RFnExactRootsOf
import Derived.Test.YtfjhecilkeikiaaG2RFnExactRootsOf
import Derived.Test.YtfjhecilkeikiaaProg
import Derived.Test.YtfjhecilkeikiaaG3RFnExactRootsOf
import Derived.Test.YtfjhecilkeikiaaG5RFnExactRootsOf
import Derived.Test.YtfjhecilkeikiaaG8RFnExactRootsOf
import Derived.Test.YtfjhecilkeikiaaG4RFnExactRootsOf
import Derived.Test.YtfjhecilkeikiaaG6RFnExactRootsOf
import Derived.Test.YtfjhecilkeikiaaG12RFnExactRootsOf
import Derived.Deep.LoopGhost
import Derived.StillTailTactics
import Derived.Deep.QuietTactic
import Derived.BigQuiet
import Derived.Test.YtfjhecilkeikiaaG9RFnExactRootsOf
/- Pairs shifted and put side by side, as the reference has them. -/
namespace Go.Proofs.Ytfjhecilkeikiaa.N
open Go.RowKit
set_option linter.unusedVariables false
set_option linter.unusedSimpArgs false

set_option maxHeartbeats 3200000 in
set_option maxRecDepth 100000 in
theorem prIf_calls (A B : Tr) (hc : A.carets = B.carets) (w : World) :
    Calls Try.prog 91 #[.agg #[.string (tx A), .string (tx B)]] w fun e w' => e = .returned (ifP (A, B)) ∧ Ext w w' := by
  obtain ⟨X2, t0⟩ := boxS_facts w (tx A) (tx B) (.string ⟨#[]⟩) (.string ⟨#[]⟩) 28
  have X2 := Lib.hid X2
  have B0 : Hid (((w.alloc (.cells #[.string (tx A), .string (tx B)] 28)).alloc (.cells #[.string ⟨#[]⟩, .string ⟨#[]⟩] 28)).heap[w.heap.size]? = some (.cells #[.string (tx A), .string (tx B)] 28)) := ((Ext.refl _).alloc _).at (heap_alloc_new w _)
  by_cases hB : B.carets ≤ 8
  · have E : ifP (A, B) = .tuple #[.agg #[.string (tx A), .string (tx B)], .bool true] := if_pos (show A.carets ≤ 8 by omega)
    have C1 := Lib.hid (fun W => prGood_yes A B hc hB W)
    rw [E]
    clear hc hB E
    go_enter Try.func91, Try.ntmps91
    go_wp2_with fail
    generalize (w.alloc (.cells #[.string (tx A), .string (tx B)] 28)).alloc (.cells #[.string ⟨#[]⟩, .string ⟨#[]⟩] 28) = W at *
    refine (C1.out _).mono ?_
    rintro e w1 ⟨rfl, x1⟩
    have T1 := t0.ext x1
    obtain ⟨u, v, k0, k1, f0, f1⟩ := T1.facts
    obtain ⟨c0, c1⟩ := cells_of (x1.at B0.out)
    have T1 := Lib.hid T1
    have X1 := Lib.hid (X2.out.trans x1)
    clear t0 x1
    go_wp2_with fail
    have HH := set2_heap T1.out (.string (tx A)) (.string (tx B))
    have XX := X1.out.set2 (g := w.heap.size + 1) (by omega) (.string (tx A)) (.string (tx B))
    change bodyPost _ _ _ _ _ (N.set2 _ (w.heap.size + 1) (.string (tx A)) (.string (tx B)))
    obtain ⟨hc0, hc1⟩ := cells_of HH
    generalize N.set2 _ (w.heap.size + 1) (.string (tx A)) (.string (tx B)) = W3 at *
    exact bodyPost_ret (v := .tuple #[.agg #[.string (tx A), .string (tx B)], .bool true]) (by simp [results, Try.results91, go_sem, hc0, hc1]) rfl ⟨rfl, XX⟩
  · have E : ifP (A, B) = .tuple #[emptyP, .bool false] := if_neg (show ¬ A.carets ≤ 8 by omega)
    have NG : ¬ Good (tx A) (tx B) := by
      rintro ⟨A', B', h1, h2, _, h4⟩
      obtain rfl := tx_inj h2
      exact hB h4
    have C1 := Lib.hid (fun W => prGood_no _ _ NG W)
    rw [E]
    clear hc hB E NG
    go_enter Try.func91, Try.ntmps91
    go_wp2_with fail
    generalize (w.alloc (.cells #[.string (tx A), .string (tx B)] 28)).alloc (.cells #[.string ⟨#[]⟩, .string ⟨#[]⟩] 28) = W at *
    refine (C1.out _).mono ?_
    rintro e w1 ⟨rfl, x1⟩
    have T1 := t0.ext x1
    obtain ⟨u, v, k0, k1, f0, f1⟩ := T1.facts
    have T1 := Lib.hid T1
    have X1 := Lib.hid (X2.out.trans x1)
    clear t0 x1
    go_wp2_with fail
    have HH := set2_heap T1.out (.string ⟨#[]⟩) (.string ⟨#[]⟩)
    have XX := X1.out.set2 (g := w.heap.size + 1) (by omega) (.string ⟨#[]⟩) (.string ⟨#[]⟩)
    change bodyPost _ _ _ _ _ (N.set2 _ (w.heap.size + 1) (.string ⟨#[]⟩) (.string ⟨#[]⟩))
    obtain ⟨hc0, hc1⟩ := cells_of HH
    generalize N.set2 _ (w.heap.size + 1) (.string ⟨#[]⟩) (.string ⟨#[]⟩) = W3 at *
    exact bodyPost_ret (v := .tuple #[emptyP, .bool false]) (by simp [results, Try.results91, go_sem, hc0, hc1, emptyP]) rfl ⟨rfl, XX⟩
theorem trOf_tree (l r : Tr) (hl : l.carets < 1000000) (hr : r.carets < 1000000) (w : World) :
    Calls Try.prog 65 #[.string (tx l), .string (tx r)] w fun e w' => e = .returned (.string (tx (.node l r))) ∧ w = w' := by
  rw [tx_node]
  exact trOf_calls (tx l) (tx r) (by have := l.txt_length; show l.txt.length ≤ _; omega) (by have := r.txt_length; show r.txt.length ≤ _; omega) w

end Go.Proofs.Ytfjhecilkeikiaa.N
/- Texts filled, as the reference has them. -/
namespace Go.Proofs.Ytfjhecilkeikiaa.N
open Go.RowKit
set_option linter.unusedVariables false
set_option linter.unusedSimpArgs false

theorem one_byte (l : List UInt8) (j : Nat) (c : UInt8) (h : l[j]? = some c) : (S l).extract j (j + 1) = S [c] := by
  obtain ⟨h1, h2⟩ := List.getElem?_eq_some_iff.1 h
  rw [S_extract, List.take_add_one, h, List.drop_append]
  simp [List.length_take, Nat.min_eq_left (Nat.le_of_lt h1)]
set_option maxHeartbeats 3200000 in
set_option maxRecDepth 100000 in
theorem prFill_calls (l : List UInt8) (ps : List ByteArray) (hl : l.length < 1000000) (hp : ps.length < 1000000) (hd : dots l ≤ ps.length) (hb : ∀ p ∈ ps, p.size ≤ 100000) (v : Value) (w : World) (hv : Reads w v (strs ps)) :
    Calls Try.prog 77 #[.string (S l), v] w fun e w' => e = .returned (.string (S (fillP l ps))) ∧ w = w' := by
  obtain ⟨A, cp, rfl, _, rd⟩ := hv
  rw [strs_length] at *
  have RD := Lib.hid rd
  have HD := Lib.hid (And.intro hd hb)
  clear rd hd hb
  go_enter Try.func77, Try.ntmps77
  go_wp2_with fail
  go_loop [5, 6, 7] (fun o n i => ∃ (j k : Nat) (acc : List UInt8), j ≤ l.length ∧ k ≤ j ∧ i = .int .i64 j ∧ n = .int .i64 k ∧ o = .string (S acc) ∧ Hid (k = dots (l.take j)) ∧ Hid (acc.length ≤ j * 100001) ∧ Hid (fillP l ps = acc ++ fillP (l.drop j) (ps.drop k))) (fun _ _ i => l.length - (intOf i).toNat)
  case atStart => exact ⟨0, 0, [], Nat.zero_le _, Nat.le_refl _, rfl, rfl, rfl, rfl, Nat.zero_le _, rfl⟩
  case round =>
    obtain ⟨j, k, acc, hj, hk, rfl, rfl, rfl, HK, HA, HF⟩ := hrel
    by_cases hlt : j < l.length
    · obtain ⟨c, hc⟩ : ∃ c, l[j]? = some c := ⟨_, List.getElem?_eq_getElem hlt⟩
      have h1 : (j : Int) < (S l).size := by show (j : Int) < (l.length : Nat); omega
      have h0 : (0 : Int) ≤ j := by omega
      obtain ⟨x1, x2⟩ := s_at (S l) j c (by rw [S_toList]; exact hc)
      have ST : dots (l.take (j + 1)) = dots (l.take j) + if c = 46 then 1 else 0 := by
        rw [List.take_add_one, hc]; simp [dots, List.countP_append, List.countP_cons]
      by_cases c1 : c = 46
      · subst c1
        have hk2 : k < ps.length := by rw [HK.out]; exact Nat.lt_of_lt_of_le (dots_lt l j hc) HD.out.1
        obtain ⟨ad, rfl, ca⟩ := RD.out (by omega)
        have c1 := ca k _ (strs_get ps k hk2)
        have F2 := Lib.hid (fill_step_dot l ps j k hc hk2)
        have PB := Lib.hid (HD.out.2 ps[k] (List.getElem_mem hk2))
        have t1 : (((46 : UInt8).toNat : Int) == 46) = true := rfl
        have k1 : (k : Int) < ps.length := by omega
        have k0 : (0 : Int) ≤ k := by omega
        have HK2 : Hid (k + 1 = dots (l.take (j + 1))) := by show _ = _; rw [ST, ← HK.out]; rfl
        generalize ps[k] = p at *
        have g4 : (9223372036854775807 < (S acc).size + p.size) = False := by rw [S_size]; have := HA.out; have := PB.out; simp; omega
        have EA : Hid (S acc ++ p = S (acc ++ p.toList)) := by show _ = _; rw [← S_append, ← S_of]
        have LA : Hid ((acc ++ p.toList).length ≤ (j + 1) * 100001) := by
          have := HA.out; have := PB.out
          show _ ≤ _
          rw [List.length_append, s_len]; omega
        have FF : Hid (fillP l ps = (acc ++ p.toList) ++ fillP (l.drop (j + 1)) (ps.drop (k + 1))) := by show _ = _; rw [HF.out, F2.out, List.append_assoc]
        clear hc ca ST F2 PB
        go_wp2_with fail
        rw [EA.out]
        exact ⟨⟨j + 1, k + 1, acc ++ p.toList, by omega, by omega, by go_num, by go_num, rfl, HK2.out, LA.out, FF.out⟩, by simp [intOf]; omega⟩
      · have t1 : ((c.toNat : Int) == 46) = false := byte_ne c1
        have F2 := Lib.hid (fill_step_other l ps j k c hc c1)
        have OB := one_byte l j c hc
        have HK2 : Hid (k = dots (l.take (j + 1))) := by show _ = _; rw [ST, ← HK.out, if_neg c1]; rfl
        have g4 : (9223372036854775807 < (S acc).size + 1) = False := by rw [S_size]; have := HA.out; simp; omega
        have g5 : (9223372036854775807 < (S acc).size + (S [c]).size) = False := by rw [S_size, S_size]; have := HA.out; simp; omega
        have EA : Hid (S acc ++ S [c] = S (acc ++ [c])) := S_append _ _
        have LA : Hid ((acc ++ [c]).length ≤ (j + 1) * 100001) := by
          have := HA.out
          show _ ≤ _
          rw [List.length_append]; simp; omega
        have FF : Hid (fillP l ps = (acc ++ [c]) ++ fillP (l.drop (j + 1)) (ps.drop k)) := by show _ = _; rw [HF.out, F2.out, List.append_assoc]; rfl
        clear hc ST F2 c1
        go_wp2_with fail
        rw [EA.out]
        exact ⟨⟨j + 1, k, acc ++ [c], by omega, by omega, by go_num, by go_num, rfl, HK2.out, LA.out, FF.out⟩, by simp [intOf]; omega⟩
    · have h1 : ((S l).size : Int) ≤ j := by show ((l.length : Nat) : Int) ≤ j; omega
      have E : Hid (fillP l ps = acc) := by show _ = _; rw [HF.out, List.drop_eq_nil_of_le (by omega)]; simp [fillP]
      go_wp2_with fail
      go_ret
      exact ⟨by rw [E.out]; rfl, rfl⟩

end Go.Proofs.Ytfjhecilkeikiaa.N
