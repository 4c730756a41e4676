import Derived.Test.YtpmmajfdcicjiaaGreatG1RFnHalvesAndShifts
import Derived.Test.YtpmmajfdcicjiaaGreatG2RFnHalvesAndShifts
import Derived.Test.YtpmmajfdcicjiaaGreatProg
import Derived.Test.YtpmmajfdcicjiaaGreatG5RFnHalvesAndShifts
import Derived.Test.YtpmmajfdcicjiaaGreatG3RFnHalvesAndShifts
import Derived.Test.YtpmmajfdcicjiaaGreatG4RFnHalvesAndShifts
import Derived.Test.YtpmmajfdcicjiaaGreatG6RFnHalvesAndShifts
import Derived.Test.YtpmmajfdcicjiaaGreatG7RFnHalvesAndShifts
import Derived.Deep.LoopGhost
import Derived.StillTailTactics
import Derived.Deep.QuietTactic
import Derived.BigQuiet
/- Pairs of texts reduced, as the reference has them. -/
namespace Go.Proofs.YtpmmajfdcicjiaaGreat.N
open Go.RowKit
set_option linter.unusedVariables false
set_option linter.unusedSimpArgs false

/-- An operation that the walk of a drawn region is not to take first. -/
abbrev shy (o : Op) : Op := o

set_option maxHeartbeats 3200000 in
set_option maxRecDepth 100000 in
theorem prReduce_calls (A B : Tr) (hA : A.carets < 1000) (hB : B.carets < 1000) (w : World) :
    Calls Tryz.prog 46 #[.agg #[.string (tx A), .string (tx B)], .slice none 0 0] w fun e w' => e = .returned (.agg #[.string (tx (red (A, B)).1), .string (tx (red (A, B)).2)]) ∧ Ext w w' := by
  obtain ⟨X2, t0⟩ := boxS_facts w (tx A) (tx B) (.string ⟨#[]⟩) (.string ⟨#[]⟩) 25
  have X2 := Lib.hid X2
  have B0 : Hid (((w.alloc (.cells #[.string (tx A), .string (tx B)] 25)).alloc (.cells #[.string ⟨#[]⟩, .string ⟨#[]⟩] 25)).heap[w.heap.size]? = some (.cells #[.string (tx A), .string (tx B)] 25)) := ((Ext.refl _).alloc _).at (heap_alloc_new w _)
  have T0 := Lib.hid t0
  have LE := Lib.hid (And.intro hA hB)
  have C0 := Lib.hid (fun W => prBoth_calls A B hA hB W)
  clear hA hB t0
  go_enter Tryz.func46, Tryz.ntmps46
  go_wp2_with fail
  have SW : Hid (w.heap.size + 1 + 1 ≤ ((w.alloc (.cells #[.string (tx A), .string (tx B)] 25)).alloc (.cells #[.string ⟨#[]⟩, .string ⟨#[]⟩] 25)).heap.size) := by simp [Hid]
  generalize (w.alloc (.cells #[.string (tx A), .string (tx B)] 25)).alloc (.cells #[.string ⟨#[]⟩, .string ⟨#[]⟩] 25) = W at *
  refine (C0.out _).mono ?_
  rintro e w1 ⟨v1, rfl, o1, x1⟩
  have R1 := Lib.hid (o1.mono (Nat.le_trans (by simp : w.heap.size + 2 ≤ w.heap.size + 1 + 1) SW.out))
  have X1 := Lib.hid (X2.out.trans x1)
  have B1 := Lib.hid (x1.at B0.out)
  have T1 := Lib.hid (T0.out.ext x1)
  clear o1 x1 C0 B0 T0
  go_wp2_with fail
  go_loopg [5, 6] A.carets (fun f s o wr => ∃ (C D : Tr) (n : Nat), s = .int .i64 n ∧ n + C.carets < 1000000 ∧ Hid (C.carets = f) ∧ Hid (C.carets < 1000 ∧ D.carets < 1000) ∧ Hid (red (C, D) = red (A, B)) ∧ Hid (wr.heap[w.heap.size]? = some (.cells #[.string (tx C), .string (tx D)] 25)) ∧ Hid (Two wr (w.heap.size + 1) 25) ∧ Hid (Own wr (w.heap.size + 2) 3 o (nats (bothT C D))) ∧ Hid (Ext w wr))
  case atStart => exact ⟨A, B, 0, rfl, by have := LE.out; omega, rfl, LE.out, rfl, B1.out, T1.out, R1.out, X1.out⟩
  case round =>
    obtain ⟨C, D, n, rfl, hn, HF, HL, HR, HB, HT, HD, HX⟩ := hrel
    obtain ⟨c0, c1⟩ := cells_of HB.out
    have BL := HD.out.block
    obtain ⟨AA, cc, rfl, _, rd⟩ := HD.out.reads
    rw [nats_length] at *
    have HD := HD
    cases hb : bothT C D with
    | nil =>
      have RN : Hid (red (A, B) = (C, D)) := by show _ = _; rw [← HR.out, red_nil hb]
      obtain ⟨u, v, k0, k1, f0, f1⟩ := HT.out.facts
      clear hb rd HD BL
      rw [List.length_nil] at *
      go_wp2_with fail
      have HH := set2_heap HT.out (.string (tx C)) (.string (tx D))
      have XX := HX.out.set2 (g := w.heap.size + 1) (by omega) (.string (tx C)) (.string (tx D))
      change bodyPost _ _ _ _ _ (N.set2 wr (w.heap.size + 1) (.string (tx C)) (.string (tx D)))
      obtain ⟨hc0, hc1⟩ := cells_of HH
      generalize N.set2 wr (w.heap.size + 1) (.string (tx C)) (.string (tx D)) = W3 at *
      refine bodyPost_ret (v := .agg #[.string (tx C), .string (tx D)]) (by simp [results, Tryz.results46, go_sem, hc0, hc1]) rfl ?_
      rw [RN.out]
      exact ⟨rfl, XX⟩
    | cons k l =>
      have MB := Lib.hid (mem_both (A := C) (B := D) (k := k) (by rw [hb]; exact List.mem_cons_self))
      have RN : Hid (red (without C k, without D k) = red (A, B)) := by show _ = _; rw [← HR.out]; exact (red_cons (p := (C, D)) hb).symm
      have LC := Lib.hid (And.intro (without_carets C k MB.out.1) (without_carets D k MB.out.2))
      rw [hb] at rd
      obtain ⟨ad, hA1, ca⟩ := rd (by simp)
      subst hA1
      have hne : w.heap.size + 2 ≤ ad.block := (BL ad.block rfl).1
      have hne : ad.block ≠ w.heap.size := by omega
      have c2 : wr.cell? ad = some (.int .i64 k) := ca 0 _ (nats_get (k :: l) 0 (by simp))
      have D1 := Lib.hid (fun W => trDrop_tree C k MB.out.1 HL.out.1 W)
      have D2 := Lib.hid (fun W => trDrop_tree D k MB.out.2 HL.out.2 W)
      have D3 := Lib.hid (fun W => prBoth_calls (without C k) (without D k) (by have := LC.out; have := HL.out; omega) (by have := LC.out; have := HL.out; omega) W)
      have hlen : 0 < (k :: l).length := by simp
      clear hb rd HD ca BL
      generalize (k :: l).length = m at *
      have t1 : ((m : Int) == 0) = false := by rw [beq_eq_false_iff_ne]; omega
      have t2 : (0 : Int) < m := by omega
      have TB : Hid (Two wr w.heap.size 25) := ⟨_, _, HB.out⟩
      obtain ⟨u, v, k0, k1, f0, f1⟩ := TB.out.facts
      go_wp2_with fail
      rw [show Op.load 9 (Operand.tmp 26) = shy (Op.load 9 (Operand.tmp 26)) from rfl, show Op.load 9 (Operand.tmp 33) = shy (Op.load 9 (Operand.tmp 33)) from rfl]
      go_region_held3 (fun w' => w'.cell? ad = some (.int .i64 k) ∧ Ext w w')
        (first | exact ⟨c2, HX.out.drew⟩ | exact ⟨c2, HX.out.drewN _⟩ | exact ⟨set2_far hne _ _ (w := wr.drewN _) c2, (HX.out.drewN _).set2 (g := w.heap.size) (Nat.le_refl _) _ _⟩ | fail)
        (first
          | (go_at_call_of 100 (Value.string (tx C)); refine (D1.out _).mono ?_; rintro e w1 ⟨rfl, n1, rfl⟩)
          | (go_at_call_of 100 (Value.string (tx D)); refine (D2.out _).mono ?_; rintro e w3 ⟨rfl, n3, rfl⟩)
          | fail)
      all_goals
        have x3 := (Ext.refl wr).drewN (1 + n1 + n3)
        have TX := TB.out.ext x3
        have XX := Lib.hid ((HX.out.trans x3).set2 (g := w.heap.size) (Nat.le_refl _) (.string (tx (without C k))) (.string (tx (without D k))))
        have HH := Lib.hid (set2_heap TX (.string (tx (without C k))) (.string (tx (without D k))))
        have T3 : Hid (Two (N.set2 (wr.drewN (1 + n1 + n3)) w.heap.size (.string (tx (without C k))) (.string (tx (without D k)))) (w.heap.size + 1) 25) := by
          obtain ⟨u, v, e⟩ := HT.out.ext x3
          exact ⟨u, v, by rw [set2_other (by omega)]; exact e⟩
        have WZ : Hid (w.heap.size + 2 ≤ (N.set2 (wr.drewN (1 + n1 + n3)) w.heap.size (.string (tx (without C k))) (.string (tx (without D k)))).heap.size) := by
          obtain ⟨u, v, e⟩ := T3.out
          have := (Array.getElem?_eq_some_iff.1 e).1
          show _ ≤ _
          omega
        change Exit.then _ _ _ _ (N.set2 (wr.drewN (1 + n1 + n3)) w.heap.size (.string (tx (without C k))) (.string (tx (without D k))))
        obtain ⟨hc0, hc1⟩ := cells_of HH.out
        clear k0 k1 f0 f1 c0 c1 c2 TX x3
        generalize N.set2 (wr.drewN (1 + n1 + n3)) w.heap.size (.string (tx (without C k))) (.string (tx (without D k))) = W3 at *
        go_wp2_with fail
        refine (D3.out _).mono ?_
        rintro e w4 ⟨v4, rfl, o4, x4⟩
        have O4 := Lib.hid (o4.mono WZ.out)
        have X4 := Lib.hid x4
        have MS := Lib.hid (And.intro LC.out (And.intro HF.out hn))
        clear o4 x4 hc0 hc1
        go_wp2_with fail
        go_roundg (without C k).carets
        · exact ⟨without C k, without D k, n + 1, by go_num, by have := LC.out; omega, rfl, ⟨by have := LC.out; have := HL.out; omega, by have := LC.out; have := HL.out; omega⟩, RN.out, X4.out.at HH.out, T3.out.ext X4.out, O4.out, XX.out.trans X4.out⟩
        · have := LC.out
          have := HF.out
          omega

/-- A quiet contract said the other way round. -/
theorem same {P : Program} {f : Nat} {args : Array Value} {w : World} {v : Value} (h : Calls P f args w fun e w' => e = .returned v ∧ w = w') : Calls P f args w fun e w' => e = .returned v ∧ w' = w := h.mono fun _ _ h => ⟨h.1, h.2.symm⟩
theorem trCarets_tree (A : Tr) (hA : A.carets ≤ 1000) (w : World) : Calls Tryz.prog 60 #[.string (tx A)] w fun e w' => e = .returned (.int .i64 A.carets) ∧ w = w' := by
  have := trCarets_calls (tx A) (by have := A.txt_length; show A.txt.length < _; omega) w
  rw [show (tx A).toList = A.txt from S_toList _, cnt_txt] at this
  exact this
theorem boxS1_facts (w : World) (s t : ByteArray) :
    Ext w (w.alloc (.cells #[.string s, .string t] 25)) ∧ (w.alloc (.cells #[.string s, .string t] 25)).cell? ⟨w.heap.size, 0, none⟩ = some (.string s) ∧ (w.alloc (.cells #[.string s, .string t] 25)).cell? ⟨w.heap.size, 1, none⟩ = some (.string t) :=
  ⟨(Ext.refl w).alloc _, by go_simp, by go_simp⟩
set_option maxHeartbeats 3200000 in
set_option maxRecDepth 100000 in
theorem prGood_no (s t : ByteArray) (h : ¬ Good s t) (w : World) :
    Calls Tryz.prog 44 #[.agg #[.string s, .string t]] w fun e w' => e = .returned (.bool false) ∧ Ext w w' := by
  obtain ⟨X1, c0, c1⟩ := boxS1_facts w s t
  have X1 := Lib.hid X1
  by_cases h1 : ∃ T, s = tx T ∧ T.carets ≤ 8
  · obtain ⟨A, rfl, hA⟩ := h1
    have C1 := fun W => trIs_yes A hA W
    by_cases h2 : ∃ T, t = tx T ∧ T.carets ≤ 8
    · obtain ⟨B, rfl, hB⟩ := h2
      have C2 := fun W => trIs_yes B hB W
      have hne : A.carets ≠ B.carets := fun e => h ⟨A, B, rfl, rfl, e, hB⟩
      have C3 := fun W => trCarets_tree A (by omega) W
      have C4 := fun W => trCarets_tree B (by omega) W
      have q : ((A.carets : Int) == (B.carets : Int)) = false := by rw [beq_eq_false_iff_ne]; omega
      clear h hne
      go_enter Tryz.func44, Tryz.ntmps44
      go_wp2_with fail
      go_quiet (first
        | (go_at_call_of 98 (Value.string (tx A)); exact Calls.quiet_of_same (same (C1 _)))
        | (go_at_call_of 98 (Value.string (tx B)); exact Calls.quiet_of_same (same (C2 _)))
        | (go_at_call_of 60 (Value.string (tx A)); exact Calls.quiet_of_same (same (C3 _)))
        | (go_at_call_of 60 (Value.string (tx B)); exact Calls.quiet_of_same (same (C4 _)))
        | fail)
      go_wp2_with fail
      go_ret
      exact ⟨rfl, X1.out.drewN _⟩
    · have C2 := fun W => trIs_no t h2 W
      clear h h2
      go_enter Tryz.func44, Tryz.ntmps44
      go_wp2_with fail
      go_quiet (first
        | (go_at_call_of 98 (Value.string (tx A)); exact Calls.quiet_of_same (same (C1 _)))
        | (go_at_call_of 98 (Value.string t); exact Calls.quiet_of_same (same (C2 _)))
        | fail)
      go_wp2_with fail
      go_ret
      exact ⟨rfl, X1.out.drewN _⟩
  · have C1 := fun W => trIs_no s h1 W
    clear h h1
    go_enter Tryz.func44, Tryz.ntmps44
    go_wp2_with fail
    go_quiet (first
      | (go_at_call_of 98 (Value.string s); exact Calls.quiet_of_same (same (C1 _)))
      | fail)
    go_wp2_with fail
    go_ret
    exact ⟨rfl, X1.out.drewN _⟩
set_option maxHeartbeats 3200000 in
set_option maxRecDepth 100000 in
theorem prGood_yes (A B : Tr) (hc : A.carets = B.carets) (hB : B.carets ≤ 8) (w : World) :
    Calls Tryz.prog 44 #[.agg #[.string (tx A), .string (tx B)]] w fun e w' => e = .returned (.bool true) ∧ Ext w w' := by
  obtain ⟨X1, c0, c1⟩ := boxS1_facts w (tx A) (tx B)
  have X1 := Lib.hid X1
  have C1 := fun W => trIs_yes A (by omega) W
  have C2 := fun W => trIs_yes B hB W
  have C3 := fun W => trCarets_tree A (by omega) W
  have C4 := fun W => trCarets_tree B (by omega) W
  rw [hc] at C3
  clear hc hB
  go_enter Tryz.func44, Tryz.ntmps44
  go_wp2_with fail
  go_quiet (first
    | (go_at_call_of 98 (Value.string (tx A)); exact Calls.quiet_of_same (same (C1 _)))
    | (go_at_call_of 98 (Value.string (tx B)); exact Calls.quiet_of_same (same (C2 _)))
    | (go_at_call_of 60 (Value.string (tx A)); exact Calls.quiet_of_same (same (C3 _)))
    | (go_at_call_of 60 (Value.string (tx B)); exact Calls.quiet_of_same (same (C4 _)))
    | fail)
  go_wp2_with fail
  go_ret
  exact ⟨rfl, X1.out.drewN _⟩
end Go.Proofs.YtpmmajfdcicjiaaGreat.N
/- Pairs shifted and put side by side, as the reference has them. -/
namespace Go.Proofs.YtpmmajfdcicjiaaGreat.N
open Go.RowKit
set_option linter.unusedVariables false
set_option linter.unusedSimpArgs false

set_option maxHeartbeats 3200000 in
set_option maxRecDepth 100000 in
theorem prIf_calls (A B : Tr) (hc : A.carets = B.carets) (w : World) :
    Calls Tryz.prog 45 #[.agg #[.string (tx A), .string (tx B)]] w fun e w' => e = .returned (ifP (A, B)) ∧ Ext w w' := by
  obtain ⟨X2, t0⟩ := boxS_facts w (tx A) (tx B) (.string ⟨#[]⟩) (.string ⟨#[]⟩) 25
  have X2 := Lib.hid X2
  have B0 : Hid (((w.alloc (.cells #[.string (tx A), .string (tx B)] 25)).alloc (.cells #[.string ⟨#[]⟩, .string ⟨#[]⟩] 25)).heap[w.heap.size]? = some (.cells #[.string (tx A), .string (tx B)] 25)) := ((Ext.refl _).alloc _).at (heap_alloc_new w _)
  by_cases hB : B.carets ≤ 8
  · have E : ifP (A, B) = .tuple #[.agg #[.string (tx A), .string (tx B)], .bool true] := if_pos (show A.carets ≤ 8 by omega)
    have C1 := Lib.hid (fun W => prGood_yes A B hc hB W)
    rw [E]
    clear hc hB E
    go_enter Tryz.func45, Tryz.ntmps45
    go_wp2_with fail
    generalize (w.alloc (.cells #[.string (tx A), .string (tx B)] 25)).alloc (.cells #[.string ⟨#[]⟩, .string ⟨#[]⟩] 25) = W at *
    refine (C1.out _).mono ?_
    rintro e w1 ⟨rfl, x1⟩
    have T1 := t0.ext x1
    obtain ⟨u, v, k0, k1, f0, f1⟩ := T1.facts
    obtain ⟨c0, c1⟩ := cells_of (x1.at B0.out)
    have T1 := Lib.hid T1
    have X1 := Lib.hid (X2.out.trans x1)
    clear t0 x1
    go_wp2_with fail
    have HH := set2_heap T1.out (.string (tx A)) (.string (tx B))
    have XX := X1.out.set2 (g := w.heap.size + 1) (by omega) (.string (tx A)) (.string (tx B))
    change bodyPost _ _ _ _ _ (N.set2 _ (w.heap.size + 1) (.string (tx A)) (.string (tx B)))
    obtain ⟨hc0, hc1⟩ := cells_of HH
    generalize N.set2 _ (w.heap.size + 1) (.string (tx A)) (.string (tx B)) = W3 at *
    exact bodyPost_ret (v := .tuple #[.agg #[.string (tx A), .string (tx B)], .bool true]) (by simp [results, Tryz.results45, go_sem, hc0, hc1]) rfl ⟨rfl, XX⟩
  · have E : ifP (A, B) = .tuple #[emptyP, .bool false] := if_neg (show ¬ A.carets ≤ 8 by omega)
    have NG : ¬ Good (tx A) (tx B) := by
      rintro ⟨A', B', h1, h2, _, h4⟩
      obtain rfl := tx_inj h2
      exact hB h4
    have C1 := Lib.hid (fun W => prGood_no _ _ NG W)
    rw [E]
    clear hc hB E NG
    go_enter Tryz.func45, Tryz.ntmps45
    go_wp2_with fail
    generalize (w.alloc (.cells #[.string (tx A), .string (tx B)] 25)).alloc (.cells #[.string ⟨#[]⟩, .string ⟨#[]⟩] 25) = W at *
    refine (C1.out _).mono ?_
    rintro e w1 ⟨rfl, x1⟩
    have T1 := t0.ext x1
    obtain ⟨u, v, k0, k1, f0, f1⟩ := T1.facts
    have T1 := Lib.hid T1
    have X1 := Lib.hid (X2.out.trans x1)
    clear t0 x1
    go_wp2_with fail
    have HH := set2_heap T1.out (.string ⟨#[]⟩) (.string ⟨#[]⟩)
    have XX := X1.out.set2 (g := w.heap.size + 1) (by omega) (.string ⟨#[]⟩) (.string ⟨#[]⟩)
    change bodyPost _ _ _ _ _ (N.set2 _ (w.heap.size + 1) (.string ⟨#[]⟩) (.string ⟨#[]⟩))
    obtain ⟨hc0, hc1⟩ := cells_of HH
    generalize N.set2 _ (w.heap.size + 1) (.string ⟨#[]⟩) (.string ⟨#[]⟩) = W3 at *
    exact bodyPost_ret (v := .tuple #[emptyP, .bool false]) (by simp [results, Tryz.results45, go_sem, hc0, hc1, emptyP]) rfl ⟨rfl, XX⟩
theorem trOf_tree (l r : Tr) (hl : l.carets < 1000000) (hr : r.carets < 1000000) (w : World) :
    Calls Tryz.prog 47 #[.string (tx l), .string (tx r)] w fun e w' => e = .returned (.string (tx (.node l r))) ∧ w = w' := by
  rw [tx_node]
  exact trOf_calls (tx l) (tx r) (by have := l.txt_length; show l.txt.length ≤ _; omega) (by have := r.txt_length; show r.txt.length ≤ _; omega) w

set_option maxHeartbeats 3200000 in
set_option maxRecDepth 100000 in
theorem cjShift_calls (A B : Tr) (hA : A.carets < 900) (hB : B.carets < 900) (w : World) :
    Calls Tryz.prog 65 #[.agg #[.string (tx A), .string (tx B)]] w fun e w' => e = .returned (.agg #[.string (tx (red (.node .leaf A, .node .leaf B)).1), .string (tx (red (.node .leaf A, .node .leaf B)).2)]) ∧ Ext w w' := by
  obtain ⟨X2, t0⟩ := boxS_facts w (tx A) (tx B) (.string ⟨#[]⟩) (.string ⟨#[]⟩) 25
  have X2 := Lib.hid X2
  have B0 : (((w.alloc (.cells #[.string (tx A), .string (tx B)] 25)).alloc (.cells #[.string ⟨#[]⟩, .string ⟨#[]⟩] 25)).heap[w.heap.size]? = some (.cells #[.string (tx A), .string (tx B)] 25)) := ((Ext.refl _).alloc _).at (heap_alloc_new w _)
  have C1 := fun W => trOf_tree .leaf A (by simp [Tr.carets]) (by omega) W
  have C2 := fun W => trOf_tree .leaf B (by simp [Tr.carets]) (by omega) W
  have C3 := fun W => prReduce_calls (.node .leaf A) (.node .leaf B) (by simp only [Tr.carets]; omega) (by simp only [Tr.carets]; omega) W
  rw [tx_leaf] at C1 C2
  clear hA hB
  generalize tx (.node .leaf A) = s1 at *
  generalize tx (.node .leaf B) = s2 at *
  generalize tx (red (.node .leaf A, .node .leaf B)).1 = r1 at *
  generalize tx (red (.node .leaf A, .node .leaf B)).2 = r2 at *
  generalize tx A = a at *
  generalize tx B = b at *
  go_enter Tryz.func65, Tryz.ntmps65
  go_wp2_with fail
  generalize (w.alloc (.cells #[.string a, .string b] 25)).alloc (.cells #[.string ⟨#[]⟩, .string ⟨#[]⟩] 25) = W at *
  obtain ⟨c0, c1⟩ := cells_of B0
  go_region_held3 (fun w' => w'.cell? ⟨w.heap.size, 0, none⟩ = some (.string a) ∧ w'.cell? ⟨w.heap.size, 1, none⟩ = some (.string b) ∧ Ext w w')
    (first | exact ⟨c0, c1, X2.out.drew⟩ | exact ⟨c0, c1, X2.out.drewN _⟩ | exact two_cells_set _ _ (x3.cell c0) (x3.cell c1) (by omega) (X2.out.trans x3) (by omega) | exact ⟨x3.cell c0, x3.cell c1, X2.out.trans x3⟩ | fail)
    (first
      | (go_at_call 46; refine (C3 _).mono ?_; rintro e w3 ⟨rfl, hx3⟩; have x3 : Ext W w3 := (Ext.refl W).drew.trans hx3; obtain ⟨u, v, k0, k1, f0, f1⟩ := (t0.ext x3).facts)
      | (go_at_call 47; with_reducible refine (C1 _).mono ?_; rintro e w1 ⟨rfl, rfl⟩)
      | (go_at_call 47; refine (C2 _).mono ?_; rintro e w1 ⟨rfl, rfl⟩)
      | fail)
  have T3 := t0.ext x3
  have HH := set2_heap T3 (.string r1) (.string r2)
  have XX := (X2.out.trans x3).set2 (g := w.heap.size + 1) (by omega) (.string r1) (.string r2)
  change Exit.then _ _ _ _ (N.set2 _ (w.heap.size + 1) (.string r1) (.string r2))
  obtain ⟨hc0, hc1⟩ := cells_of HH
  generalize N.set2 _ (w.heap.size + 1) (.string r1) (.string r2) = W3 at *
  go_wp2_with fail
  exact bodyPost_ret (v := .agg #[.string r1, .string r2]) (by simp [results, Tryz.results65, go_sem, hc0, hc1]) rfl ⟨rfl, XX⟩

set_option maxHeartbeats 3200000 in
set_option maxRecDepth 100000 in
theorem specShiftPair_yes (A B : Tr) (hc : A.carets = B.carets) (hB : B.carets ≤ 8) (w : World) :
    Calls Tryz.prog 18 #[.agg #[.string (tx A), .string (tx B)]] w fun e w' => e = .returned (ifP (red (.node .leaf A, .node .leaf B))) ∧ Ext w w' := by
  obtain ⟨X2, t0⟩ := boxS_facts w (tx A) (tx B) (.string ⟨#[]⟩) (.string ⟨#[]⟩) 25
  have X2 := Lib.hid X2
  have B0 : Hid (((w.alloc (.cells #[.string (tx A), .string (tx B)] 25)).alloc (.cells #[.string ⟨#[]⟩, .string ⟨#[]⟩] 25)).heap[w.heap.size]? = some (.cells #[.string (tx A), .string (tx B)] 25)) := ((Ext.refl _).alloc _).at (heap_alloc_new w _)
  have C1 := Lib.hid (fun W => prGood_yes A B hc hB W)
  have C2 := Lib.hid (fun W => cjShift_calls A B (by omega) (by omega) W)
  have C3 := Lib.hid (fun W => prIf_calls (red (.node .leaf A, .node .leaf B)).1 (red (.node .leaf A, .node .leaf B)).2 (red_same (by simp only [Tr.carets]; omega)) W)
  obtain ⟨s, t, b, hb⟩ := ifP_two (red (.node .leaf A, .node .leaf B))
  rw [show ((red (.node .leaf A, .node .leaf B)).1, (red (.node .leaf A, .node .leaf B)).2) = red (.node .leaf A, .node .leaf B) from rfl, hb] at C3
  rw [hb]
  clear hc hB hb
  generalize tx (red (.node .leaf A, .node .leaf B)).1 = r1 at *
  generalize tx (red (.node .leaf A, .node .leaf B)).2 = r2 at *
  generalize tx A = a at *
  generalize tx B = b' at *
  go_enter Tryz.func18, Tryz.ntmps18
  go_wp2_with fail
  generalize (w.alloc (.cells #[.string a, .string b'] 25)).alloc (.cells #[.string ⟨#[]⟩, .string ⟨#[]⟩] 25) = W at *
  refine (C1.out _).mono ?_
  rintro e w1 ⟨rfl, x1⟩
  obtain ⟨c0, c1⟩ := cells_of (x1.at B0.out)
  have X1 := Lib.hid (X2.out.trans x1)
  have T1 := Lib.hid (t0.ext x1)
  clear t0 x1
  go_wp2_with fail
  refine (C2.out _).mono ?_
  rintro e w2 ⟨rfl, x2⟩
  have X2' := Lib.hid (X1.out.trans x2)
  have T2 := Lib.hid (T1.out.ext x2)
  clear x2 c0 c1
  go_wp2_with fail
  refine (C3.out _).mono ?_
  rintro e w3 ⟨rfl, x3⟩
  have T3 := T2.out.ext x3
  have X3 := Lib.hid (X2'.out.trans x3)
  obtain ⟨u, v, k0, k1, f0, f1⟩ := T3.facts
  have T3 := Lib.hid T3
  clear x3
  go_wp2_with fail
  have HH := set2_heap T3.out (.string s) (.string t)
  have XX := X3.out.set2 (g := w.heap.size + 1) (by omega) (.string s) (.string t)
  change bodyPost _ _ _ _ _ (N.set2 _ (w.heap.size + 1) (.string s) (.string t))
  obtain ⟨hc0, hc1⟩ := cells_of HH
  generalize N.set2 _ (w.heap.size + 1) (.string s) (.string t) = W3 at *
  exact bodyPost_ret (v := .tuple #[.agg #[.string s, .string t], .bool b]) (by simp [results, Tryz.results18, go_sem, hc0, hc1]) rfl ⟨rfl, XX⟩
set_option maxHeartbeats 3200000 in
set_option maxRecDepth 100000 in
theorem specShiftPair_no (s t : ByteArray) (h : ¬ Good s t) (w : World) :
    Calls Tryz.prog 18 #[.agg #[.string s, .string t]] w fun e w' => e = .returned (.tuple #[emptyP, .bool false]) ∧ Ext w w' := by
  obtain ⟨X2, t0⟩ := boxS_facts w s t (.string ⟨#[]⟩) (.string ⟨#[]⟩) 25
  have X2 := Lib.hid X2
  have C1 := Lib.hid (fun W => prGood_no s t h W)
  clear h
  go_enter Tryz.func18, Tryz.ntmps18
  go_wp2_with fail
  generalize (w.alloc (.cells #[.string s, .string t] 25)).alloc (.cells #[.string ⟨#[]⟩, .string ⟨#[]⟩] 25) = W at *
  refine (C1.out _).mono ?_
  rintro e w1 ⟨rfl, x1⟩
  have T3 := t0.ext x1
  obtain ⟨u, v, k0, k1, f0, f1⟩ := T3.facts
  have T3 := Lib.hid T3
  have X1 := Lib.hid (X2.out.trans x1)
  clear t0 x1
  go_wp2_with fail
  have HH := set2_heap T3.out (.string ⟨#[]⟩) (.string ⟨#[]⟩)
  have XX := X1.out.set2 (g := w.heap.size + 1) (by omega) (.string ⟨#[]⟩) (.string ⟨#[]⟩)
  change bodyPost _ _ _ _ _ (N.set2 _ (w.heap.size + 1) (.string ⟨#[]⟩) (.string ⟨#[]⟩))
  obtain ⟨hc0, hc1⟩ := cells_of HH
  generalize N.set2 _ (w.heap.size + 1) (.string ⟨#[]⟩) (.string ⟨#[]⟩) = W3 at *
  exact bodyPost_ret (v := .tuple #[emptyP, .bool false]) (by simp [results, Tryz.results18, go_sem, hc0, hc1, emptyP]) rfl ⟨rfl, XX⟩
end Go.Proofs.YtpmmajfdcicjiaaGreat.N
