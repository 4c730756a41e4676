import Derived.Test.YtpmmajfdcicjiaaG1RFnRotationsMade
import Derived.Test.YtpmmajfdcicjiaaG2RFnRotationsMade
import Derived.Test.YtpmmajfdcicjiaaProg
import Derived.Test.YtpmmajfdcicjiaaG5RFnRotationsMade
import Derived.Test.YtpmmajfdcicjiaaG7RFnRotationsMade
import Derived.Test.YtpmmajfdcicjiaaG13RFnRotationsMade
import Derived.Test.YtpmmajfdcicjiaaG20RFnRotationsMade
import Derived.Test.YtpmmajfdcicjiaaG6RFnRotationsMade
import Derived.Test.YtpmmajfdcicjiaaG8RFnRotationsMade
import Derived.Test.YtpmmajfdcicjiaaG19RFnRotationsMade
import Derived.Deep.CutRange
import Derived.Deep.LoopGhost
import Derived.Deep.QuietTactic
import Derived.BigQuiet
import Derived.Test.YtpmmajfdcicjiaaG3RFnRotationsMade
import Derived.Test.YtpmmajfdcicjiaaG12RFnRotationsMade
import Derived.StillTailTactics
/- The laws of pairs shifted and of pairs of halves. -/
namespace Go.Proofs.Ytpmmajfdcicjiaa.N
open Go.RowKit
set_option linter.unusedVariables false
set_option linter.unusedSimpArgs false

/-- A pair and a bool. -/
def pb (x y : ByteArray) (b : Bool) : Value := .tuple #[.agg #[.string x, .string y], .bool b]
theorem ifP_pb (p : Tr × Tr) : ∃ x y b, ifP p = pb x y b := ifP_two p

end Go.Proofs.Ytpmmajfdcicjiaa.N
/- The pair of a rotation: both functions and the law. -/
namespace Go.Proofs.Ytpmmajfdcicjiaa.N
open Go.RowKit
set_option linter.unusedVariables false
set_option linter.unusedSimpArgs false

set_option maxHeartbeats 3200000 in
set_option maxRecDepth 100000 in
theorem implRP_yes (T U : Tr) (hT : T.carets ≤ 8) (s : ByteArray) (hs : s.size ≤ 8) (hU : turnT false s.toList T = some U) (w : World) :
    Calls Try.prog 30 #[.string (tx T), .string s] w fun e w' => e = .returned (pb (tx (red (T, U)).1) (tx (red (T, U)).2) true) ∧ Ext w w' := by
  have X0 := Lib.hid ((Ext.refl w).alloc (.cells #[.string ⟨#[]⟩, .string ⟨#[]⟩] 25))
  have t0 := Two.new w (.string ⟨#[]⟩) (.string ⟨#[]⟩) 25 rfl
  have C1 := Lib.hid (fun W => parse_yes T W hT)
  have C2 := fun p W h => turn_calls false s.toList T s p W (S_of s) h
  simp only [hU] at C2
  have hc := turnT_carets hU
  have LE := red_le (T, U)
  have C3 := Lib.hid (fun pa pb W => reduced_calls T U (by omega) (by omega) pa pb W)
  have C4 := Lib.hid (fun pa pb W => plain_calls (red (T, U)).1 (red (T, U)).2 (by simp only at LE; omega) (by simp only at LE; omega) pa pb W)
  have hs' : (s.size : Int) ≤ 8 := by omega
  unfold pb
  clear hT hs hU hc LE
  generalize (red (T, U)).1 = A at *
  generalize (red (T, U)).2 = B at *
  generalize tx A = ra at *
  generalize tx B = rb at *
  generalize tx T = st at *
  go_enter Try.func30, Try.ntmps30
  go_wp2_with fail
  generalize w.alloc (.cells #[.string ⟨#[]⟩, .string ⟨#[]⟩] 25) = W at *
  refine (C1.out _).mono ?_
  rintro e w1 ⟨p, rfl, hp, hx⟩
  have H := Lib.hid (And.intro hp hx)
  clear hp hx
  go_wp2_with fail
  refine (C2 _ _ H.out.1).mono ?_
  rintro e w2 ⟨hx2, q, rfl, hq⟩
  have RT := Lib.hid (H.out.1.ext hx2)
  have RQ := Lib.hid hq
  have X2 := Lib.hid (H.out.2.trans hx2)
  clear hq hx2
  go_wp2_with fail
  refine (C3.out p q _ RT.out RQ.out).mono ?_
  rintro e w3 ⟨pa, pb, rfl, r1, r2, x3⟩
  have R := Lib.hid (And.intro r1 r2)
  have X3 := Lib.hid (X2.out.trans x3)
  clear r1 r2 x3
  go_wp2_with fail
  refine (C4.out pa pb _ R.out.1 R.out.2).mono ?_
  rintro e w4 ⟨rfl, x4⟩
  have X4 := Lib.hid (X3.out.trans x4)
  have TT := t0.ext X4.out
  obtain ⟨u, v, k0, k1, f0, f1⟩ := TT.facts
  have TT := Lib.hid TT
  clear x4
  go_wp2_with fail
  have HH := set2_heap TT.out (.string ra) (.string rb)
  have XX := (X0.out.trans X4.out).set2 (g := w.heap.size) (Nat.le_refl _) (.string ra) (.string rb)
  change bodyPost _ _ _ _ _ (N.set2 _ w.heap.size (.string ra) (.string rb))
  obtain ⟨hc0, hc1⟩ := cells_of HH
  generalize N.set2 _ w.heap.size (.string ra) (.string rb) = W3 at *
  exact bodyPost_ret (v := .tuple #[.agg #[.string ra, .string rb], .bool true]) (by simp [results, Try.results30, go_sem, hc0, hc1]) rfl ⟨rfl, XX⟩
set_option maxHeartbeats 3200000 in
set_option maxRecDepth 100000 in
theorem implRP_no (t s : ByteArray) (h : ¬ ∃ T U, t = tx T ∧ T.carets ≤ 8 ∧ s.size ≤ 8 ∧ turnT false s.toList T = some U) (w : World) :
    Calls Try.prog 30 #[.string t, .string s] w fun e w' => e = .returned (pb ⟨#[]⟩ ⟨#[]⟩ false) ∧ Ext w w' := by
  have X0 := Lib.hid ((Ext.refl w).alloc (.cells #[.string ⟨#[]⟩, .string ⟨#[]⟩] 25))
  have t0 := Two.new w (.string ⟨#[]⟩) (.string ⟨#[]⟩) 25 rfl
  unfold pb
  by_cases hT : ∃ T, t = tx T ∧ T.carets ≤ 8
  · obtain ⟨T, rfl, hT⟩ := hT
    have C1 := Lib.hid (fun W => parse_yes T W hT)
    by_cases hs : s.size ≤ 8
    · have C2 := fun p W h => turn_calls false s.toList T s p W (S_of s) h
      have hU : turnT false s.toList T = none := by
        cases e : turnT false s.toList T with
        | none => rfl
        | some U => exact absurd ⟨T, U, rfl, hT, hs, e⟩ h
      simp only [hU] at C2
      have hs' : (s.size : Int) ≤ 8 := by omega
      clear hT hs hU h
      generalize tx T = st at *
      go_enter Try.func30, Try.ntmps30
      go_wp2_with fail
      generalize w.alloc (.cells #[.string ⟨#[]⟩, .string ⟨#[]⟩] 25) = W at *
      refine (C1.out _).mono ?_
      rintro e w1 ⟨p, rfl, hp, hx⟩
      have H := Lib.hid (And.intro hp hx)
      clear hp hx
      go_wp2_with fail
      refine (C2 _ _ H.out.1).mono ?_
      rintro e w2 ⟨hx2, q, rfl⟩
      have X4 := Lib.hid (H.out.2.trans hx2)
      have TT := t0.ext X4.out
      obtain ⟨u, v, k0, k1, f0, f1⟩ := TT.facts
      have TT := Lib.hid TT
      clear hx2
      go_wp2_with fail
      have HH := set2_heap TT.out (.string ⟨#[]⟩) (.string ⟨#[]⟩)
      have XX := (X0.out.trans X4.out).set2 (g := w.heap.size) (Nat.le_refl _) (.string ⟨#[]⟩) (.string ⟨#[]⟩)
      change bodyPost _ _ _ _ _ (N.set2 _ w.heap.size (.string ⟨#[]⟩) (.string ⟨#[]⟩))
      obtain ⟨hc0, hc1⟩ := cells_of HH
      generalize N.set2 _ w.heap.size (.string ⟨#[]⟩) (.string ⟨#[]⟩) = W3 at *
      exact bodyPost_ret (v := .tuple #[.agg #[.string ⟨#[]⟩, .string ⟨#[]⟩], .bool false]) (by simp [results, Try.results30, go_sem, hc0, hc1]) rfl ⟨rfl, XX⟩
    · have hs' : (8 : Int) < s.size := by omega
      clear hT hs h
      generalize tx T = st at *
      go_enter Try.func30, Try.ntmps30
      go_wp2_with fail
      generalize w.alloc (.cells #[.string ⟨#[]⟩, .string ⟨#[]⟩] 25) = W at *
      refine (C1.out _).mono ?_
      rintro e w1 ⟨p, rfl, hp, hx⟩
      have X4 := Lib.hid hx
      have TT := t0.ext X4.out
      obtain ⟨u, v, k0, k1, f0, f1⟩ := TT.facts
      have TT := Lib.hid TT
      clear hp hx
      go_wp2_with fail
      have HH := set2_heap TT.out (.string ⟨#[]⟩) (.string ⟨#[]⟩)
      have XX := (X0.out.trans X4.out).set2 (g := w.heap.size) (Nat.le_refl _) (.string ⟨#[]⟩) (.string ⟨#[]⟩)
      change bodyPost _ _ _ _ _ (N.set2 _ w.heap.size (.string ⟨#[]⟩) (.string ⟨#[]⟩))
      obtain ⟨hc0, hc1⟩ := cells_of HH
      generalize N.set2 _ w.heap.size (.string ⟨#[]⟩) (.string ⟨#[]⟩) = W3 at *
      exact bodyPost_ret (v := .tuple #[.agg #[.string ⟨#[]⟩, .string ⟨#[]⟩], .bool false]) (by simp [results, Try.results30, go_sem, hc0, hc1]) rfl ⟨rfl, XX⟩
  · have C1 := Lib.hid (fun W => parse_no t W hT)
    clear hT h
    go_enter Try.func30, Try.ntmps30
    go_wp2_with fail
    generalize w.alloc (.cells #[.string ⟨#[]⟩, .string ⟨#[]⟩] 25) = W at *
    refine (C1.out _).mono ?_
    rintro e w1 ⟨rfl, hx⟩
    have X4 := Lib.hid hx
    have TT := t0.ext X4.out
    obtain ⟨u, v, k0, k1, f0, f1⟩ := TT.facts
    have TT := Lib.hid TT
    clear hx
    go_wp2_with fail
    have HH := set2_heap TT.out (.string ⟨#[]⟩) (.string ⟨#[]⟩)
    have XX := (X0.out.trans X4.out).set2 (g := w.heap.size) (Nat.le_refl _) (.string ⟨#[]⟩) (.string ⟨#[]⟩)
    change bodyPost _ _ _ _ _ (N.set2 _ w.heap.size (.string ⟨#[]⟩) (.string ⟨#[]⟩))
    obtain ⟨hc0, hc1⟩ := cells_of HH
    generalize N.set2 _ w.heap.size (.string ⟨#[]⟩) (.string ⟨#[]⟩) = W3 at *
    exact bodyPost_ret (v := .tuple #[.agg #[.string ⟨#[]⟩, .string ⟨#[]⟩], .bool false]) (by simp [results, Try.results30, go_sem, hc0, hc1]) rfl ⟨rfl, XX⟩
set_option maxHeartbeats 3200000 in
set_option maxRecDepth 100000 in
theorem specRP_yes (T U : Tr) (hT : T.carets ≤ 8) (s : ByteArray) (hs : s.size ≤ 8) (hU : turnT false s.toList T = some U) (w : World) :
    Calls Try.prog 31 #[.string (tx T), .string s] w fun e w' => e = .returned (pb (tx (red (T, U)).1) (tx (red (T, U)).2) true) ∧ Ext w w' := by
  have X0 := Lib.hid ((Ext.refl w).alloc (.cells #[.string ⟨#[]⟩, .string ⟨#[]⟩] 25))
  have t0 := Two.new w (.string ⟨#[]⟩) (.string ⟨#[]⟩) 25 rfl
  have C1 := fun W => brGiven_yes false T hT s W
  have e1 : turnedR false T s = some U := by unfold turnedR; rw [if_pos hs]; exact hU
  simp only [e1, GivesTx] at C1
  have hc := turnT_carets hU
  have C2 := Lib.hid (fun W => prReduce_calls T U (by omega) (by omega) W)
  unfold pb
  clear hT hs hU hc e1
  generalize tx (red (T, U)).1 = ra at *
  generalize tx (red (T, U)).2 = rb at *
  generalize tx T = st at *
  go_enter Try.func31, Try.ntmps31
  go_wp2_with fail
  generalize w.alloc (.cells #[.string ⟨#[]⟩, .string ⟨#[]⟩] 25) = W at *
  refine (C1 _).mono ?_
  rintro e w1 ⟨hx, rfl⟩
  have X1 := Lib.hid hx
  clear hx
  go_wp2_with fail
  refine (C2.out _).mono ?_
  rintro e w2 ⟨rfl, x2⟩
  have X4 := Lib.hid (X1.out.trans x2)
  have TT := t0.ext X4.out
  obtain ⟨u, v, k0, k1, f0, f1⟩ := TT.facts
  have TT := Lib.hid TT
  clear x2
  go_wp2_with fail
  have HH := set2_heap TT.out (.string ra) (.string rb)
  have XX := (X0.out.trans X4.out).set2 (g := w.heap.size) (Nat.le_refl _) (.string ra) (.string rb)
  change bodyPost _ _ _ _ _ (N.set2 _ w.heap.size (.string ra) (.string rb))
  obtain ⟨hc0, hc1⟩ := cells_of HH
  generalize N.set2 _ w.heap.size (.string ra) (.string rb) = W3 at *
  exact bodyPost_ret (v := .tuple #[.agg #[.string ra, .string rb], .bool true]) (by simp [results, Try.results31, go_sem, hc0, hc1]) rfl ⟨rfl, XX⟩
set_option maxHeartbeats 3200000 in
set_option maxRecDepth 100000 in
theorem specRP_no (t s : ByteArray) (h : ¬ ∃ T U, t = tx T ∧ T.carets ≤ 8 ∧ s.size ≤ 8 ∧ turnT false s.toList T = some U) (w : World) :
    Calls Try.prog 31 #[.string t, .string s] w fun e w' => e = .returned (pb ⟨#[]⟩ ⟨#[]⟩ false) ∧ Ext w w' := by
  have X0 := Lib.hid ((Ext.refl w).alloc (.cells #[.string ⟨#[]⟩, .string ⟨#[]⟩] 25))
  have t0 := Two.new w (.string ⟨#[]⟩) (.string ⟨#[]⟩) 25 rfl
  have C1 : Hid (∀ W, Calls Try.prog 112 #[.string t, .string s, .bool false] W (GivesTx W none)) := by
    by_cases hT : ∃ T, t = tx T ∧ T.carets ≤ 8
    · obtain ⟨T, rfl, hT⟩ := hT
      intro W
      have := brGiven_yes false T hT s W
      have e1 : turnedR false T s = none := by
        unfold turnedR
        by_cases hs : s.size ≤ 8
        · rw [if_pos hs]
          cases e : turnT false s.toList T with
          | none => rfl
          | some U => exact absurd ⟨T, U, rfl, hT, hs, e⟩ h
        · rw [if_neg hs]
      rw [e1] at this
      exact this
    · exact fun W => brGiven_no false t hT s W
  unfold pb
  clear h
  go_enter Try.func31, Try.ntmps31
  go_wp2_with fail
  generalize w.alloc (.cells #[.string ⟨#[]⟩, .string ⟨#[]⟩] 25) = W at *
  refine (C1.out _).mono ?_
  rintro e w1 ⟨hx, rfl⟩
  have X4 := Lib.hid hx
  have TT := t0.ext X4.out
  obtain ⟨u, v, k0, k1, f0, f1⟩ := TT.facts
  have TT := Lib.hid TT
  clear hx
  go_wp2_with fail
  have HH := set2_heap TT.out (.string ⟨#[]⟩) (.string ⟨#[]⟩)
  have XX := (X0.out.trans X4.out).set2 (g := w.heap.size) (Nat.le_refl _) (.string ⟨#[]⟩) (.string ⟨#[]⟩)
  change bodyPost _ _ _ _ _ (N.set2 _ w.heap.size (.string ⟨#[]⟩) (.string ⟨#[]⟩))
  obtain ⟨hc0, hc1⟩ := cells_of HH
  generalize N.set2 _ w.heap.size (.string ⟨#[]⟩) (.string ⟨#[]⟩) = W3 at *
  exact bodyPost_ret (v := .tuple #[.agg #[.string ⟨#[]⟩, .string ⟨#[]⟩], .bool false]) (by simp [results, Try.results31, go_sem, hc0, hc1]) rfl ⟨rfl, XX⟩
theorem both_RotationPair (t s : ByteArray) : ∃ x y b, (∀ w, Calls Try.prog 31 #[.string t, .string s] w fun e w' => e = .returned (pb x y b) ∧ Ext w w') ∧ ∀ w, Calls Try.prog 30 #[.string t, .string s] w fun e w' => e = .returned (pb x y b) ∧ Ext w w' := by
  by_cases h : ∃ T U, t = tx T ∧ T.carets ≤ 8 ∧ s.size ≤ 8 ∧ turnT false s.toList T = some U
  · obtain ⟨T, U, rfl, h1, h2, h3⟩ := h
    exact ⟨_, _, _, specRP_yes T U h1 s h2 h3, implRP_yes T U h1 s h2 h3⟩
  · exact ⟨_, _, _, specRP_no t s h, implRP_no t s h⟩

end Go.Proofs.Ytpmmajfdcicjiaa.N
