import Derived.Test.YtpjpnfmbdknoaaaBa
import Derived.Test.YtpjpnfmbdknoaaaPu
import Derived.Test.YtpjpnfmbdknoaaaSl
import Derived.Test.YtpjpnfmbdknoaaaProg
import Derived.Test.YtpjpnfmbdknoaaaWl
import Derived.Test.YtpjpnfmbdknoaaaTp
import Derived.Test.YtpjpnfmbdknoaaaTr
import Derived.Test.YtpjpnfmbdknoaaaTu
import Derived.Test.YtpjpnfmbdknoaaaTv
import Derived.Test.YtpjpnfmbdknoaaaTw
import Derived.Test.YtpjpnfmbdknoaaaSx
import Derived.Test.YtpjpnfmbdknoaaaSy
import Derived.Test.YtpjpnfmbdknoaaaSz
import Derived.Test.YtpjpnfmbdknoaaaSw
import Derived.Test.YtpjpnfmbdknoaaaWp
import Derived.Deep.CutRange
import Derived.Deep.LoopGhost
import Derived.Deep.QuietTactic
import Derived.BigQuiet
/- The laws of pairs shifted and of pairs of halves. -/
namespace Go.Proofs.Ytpjpnfmbdknoaaa.N
open Go.RowKit
set_option linter.unusedVariables false
set_option linter.unusedSimpArgs false

/-- A pair and a bool. -/
def pb (x y : ByteArray) (b : Bool) : Value := .tuple #[.agg #[.string x, .string y], .bool b]
theorem ifP_pb (p : Tr × Tr) : ∃ x y b, ifP p = pb x y b := ifP_two p

theorem both_ShiftPair (s t : ByteArray) : ∃ x y b, (∀ w, Calls Try.prog 48 #[.agg #[.string s, .string t]] w fun e w' => e = .returned (pb x y b) ∧ Ext w w') ∧ ∀ w, Calls Try.prog 50 #[.agg #[.string s, .string t]] w fun e w' => e = .returned (pb x y b) ∧ Ext w w' := by
  by_cases h : Good s t
  · obtain ⟨A, B, rfl, rfl, h1, h2⟩ := h
    obtain ⟨x, y, b, hb⟩ := ifP_pb (red (.node .leaf A, .node .leaf B))
    refine ⟨x, y, b, ?_⟩
    rw [← hb]
    exact ⟨specShiftPair_yes A B h1 h2, ShiftPair_yes A B h1 h2⟩
  · exact ⟨⟨#[]⟩, ⟨#[]⟩, false, specShiftPair_no s t h, ShiftPair_no s t h⟩
set_option maxHeartbeats 3200000 in
set_option maxRecDepth 100000 in
theorem walk_FnExactShiftPair (s t : ByteArray) (hs : s.size ≤ maxLen) (ht : t.size ≤ maxLen) (w : World) :
    Calls Try.prog 13 #[.agg #[.string s, .string t]] w fun e w' => e = .returned (.bool true) ∧ Ext w w' := by
  obtain ⟨x, y, b, C1, C2⟩ := both_ShiftPair s t
  have C1 := Lib.hid C1
  have C2 := Lib.hid C2
  have C3 := Lib.hid (fun w => szPair_calls s t 1048576 (by omega) hs ht w)
  have C4 := Lib.hid (fun w => toPair_calls s t w)
  have X0 := Lib.hid ((Ext.refl w).alloc (.cells #[.string s, .string t] 53))
  have c0 : (w.alloc (.cells #[.string s, .string t] 53)).cell? ⟨w.heap.size, 0, none⟩ = some (.string s) := by go_simp
  have c1 : (w.alloc (.cells #[.string s, .string t] 53)).cell? ⟨w.heap.size, 1, none⟩ = some (.string t) := by go_simp
  clear hs ht
  go_enter Try.func13, Try.ntmps13
  go_wp2_with fail
  generalize w.alloc (.cells #[.string s, .string t] 53) = W at *
  refine (C3.out _).mono ?_
  rintro e w1 ⟨r, rfl, hr, x1⟩
  have c0 := x1.cell c0
  have c1 := x1.cell c1
  have X1 := Lib.hid (X0.out.trans x1)
  have hr := Lib.hid hr.out
  clear x1
  by_cases hr0 : r < 0
  · go_wp2_with fail
    go_ret
    exact ⟨rfl, X1.out⟩
  · go_wp2_with fail
    refine (C4.out _).mono ?_
    rintro e w2 ⟨rfl, x2⟩
    have c0 := x2.cell c0
    have c1 := x2.cell c1
    have X2 := Lib.hid (X1.out.trans x2)
    clear x2
    go_wp2_with fail
    refine (C1.out _).mono ?_
    rintro e w3 ⟨rfl, x3⟩
    unfold pb
    have c0 := (x3.alloc (.cells #[.string x, .string y] 23)).cell c0
    have c1 := (x3.alloc (.cells #[.string x, .string y] 23)).cell c1
    have X3 := Lib.hid (X2.out.trans (x3.alloc (.cells #[.string x, .string y] 23)))
    obtain ⟨d0, d1⟩ := cells_of (heap_alloc_new w3 (.cells #[.string x, .string y] 23))
    clear x3
    go_wp2_with fail
    generalize w3.alloc (.cells #[.string x, .string y] 23) = W3 at *
    refine (C4.out _).mono ?_
    rintro e w4 ⟨rfl, x4⟩
    have d0 := x4.cell d0
    have d1 := x4.cell d1
    have X4 := Lib.hid (X3.out.trans x4)
    clear x4 c0 c1
    go_wp2_with fail
    refine (C2.out _).mono ?_
    rintro e w5 ⟨rfl, x5⟩
    unfold pb
    have d0 := (x5.alloc (.cells #[.string x, .string y] 23)).cell d0
    have d1 := (x5.alloc (.cells #[.string x, .string y] 23)).cell d1
    obtain ⟨f0, f1⟩ := cells_of (heap_alloc_new w5 (.cells #[.string x, .string y] 23))
    have X5 := Lib.hid (X4.out.trans (x5.alloc (.cells #[.string x, .string y] 23)))
    clear x5
    go_wp2_with fail
    generalize w5.alloc (.cells #[.string x, .string y] 23) = W5 at *
    refine (eqPair_calls x y _).mono ?_
    rintro e w6 ⟨rfl, x6⟩
    have X6 := Lib.hid (X5.out.trans x6)
    clear x6
    cases b
    all_goals
      go_wp2_with fail
      go_ret
      exact ⟨rfl, X6.out⟩

theorem both_HalvesPair (s1 t1 s2 t2 : ByteArray) : ∃ x y b, (∀ w, Calls Try.prog 51 #[.agg #[.string s1, .string t1], .agg #[.string s2, .string t2]] w fun e w' => e = .returned (pb x y b) ∧ Ext w w') ∧ ∀ w, Calls Try.prog 52 #[.agg #[.string s1, .string t1], .agg #[.string s2, .string t2]] w fun e w' => e = .returned (pb x y b) ∧ Ext w w' := by
  by_cases h : Good s1 t1 ∧ Good s2 t2
  · obtain ⟨⟨A, B, rfl, rfl, h1, h2⟩, ⟨C, D, rfl, rfl, h3, h4⟩⟩ := h
    obtain ⟨x, y, b, hb⟩ := ifP_pb (red (.node A C, .node B D))
    refine ⟨x, y, b, ?_⟩
    rw [← hb]
    exact ⟨specHalvesPair_yes A B C D h1 h2 h3 h4, HalvesPair_yes A B C D h1 h2 h3 h4⟩
  · exact ⟨⟨#[]⟩, ⟨#[]⟩, false, specHalvesPair_no _ _ _ _ h, HalvesPair_no _ _ _ _ h⟩
set_option maxHeartbeats 3200000 in
set_option maxRecDepth 100000 in
theorem walk_FnExactHalvesPair (s1 t1 : ByteArray) (hs1 : s1.size ≤ maxLen) (ht1 : t1.size ≤ maxLen) (s2 t2 : ByteArray) (hs2 : s2.size ≤ maxLen) (ht2 : t2.size ≤ maxLen) (w : World) :
    Calls Try.prog 14 #[.agg #[.string s1, .string t1], .agg #[.string s2, .string t2]] w fun e w' => e = .returned (.bool true) ∧ Ext w w' := by
  obtain ⟨x, y, b, C1, C2⟩ := both_HalvesPair s1 t1 s2 t2
  have C3 := Lib.hid (fun w => szPair_calls s1 t1 1048576 (by omega) hs1 ht1 w)
  have C3b := Lib.hid (fun n hn w => szPair_calls s2 t2 n hn hs2 ht2 w)
  have C4 := fun w => toPair_calls s1 t1 w
  have C5 := fun w => toPair_calls s2 t2 w
  have X0 := Lib.hid (((Ext.refl w).alloc (.cells #[.string s1, .string t1] 53)).alloc (.cells #[.string s2, .string t2] 53))
  have c0 : ((w.alloc (.cells #[.string s1, .string t1] 53)).alloc (.cells #[.string s2, .string t2] 53)).cell? ⟨w.heap.size, 0, none⟩ = some (.string s1) := by go_simp
  have c1 : ((w.alloc (.cells #[.string s1, .string t1] 53)).alloc (.cells #[.string s2, .string t2] 53)).cell? ⟨w.heap.size, 1, none⟩ = some (.string t1) := by go_simp
  have c2 : ((w.alloc (.cells #[.string s1, .string t1] 53)).alloc (.cells #[.string s2, .string t2] 53)).cell? ⟨w.heap.size + 1, 0, none⟩ = some (.string s2) := by go_simp
  have c3 : ((w.alloc (.cells #[.string s1, .string t1] 53)).alloc (.cells #[.string s2, .string t2] 53)).cell? ⟨w.heap.size + 1, 1, none⟩ = some (.string t2) := by go_simp
  clear hs1 ht1 hs2 ht2
  go_enter Try.func14, Try.ntmps14
  go_wp2_with fail
  generalize (w.alloc (.cells #[.string s1, .string t1] 53)).alloc (.cells #[.string s2, .string t2] 53) = W at *
  refine (C3.out _).mono ?_
  rintro e w1 ⟨r, rfl, hr, x1⟩
  have c0 := x1.cell c0
  have c1 := x1.cell c1
  have c2 := x1.cell c2
  have c3 := x1.cell c3
  have X1 := Lib.hid (X0.out.trans x1)
  have hr := Lib.hid hr.out
  clear x1
  by_cases hr0 : r < 0
  · go_wp2_with fail
    go_ret
    exact ⟨rfl, X1.out⟩
  · go_wp2_with fail
    refine (C3b.out r ⟨by omega, hr.out.2.1⟩ _).mono ?_
    rintro e w2 ⟨r2, rfl, hr2, x2⟩
    have c0 := x2.cell c0
    have c1 := x2.cell c1
    have c2 := x2.cell c2
    have c3 := x2.cell c3
    have X2 := Lib.hid (X1.out.trans x2)
    clear x2
    by_cases hr1 : r2 < 0
    · go_wp2_with fail
      go_ret
      exact ⟨rfl, X2.out⟩
    · go_wp2_with fail
      have KX : ∀ w', Ext w2 w' → w'.cell? ⟨w.heap.size, 0, none⟩ = some (.string s1) ∧ w'.cell? ⟨w.heap.size, 1, none⟩ = some (.string t1) ∧ w'.cell? ⟨w.heap.size + 1, 0, none⟩ = some (.string s2) ∧ w'.cell? ⟨w.heap.size + 1, 1, none⟩ = some (.string t2) := fun w' h => ⟨h.cell c0, h.cell c1, h.cell c2, h.cell c3⟩
      go_cut [6, 7] from 20 to 27 (fun a d wx => ∃ g, a = .pointer (some ⟨g, 0, none⟩) ∧ d = .bool b ∧ wx.cell? ⟨g, 0, none⟩ = some (.string x) ∧ wx.cell? ⟨g, 1, none⟩ = some (.string y) ∧ Ext w2 wx)
      case first =>
        go_region_held3 (fun w' => w'.cell? ⟨w.heap.size, 0, none⟩ = some (.string s1) ∧ w'.cell? ⟨w.heap.size, 1, none⟩ = some (.string t1) ∧ w'.cell? ⟨w.heap.size + 1, 0, none⟩ = some (.string s2) ∧ w'.cell? ⟨w.heap.size + 1, 1, none⟩ = some (.string t2))
          (first | exact KX _ (Ext.refl _).drew | exact KX _ ((Ext.refl _).alloc _).drew | exact KX _ ((Ext.refl _).drew.alloc _) | exact KX _ x3 | exact KX _ (x3.alloc _) | exact KX _ x4 | exact KX _ (x4.alloc _) | exact KX _ x5 | exact KX _ (x5.alloc _) | exact KX _ (x5.set2 hg (.string x) (.string y)) | fail)
          (first
            | (go_at_call 51; refine (C1 _).mono ?_; unfold pb; rintro e w5 ⟨rfl, hx5⟩; (first | (with_reducible have x5 := x4.trans hx5; (first | (with_reducible have TW5 := TW.ext hx5; obtain ⟨u, v, k0, k1, f0, f1⟩ := TW5.facts) | skip)) | (have TW5 := (Two.new w4 (.string ⟨#[]⟩) (.string ⟨#[]⟩) 23 rfl).ext hx5; have hg := Ext.heap x4; have x5 := (x4.alloc _).trans hx5; obtain ⟨u, v, k0, k1, f0, f1⟩ := TW5.facts)))
            | (go_at_call 49; with_reducible refine (C4 _).mono ?_; rintro e w3 ⟨rfl, hx3⟩; first | (with_reducible have x3 := (Ext.refl w2).drew.trans hx3) | (have TW := ((Two.new w2 (.string ⟨#[]⟩) (.string ⟨#[]⟩) 23 rfl).ext (Ext.refl _).drew).ext hx3; have hg := Nat.le_refl w2.heap.size; have x3 := ((Ext.refl w2).alloc _).drew.trans hx3))
            | (go_at_call 49; with_reducible refine (C5 _).mono ?_; rintro e w4 ⟨rfl, hx4⟩; first | (with_reducible have x4 := x3.trans hx4; (first | (with_reducible have TW := TW.ext hx4) | skip)) | (have TW := (Two.new w3 (.string ⟨#[]⟩) (.string ⟨#[]⟩) 23 rfl).ext hx4; have hg := Ext.heap x3; have x4 := (x3.alloc _).trans hx4))
            | fail)
        all_goals
          go_wp2_with fail
          go_meet
          first
            | exact ⟨_, rfl, rfl, (cells_of (heap_alloc_new w5 _)).1, (cells_of (heap_alloc_new w5 _)).2, x5.alloc _⟩
            | exact ⟨_, rfl, rfl, (cells_of (set2_heap TW5 (.string x) (.string y))).1, (cells_of (set2_heap TW5 (.string x) (.string y))).2, x5.set2 hg (.string x) (.string y)⟩
      case rest =>
        obtain ⟨g, rfl, rfl, d0, d1, XA⟩ := hcut
        have c0 := XA.cell c0
        have c1 := XA.cell c1
        have c2 := XA.cell c2
        have c3 := XA.cell c3
        have X3 := Lib.hid (X2.out.trans XA)
        clear XA KX
        generalize wc = wd at *
        go_wp2_with fail
        have KX : ∀ w', Ext wd w' → w'.cell? ⟨w.heap.size, 0, none⟩ = some (.string s1) ∧ w'.cell? ⟨w.heap.size, 1, none⟩ = some (.string t1) ∧ w'.cell? ⟨w.heap.size + 1, 0, none⟩ = some (.string s2) ∧ w'.cell? ⟨w.heap.size + 1, 1, none⟩ = some (.string t2) := fun w' h => ⟨h.cell c0, h.cell c1, h.cell c2, h.cell c3⟩
        go_cut [8, 9] from 28 to 35 (fun a d wx => ∃ g, a = .pointer (some ⟨g, 0, none⟩) ∧ d = .bool b ∧ wx.cell? ⟨g, 0, none⟩ = some (.string x) ∧ wx.cell? ⟨g, 1, none⟩ = some (.string y) ∧ Ext wd wx)
        case first =>
          go_region_held3 (fun w' => w'.cell? ⟨w.heap.size, 0, none⟩ = some (.string s1) ∧ w'.cell? ⟨w.heap.size, 1, none⟩ = some (.string t1) ∧ w'.cell? ⟨w.heap.size + 1, 0, none⟩ = some (.string s2) ∧ w'.cell? ⟨w.heap.size + 1, 1, none⟩ = some (.string t2))
            (first | exact KX _ (Ext.refl _).drew | exact KX _ ((Ext.refl _).alloc _).drew | exact KX _ ((Ext.refl _).drew.alloc _) | exact KX _ x3 | exact KX _ (x3.alloc _) | exact KX _ x4 | exact KX _ (x4.alloc _) | exact KX _ x5 | exact KX _ (x5.alloc _) | exact KX _ (x5.set2 hg (.string x) (.string y)) | fail)
            (first
              | (go_at_call 52; refine (C2 _).mono ?_; unfold pb; rintro e w5 ⟨rfl, hx5⟩; (first | (with_reducible have x5 := x4.trans hx5; (first | (with_reducible have TW5 := TW.ext hx5; obtain ⟨u, v, k0, k1, f0, f1⟩ := TW5.facts) | skip)) | (have TW5 := (Two.new w4 (.string ⟨#[]⟩) (.string ⟨#[]⟩) 23 rfl).ext hx5; have hg := Ext.heap x4; have x5 := (x4.alloc _).trans hx5; obtain ⟨u, v, k0, k1, f0, f1⟩ := TW5.facts)))
              | (go_at_call 49; with_reducible refine (C4 _).mono ?_; rintro e w3 ⟨rfl, hx3⟩; first | (with_reducible have x3 := (Ext.refl wd).drew.trans hx3) | (have TW := ((Two.new wd (.string ⟨#[]⟩) (.string ⟨#[]⟩) 23 rfl).ext (Ext.refl _).drew).ext hx3; have hg := Nat.le_refl wd.heap.size; have x3 := ((Ext.refl wd).alloc _).drew.trans hx3))
              | (go_at_call 49; with_reducible refine (C5 _).mono ?_; rintro e w4 ⟨rfl, hx4⟩; first | (with_reducible have x4 := x3.trans hx4; (first | (with_reducible have TW := TW.ext hx4) | skip)) | (have TW := (Two.new w3 (.string ⟨#[]⟩) (.string ⟨#[]⟩) 23 rfl).ext hx4; have hg := Ext.heap x3; have x4 := (x3.alloc _).trans hx4))
              | fail)
          all_goals
            go_wp2_with fail
            go_meet
            first
              | exact ⟨_, rfl, rfl, (cells_of (heap_alloc_new w5 _)).1, (cells_of (heap_alloc_new w5 _)).2, x5.alloc _⟩
              | exact ⟨_, rfl, rfl, (cells_of (set2_heap TW5 (.string x) (.string y))).1, (cells_of (set2_heap TW5 (.string x) (.string y))).2, x5.set2 hg (.string x) (.string y)⟩
        case rest =>
          obtain ⟨h, rfl, rfl, f0, f1, XB⟩ := hcut
          have d0 := XB.cell d0
          have d1 := XB.cell d1
          have X4 := Lib.hid (X3.out.trans XB)
          clear XB KX
          go_wp2_with fail
          refine (eqPair_calls x y _).mono ?_
          rintro e w6 ⟨rfl, x6⟩
          have X6 := Lib.hid (X4.out.trans x6)
          clear x6
          cases b
          all_goals
            go_wp2_with fail
            go_ret
            exact ⟨rfl, X6.out⟩
end Go.Proofs.Ytpjpnfmbdknoaaa.N
