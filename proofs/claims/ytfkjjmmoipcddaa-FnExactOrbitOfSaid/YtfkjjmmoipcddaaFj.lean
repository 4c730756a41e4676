import Derived.Test.YtfkjjmmoipcddaaBa
import Derived.Test.YtfkjjmmoipcddaaPu
import Derived.Test.YtfkjjmmoipcddaaSl
import Derived.Test.YtfkjjmmoipcddaaProg
import Derived.Test.YtfkjjmmoipcddaaWl
import Derived.Test.YtfkjjmmoipcddaaTp
import Derived.Test.YtfkjjmmoipcddaaTr
import Derived.Test.YtfkjjmmoipcddaaTu
import Derived.Test.YtfkjjmmoipcddaaWp
import Derived.Test.YtfkjjmmoipcddaaWq
import Derived.Test.YtfkjjmmoipcddaaFa
import Derived.Test.YtfkjjmmoipcddaaFb
import Derived.Test.YtfkjjmmoipcddaaFc
import Derived.Test.YtfkjjmmoipcddaaFd
import Derived.Test.YtfkjjmmoipcddaaFe
import Derived.Test.YtfkjjmmoipcddaaFi
import Derived.Deep.LoopGhost
import Derived.Deep.RegionHeld3
import Derived.StillTailTactics
import Derived.Deep.CutRange
import Derived.Deep.QuietTactic
import Derived.BigQuiet
/- The law of ValueOf. -/
namespace Go.Proofs.Ytfkjjmmoipcddaa.N
open Go.RowKit
set_option linter.unusedVariables false
set_option linter.unusedSimpArgs false

set_option maxHeartbeats 1600000 in
theorem toFraction_calls (n d : Int) (w : World) :
    Calls Try.prog 45 #[.agg #[.int .i64 n, .int .i64 d]] w fun e w' => e = .returned (.agg #[.int .i64 n, .int .i64 d]) ∧ Ext w w' := by
  have X3 := Lib.hid ((((Ext.refl w).alloc (.cells #[.int .i64 n, .int .i64 d] 60)).alloc (.cells #[.int .i64 n, .int .i64 d] 61)).alloc (.cells #[.int .i64 n, .int .i64 d] 61))
  have HH := ((Ext.refl _).alloc (.cells #[.int .i64 n, .int .i64 d] 61)).at (heap_alloc_new (w.alloc (.cells #[.int .i64 n, .int .i64 d] 60)) (.cells #[.int .i64 n, .int .i64 d] 61))
  rw [show (w.alloc (.cells #[.int .i64 n, .int .i64 d] 60)).heap.size = w.heap.size + 1 by simp] at HH
  obtain ⟨hc0, hc1⟩ := cells_of HH
  go_enter Try.func45, Try.ntmps45
  go_wp2_with fail
  exact bodyPost_ret (v := .agg #[.int .i64 n, .int .i64 d]) (by simp [results, Try.results45, go_sem, hc0, hc1]) rfl ⟨rfl, X3.out⟩

set_option maxHeartbeats 1600000 in
theorem eqFraction_calls (n d : Int) (w : World) :
    Calls Try.prog 47 #[.agg #[.int .i64 n, .int .i64 d], .agg #[.int .i64 n, .int .i64 d]] w fun e w' => e = .returned (.bool true) ∧ Ext w w' := by
  have X2 := Lib.hid (((Ext.refl w).alloc (.cells #[.int .i64 n, .int .i64 d] 61)).alloc (.cells #[.int .i64 n, .int .i64 d] 61))
  go_enter Try.func47, Try.ntmps47
  go_wp2_with fail
  go_ret
  exact ⟨rfl, X2.out⟩

set_option maxHeartbeats 3200000 in
set_option maxRecDepth 100000 in
theorem walk_FnExactValueOf (s t : ByteArray) (hs : s.size ≤ maxLen) (ht : t.size ≤ maxLen) (n d : Int) (w : World) :
    Calls Try.prog 12 #[.agg #[.string s, .string t], .agg #[.int .i64 n, .int .i64 d]] w fun e w' => e = .returned (.bool true) ∧ Ext w w' := by
  obtain ⟨x, y, b, C1, C2⟩ := both_ValueOf s t n d
  have C3 := Lib.hid (fun w => szPair_calls s t 1048576 (by omega) hs ht w)
  have C4 := fun w => toPair_calls s t w
  have C5 := fun w => toFraction_calls n d w
  have X0 := Lib.hid (((Ext.refl w).alloc (.cells #[.string s, .string t] 33)).alloc (.cells #[.int .i64 n, .int .i64 d] 60))
  have c0 : ((w.alloc (.cells #[.string s, .string t] 33)).alloc (.cells #[.int .i64 n, .int .i64 d] 60)).cell? ⟨w.heap.size, 0, none⟩ = some (.string s) := by go_simp
  have c1 : ((w.alloc (.cells #[.string s, .string t] 33)).alloc (.cells #[.int .i64 n, .int .i64 d] 60)).cell? ⟨w.heap.size, 1, none⟩ = some (.string t) := by go_simp
  have c2 : ((w.alloc (.cells #[.string s, .string t] 33)).alloc (.cells #[.int .i64 n, .int .i64 d] 60)).cell? ⟨w.heap.size + 1, 0, none⟩ = some (.int .i64 n) := by go_simp
  have c3 : ((w.alloc (.cells #[.string s, .string t] 33)).alloc (.cells #[.int .i64 n, .int .i64 d] 60)).cell? ⟨w.heap.size + 1, 1, none⟩ = some (.int .i64 d) := by go_simp
  clear hs ht
  go_enter Try.func12, Try.ntmps12
  go_wp2_with fail
  generalize (w.alloc (.cells #[.string s, .string t] 33)).alloc (.cells #[.int .i64 n, .int .i64 d] 60) = W at *
  refine (C3.out _).mono ?_
  rintro e w1 ⟨r, rfl, hr, x1⟩
  have c0 := x1.cell c0
  have c1 := x1.cell c1
  have c2 := x1.cell c2
  have c3 := x1.cell c3
  have X2 := Lib.hid (X0.out.trans x1)
  clear x1 hr
  by_cases hr0 : r < 0
  · go_wp2_with fail
    go_ret
    exact ⟨rfl, X2.out⟩
  · go_wp2_with fail
    have KX : ∀ w', Ext w1 w' → w'.cell? ⟨w.heap.size, 0, none⟩ = some (.string s) ∧ w'.cell? ⟨w.heap.size, 1, none⟩ = some (.string t) ∧ w'.cell? ⟨w.heap.size + 1, 0, none⟩ = some (.int .i64 n) ∧ w'.cell? ⟨w.heap.size + 1, 1, none⟩ = some (.int .i64 d) := fun w' h => ⟨h.cell c0, h.cell c1, h.cell c2, h.cell c3⟩
    go_cut [6, 7] from 15 to 22 (fun a d wx => ∃ g, a = .pointer (some ⟨g, 0, none⟩) ∧ d = .bool b ∧ wx.cell? ⟨g, 0, none⟩ = some (.int .i64 x) ∧ wx.cell? ⟨g, 1, none⟩ = some (.int .i64 y) ∧ Ext w1 wx)
    case first =>
      go_region_held3 (fun w' => w'.cell? ⟨w.heap.size, 0, none⟩ = some (.string s) ∧ w'.cell? ⟨w.heap.size, 1, none⟩ = some (.string t) ∧ w'.cell? ⟨w.heap.size + 1, 0, none⟩ = some (.int .i64 n) ∧ w'.cell? ⟨w.heap.size + 1, 1, none⟩ = some (.int .i64 d))
        (first | exact KX _ (Ext.refl _).drew | exact KX _ ((Ext.refl _).alloc _).drew | exact KX _ ((Ext.refl _).drew.alloc _) | exact KX _ x3 | exact KX _ (x3.alloc _) | exact KX _ x4 | exact KX _ (x4.alloc _) | exact KX _ x5 | exact KX _ (x5.alloc _) | exact KX _ (x5.set2 hg (.int .i64 x) (.int .i64 y)) | fail)
        (first
          | (go_at_call 44; refine (C1 _).mono ?_; rintro e w5 ⟨rfl, hx5⟩; (first | (with_reducible have x5 := x4.trans hx5; (first | (with_reducible have TW5 := TW.ext hx5; obtain ⟨u, v, k0, k1, f0, f1⟩ := TW5.facts) | skip)) | (have TW5 := (Two.new w4 (.int .i64 0) (.int .i64 0) 61 rfl).ext hx5; have hg := Ext.heap x4; have x5 := (x4.alloc _).trans hx5; obtain ⟨u, v, k0, k1, f0, f1⟩ := TW5.facts)))
          | (go_at_call 25; with_reducible refine (C4 _).mono ?_; rintro e w3 ⟨rfl, hx3⟩; first | (with_reducible have x3 := (Ext.refl w1).drew.trans hx3) | (have TW := ((Two.new w1 (.int .i64 0) (.int .i64 0) 61 rfl).ext (Ext.refl _).drew).ext hx3; have hg := Nat.le_refl w1.heap.size; have x3 := ((Ext.refl w1).alloc _).drew.trans hx3))
          | (go_at_call 45; with_reducible refine (C5 _).mono ?_; rintro e w4 ⟨rfl, hx4⟩; first | (with_reducible have x4 := x3.trans hx4; (first | (with_reducible have TW := TW.ext hx4) | skip)) | (have TW := (Two.new w3 (.int .i64 0) (.int .i64 0) 61 rfl).ext hx4; have hg := Ext.heap x3; have x4 := (x3.alloc _).trans hx4))
          | fail)
      all_goals
        go_wp2_with fail
        go_meet
        first
          | exact ⟨_, rfl, rfl, (cells_of (heap_alloc_new w5 _)).1, (cells_of (heap_alloc_new w5 _)).2, x5.alloc _⟩
          | exact ⟨_, rfl, rfl, (cells_of (set2_heap TW5 (.int .i64 x) (.int .i64 y))).1, (cells_of (set2_heap TW5 (.int .i64 x) (.int .i64 y))).2, x5.set2 hg (.int .i64 x) (.int .i64 y)⟩
    case rest =>
      obtain ⟨g, rfl, rfl, d0, d1, XA⟩ := hcut
      have c0 := XA.cell c0
      have c1 := XA.cell c1
      have c2 := XA.cell c2
      have c3 := XA.cell c3
      have X3 := Lib.hid (X2.out.trans XA)
      clear XA KX
      generalize wc = wd at *
      go_wp2_with fail
      have KX : ∀ w', Ext wd w' → w'.cell? ⟨w.heap.size, 0, none⟩ = some (.string s) ∧ w'.cell? ⟨w.heap.size, 1, none⟩ = some (.string t) ∧ w'.cell? ⟨w.heap.size + 1, 0, none⟩ = some (.int .i64 n) ∧ w'.cell? ⟨w.heap.size + 1, 1, none⟩ = some (.int .i64 d) := fun w' h => ⟨h.cell c0, h.cell c1, h.cell c2, h.cell c3⟩
      go_cut [8, 9] from 23 to 30 (fun a d wx => ∃ g, a = .pointer (some ⟨g, 0, none⟩) ∧ d = .bool b ∧ wx.cell? ⟨g, 0, none⟩ = some (.int .i64 x) ∧ wx.cell? ⟨g, 1, none⟩ = some (.int .i64 y) ∧ Ext wd wx)
      case first =>
        go_region_held3 (fun w' => w'.cell? ⟨w.heap.size, 0, none⟩ = some (.string s) ∧ w'.cell? ⟨w.heap.size, 1, none⟩ = some (.string t) ∧ w'.cell? ⟨w.heap.size + 1, 0, none⟩ = some (.int .i64 n) ∧ w'.cell? ⟨w.heap.size + 1, 1, none⟩ = some (.int .i64 d))
          (first | exact KX _ (Ext.refl _).drew | exact KX _ ((Ext.refl _).alloc _).drew | exact KX _ ((Ext.refl _).drew.alloc _) | exact KX _ x3 | exact KX _ (x3.alloc _) | exact KX _ x4 | exact KX _ (x4.alloc _) | exact KX _ x5 | exact KX _ (x5.alloc _) | exact KX _ (x5.set2 hg (.int .i64 x) (.int .i64 y)) | fail)
          (first
            | (go_at_call 46; refine (C2 _).mono ?_; rintro e w5 ⟨rfl, hx5⟩; (first | (with_reducible have x5 := x4.trans hx5; (first | (with_reducible have TW5 := TW.ext hx5; obtain ⟨u, v, k0, k1, f0, f1⟩ := TW5.facts) | skip)) | (have TW5 := (Two.new w4 (.int .i64 0) (.int .i64 0) 61 rfl).ext hx5; have hg := Ext.heap x4; have x5 := (x4.alloc _).trans hx5; obtain ⟨u, v, k0, k1, f0, f1⟩ := TW5.facts)))
            | (go_at_call 25; with_reducible refine (C4 _).mono ?_; rintro e w3 ⟨rfl, hx3⟩; first | (with_reducible have x3 := (Ext.refl wd).drew.trans hx3) | (have TW := ((Two.new wd (.int .i64 0) (.int .i64 0) 61 rfl).ext (Ext.refl _).drew).ext hx3; have hg := Nat.le_refl wd.heap.size; have x3 := ((Ext.refl wd).alloc _).drew.trans hx3))
            | (go_at_call 45; with_reducible refine (C5 _).mono ?_; rintro e w4 ⟨rfl, hx4⟩; first | (with_reducible have x4 := x3.trans hx4; (first | (with_reducible have TW := TW.ext hx4) | skip)) | (have TW := (Two.new w3 (.int .i64 0) (.int .i64 0) 61 rfl).ext hx4; have hg := Ext.heap x3; have x4 := (x3.alloc _).trans hx4))
            | fail)
        all_goals
          go_wp2_with fail
          go_meet
          first
            | exact ⟨_, rfl, rfl, (cells_of (heap_alloc_new w5 _)).1, (cells_of (heap_alloc_new w5 _)).2, x5.alloc _⟩
            | exact ⟨_, rfl, rfl, (cells_of (set2_heap TW5 (.int .i64 x) (.int .i64 y))).1, (cells_of (set2_heap TW5 (.int .i64 x) (.int .i64 y))).2, x5.set2 hg (.int .i64 x) (.int .i64 y)⟩
      case rest =>
        obtain ⟨h, rfl, rfl, f0, f1, XB⟩ := hcut
        have d0 := XB.cell d0
        have d1 := XB.cell d1
        have X4 := Lib.hid (X3.out.trans XB)
        clear XB KX
        go_wp2_with fail
        refine (eqFraction_calls x y _).mono ?_
        rintro e w6 ⟨rfl, x6⟩
        have X6 := Lib.hid (X4.out.trans x6)
        clear x6
        cases b
        all_goals
          go_wp2_with fail
          go_ret
          exact ⟨rfl, X6.out⟩
end Go.Proofs.Ytfkjjmmoipcddaa.N
