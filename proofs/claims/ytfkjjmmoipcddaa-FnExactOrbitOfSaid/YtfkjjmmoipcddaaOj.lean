import Derived.Test.YtfkjjmmoipcddaaBa
import Derived.Test.YtfkjjmmoipcddaaPu
import Derived.Test.YtfkjjmmoipcddaaSl
import Derived.Test.YtfkjjmmoipcddaaProg
import Derived.Test.YtfkjjmmoipcddaaTn
import Derived.Test.YtfkjjmmoipcddaaTs
import Derived.Test.YtfkjjmmoipcddaaPh
import Derived.Test.YtfkjjmmoipcddaaWl
import Derived.Test.YtfkjjmmoipcddaaT3
import Derived.Test.YtfkjjmmoipcddaaTp
import Derived.Test.YtfkjjmmoipcddaaTr
import Derived.Test.YtfkjjmmoipcddaaTu
import Derived.Test.YtfkjjmmoipcddaaTj
import Derived.Test.YtfkjjmmoipcddaaTk
import Derived.Test.YtfkjjmmoipcddaaVt
import Derived.Test.YtfkjjmmoipcddaaRh
import Derived.Test.YtfkjjmmoipcddaaSx
import Derived.Test.YtfkjjmmoipcddaaSy
import Derived.Test.YtfkjjmmoipcddaaWp
import Derived.Test.YtfkjjmmoipcddaaWq
import Derived.Test.YtfkjjmmoipcddaaFa
import Derived.Test.YtfkjjmmoipcddaaFb
import Derived.Test.YtfkjjmmoipcddaaFc
import Derived.Test.YtfkjjmmoipcddaaPf
import Derived.Test.YtfkjjmmoipcddaaFd
import Derived.Test.YtfkjjmmoipcddaaFe
import Derived.Test.YtfkjjmmoipcddaaFf
import Derived.Test.YtfkjjmmoipcddaaFg
import Derived.Test.YtfkjjmmoipcddaaFh
import Derived.Test.YtfkjjmmoipcddaaFi
import Derived.Test.YtfkjjmmoipcddaaFj
import Derived.Test.YtfkjjmmoipcddaaSf
import Derived.Test.YtfkjjmmoipcddaaOg
import Derived.Test.YtfkjjmmoipcddaaOh
import Derived.Test.YtfkjjmmoipcddaaOi
import Derived.Deep.LoopGhost
import Derived.Deep.RegionHeld3
import Derived.Deep.QuietTactic
import Derived.Deep.CutRange
import Derived.StillTailTactics
/- OrbitOf: the law. -/
namespace Go.Proofs.Ytfkjjmmoipcddaa.N
open Go.RowKit
set_option linter.unusedVariables false
set_option linter.unusedSimpArgs false

theorem orbT_length (A B : Tr) (x : Nat × Nat) (n : Nat) : ((orbT A B x n).getD []).length ≤ n + 1 := by
  unfold orbT
  split <;> simp
theorem both_OO (s t : ByteArray) (n d m : Int) : ∃ (xs : List (Nat × Nat)) (b : Bool), xs.length < 100 ∧ (∀ w, Calls Try.prog 48 #[.agg #[.string s, .string t], .agg #[.int .i64 n, .int .i64 d], .int .i64 m] w fun e w' => ∃ v, e = .returned (.tuple #[v, .bool b]) ∧ w'.ownsRow w.heap.size 61 2 v xs.length (frs xs) ∧ Ext w w') ∧ (∀ w, Calls Try.prog 49 #[.agg #[.string s, .string t], .agg #[.int .i64 n, .int .i64 d], .int .i64 m] w fun e w' => ∃ v, e = .returned (.tuple #[v, .bool b]) ∧ w'.ownsRow w.heap.size 61 2 v xs.length (frs xs) ∧ Ext w w') := by
  by_cases h : Good s t ∧ goodB n d = true ∧ 0 ≤ m ∧ m ≤ 20
  · obtain ⟨⟨A, B, rfl, rfl, h1, h2⟩, h3, h4, h5⟩ := h
    obtain ⟨k, rfl⟩ : ∃ k : Nat, m = k := ⟨m.toNat, by omega⟩
    obtain ⟨a, j, rfl, rfl, _, _, _⟩ := goodB_true h3
    have hl := orbT_length A B (a, 2 ^ j) k
    exact ⟨(orbT A B (a, 2 ^ j) k).getD [], (orbT A B (a, 2 ^ j) k).isSome, by omega, fun w => specOO_yes A B h1 h2 (a, 2 ^ j) h3 k (by omega) w, fun w => implOO_yes A B h1 h2 (a, 2 ^ j) h3 k (by omega) w⟩
  · exact ⟨[], false, by simp, fun w => specOO_no s t n d m h w, fun w => implOO_no s t n d m h w⟩
set_option maxHeartbeats 6400000 in
set_option maxRecDepth 100000 in
theorem walk_FnExactOrbitOf (s t : ByteArray) (hs : s.size ≤ maxLen) (ht : t.size ≤ maxLen) (n d m : Int) (hm : (Lit.int IntKind.i64 m).wf = true) (w : World) :
    Calls Try.prog 13 #[.agg #[.string s, .string t], .agg #[.int .i64 n, .int .i64 d], .int .i64 m] w fun e w' => e = .returned (.bool true) ∧ Ext w w' := by
  obtain ⟨xs, b, LN, C1, C2⟩ := both_OO s t n d m
  have LN := Lib.hid LN
  have C3 := Lib.hid (fun w => szPair_calls s t 1048576 (by omega) hs ht w)
  have C4 := fun w => toPair_calls s t w
  have C5 := fun w => toFraction_calls n d w
  obtain ⟨X0, b3, b4⟩ := boxPF w (.string s) (.string t) (.int .i64 n) (.int .i64 d) 33 60
  have X0 := Lib.hid X0
  obtain ⟨c0, c1⟩ := cells_of b3
  obtain ⟨c2, c3⟩ := cells_of b4
  clear hs ht hm b3 b4
  go_enter Try.func13, Try.ntmps13
  go_wp2_with fail
  generalize (w.alloc (.cells #[.string s, .string t] 33)).alloc (.cells #[.int .i64 n, .int .i64 d] 60) = W at *
  refine (C3.out _).mono ?_
  rintro e w1 ⟨r, rfl, hr, x1⟩
  have c0 := x1.cell c0
  have c1 := x1.cell c1
  have c2 := x1.cell c2
  have c3 := x1.cell c3
  have X2 := Lib.hid (X0.out.trans x1)
  clear x1 hr
  by_cases hr0 : r < 0
  · go_wp2_with fail
    go_ret
    exact ⟨rfl, X2.out⟩
  go_wp2_with fail
  have KX : ∀ w', Ext w1 w' → w'.cell? ⟨w.heap.size, 0, none⟩ = some (.string s) ∧ w'.cell? ⟨w.heap.size, 1, none⟩ = some (.string t) ∧ w'.cell? ⟨w.heap.size + 1, 0, none⟩ = some (.int .i64 n) ∧ w'.cell? ⟨w.heap.size + 1, 1, none⟩ = some (.int .i64 d) := fun w' h => ⟨h.cell c0, h.cell c1, h.cell c2, h.cell c3⟩
  go_region_held3 (fun w' => w'.cell? ⟨w.heap.size, 0, none⟩ = some (.string s) ∧ w'.cell? ⟨w.heap.size, 1, none⟩ = some (.string t) ∧ w'.cell? ⟨w.heap.size + 1, 0, none⟩ = some (.int .i64 n) ∧ w'.cell? ⟨w.heap.size + 1, 1, none⟩ = some (.int .i64 d))
    (first | exact KX _ (Ext.refl _).drew | exact KX _ x3 | exact KX _ x4 | exact KX _ x5 | fail)
    (first
      | (go_at_call 48; refine (C1 _).mono ?_; rintro e w6 ⟨v1, rfl, o1, hx5⟩; have x5 := x4.trans hx5)
      | (go_at_call 25; refine (C4 _).mono ?_; rintro e w3 ⟨rfl, hx3⟩; have x3 := (Ext.refl w1).drew.trans hx3)
      | (go_at_call 45; refine (C5 _).mono ?_; rintro e w4 ⟨rfl, hx4⟩; have x4 := x3.trans hx4)
      | fail)
  have c0 := x5.cell c0
  have c1 := x5.cell c1
  have c2 := x5.cell c2
  have c3 := x5.cell c3
  have X3 := Lib.hid (X2.out.trans x5)
  have O1 := Lib.hid o1
  have e0 := c0
  have e1 := c1
  have e2 := c2
  have e3 := c3
  clear x3 x4 x5 hx3 hx4 hx5 KX o1
  go_wp2_with fail
  have KX : ∀ w', Ext w6 w' → w'.cell? ⟨w.heap.size, 0, none⟩ = some (.string s) ∧ w'.cell? ⟨w.heap.size, 1, none⟩ = some (.string t) ∧ w'.cell? ⟨w.heap.size + 1, 0, none⟩ = some (.int .i64 n) ∧ w'.cell? ⟨w.heap.size + 1, 1, none⟩ = some (.int .i64 d) := fun w' h => ⟨h.cell c0, h.cell c1, h.cell c2, h.cell c3⟩
  go_region_held3 (fun w' => w'.cell? ⟨w.heap.size, 0, none⟩ = some (.string s) ∧ w'.cell? ⟨w.heap.size, 1, none⟩ = some (.string t) ∧ w'.cell? ⟨w.heap.size + 1, 0, none⟩ = some (.int .i64 n) ∧ w'.cell? ⟨w.heap.size + 1, 1, none⟩ = some (.int .i64 d))
    (first | exact KX _ (Ext.refl _).drew | exact KX _ x3 | exact KX _ x4 | exact KX _ x5 | fail)
    (first
      | (go_at_call 49; refine (C2 _).mono ?_; rintro e w7 ⟨v2, rfl, o2, hx5⟩; have x5 := x4.trans hx5)
      | (go_at_call 25; refine (C4 _).mono ?_; rintro e w3 ⟨rfl, hx3⟩; have x3 := (Ext.refl w6).drew.trans hx3)
      | (go_at_call 45; refine (C5 _).mono ?_; rintro e w4 ⟨rfl, hx4⟩; have x4 := x3.trans hx4)
      | fail)
  have c0 := x5.cell c0
  have c1 := x5.cell c1
  have c2 := x5.cell c2
  have c3 := x5.cell c3
  have X67 := Lib.hid x5
  have O2 := Lib.hid (row_mono o2 x4.size)
  clear x3 x4 x5 hx3 hx4 hx5 KX o2
  cases b
  all_goals
    go_wp2_with fail
    refine (eqFractionS_calls xs (by have := LN.out; omega) _ _ v2 v1 _ O2.out (row_ext O1.out X67.out)).mono ?_
    rintro e w8 ⟨rfl, x8⟩
    go_wp2_with fail
    refine (markFractionS_calls w6.heap.size xs.length (frs xs) 1 (by omega) (by have := LN.out; omega) v2 _ (row_ext O2.out x8)).mono ?_
    rintro e w9 ⟨rfl, o4, g4⟩
    obtain ⟨q, hq⟩ : ∃ q : Int, ((1 + 2 * xs.length : Nat) : Int) = q := ⟨_, rfl⟩
    have p5 : (0 : Int) ≤ q := by omega
    have HQ := Lib.hid hq
    rw [hq]
    clear hq
    have X69 := Lib.hid ((X67.out.trans x8).grown g4 (fun k hk => (O2.out.lt k hk).1))
    have R1 := Lib.hid (row_ext O1.out X69.out)
    have O4 := Lib.hid o4
    clear o4 g4 x8
    go_wp2_with fail
    refine (heldFractionS_calls _ xs.length 1 (by omega) (by have := LN.out; omega) v2 _ O4.out).mono ?_
    rintro e w10 ⟨rfl, x10⟩
    have X610 := Lib.hid (X69.out.trans x10)
    have R1 := Lib.hid (row_ext R1.out x10)
    have O4 := Lib.hid (row_ext O4.out x10)
    have c0 := X610.out.cell e0
    have c1 := X610.out.cell e1
    have c2 := X610.out.cell e2
    have c3 := X610.out.cell e3
    clear x10
    rw [HQ.out]
    go_wp2_with fail
    have KX : ∀ w', Ext w10 w' → w'.cell? ⟨w.heap.size, 0, none⟩ = some (.string s) ∧ w'.cell? ⟨w.heap.size, 1, none⟩ = some (.string t) ∧ w'.cell? ⟨w.heap.size + 1, 0, none⟩ = some (.int .i64 n) ∧ w'.cell? ⟨w.heap.size + 1, 1, none⟩ = some (.int .i64 d) := fun w' h => ⟨h.cell c0, h.cell c1, h.cell c2, h.cell c3⟩
    go_region_held3 (fun w' => w'.cell? ⟨w.heap.size, 0, none⟩ = some (.string s) ∧ w'.cell? ⟨w.heap.size, 1, none⟩ = some (.string t) ∧ w'.cell? ⟨w.heap.size + 1, 0, none⟩ = some (.int .i64 n) ∧ w'.cell? ⟨w.heap.size + 1, 1, none⟩ = some (.int .i64 d))
      (first | exact KX _ (Ext.refl _).drew | exact KX _ x3 | exact KX _ x4 | exact KX _ x5 | fail)
      (first
        | (go_at_call 49; refine (C2 _).mono ?_; rintro e w11 ⟨v6, rfl, o6, hx5⟩; have x5 := x4.trans hx5)
        | (go_at_call 25; refine (C4 _).mono ?_; rintro e w3 ⟨rfl, hx3⟩; have x3 := (Ext.refl w10).drew.trans hx3)
        | (go_at_call 45; refine (C5 _).mono ?_; rintro e w4 ⟨rfl, hx4⟩; have x4 := x3.trans hx4)
        | fail)
    have c0 := x5.cell c0
    have c1 := x5.cell c1
    have c2 := x5.cell c2
    have c3 := x5.cell c3
    have R1 := Lib.hid (row_ext R1.out x5)
    have O4 := Lib.hid (row_ext O4.out x5)
    have O6 := Lib.hid o6
    have X611 := Lib.hid (X610.out.trans x5)
    clear x3 x4 x5 hx3 hx4 hx5 KX o6
    go_wp2_with fail
    refine (eqFractionS_calls xs (by have := LN.out; omega) _ _ v6 v1 _ O6.out R1.out).mono ?_
    rintro e w12 ⟨rfl, x12⟩
    have O4 := Lib.hid (row_ext O4.out x12)
    have X612 := Lib.hid (X611.out.trans x12)
    clear x12
    go_wp2_with fail
    refine (heldFractionS_calls _ xs.length 1 (by omega) (by have := LN.out; omega) v2 _ O4.out).mono ?_
    rintro e w13 ⟨rfl, x13⟩
    have X13 := Lib.hid ((X3.out.trans X612.out).trans x13)
    clear x13
    rw [HQ.out]
    go_wp2_with fail
    go_ret
    exact ⟨rfl, X13.out⟩
end Go.Proofs.Ytfkjjmmoipcddaa.N
