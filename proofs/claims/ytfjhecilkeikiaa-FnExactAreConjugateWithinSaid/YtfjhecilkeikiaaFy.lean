import Derived.Test.YtfjhecilkeikiaaBa
import Derived.Test.YtfjhecilkeikiaaPu
import Derived.Test.YtfjhecilkeikiaaSl
import Derived.Test.YtfjhecilkeikiaaProg
import Derived.Test.YtfjhecilkeikiaaTn
import Derived.Test.YtfjhecilkeikiaaTs
import Derived.Test.YtfjhecilkeikiaaPp
import Derived.Test.YtfjhecilkeikiaaPg
import Derived.Test.YtfjhecilkeikiaaPh
import Derived.Test.YtfjhecilkeikiaaWl
import Derived.Test.YtfjhecilkeikiaaWt
import Derived.Test.YtfjhecilkeikiaaTp
import Derived.Test.YtfjhecilkeikiaaTr
import Derived.Test.YtfjhecilkeikiaaTu
import Derived.Test.YtfjhecilkeikiaaTv
import Derived.Test.YtfjhecilkeikiaaTw
import Derived.Test.YtfjhecilkeikiaaTg
import Derived.Test.YtfjhecilkeikiaaSx
import Derived.Test.YtfjhecilkeikiaaSy
import Derived.Test.YtfjhecilkeikiaaSz
import Derived.Test.YtfjhecilkeikiaaSw
import Derived.Test.YtfjhecilkeikiaaSg
import Derived.Test.YtfjhecilkeikiaaSj
import Derived.Test.YtfjhecilkeikiaaTk
import Derived.Test.YtfjhecilkeikiaaCl
import Derived.Test.YtfjhecilkeikiaaCw
import Derived.Test.YtfjhecilkeikiaaCx
import Derived.Test.YtfjhecilkeikiaaWp
import Derived.Test.YtfjhecilkeikiaaWq
import Derived.Test.YtfjhecilkeikiaaVt
import Derived.Test.YtfjhecilkeikiaaAc
import Derived.Test.YtfjhecilkeikiaaAw
import Derived.Test.YtfjhecilkeikiaaRw
import Derived.Test.YtfjhecilkeikiaaPn
import Derived.Test.YtfjhecilkeikiaaPt
import Derived.Test.YtfjhecilkeikiaaLc
import Derived.Test.YtfjhecilkeikiaaCz
import Derived.Test.YtfjhecilkeikiaaCy
import Derived.Test.YtfjhecilkeikiaaLe
import Derived.Test.YtfjhecilkeikiaaFu
import Derived.Test.YtfjhecilkeikiaaFv
import Derived.Test.YtfjhecilkeikiaaFx
import Derived.Deep.LoopGhost
import Derived.Deep.RegionHeld3
import Derived.Deep.QuietTactic
import Derived.StillTailTactics
import Derived.BigQuiet
import Derived.Deep.CutRange
/- FindConjugator and AreConjugateWithin: the reference's, and the laws. -/
namespace Go.Proofs.Ytfjhecilkeikiaa.N
open Go.RowKit
set_option linter.unusedVariables false
set_option linter.unusedSimpArgs false

set_option maxHeartbeats 3200000 in
set_option maxRecDepth 100000 in
theorem specFC_yes (A B C D : Tr) (hc : A.carets = B.carets) (hB : B.carets ≤ 8) (hd : C.carets = D.carets) (hD : D.carets ≤ 8) (n : Nat) (hn : n ≤ 4) (w : World) :
    Calls Try.prog 11 #[.agg #[.string (tx A), .string (tx B)], .agg #[.string (tx C), .string (tx D)], .int .i64 n] w fun e w' => ∃ v, e = .returned (.tuple #[v, .bool (foundF (conjugR (A, B) (ptx (red (C, D))) 0 (n + 1)))]) ∧ FoundV w' w.heap.size v (conjugR (A, B) (ptx (red (C, D))) 0 (n + 1)) ∧ Ext w w' := by
  obtain ⟨X2, c0, c1, c2, c3⟩ := boxes4 w (.string (tx A)) (.string (tx B)) (.string (tx C)) (.string (tx D)) 28
  have X2 := Lib.hid X2
  have C1 := Lib.hid (fun W => cjAsked_calls (tx A) (tx B) (tx C) (tx D) n W)
  have HB : Hid (∀ b : Bool, (b = true ↔ (Good (tx A) (tx B) ∧ Good (tx C) (tx D)) ∧ (0 : Int) ≤ n ∧ (n : Int) ≤ 4) → b = true) := fun b h => h.2 ⟨⟨⟨A, B, rfl, rfl, hc, hB⟩, ⟨C, D, rfl, rfl, hd, hD⟩⟩, by omega, by omega⟩
  have C2 := Lib.hid (fun W => cjFind_calls A B C D hc hB hd hD n hn W)
  generalize conjugR (A, B) (ptx (red (C, D))) 0 (n + 1) = R at *
  clear hc hB hd hD hn
  go_enter Try.func11, Try.ntmps11
  go_wp2_with fail
  generalize (w.alloc (.cells #[.string (tx A), .string (tx B)] 28)).alloc (.cells #[.string (tx C), .string (tx D)] 28) = W at *
  refine (C1.out _).mono ?_
  rintro e w1 ⟨b, rfl, hb, x1⟩
  obtain rfl := HB.out b hb.out
  have X1 := Lib.hid (X2.out.trans x1)
  have c0 := x1.cell c0
  have c1 := x1.cell c1
  have c2 := x1.cell c2
  have c3 := x1.cell c3
  clear x1 hb
  go_wp2_with fail
  refine (C2.out _).mono ?_
  rintro e w2 ⟨v, rfl, fv, x2⟩
  have F := Lib.hid (fv.mono X1.out.size)
  have X3 := Lib.hid (X1.out.trans x2)
  clear fv x2
  go_wp2_with fail
  go_ret2
  exact ⟨_, rfl, F.out, X3.out⟩
set_option maxHeartbeats 3200000 in
set_option maxRecDepth 100000 in
theorem specFC_no (s1 t1 s2 t2 : ByteArray) (m : Int) (h : ¬ ((Good s1 t1 ∧ Good s2 t2) ∧ 0 ≤ m ∧ m ≤ 4)) (w : World) :
    Calls Try.prog 11 #[.agg #[.string s1, .string t1], .agg #[.string s2, .string t2], .int .i64 m] w fun e w' => ∃ v, e = .returned (.tuple #[v, .bool (foundF none)]) ∧ FoundV w' w.heap.size v none ∧ Ext w w' := by
  obtain ⟨X2, c0, c1, c2, c3⟩ := boxes4 w (.string s1) (.string t1) (.string s2) (.string t2) 28
  have X2 := Lib.hid X2
  have C1 := Lib.hid (fun W => cjAsked_calls s1 t1 s2 t2 m W)
  have HB : Hid (∀ b : Bool, (b = true ↔ (Good s1 t1 ∧ Good s2 t2) ∧ 0 ≤ m ∧ m ≤ 4) → b = false) := fun b hb => by
    cases b with
    | false => rfl
    | true => exact absurd (hb.1 rfl) h
  clear h
  go_enter Try.func11, Try.ntmps11
  go_wp2_with fail
  generalize (w.alloc (.cells #[.string s1, .string t1] 28)).alloc (.cells #[.string s2, .string t2] 28) = W at *
  refine (C1.out _).mono ?_
  rintro e w1 ⟨b, rfl, hb, x1⟩
  obtain rfl := HB.out b hb.out
  have X1 := Lib.hid (X2.out.trans x1)
  clear x1 hb
  go_wp2_with fail
  go_ret2
  exact ⟨_, rfl, rfl, X1.out⟩

set_option maxHeartbeats 3200000 in
set_option maxRecDepth 100000 in
theorem specAC_yes (A B C D : Tr) (hc : A.carets = B.carets) (hB : B.carets ≤ 8) (hd : C.carets = D.carets) (hD : D.carets ≤ 8) (n : Nat) (hn : n ≤ 4) (w : World) :
    Calls Try.prog 17 #[.agg #[.string (tx A), .string (tx B)], .agg #[.string (tx C), .string (tx D)], .int .i64 n] w fun e w' => e = .returned (.tuple #[.bool (foundF (conjugR (A, B) (ptx (red (C, D))) 0 (n + 1))), .bool true]) ∧ Ext w w' := by
  obtain ⟨X2, c0, c1, c2, c3⟩ := boxes4 w (.string (tx A)) (.string (tx B)) (.string (tx C)) (.string (tx D)) 28
  have X2 := Lib.hid X2
  have C1 := Lib.hid (fun W => cjAsked_calls (tx A) (tx B) (tx C) (tx D) n W)
  have HB : Hid (∀ b : Bool, (b = true ↔ (Good (tx A) (tx B) ∧ Good (tx C) (tx D)) ∧ (0 : Int) ≤ n ∧ (n : Int) ≤ 4) → b = true) := fun b h => h.2 ⟨⟨⟨A, B, rfl, rfl, hc, hB⟩, ⟨C, D, rfl, rfl, hd, hD⟩⟩, by omega, by omega⟩
  have C2 := Lib.hid (fun W => cjFind_calls A B C D hc hB hd hD n hn W)
  generalize conjugR (A, B) (ptx (red (C, D))) 0 (n + 1) = R at *
  clear hc hB hd hD hn
  go_enter Try.func17, Try.ntmps17
  go_wp2_with fail
  generalize (w.alloc (.cells #[.string (tx A), .string (tx B)] 28)).alloc (.cells #[.string (tx C), .string (tx D)] 28) = W at *
  refine (C1.out _).mono ?_
  rintro e w1 ⟨b, rfl, hb, x1⟩
  obtain rfl := HB.out b hb.out
  have X1 := Lib.hid (X2.out.trans x1)
  have c0 := x1.cell c0
  have c1 := x1.cell c1
  have c2 := x1.cell c2
  have c3 := x1.cell c3
  clear x1 hb
  go_wp2_with fail
  refine (C2.out _).mono ?_
  rintro e w2 ⟨v, rfl, fv, x2⟩
  have F := Lib.hid (fv.mono X1.out.size)
  have X3 := Lib.hid (X1.out.trans x2)
  clear fv x2
  go_wp2_with fail
  go_ret2
  exact ⟨rfl, X3.out⟩
set_option maxHeartbeats 3200000 in
set_option maxRecDepth 100000 in
theorem specAC_no (s1 t1 s2 t2 : ByteArray) (m : Int) (h : ¬ ((Good s1 t1 ∧ Good s2 t2) ∧ 0 ≤ m ∧ m ≤ 4)) (w : World) :
    Calls Try.prog 17 #[.agg #[.string s1, .string t1], .agg #[.string s2, .string t2], .int .i64 m] w fun e w' => e = .returned (.tuple #[.bool false, .bool false]) ∧ Ext w w' := by
  obtain ⟨X2, c0, c1, c2, c3⟩ := boxes4 w (.string s1) (.string t1) (.string s2) (.string t2) 28
  have X2 := Lib.hid X2
  have C1 := Lib.hid (fun W => cjAsked_calls s1 t1 s2 t2 m W)
  have HB : Hid (∀ b : Bool, (b = true ↔ (Good s1 t1 ∧ Good s2 t2) ∧ 0 ≤ m ∧ m ≤ 4) → b = false) := fun b hb => by
    cases b with
    | false => rfl
    | true => exact absurd (hb.1 rfl) h
  clear h
  go_enter Try.func17, Try.ntmps17
  go_wp2_with fail
  generalize (w.alloc (.cells #[.string s1, .string t1] 28)).alloc (.cells #[.string s2, .string t2] 28) = W at *
  refine (C1.out _).mono ?_
  rintro e w1 ⟨b, rfl, hb, x1⟩
  obtain rfl := HB.out b hb.out
  have X1 := Lib.hid (X2.out.trans x1)
  clear x1 hb
  go_wp2_with fail
  go_ret2
  exact ⟨rfl, X1.out⟩

theorem both_AC (s1 t1 s2 t2 : ByteArray) (m : Int) : ∃ x y : Bool, (∀ w, Calls Try.prog 17 #[.agg #[.string s1, .string t1], .agg #[.string s2, .string t2], .int .i64 m] w fun e w' => e = .returned (.tuple #[.bool x, .bool y]) ∧ Ext w w') ∧ ∀ w, Calls Try.prog 18 #[.agg #[.string s1, .string t1], .agg #[.string s2, .string t2], .int .i64 m] w fun e w' => e = .returned (.tuple #[.bool x, .bool y]) ∧ Ext w w' := by
  by_cases h : (Good s1 t1 ∧ Good s2 t2) ∧ 0 ≤ m ∧ m ≤ 4
  · obtain ⟨⟨⟨A, B, rfl, rfl, h1, h2⟩, ⟨C, D, rfl, rfl, h3, h4⟩⟩, h5, h6⟩ := h
    obtain ⟨n, rfl⟩ : ∃ n : Nat, m = n := ⟨m.toNat, by omega⟩
    have e := conjug_eq (p := (A, B)) h1 (ptx (red (C, D))) (n + 1)
    refine ⟨_, _, fun w => specAC_yes A B C D h1 h2 h3 h4 n (by omega) w, fun w => ?_⟩
    unfold conjugR
    rw [← e]
    exact implAC_yes A B C D h1 h2 h3 h4 n (by omega) w
  · exact ⟨_, _, specAC_no s1 t1 s2 t2 m h, implAC_no s1 t1 s2 t2 m h⟩
set_option maxHeartbeats 3200000 in
set_option maxRecDepth 100000 in
theorem walk_FnExactAreConjugateWithin (s1 t1 : ByteArray) (hs1 : s1.size ≤ maxLen) (ht1 : t1.size ≤ maxLen) (s2 t2 : ByteArray) (hs2 : s2.size ≤ maxLen) (ht2 : t2.size ≤ maxLen) (m : Int) (hm : (Lit.int IntKind.i64 m).wf = true) (w : World) :
    Calls Try.prog 4 #[.agg #[.string s1, .string t1], .agg #[.string s2, .string t2], .int .i64 m] w fun e w' => e = .returned (.bool true) ∧ Ext w w' := by
  obtain ⟨x, y, C1, C2⟩ := both_AC s1 t1 s2 t2 m
  have C3 := Lib.hid (fun w => szPair_calls s1 t1 1048576 (by omega) hs1 ht1 w)
  have C3b := Lib.hid (fun n hn w => szPair_calls s2 t2 n hn hs2 ht2 w)
  have C4 := fun w => toPair_calls s1 t1 w
  have C5 := fun w => toPair_calls s2 t2 w
  have X0 := Lib.hid (((Ext.refl w).alloc (.cells #[.string s1, .string t1] 23)).alloc (.cells #[.string s2, .string t2] 23))
  obtain ⟨_, c0, c1, c2, c3⟩ := boxes4 w (.string s1) (.string t1) (.string s2) (.string t2) 23
  clear hs1 ht1 hs2 ht2 hm
  go_enter Try.func4, Try.ntmps4
  go_wp2_with fail
  generalize (w.alloc (.cells #[.string s1, .string t1] 23)).alloc (.cells #[.string s2, .string t2] 23) = W at *
  refine (C3.out _).mono ?_
  rintro e w1 ⟨r, rfl, hr, x1⟩
  have c0 := x1.cell c0
  have c1 := x1.cell c1
  have c2 := x1.cell c2
  have c3 := x1.cell c3
  have X1 := Lib.hid (X0.out.trans x1)
  have hr := Lib.hid hr.out
  clear x1
  by_cases hr0 : r < 0
  · go_wp2_with fail
    go_ret
    exact ⟨rfl, X1.out⟩
  go_wp2_with fail
  refine (C3b.out r ⟨by omega, hr.out.2.1⟩ _).mono ?_
  rintro e w2 ⟨r2, rfl, hr2, x2⟩
  have c0 := x2.cell c0
  have c1 := x2.cell c1
  have c2 := x2.cell c2
  have c3 := x2.cell c3
  have X2 := Lib.hid (X1.out.trans x2)
  clear x2 hr hr2
  by_cases hr1 : r2 < 0
  · go_wp2_with fail
    go_ret
    exact ⟨rfl, X2.out⟩
  go_wp2_with fail
  have KX : ∀ w', Ext w2 w' → w'.cell? ⟨w.heap.size, 0, none⟩ = some (.string s1) ∧ w'.cell? ⟨w.heap.size, 1, none⟩ = some (.string t1) ∧ w'.cell? ⟨w.heap.size + 1, 0, none⟩ = some (.string s2) ∧ w'.cell? ⟨w.heap.size + 1, 1, none⟩ = some (.string t2) := fun w' h => ⟨h.cell c0, h.cell c1, h.cell c2, h.cell c3⟩
  go_region_held3 (fun w' => w'.cell? ⟨w.heap.size, 0, none⟩ = some (.string s1) ∧ w'.cell? ⟨w.heap.size, 1, none⟩ = some (.string t1) ∧ w'.cell? ⟨w.heap.size + 1, 0, none⟩ = some (.string s2) ∧ w'.cell? ⟨w.heap.size + 1, 1, none⟩ = some (.string t2))
    (first | exact KX _ (Ext.refl _).drew | exact KX _ x3 | exact KX _ x4 | exact KX _ x5 | fail)
    (first
      | (go_at_call 17; refine (C1 _).mono ?_; rintro e w6 ⟨rfl, hx5⟩; have x5 := x4.trans hx5)
      | (go_at_call 12; (first | ((with_reducible refine (C4 _).mono ?_); rintro e w3 ⟨rfl, hx3⟩; have x3 := (Ext.refl w2).drew.trans hx3) | ((with_reducible refine (C5 _).mono ?_); rintro e w4 ⟨rfl, hx4⟩; have x4 := x3.trans hx4)))
      | fail)
  have c0 := x5.cell c0
  have c1 := x5.cell c1
  have c2 := x5.cell c2
  have c3 := x5.cell c3
  have X3 := Lib.hid (X2.out.trans x5)
  clear x3 x4 x5 hx3 hx4 hx5 KX
  go_wp2_with fail
  have KX : ∀ w', Ext w6 w' → w'.cell? ⟨w.heap.size, 0, none⟩ = some (.string s1) ∧ w'.cell? ⟨w.heap.size, 1, none⟩ = some (.string t1) ∧ w'.cell? ⟨w.heap.size + 1, 0, none⟩ = some (.string s2) ∧ w'.cell? ⟨w.heap.size + 1, 1, none⟩ = some (.string t2) := fun w' h => ⟨h.cell c0, h.cell c1, h.cell c2, h.cell c3⟩
  go_region_held3 (fun w' => w'.cell? ⟨w.heap.size, 0, none⟩ = some (.string s1) ∧ w'.cell? ⟨w.heap.size, 1, none⟩ = some (.string t1) ∧ w'.cell? ⟨w.heap.size + 1, 0, none⟩ = some (.string s2) ∧ w'.cell? ⟨w.heap.size + 1, 1, none⟩ = some (.string t2))
    (first | exact KX _ (Ext.refl _).drew | exact KX _ x3 | exact KX _ x4 | exact KX _ x5 | fail)
    (first
      | (go_at_call 18; refine (C2 _).mono ?_; rintro e w7 ⟨rfl, hx5⟩; have x5 := x4.trans hx5)
      | (go_at_call 12; (first | ((with_reducible refine (C4 _).mono ?_); rintro e w3 ⟨rfl, hx3⟩; have x3 := (Ext.refl w6).drew.trans hx3) | ((with_reducible refine (C5 _).mono ?_); rintro e w4 ⟨rfl, hx4⟩; have x4 := x3.trans hx4)))
      | fail)
  have c0 := x5.cell c0
  have c1 := x5.cell c1
  have c2 := x5.cell c2
  have c3 := x5.cell c3
  have X4 := Lib.hid (X3.out.trans x5)
  clear x3 x4 x5 hx3 hx4 hx5 KX
  cases x
  all_goals
    cases y
    all_goals
      go_wp2_with fail
      go_ret
      exact ⟨rfl, X4.out⟩

theorem conjugA_lts {p : Tr × Tr} {goal : ByteArray} {n k : Nat} {xs : List Int} (h : conjugA p goal n k = some xs) : xs.length < n + k := by
  obtain ⟨m, hm, hw⟩ := firstW_mem _ _ _ _ _ h
  rw [(((mem_allW m xs).1 hw).1)]; exact hm
theorem both_FC (s1 t1 s2 t2 : ByteArray) (m : Int) : ∃ (xs : List Int) (b : Bool), xs.length < 100 ∧ (∀ w, Calls Try.prog 11 #[.agg #[.string s1, .string t1], .agg #[.string s2, .string t2], .int .i64 m] w fun e w' => ∃ v, e = .returned (.tuple #[v, .bool b]) ∧ Own w' w.heap.size 3 v (ints xs) ∧ Ext w w') ∧ ∀ w, Calls Try.prog 13 #[.agg #[.string s1, .string t1], .agg #[.string s2, .string t2], .int .i64 m] w fun e w' => ∃ v, e = .returned (.tuple #[v, .bool b]) ∧ Own w' w.heap.size 3 v (ints xs) ∧ Ext w w' := by
  by_cases h : (Good s1 t1 ∧ Good s2 t2) ∧ 0 ≤ m ∧ m ≤ 4
  · obtain ⟨⟨⟨A, B, rfl, rfl, h1, h2⟩, ⟨C, D, rfl, rfl, h3, h4⟩⟩, h5, h6⟩ := h
    obtain ⟨n, rfl⟩ : ∃ n : Nat, m = n := ⟨m.toNat, by omega⟩
    have e := conjug_eq (p := (A, B)) h1 (ptx (red (C, D))) (n + 1)
    refine ⟨(conjugA (A, B) (ptx (red (C, D))) 0 (n + 1)).getD [], foundF (conjugA (A, B) (ptx (red (C, D))) 0 (n + 1)), ?_, fun w => (specFC_yes A B C D h1 h2 h3 h4 n (by omega) w).mono ?_, fun w => (implFC_yes A B C D h1 h2 h3 h4 n (by omega) w).mono ?_⟩
    · cases hr : conjugA (A, B) (ptx (red (C, D))) 0 (n + 1) with
      | none => simp
      | some xs => have := conjugA_lts hr; simp only [Option.getD_some]; omega
    · rintro e1 w' ⟨v, rfl, f, x⟩
      unfold conjugR at *
      rw [← e] at *
      exact ⟨v, rfl, f.own, x⟩
    · rintro e1 w' ⟨v, rfl, f, x⟩
      exact ⟨v, rfl, f.own, x⟩
  · refine ⟨[], false, by simp, fun w => (specFC_no s1 t1 s2 t2 m h w).mono ?_, fun w => (implFC_no s1 t1 s2 t2 m h w).mono ?_⟩
    · rintro e1 w' ⟨v, rfl, f, x⟩
      exact ⟨v, rfl, f.own, x⟩
    · rintro e1 w' ⟨v, rfl, f, x⟩
      exact ⟨v, rfl, f.own, x⟩
set_option maxHeartbeats 6400000 in
set_option maxRecDepth 100000 in
theorem walk_FnExactFindConjugator (s1 t1 : ByteArray) (hs1 : s1.size ≤ maxLen) (ht1 : t1.size ≤ maxLen) (s2 t2 : ByteArray) (hs2 : s2.size ≤ maxLen) (ht2 : t2.size ≤ maxLen) (m : Int) (hm : (Lit.int IntKind.i64 m).wf = true) (w : World) :
    Calls Try.prog 3 #[.agg #[.string s1, .string t1], .agg #[.string s2, .string t2], .int .i64 m] w fun e w' => e = .returned (.bool true) ∧ Ext w w' := by
  obtain ⟨xs, b, LN, C1, C2⟩ := both_FC s1 t1 s2 t2 m
  have LN := Lib.hid LN
  have C3 := Lib.hid (fun w => szPair_calls s1 t1 1048576 (by omega) hs1 ht1 w)
  have C3b := Lib.hid (fun n hn w => szPair_calls s2 t2 n hn hs2 ht2 w)
  have C4 := fun w => toPair_calls s1 t1 w
  have C5 := fun w => toPair_calls s2 t2 w
  have X0 := Lib.hid (((Ext.refl w).alloc (.cells #[.string s1, .string t1] 23)).alloc (.cells #[.string s2, .string t2] 23))
  obtain ⟨_, c0, c1, c2, c3⟩ := boxes4 w (.string s1) (.string t1) (.string s2) (.string t2) 23
  clear hs1 ht1 hs2 ht2 hm
  go_enter Try.func3, Try.ntmps3
  go_wp2_with fail
  generalize (w.alloc (.cells #[.string s1, .string t1] 23)).alloc (.cells #[.string s2, .string t2] 23) = W at *
  refine (C3.out _).mono ?_
  rintro e w1 ⟨r, rfl, hr, x1⟩
  have c0 := x1.cell c0
  have c1 := x1.cell c1
  have c2 := x1.cell c2
  have c3 := x1.cell c3
  have X1 := Lib.hid (X0.out.trans x1)
  have hr := Lib.hid hr.out
  clear x1
  by_cases hr0 : r < 0
  · go_wp2_with fail
    go_ret
    exact ⟨rfl, X1.out⟩
  go_wp2_with fail
  refine (C3b.out r ⟨by omega, hr.out.2.1⟩ _).mono ?_
  rintro e w2 ⟨r2, rfl, hr2, x2⟩
  have c0 := x2.cell c0
  have c1 := x2.cell c1
  have c2 := x2.cell c2
  have c3 := x2.cell c3
  have X2 := Lib.hid (X1.out.trans x2)
  clear x2 hr hr2
  by_cases hr1 : r2 < 0
  · go_wp2_with fail
    go_ret
    exact ⟨rfl, X2.out⟩
  go_wp2_with fail
  have KX : ∀ w', Ext w2 w' → w'.cell? ⟨w.heap.size, 0, none⟩ = some (.string s1) ∧ w'.cell? ⟨w.heap.size, 1, none⟩ = some (.string t1) ∧ w'.cell? ⟨w.heap.size + 1, 0, none⟩ = some (.string s2) ∧ w'.cell? ⟨w.heap.size + 1, 1, none⟩ = some (.string t2) := fun w' h => ⟨h.cell c0, h.cell c1, h.cell c2, h.cell c3⟩
  go_region_held3 (fun w' => w'.cell? ⟨w.heap.size, 0, none⟩ = some (.string s1) ∧ w'.cell? ⟨w.heap.size, 1, none⟩ = some (.string t1) ∧ w'.cell? ⟨w.heap.size + 1, 0, none⟩ = some (.string s2) ∧ w'.cell? ⟨w.heap.size + 1, 1, none⟩ = some (.string t2))
    (first | exact KX _ (Ext.refl _).drew | exact KX _ x3 | exact KX _ x4 | exact KX _ x5 | fail)
    (first
      | (go_at_call 11; refine (C1 _).mono ?_; rintro e w6 ⟨v1, rfl, o1, hx5⟩; have x5 := x4.trans hx5)
      | (go_at_call 12; (first | ((with_reducible refine (C4 _).mono ?_); rintro e w3 ⟨rfl, hx3⟩; have x3 := (Ext.refl w2).drew.trans hx3) | ((with_reducible refine (C5 _).mono ?_); rintro e w4 ⟨rfl, hx4⟩; have x4 := x3.trans hx4)))
      | fail)
  have c0 := x5.cell c0
  have c1 := x5.cell c1
  have c2 := x5.cell c2
  have c3 := x5.cell c3
  have X3 := Lib.hid (X2.out.trans x5)
  have O1 := Lib.hid o1
  have e0 := c0
  have e1 := c1
  have e2 := c2
  have e3 := c3
  clear x3 x4 x5 hx3 hx4 hx5 KX o1
  go_wp2_with fail
  have KX : ∀ w', Ext w6 w' → w'.cell? ⟨w.heap.size, 0, none⟩ = some (.string s1) ∧ w'.cell? ⟨w.heap.size, 1, none⟩ = some (.string t1) ∧ w'.cell? ⟨w.heap.size + 1, 0, none⟩ = some (.string s2) ∧ w'.cell? ⟨w.heap.size + 1, 1, none⟩ = some (.string t2) := fun w' h => ⟨h.cell c0, h.cell c1, h.cell c2, h.cell c3⟩
  go_region_held3 (fun w' => w'.cell? ⟨w.heap.size, 0, none⟩ = some (.string s1) ∧ w'.cell? ⟨w.heap.size, 1, none⟩ = some (.string t1) ∧ w'.cell? ⟨w.heap.size + 1, 0, none⟩ = some (.string s2) ∧ w'.cell? ⟨w.heap.size + 1, 1, none⟩ = some (.string t2))
    (first | exact KX _ (Ext.refl _).drew | exact KX _ x3 | exact KX _ x4 | exact KX _ x5 | fail)
    (first
      | (go_at_call 13; refine (C2 _).mono ?_; rintro e w7 ⟨v2, rfl, o2, hx5⟩; have x5 := x4.trans hx5)
      | (go_at_call 12; (first | ((with_reducible refine (C4 _).mono ?_); rintro e w3 ⟨rfl, hx3⟩; have x3 := (Ext.refl w6).drew.trans hx3) | ((with_reducible refine (C5 _).mono ?_); rintro e w4 ⟨rfl, hx4⟩; have x4 := x3.trans hx4)))
      | fail)
  have c0 := x5.cell c0
  have c1 := x5.cell c1
  have c2 := x5.cell c2
  have c3 := x5.cell c3
  have X67 := Lib.hid x5
  have O2 := Lib.hid (o2.mono x4.size)
  clear x3 x4 x5 hx3 hx4 hx5 KX o2
  cases b
  all_goals
    go_wp2_with fail
    refine (eqIntS_calls xs (by have := LN.out; omega) v2 v1 _ O2.out.reads (O1.out.reads.ext X67.out)).mono ?_
    rintro e w8 ⟨rfl, n3, rfl⟩
    go_wp2_with fail
    refine (markIntS_calls w6.heap.size (ints xs) 1 (by omega) (by rw [ints_length]; have := LN.out; omega) v2 _ (O2.out.ext ((Ext.refl _).drewN _))).mono ?_
    rintro e w9 ⟨rfl, o4, g4⟩
    rw [ints_length] at o4 ⊢
    obtain ⟨q, hq⟩ : ∃ q : Int, ((1 + xs.length : Nat) : Int) = q := ⟨_, rfl⟩
    have p5 : (0 : Int) ≤ q := by omega
    have HQ := Lib.hid hq
    rw [hq]
    clear hq
    have X69 := Lib.hid ((X67.out.drewN n3).grown g4 (fun k hk => O2.out.lo k hk))
    have R1 := Lib.hid (O1.out.reads.ext X69.out)
    have O4 := Lib.hid o4
    clear o4 g4
    go_wp2_with fail
    refine (heldIntS_calls xs.length 1 (by omega) (by have := LN.out; omega) v2 _ O4.out.reads).mono ?_
    rintro e w10 ⟨rfl, x10⟩
    have X610 := Lib.hid (X69.out.trans x10)
    have R1 := Lib.hid (R1.out.ext x10)
    have O4 := Lib.hid (O4.out.ext x10)
    have c0 := X610.out.cell e0
    have c1 := X610.out.cell e1
    have c2 := X610.out.cell e2
    have c3 := X610.out.cell e3
    clear x10
    rw [HQ.out]
    go_wp2_with fail
    have KX : ∀ w', Ext w10 w' → w'.cell? ⟨w.heap.size, 0, none⟩ = some (.string s1) ∧ w'.cell? ⟨w.heap.size, 1, none⟩ = some (.string t1) ∧ w'.cell? ⟨w.heap.size + 1, 0, none⟩ = some (.string s2) ∧ w'.cell? ⟨w.heap.size + 1, 1, none⟩ = some (.string t2) := fun w' h => ⟨h.cell c0, h.cell c1, h.cell c2, h.cell c3⟩
    go_region_held3 (fun w' => w'.cell? ⟨w.heap.size, 0, none⟩ = some (.string s1) ∧ w'.cell? ⟨w.heap.size, 1, none⟩ = some (.string t1) ∧ w'.cell? ⟨w.heap.size + 1, 0, none⟩ = some (.string s2) ∧ w'.cell? ⟨w.heap.size + 1, 1, none⟩ = some (.string t2))
      (first | exact KX _ (Ext.refl _).drew | exact KX _ x3 | exact KX _ x4 | exact KX _ x5 | fail)
      (first
        | (go_at_call 13; refine (C2 _).mono ?_; rintro e w11 ⟨v6, rfl, o6, hx5⟩; have x5 := x4.trans hx5)
        | (go_at_call 12; (first | ((with_reducible refine (C4 _).mono ?_); rintro e w3 ⟨rfl, hx3⟩; have x3 := (Ext.refl w10).drew.trans hx3) | ((with_reducible refine (C5 _).mono ?_); rintro e w4 ⟨rfl, hx4⟩; have x4 := x3.trans hx4)))
        | fail)
    have c0 := x5.cell c0
    have c1 := x5.cell c1
    have c2 := x5.cell c2
    have c3 := x5.cell c3
    have R1 := Lib.hid (R1.out.ext x5)
    have O4 := Lib.hid (O4.out.ext x5)
    have O6 := Lib.hid o6
    have X611 := Lib.hid (X610.out.trans x5)
    clear x3 x4 x5 hx3 hx4 hx5 KX o6
    go_wp2_with fail
    refine (eqIntS_calls xs (by have := LN.out; omega) v6 v1 _ O6.out.reads R1.out).mono ?_
    rintro e w12 ⟨rfl, n7, rfl⟩
    go_wp2_with fail
    refine (heldIntS_calls xs.length 1 (by omega) (by have := LN.out; omega) v2 _ (O4.out.reads.ext ((Ext.refl _).drewN n7))).mono ?_
    rintro e w13 ⟨rfl, x13⟩
    have X13 := Lib.hid ((X3.out.trans (X611.out.drewN n7)).trans x13)
    clear x13
    rw [HQ.out]
    go_wp2_with fail
    go_ret
    exact ⟨rfl, X13.out⟩
end Go.Proofs.Ytfjhecilkeikiaa.N
