import Derived.Test.YtfkjjmmoipcddaaBa
import Derived.Test.YtfkjjmmoipcddaaPu
import Derived.Test.YtfkjjmmoipcddaaSl
import Derived.Test.YtfkjjmmoipcddaaProg
import Derived.Test.YtfkjjmmoipcddaaTn
import Derived.Test.YtfkjjmmoipcddaaTs
import Derived.Test.YtfkjjmmoipcddaaPp
import Derived.Test.YtfkjjmmoipcddaaPg
import Derived.Test.YtfkjjmmoipcddaaPh
import Derived.Test.YtfkjjmmoipcddaaWl
import Derived.Test.YtfkjjmmoipcddaaTp
import Derived.Test.YtfkjjmmoipcddaaTr
import Derived.Test.YtfkjjmmoipcddaaTu
import Derived.Test.YtfkjjmmoipcddaaTv
import Derived.Test.YtfkjjmmoipcddaaTw
import Derived.Test.YtfkjjmmoipcddaaTg
import Derived.Test.YtfkjjmmoipcddaaTk
import Derived.Test.YtfkjjmmoipcddaaCl
import Derived.Test.YtfkjjmmoipcddaaAc
import Derived.Test.YtfkjjmmoipcddaaAw
import Derived.Test.YtfkjjmmoipcddaaRw
import Derived.Test.YtfkjjmmoipcddaaPn
import Derived.Test.YtfkjjmmoipcddaaPt
import Derived.Test.YtfkjjmmoipcddaaLp
import Derived.Deep.LoopGhost
import Derived.Deep.RegionHeld3
import Derived.Deep.QuietTactic
import Derived.StillTailTactics
import Derived.BigQuiet
/- The least conjugate, the program's. -/
namespace Go.Proofs.Ytfkjjmmoipcddaa.N
open Go.RowKit
set_option linter.unusedVariables false
set_option linter.unusedSimpArgs false

def gL (s : Tr × Tr) (xs : List Int) (y : Tr × Tr) : (Tr × Tr) × Bool := (if ltP y s then y else s, false)
/-- The pair s lies in the box c. -/
def IL (c : Nat) (s : Tr × Tr) (w : World) : Prop := s.1.carets ≤ 100 ∧ s.2.carets ≤ 100 ∧ ∃ pa pb, w.heap[c]? = some (.cells #[.pointer pa, .pointer pb] 78) ∧ Rep w s.1 pa ∧ Rep w s.2 pb
theorem Rep.grownBy {w w' : World} {row : Option Nat} (h : w.grownBy w' row) (hr : ∀ k, row = some k → NotNode w k) {T p} (r : Rep w T p) : Rep w' T p :=
  r.far h fun k hk => let ⟨cs, e, fr, h1, h2⟩ := hr k hk; ⟨cs, e, fr, h1, h2⟩
theorem IL.ext {c : Nat} {s : Tr × Tr} {w w' : World} (h : IL c s w) (hx : Ext w w') : IL c s w' :=
  let ⟨h1, h2, pa, pb, h3, h4, h5⟩ := h; ⟨h1, h2, pa, pb, hx.at h3, h4.ext hx, h5.ext hx⟩

theorem set2_tch {c : Nat} {w W : World} (h : Ext w W) (hc : c < w.heap.size) (a b : Value) : Tch c none w (set2 W c a b) := by
  have hs : (set2 W c a b).heap.size = W.heap.size := by simp [set2, World.setCell]
  exact ⟨h.os, h.tape, h.output, by rw [hs]; exact h.size, fun k hk hkc _ => (set2_other hkc a b).trans (h.block k hk)⟩
set_option maxHeartbeats 6400000 in
set_option maxRecDepth 100000 in
theorem least_cb (s : Tr × Tr) (c : Nat) (w : World) (v : Value) (xs : List Int) (y : Tr × Tr) (pa pb : Option Addr) (hI : IL c s w) (hy : Bal y) (hc : y.2.carets ≤ 100) (rA : Rep w y.1 pa) (rB : Rep w y.2 pb) :
    Calls Try.prog 113 #[v, .agg #[.pointer pa, .pointer pb], .pointer (some ⟨c, 0, none⟩)] w fun e w' => e = .returned (.bool (gL s xs y).2) ∧ IL c (gL s xs y).1 w' ∧ Tch c none w w' := by
  obtain ⟨s1, s2, qa, qb, hb, rC, rD⟩ := hI
  have yc : y.1.carets ≤ 100 := by unfold Bal at hy; omega
  have clt := (Array.getElem?_eq_some_iff.1 hb).1
  have X1 := Lib.hid ((Ext.refl w).alloc (.cells #[.pointer pa, .pointer pb] 78))
  have B0 := heap_alloc_new w (.cells #[.pointer pa, .pointer pb] 78)
  obtain ⟨c0, c1⟩ := cells_of B0
  obtain ⟨c2, c3⟩ := cells_of (X1.out.at hb)
  have HB := Lib.hid hb
  have RR : Hid (Rep w y.1 pa ∧ Rep w y.2 pb ∧ Rep w s.1 qa ∧ Rep w s.2 qb) := ⟨rA, rB, rC, rD⟩
  have BB : Hid (s.1.carets ≤ 100 ∧ s.2.carets ≤ 100 ∧ y.1.carets ≤ 100 ∧ y.2.carets ≤ 100) := ⟨s1, s2, yc, hc⟩
  have C1 := fun W (hx : Ext w W) => carets_calls y.1 pa W (by omega) (rA.ext hx)
  have C2 := fun W (hx : Ext w W) => carets_calls s.1 qa W (by omega) (rC.ext hx)
  have P1 := fun W (hx : Ext w W) => ptext_calls y.1 y.2 (by omega) (by omega) pa pb W (rA.ext hx) (rB.ext hx)
  have P2 := fun W (hx : Ext w W) => ptext_calls s.1 s.2 (by omega) (by omega) qa qb W (rC.ext hx) (rD.ext hx)
  have HL : Hid (∀ b, ltP y s = b → gL s xs y = (if b then y else s, false)) := fun b hb => by unfold gL; rw [hb]
  have L1 := @ltP_true y s
  have L2 := @ltP_false y s
  have HX := Lib.hid (fun W (hx : Ext w W) => And.intro (hx.cell (cells_of hb).1) (hx.cell (cells_of hb).2))
  clear hy rA rB rC rD hb B0
  go_enter Try.func113, Try.ntmps113
  go_wp2_with fail
  generalize w.alloc (.cells #[.pointer pa, .pointer pb] 78) = W at *
  go_quiet (first
    | (go_at_call_of 74 (Value.pointer pa); refine Calls.quiet_of (C1 _ ?_); exact X1.out.drewN _)
    | (go_at_call_of 74 (Value.pointer qa); refine Calls.quiet_of (C2 _ ?_); exact X1.out.drewN _))
  have XA := Lib.hid (X1.out.drewN nq)
  have c0 := ((Ext.refl W).drewN nq).cell c0
  have c1 := ((Ext.refl W).drewN nq).cell c1
  have c2 := ((Ext.refl W).drewN nq).cell c2
  have c3 := ((Ext.refl W).drewN nq).cell c3
  generalize W.drewN nq = W1 at *
  have FT : Hid (∀ W2, Ext w W2 → ltP y s = true → (gL s xs y).2 = false ∧ IL c (gL s xs y).1 (N.set2 W2 c (.pointer pa) (.pointer pb)) ∧ Tch c none w (N.set2 W2 c (.pointer pa) (.pointer pb))) := by
    intro W2 hx hl
    rw [HL.out _ hl]
    have T2 : Two W2 c 78 := ⟨_, _, hx.at HB.out⟩
    exact ⟨rfl, ⟨BB.out.2.2.1, BB.out.2.2.2, pa, pb, set2_heap T2 _ _, Rep.set2 T2 (by decide) _ _ (RR.out.1.ext hx), Rep.set2 T2 (by decide) _ _ (RR.out.2.1.ext hx)⟩, set2_tch hx clt _ _⟩
  have FF : Hid (∀ W2, Ext w W2 → ltP y s = false → (gL s xs y).2 = false ∧ IL c (gL s xs y).1 W2 ∧ Tch c none w W2) := by
    intro W2 hx hl
    rw [HL.out _ hl]
    exact ⟨rfl, ⟨BB.out.1, BB.out.2.1, qa, qb, hx.at HB.out, RR.out.2.2.1.ext hx, RR.out.2.2.2.ext hx⟩, (Tch.refl c none w).ext hx⟩
  have T0 : Hid (∀ W2, Ext w W2 → Two W2 c 78) := fun W2 hx => ⟨_, _, hx.at HB.out⟩
  rw [show (y.1, y.2) = y from rfl] at P1
  rw [show (s.1, s.2) = s from rfl] at P2
  have n0 : (0 : Int) ≤ y.1.carets := by omega
  have n1 : (0 : Int) ≤ s.1.carets := by omega
  by_cases h1 : y.1.carets < s.1.carets
  · have FT := Lib.hid (fun W2 hx => FT.out W2 hx (L1.2 (.inl h1)))
    have g1 : (y.1.carets : Int) < s.1.carets := by omega
    clear FF L1 L2 C1 C2 P1 P2
    generalize (y.1.carets : Int) = m at *
    generalize (s.1.carets : Int) = n at *
    go_wp2_with fail
    go_quiet (fail)
    have XB := Lib.hid (XA.out.drewN nq)
    have c0 := ((Ext.refl W1).drewN nq).cell c0
    have c1 := ((Ext.refl W1).drewN nq).cell c1
    generalize W1.drewN nq = W2 at *
    obtain ⟨u, v', k0, k1, f0, f1⟩ := (T0.out _ XB.out).facts
    go_wp2_with fail
    change bodyPost _ _ _ _ _ (N.set2 W2 c (.pointer pa) (.pointer pb))
    have F := FT.out _ XB.out
    generalize N.set2 W2 c (.pointer pa) (.pointer pb) = W3 at *
    clear HB c2 c3 k0 k1 f0 f1
    go_ret
    exact ⟨by rw [F.1]; rfl, F.2⟩
  · have g1 : ¬ (y.1.carets : Int) < s.1.carets := by omega
    by_cases h2 : y.1.carets = s.1.carets
    · have g2 : ((y.1.carets : Int) == s.1.carets) = true := by rw [h2]; simp
      cases h3 : blt (ptx y) (ptx s) with
      | true =>
        have FT := Lib.hid (fun W2 hx => FT.out W2 hx (L1.2 (.inr ⟨h2, h3⟩)))
        have g3 : Op.bytesLess (ptx y).toList (ptx s).toList = true := h3
        clear FF L1 L2 C1 C2 h1 h2 h3
        generalize (y.1.carets : Int) = m at *
        generalize (s.1.carets : Int) = n at *
        generalize ptx y = ty at *
        generalize ptx s = ts at *
        have d1 : decide (m < n) = false := decide_eq_false g1
        have KX : ∀ w', Ext W1 w' → w'.cell? ⟨w.heap.size, 0, none⟩ = some (.pointer pa) ∧ w'.cell? ⟨w.heap.size, 1, none⟩ = some (.pointer pb) ∧ w'.cell? ⟨c, 0, none⟩ = some (.pointer qa) ∧ w'.cell? ⟨c, 1, none⟩ = some (.pointer qb) ∧ Ext w w' := fun w' h => ⟨h.cell c0, h.cell c1, h.cell c2, h.cell c3, XA.out.trans h⟩
        go_wp2_with fail
        go_region_held3 (fun w' => w'.cell? ⟨w.heap.size, 0, none⟩ = some (.pointer pa) ∧ w'.cell? ⟨w.heap.size, 1, none⟩ = some (.pointer pb) ∧ w'.cell? ⟨c, 0, none⟩ = some (.pointer qa) ∧ w'.cell? ⟨c, 1, none⟩ = some (.pointer qb) ∧ Ext w w')
          (first | with_reducible exact KX _ (Ext.refl _).drew | with_reducible exact KX _ x2 | with_reducible exact KX _ x3 | fail)
          (first
            | (go_at_call_of 114 (Value.agg #[Value.pointer pa, Value.pointer pb]); refine (P1 _ (XA.out.trans (Ext.refl _).drew)).mono ?_; rintro e w2 ⟨rfl, hx⟩; have x2 := (Ext.refl W1).drew.trans hx)
            | (go_at_call_of 114 (Value.agg #[Value.pointer qa, Value.pointer qb]); refine (P2 _ (XA.out.trans x2)).mono ?_; rintro e w3 ⟨rfl, hx⟩; have x3 := x2.trans hx)
            | fail)
        have XB := Lib.hid (XA.out.trans x3)
        have c0 := x3.cell c0
        have c1 := x3.cell c1
        obtain ⟨u, v', k0, k1, f0, f1⟩ := (T0.out _ XB.out).facts
        clear x2 x3 hx
        go_wp2_with fail
        change bodyPost _ _ _ _ _ (N.set2 w3 c (.pointer pa) (.pointer pb))
        have F := FT.out _ XB.out
        generalize N.set2 w3 c (.pointer pa) (.pointer pb) = W3 at *
        clear HB c2 c3 k0 k1 f0 f1
        go_ret
        exact ⟨by rw [F.1]; rfl, F.2⟩
      | false =>
        have FF := Lib.hid (fun W2 hx => FF.out W2 hx (L2.2 ⟨by omega, fun _ => h3⟩))
        have g3 : Op.bytesLess (ptx y).toList (ptx s).toList = false := h3
        clear FT L1 L2 C1 C2 h1 h2 h3
        generalize (y.1.carets : Int) = m at *
        generalize (s.1.carets : Int) = n at *
        generalize ptx y = ty at *
        generalize ptx s = ts at *
        have d1 : decide (m < n) = false := decide_eq_false g1
        have KX : ∀ w', Ext W1 w' → w'.cell? ⟨w.heap.size, 0, none⟩ = some (.pointer pa) ∧ w'.cell? ⟨w.heap.size, 1, none⟩ = some (.pointer pb) ∧ w'.cell? ⟨c, 0, none⟩ = some (.pointer qa) ∧ w'.cell? ⟨c, 1, none⟩ = some (.pointer qb) ∧ Ext w w' := fun w' h => ⟨h.cell c0, h.cell c1, h.cell c2, h.cell c3, XA.out.trans h⟩
        go_wp2_with fail
        go_region_held3 (fun w' => w'.cell? ⟨w.heap.size, 0, none⟩ = some (.pointer pa) ∧ w'.cell? ⟨w.heap.size, 1, none⟩ = some (.pointer pb) ∧ w'.cell? ⟨c, 0, none⟩ = some (.pointer qa) ∧ w'.cell? ⟨c, 1, none⟩ = some (.pointer qb) ∧ Ext w w')
          (first | with_reducible exact KX _ (Ext.refl _).drew | with_reducible exact KX _ x2 | with_reducible exact KX _ x3 | fail)
          (first
            | (go_at_call_of 114 (Value.agg #[Value.pointer pa, Value.pointer pb]); refine (P1 _ (XA.out.trans (Ext.refl _).drew)).mono ?_; rintro e w2 ⟨rfl, hx⟩; have x2 := (Ext.refl W1).drew.trans hx)
            | (go_at_call_of 114 (Value.agg #[Value.pointer qa, Value.pointer qb]); refine (P2 _ (XA.out.trans x2)).mono ?_; rintro e w3 ⟨rfl, hx⟩; have x3 := x2.trans hx)
            | fail)
        have XB := Lib.hid (XA.out.trans x3)
        have F := FF.out _ XB.out
        clear x2 x3 hx
        go_wp2_with fail
        go_ret
        exact ⟨by rw [F.1]; rfl, F.2⟩
    · have FF := Lib.hid (fun W2 hx => FF.out W2 hx (L2.2 ⟨by omega, fun h => absurd h h2⟩))
      have g2 : ((y.1.carets : Int) == s.1.carets) = false := by rw [beq_eq_false_iff_ne]; omega
      clear FT L1 L2 C1 C2 P1 P2 h1 h2
      generalize (y.1.carets : Int) = m at *
      generalize (s.1.carets : Int) = n at *
      go_wp2_with fail
      go_quiet (fail)
      have XB := Lib.hid (XA.out.drewN nq)
      have F := FF.out _ XB.out
      go_wp2_with fail
      go_ret
      exact ⟨by rw [F.1]; rfl, F.2⟩
theorem least_isCb (b0 c : Nat) (hc : c < b0) : Cb b0 c 113 #[.pointer (some ⟨c, 0, none⟩)] gL (IL c) (fun _ => True) where
  run := run_of Try.func113 (by kernel_rfl) (by kernel_rfl)
  low := hc
  box := fun s w ⟨_, _, pa, pb, h, _⟩ => ⟨_, _, _, h, by decide⟩
  stab := fun s w w' row _ ⟨h1, h2, pa, pb, h3, h4, h5⟩ hg hr => ⟨h1, h2, pa, pb, (hg.block c (Array.getElem?_eq_some_iff.1 h3).1 (fun e => by have := (hr c e.symm).1; omega)).trans h3, h4.grownBy hg (fun k hk => (hr k hk).2), h5.grownBy hg (fun k hk => (hr k hk).2)⟩
  ext := fun s w w' h hx => h.ext hx
  next := fun _ _ _ _ _ => trivial
  call := fun s w v xs y pa pb _ hI _ _ hy hc rA rB => least_cb s c w v xs y pa pb hI hy hc rA rB
theorem runL_false {σ : Type} (f : Int → σ → σ × Bool) (h : Int → σ → σ) (hf : ∀ x s, f x s = (h x s, false)) : ∀ (l : List Int) (s : σ), runL f l s = (l.foldl (fun s x => h x s) s, false)
  | [], s => rfl
  | x :: l, s => by simp only [runL, hf, Bool.false_eq_true, if_false, List.foldl_cons]; exact runL_false f h hf l _
theorem runW_least : ∀ (n : Nat) (xs : List Int) (y s : Tr × Tr), runW gL n xs y s = (leastL ltP s ((allW n).map fun w => conjF y w), false)
  | 0, xs, y, s => rfl
  | n + 1, xs, y, s => by
    rw [runW_two, runL_false _ (fun x s => leastL ltP s ((allW n).map fun w => conjF (conj y (letP x)) w)) (fun x s => runW_least n _ _ _)]
    congr 1
    rw [allW]
    generalize lts = l
    induction l generalizing s with
    | nil => rfl
    | cons x l ih =>
      rw [List.flatMap_cons, List.map_append, leastL_app, List.foldl_cons, ih, List.map_map]
      rfl

set_option maxHeartbeats 1600000 in
theorem isMost_calls (n : Int) (w : World) :
    Calls Try.prog 111 #[.int .i64 n] w fun e w' => e = .returned (.bool (decide (0 ≤ n ∧ n ≤ 4))) ∧ w = w' := by
  by_cases h1 : 0 ≤ n
  · by_cases h2 : n ≤ 4
    · rw [decide_eq_true ⟨h1, h2⟩]
      go_enter Try.func111, Try.ntmps111
      go_wp2_with fail
      go_ret
      exact ⟨rfl, rfl⟩
    · rw [decide_eq_false (fun h => h2 h.2)]
      go_enter Try.func111, Try.ntmps111
      go_wp2_with fail
      go_ret
      exact ⟨rfl, rfl⟩
  · rw [decide_eq_false (fun h => h1 h.1)]
    go_enter Try.func111, Try.ntmps111
    go_wp2_with fail
    go_ret
    exact ⟨rfl, rfl⟩

end Go.Proofs.Ytfkjjmmoipcddaa.N
