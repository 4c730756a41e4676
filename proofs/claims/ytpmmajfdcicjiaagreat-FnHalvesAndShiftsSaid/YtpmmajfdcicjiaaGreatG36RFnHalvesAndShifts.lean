import Derived.Test.YtpmmajfdcicjiaaGreatG1RFnHalvesAndShifts
import Derived.Test.YtpmmajfdcicjiaaGreatG2RFnHalvesAndShifts
import Derived.Test.YtpmmajfdcicjiaaGreatProg
import Derived.Test.YtpmmajfdcicjiaaGreatG3RFnHalvesAndShifts
import Derived.Test.YtpmmajfdcicjiaaGreatG4RFnHalvesAndShifts
import Derived.Test.YtpmmajfdcicjiaaGreatG6RFnHalvesAndShifts
import Derived.Test.YtpmmajfdcicjiaaGreatG9RFnHalvesAndShifts
import Derived.Test.YtpmmajfdcicjiaaGreatG5RFnHalvesAndShifts
import Derived.Test.YtpmmajfdcicjiaaGreatG7RFnHalvesAndShifts
import Derived.Test.YtpmmajfdcicjiaaGreatG16RFnHalvesAndShifts
import Derived.Test.YtpmmajfdcicjiaaGreatG10RFnHalvesAndShifts
import Derived.Test.YtpmmajfdcicjiaaGreatG22RFnHalvesAndShifts
import Derived.Test.YtpmmajfdcicjiaaGreatG21RFnHalvesAndShifts
import Derived.Test.YtpmmajfdcicjiaaGreatG23RFnHalvesAndShifts
import Derived.Test.YtpmmajfdcicjiaaGreatG34RFnHalvesAndShifts
import Derived.Test.YtpmmajfdcicjiaaGreatG25RFnHalvesAndShifts
import Derived.Test.YtpmmajfdcicjiaaGreatG35RFnHalvesAndShifts
import Derived.Test.YtpmmajfdcicjiaaGreatG11RFnHalvesAndShifts
import Derived.Test.YtpmmajfdcicjiaaGreatG20RFnHalvesAndShifts
import Derived.OwnWalk
import Derived.Deep.LoopGhost
import Derived.Deep.RegionHeld3
import Derived.Deep.QuietTactic
import Derived.BigQuiet
import Derived.Test.YtpmmajfdcicjiaaGreatG8RFnHalvesAndShifts
import Derived.Test.YtpmmajfdcicjiaaGreatG14RFnHalvesAndShifts
import Derived.Test.YtpmmajfdcicjiaaGreatG15RFnHalvesAndShifts
import Derived.Test.YtpmmajfdcicjiaaGreatG18RFnHalvesAndShifts
/- FnTablesKeepValues: what its calls give, as facts on the tables. -/
namespace Go.Proofs.YtpmmajfdcicjiaaGreat.N
open Go.RowKit
set_option linter.unusedVariables false
set_option linter.unusedSimpArgs false

theorem CaretsOf_yes (T : Tr) (hT : T.carets ≤ 8) (w : World) : Calls Tryz.prog 39 #[.string (tx T)] w fun e w' => e = .returned (.tuple #[.int .i64 T.carets, .bool true]) ∧ Ext w w' := by
  have C1 := Lib.hid (parse_yes T w hT)
  have C2 := Lib.hid (fun p W h => carets_calls T p W (by omega) h)
  generalize tx T = s at *
  clear hT
  go_enter Tryz.func39, Tryz.ntmps39
  go_wp2_with fail
  refine (C1.out).mono ?_
  rintro e w1 ⟨p, rfl, hr, hx⟩
  have X1 := Lib.hid hx
  have C3 := Lib.hid (C2.out p w1 hr)
  clear hx hr
  go_wp2_with fail
  refine (C3.out).mono ?_
  rintro e w2 ⟨rfl, n, rfl⟩
  have X2 := Lib.hid (X1.out.drewN n)
  go_wp2_with fail
  go_ret2
  exact ⟨rfl, X2.out⟩

theorem GeneratorPair_yes (i : Nat) (hi : i ≤ 6) (w : World) : Calls Tryz.prog 21 #[.int .i64 i] w fun e w' => e = .returned (.tuple #[.agg #[.string (tx (gen i).1), .string (tx (gen i).2)], .bool true]) ∧ Ext w w' := by
  have x0 := (Ext.refl w).alloc (.cells #[.string ⟨#[]⟩, .string ⟨#[]⟩] 25)
  have t0 := Two.new w (.string ⟨#[]⟩) (.string ⟨#[]⟩) 25 rfl
  have C1 := Lib.hid (generator_calls i (by omega) (w.alloc (.cells #[.string ⟨#[]⟩, .string ⟨#[]⟩] 25)))
  have C2 := Lib.hid (fun pa pb W h h2 => plain_calls (gen i).1 (gen i).2 (by rw [(gen_carets i).1]; omega) (by rw [(gen_carets i).2]; omega) pa pb W h h2)
  have X0 := Lib.hid x0
  have T0 := Lib.hid t0
  have i0 : (0 : Int) ≤ i := by omega
  have i6 : (i : Int) ≤ 6 := by omega
  generalize tx (gen i).1 = a at *
  generalize tx (gen i).2 = b at *
  clear x0 t0
  go_enter Tryz.func21, Tryz.ntmps21
  go_wp2_with fail
  generalize w.alloc (.cells #[.string ⟨#[]⟩, .string ⟨#[]⟩] 25) = W at *
  refine (C1.out).mono ?_
  rintro e w1 ⟨pa, pb, rfl, ra, rb, hx⟩
  have X1 := Lib.hid (X0.out.trans hx)
  have T1 := Lib.hid (T0.out.ext hx)
  have C3 := Lib.hid (C2.out pa pb w1 ra rb)
  clear hx ra rb
  go_wp2_with fail
  refine (C3.out).mono ?_
  rintro e w2 ⟨rfl, hx⟩
  have X2 := Lib.hid (X1.out.trans hx)
  have T2 := T1.out.ext hx
  obtain ⟨u, v, k0, k1, f0, f1⟩ := T2.facts
  obtain ⟨hc0, hc1⟩ := cells_of (set2_heap T2 (.string a) (.string b))
  have X3 := Lib.hid (X2.out.set2 (Nat.le_refl _) (.string a) (.string b))
  clear T2 hx
  go_wp2_with fail
  change bodyPost _ _ _ _ _ (N.set2 w2 w.heap.size (.string a) (.string b))
  exact bodyPost_ret (v := .tuple #[.agg #[.string a, .string b], .bool true]) (by simp [results, Tryz.results21, go_sem, hc0, hc1]) rfl ⟨rfl, X3.out⟩

/-- A row folded from the left. -/
def fld (g : Nat → Nat → Nat) : List Nat → Nat
  | [] => 0
  | a :: l => l.foldl g a
def assocN (n : Nat) (g : Nat → Nat → Nat) : Prop := ∀ i j k, i < n → j < n → k < n → okT g i j k
theorem foldl_lt {n : Nat} {g : Nat → Nat → Nat} (hg : ∀ i j, i < n → j < n → g i j < n) : ∀ (l : List Nat) (a : Nat), a < n → (∀ x ∈ l, x < n) → l.foldl g a < n
  | [], a, ha, _ => ha
  | x :: l, a, ha, hl => foldl_lt hg l _ (hg a x ha (hl x List.mem_cons_self)) fun y hy => hl y (List.mem_cons_of_mem _ hy)
theorem foldl_out {n : Nat} {g : Nat → Nat → Nat} (hg : ∀ i j, i < n → j < n → g i j < n) (ha : assocN n g) : ∀ (l : List Nat) (p y : Nat), p < n → y < n → (∀ x ∈ l, x < n) → l.foldl g (g p y) = g p (l.foldl g y)
  | [], _, _, _, _, _ => rfl
  | x :: l, p, y, hp, hy, hl => by
    have hx := hl x List.mem_cons_self
    show l.foldl g (g (g p y) x) = g p (l.foldl g (g y x))
    rw [← ha p y x hp hy hx]
    exact foldl_out hg ha l p (g y x) hp (hg y x hy hx) fun z hz => hl z (List.mem_cons_of_mem _ hz)
theorem fld_append {n : Nat} {g : Nat → Nat → Nat} (hg : ∀ i j, i < n → j < n → g i j < n) (ha : assocN n g) {a b : List Nat} (h1 : 0 < a.length) (h2 : 0 < b.length) (hl : ∀ x ∈ a ++ b, x < n) : fld g (a ++ b) = g (fld g a) (fld g b) := by
  cases a with
  | nil => simp at h1
  | cons x a =>
    cases b with
    | nil => simp at h2
    | cons y b =>
      show (a ++ y :: b).foldl g x = g (a.foldl g x) (b.foldl g y)
      rw [List.foldl_append, List.foldl_cons]
      exact foldl_out hg ha b _ y (foldl_lt hg a x (hl x (by simp)) fun z hz => hl z (by simp [hz])) (hl y (by simp)) fun z hz => hl z (by simp [hz])
theorem val_fld {n : Nat} {g : Nat → Nat → Nat} (hg : ∀ i j, i < n → j < n → g i j < n) (ha : assocN n g) : ∀ (T : Tr) (ys : List Nat), T.carets < ys.length → (∀ y ∈ ys, y < n) → val g T ys = fld g (ys.take (T.carets + 1))
  | .leaf, ys, h, _ => by
    cases ys with
    | nil => simp [Tr.carets] at h
    | cons y ys => rfl
  | .node l r, ys, h, hy => by
    simp only [Tr.carets] at h
    simp only [val]
    rw [val_fld hg ha l ys (by omega) hy, val_fld hg ha r _ (by rw [List.length_drop]; omega) fun y hm => hy y (List.mem_of_mem_drop hm)]
    have e : ys.take ((Tr.node l r).carets + 1) = ys.take (l.carets + 1) ++ (ys.drop (l.carets + 1)).take (r.carets + 1) := by
      rw [← List.take_add]; congr 1; simp only [Tr.carets]; omega
    rw [e]
    rw [fld_append hg ha (by rw [List.length_take]; omega) (by rw [List.length_take, List.length_drop]; omega)]
    intro x hx
    rcases List.mem_append.1 hx with hx | hx
    · exact hy x (List.mem_of_mem_take hx)
    · exact hy x (List.mem_of_mem_drop (List.mem_of_mem_take hx))
def LLt : Tr := .node (.node .leaf .leaf) .leaf
def RRt : Tr := .node .leaf (.node .leaf .leaf)
theorem gen0 : gen 0 = (LLt, RRt) := rfl
theorem keeps_gen0 {n : Nat} {g : Nat → Nat → Nat} : Keeps n g LLt RRt [] ↔ assocN n g := by
  constructor
  · intro h i j k hi hj hk
    have := h [i, j, k] rfl (by simp; exact ⟨hi, hj, hk⟩)
    exact this.symm
  · intro h zs hl hz
    obtain ⟨i, j, k, rfl⟩ : ∃ i j k, zs = [i, j, k] := by
      simp [LLt, Tr.carets] at hl
      match zs, hl with
      | [a, b, c], _ => exact ⟨a, b, c, rfl⟩
    exact (h i j k (hz i (by simp)) (hz j (by simp)) (hz k (by simp))).symm
theorem keeps_assoc {n : Nat} {g : Nat → Nat → Nat} (hg : ∀ i j, i < n → j < n → g i j < n) (ha : assocN n g) {A B : Tr} (hc : A.carets = B.carets) : Keeps n g A B [] := by
  intro zs hl hz
  simp only [List.length_nil, Nat.zero_add, List.nil_append] at *
  rw [val_fld hg ha A zs (by omega) hz, val_fld hg ha B zs (by omega) hz, hc]
end Go.Proofs.YtpmmajfdcicjiaaGreat.N
/- Draws of pairs. -/
namespace Go.Proofs.YtpmmajfdcicjiaaGreat.N
open Go.RowKit
set_option linter.unusedVariables false
set_option linter.unusedSimpArgs false

def DrawnP (w : World) (e : Ending) (w' : World) : Prop := ∃ s t : ByteArray, e = .returned (.agg #[.string s, .string t]) ∧ Ext w w'
def DrawnPP (w : World) (e : Ending) (w' : World) : Prop := ∃ s t s2 t2 : ByteArray, e = .returned (.tuple #[.agg #[.string s, .string t], .agg #[.string s2, .string t2]]) ∧ Ext w w'
set_option maxHeartbeats 6400000 in
set_option maxRecDepth 100000 in
theorem drawSP_calls (v : Value) (n : Nat) (w : World) (h : BytesR w v n) : Calls Tryz.prog 16 #[v] w (DrawnP w) := by
  have x0 := (Ext.refl w).alloc (.cells #[.string ⟨#[]⟩, .string ⟨#[]⟩] 25)
  have T0 := Lib.hid (heap_alloc_new w (.cells #[.string ⟨#[]⟩, .string ⟨#[]⟩] 25))
  have S0 : (w.alloc (.cells #[.string ⟨#[]⟩, .string ⟨#[]⟩] 25)).heap.size = w.heap.size + 1 := Array.size_push _
  have c0 := Cur.new (h.ext x0) S0
  have X1 := Lib.hid (x0.alloc (.cells #[v, .int .i64 0, .int .u64 0] 63))
  have P1 := Lib.hid (pair_calls (w.heap.size + 1) 50000 8 (by omega) _ (c0.less (by omega)))
  have T0 := Lib.hid (((Ext.refl (w.alloc (.cells #[.string ⟨#[]⟩, .string ⟨#[]⟩] 25))).alloc (.cells #[v, .int .i64 0, .int .u64 0] 63)).at T0.out)
  obtain ⟨A, c, rfl, _, _⟩ := h
  clear x0 S0 c0
  go_enter Tryz.func16, Tryz.ntmps16
  go_wp2_with fail
  generalize (w.alloc (.cells #[.string ⟨#[]⟩, .string ⟨#[]⟩] 25)).alloc (.cells #[.slice A n c, .int .i64 0, .int .u64 0] 63) = W at *
  refine (P1.out).mono ?_
  rintro e w1 ⟨s, t, hs, ht, rfl, hc, hm⟩
  have T0 := hm.at (by omega) T0.out
  have X2 := hm.ext X1.out (by omega)
  obtain ⟨k0, k1⟩ := cells_of T0
  obtain ⟨f0, f1⟩ := frozen_of T0
  obtain ⟨hc0, hc1⟩ := cells_of (set2_heap (g := w.heap.size) ⟨_, _, T0⟩ (.string s) (.string t))
  have X3 := Lib.hid (X2.set2 (Nat.le_refl _) (.string s) (.string t))
  clear hc hm X2 T0 hs ht
  go_wp2_with fail
  change bodyPost _ _ _ _ _ (N.set2 w1 w.heap.size (.string s) (.string t))
  exact bodyPost_ret (v := .agg #[.string s, .string t]) (by simp [results, Tryz.results16, go_sem, hc0, hc1]) rfl ⟨s, t, rfl, X3.out⟩

set_option maxHeartbeats 6400000 in
set_option maxRecDepth 100000 in
theorem drawHP_calls (v : Value) (n : Nat) (w : World) (h : BytesR w v n) : Calls Tryz.prog 6 #[v] w (DrawnPP w) := by
  have x0 := (Ext.refl w).alloc (.cells #[.string ⟨#[]⟩, .string ⟨#[]⟩] 25)
  have x1 := (Ext.refl (w.alloc (.cells #[.string ⟨#[]⟩, .string ⟨#[]⟩] 25))).alloc (.cells #[.string ⟨#[]⟩, .string ⟨#[]⟩] 25)
  have T0 := x1.at (heap_alloc_new w (.cells #[.string ⟨#[]⟩, .string ⟨#[]⟩] 25))
  have S0 : (w.alloc (.cells #[.string ⟨#[]⟩, .string ⟨#[]⟩] 25)).heap.size = w.heap.size + 1 := Array.size_push _
  have U0 := heap_alloc_new (w.alloc (.cells #[.string ⟨#[]⟩, .string ⟨#[]⟩] 25)) (.cells #[.string ⟨#[]⟩, .string ⟨#[]⟩] 25)
  rw [S0] at U0
  have S1 : ((w.alloc (.cells #[.string ⟨#[]⟩, .string ⟨#[]⟩] 25)).alloc (.cells #[.string ⟨#[]⟩, .string ⟨#[]⟩] 25)).heap.size = w.heap.size + 1 + 1 := by rw [show ∀ (W : World) (o : Obj), (W.alloc o).heap.size = W.heap.size + 1 from fun _ _ => Array.size_push _, S0]
  have xx := x0.trans x1
  have c0 := Cur.new (h.ext xx) S1
  have xc := (Ext.refl ((w.alloc (.cells #[.string ⟨#[]⟩, .string ⟨#[]⟩] 25)).alloc (.cells #[.string ⟨#[]⟩, .string ⟨#[]⟩] 25))).alloc (.cells #[v, .int .i64 0, .int .u64 0] 63)
  have X1 := Lib.hid (xx.trans xc)
  have T0 := Lib.hid (xc.at T0)
  have U0 := Lib.hid (xc.at U0)
  have P1 := Lib.hid (pair_calls (w.heap.size + 1 + 1) 50000 4 (by omega) _ (c0.less (by omega)))
  have P2 := Lib.hid (fun W hh => pair_calls (w.heap.size + 1 + 1) 1000 4 (by omega) W hh)
  obtain ⟨A, c, rfl, _, _⟩ := h
  clear x0 x1 S0 S1 c0 xx xc
  go_enter Tryz.func6, Tryz.ntmps6
  go_wp2_with fail
  generalize ((w.alloc (.cells #[.string ⟨#[]⟩, .string ⟨#[]⟩] 25)).alloc (.cells #[.string ⟨#[]⟩, .string ⟨#[]⟩] 25)).alloc (.cells #[.slice A n c, .int .i64 0, .int .u64 0] 63) = W at *
  refine (P1.out).mono ?_
  rintro e w1 ⟨s, t, hs, ht, rfl, hc, hm⟩
  have T0 := Lib.hid (hm.at (by omega) T0.out)
  have U0 := Lib.hid (hm.at (by omega) U0.out)
  have X1 := Lib.hid (hm.ext X1.out (by omega))
  have P2 := Lib.hid (P2.out w1 (hc.less (by omega)))
  clear hc hm hs ht
  go_wp2_with fail
  refine (P2.out).mono ?_
  rintro e w2 ⟨s2, t2, hs, ht, rfl, hc, hm⟩
  have T0 := hm.at (by omega) T0.out
  have U0 := hm.at (by omega) U0.out
  have X2 := hm.ext X1.out (by omega)
  obtain ⟨k0, k1⟩ := cells_of T0
  obtain ⟨f0, f1⟩ := frozen_of T0
  have H1 := set2_heap (g := w.heap.size) ⟨_, _, T0⟩ (.string s) (.string t)
  have U1 := (set2_other (w := w2) (g := w.heap.size) (k := w.heap.size + 1) (by omega) (.string s) (.string t)).trans U0
  obtain ⟨u0, u1⟩ := cells_of U1
  obtain ⟨v0, v1⟩ := frozen_of U1
  have H2 := (set2_other (w := N.set2 w2 w.heap.size (.string s) (.string t)) (g := w.heap.size + 1) (k := w.heap.size) (by omega) (.string s2) (.string t2)).trans H1
  obtain ⟨hc0, hc1⟩ := cells_of H2
  obtain ⟨hd0, hd1⟩ := cells_of (set2_heap (w := N.set2 w2 w.heap.size (.string s) (.string t)) (g := w.heap.size + 1) ⟨_, _, U1⟩ (.string s2) (.string t2))
  have X3 := Lib.hid ((X2.set2 (Nat.le_refl _) (.string s) (.string t)).set2 (g := w.heap.size + 1) (by omega) (.string s2) (.string t2))
  unfold N.set2 at u0 u1 v0 v1
  clear hc hm X2 T0 U0 hs ht H1 U1 H2
  go_wp2_with fail
  change bodyPost _ _ _ _ _ (N.set2 (N.set2 w2 w.heap.size (.string s) (.string t)) (w.heap.size + 1) (.string s2) (.string t2))
  exact bodyPost_ret (v := .tuple #[.agg #[.string s, .string t], .agg #[.string s2, .string t2]]) (by simp [results, Tryz.results6, go_sem, hc0, hc1, hd0, hd1]) rfl ⟨s, t, s2, t2, rfl, X3.out⟩

set_option maxHeartbeats 6400000 in
set_option maxRecDepth 100000 in
theorem drawSH_calls (v : Value) (n : Nat) (w : World) (h : BytesR w v n) : Calls Tryz.prog 13 #[v] w (DrawnP w) := by
  have x0 := (Ext.refl w).alloc (.cells #[.string ⟨#[]⟩, .string ⟨#[]⟩] 25)
  have T0 := Lib.hid (heap_alloc_new w (.cells #[.string ⟨#[]⟩, .string ⟨#[]⟩] 25))
  have S0 : (w.alloc (.cells #[.string ⟨#[]⟩, .string ⟨#[]⟩] 25)).heap.size = w.heap.size + 1 := Array.size_push _
  have c0 := Cur.new (h.ext x0) S0
  have X1 := Lib.hid (x0.alloc (.cells #[v, .int .i64 0, .int .u64 0] 63))
  have PP := Lib.hid (fun k n (hn : n ≤ 1000000000) W (hh : Cur W (w.heap.size + 1) (k + 2)) => pick_calls (w.heap.size + 1) k n hn W hh)
  have PS := Lib.hid (fun k n (hn : n ≤ 1000) W (hh : Cur W (w.heap.size + 1) (k + 4 * n)) => surePair_calls (w.heap.size + 1) k n hn W hh)
  have PO := Lib.hid (fun k n (hn : n ≤ 1000000000) W (hh : Cur W (w.heap.size + 1) (k + 2)) => one_calls (w.heap.size + 1) k n hn W hh)
  have PQ := Lib.hid (fun k W (hh : Cur W (w.heap.size + 1) (k + 1000)) => pair_calls (w.heap.size + 1) k 5 (by omega) W hh)
  have P1 := Lib.hid (PP.out 50000 4 (by omega) _ (c0.less (by omega)))
  have T0 := Lib.hid (((Ext.refl (w.alloc (.cells #[.string ⟨#[]⟩, .string ⟨#[]⟩] 25))).alloc (.cells #[v, .int .i64 0, .int .u64 0] 63)).at T0.out)
  obtain ⟨A, c, rfl, _, _⟩ := h
  clear x0 S0 c0
  go_enter Tryz.func13, Tryz.ntmps13
  go_wp2_with fail
  generalize (w.alloc (.cells #[.string ⟨#[]⟩, .string ⟨#[]⟩] 25)).alloc (.cells #[.slice A n c, .int .i64 0, .int .u64 0] 63) = W at *
  refine (P1.out).mono ?_
  rintro e w1 ⟨k, rfl, hk, hc, hm⟩
  have T0 := Lib.hid (hm.at (by omega) T0.out)
  have X1 := Lib.hid (hm.ext X1.out (by omega))
  have P2 := Lib.hid (PS.out 40000 k (by omega) w1 (hc.less (by omega)))
  clear hc hm hk P1
  go_wp2_with fail
  refine (P2.out).mono ?_
  rintro e w2 ⟨A1, B1, _, _, rfl, hc, hm⟩
  have T0 := Lib.hid (hm.at (by omega) T0.out)
  have X1 := Lib.hid (hm.ext X1.out (by omega))
  have P3 := Lib.hid (PP.out 30000 4 (by omega) w2 (hc.less (by omega)))
  clear hc hm P2
  go_wp2_with fail
  refine (P3.out).mono ?_
  rintro e w3 ⟨k2, rfl, hk, hc, hm⟩
  have T0 := Lib.hid (hm.at (by omega) T0.out)
  have X1 := Lib.hid (hm.ext X1.out (by omega))
  have P4 := Lib.hid (PS.out 20000 k2 (by omega) w3 (hc.less (by omega)))
  clear hc hm hk P3
  go_wp2_with fail
  refine (P4.out).mono ?_
  rintro e w4 ⟨A2, B2, _, _, rfl, hc, hm⟩
  have T0 := Lib.hid (hm.at (by omega) T0.out)
  have X1 := Lib.hid (hm.ext X1.out (by omega))
  have HC := Lib.hid hc
  obtain ⟨x, y, b, HP, _⟩ := both_HalvesPair (tx A1) (tx B1) (tx A2) (tx B2)
  simp only [pb] at HP
  have HP := Lib.hid HP
  clear hc hm P4
  go_wp2_with fail
  refine (HP.out _).mono ?_
  rintro e w5 ⟨rfl, x5⟩
  have T0 := Lib.hid (x5.at T0.out)
  have X1 := Lib.hid (X1.out.trans x5)
  have HC := Lib.hid (HC.out.ext x5)
  have xa := (Ext.refl w5).alloc (.cells #[.string x, .string y] 25)
  obtain ⟨a0, a1⟩ := cells_of (heap_alloc_new w5 (.cells #[.string x, .string y] 25))
  have T0 := Lib.hid (xa.at T0.out)
  have X1 := Lib.hid (X1.out.trans xa)
  have HC := Lib.hid (HC.out.ext xa)
  have GL := Lib.hid HC.out.lt
  have N5 : Hid (w5.heap.size ≠ w.heap.size + 1) := by
    intro e
    have h1 := HC.out
    obtain ⟨A', n', c', a', s', h1, _⟩ := h1
    rw [← e] at h1
    have h2 := heap_alloc_new w5 (.cells #[.string x, .string y] 25)
    rw [h1] at h2
    injection h2 with h2
    injection h2 with _ h3
    exact absurd h3 (by decide)
  clear x5 xa HP
  have END : Hid (∀ (s t : ByteArray) (W9 : World), W9.heap[w.heap.size]? = some (.cells #[.string ⟨#[]⟩, .string ⟨#[]⟩] 25) → Ext w W9 →
      DrawnP w (.returned (.agg #[.string s, .string t])) (N.set2 W9 w.heap.size (.string s) (.string t)) ∧ (N.set2 W9 w.heap.size (.string s) (.string t)).cell? ⟨w.heap.size, 0, none⟩ = some (.string s) ∧ (N.set2 W9 w.heap.size (.string s) (.string t)).cell? ⟨w.heap.size, 1, none⟩ = some (.string t) ∧
      W9.cell? ⟨w.heap.size, 0, none⟩ = some (.string ⟨#[]⟩) ∧ W9.cell? ⟨w.heap.size, 1, none⟩ = some (.string ⟨#[]⟩) ∧ W9.frozen? ⟨w.heap.size, 0, none⟩ = false ∧ W9.frozen? ⟨w.heap.size, 1, none⟩ = false) := fun s t W9 h0 hx => by
    obtain ⟨p0, p1⟩ := cells_of (set2_heap (g := w.heap.size) ⟨_, _, h0⟩ (.string s) (.string t))
    obtain ⟨q0, q1⟩ := cells_of h0
    obtain ⟨f0, f1⟩ := frozen_of h0
    exact ⟨⟨s, t, rfl, hx.set2 (Nat.le_refl _) _ _⟩, p0, p1, q0, q1, f0, f1⟩
  cases b
  · have P5 := Lib.hid (PQ.out 10 _ (HC.out.less (by omega)))
    go_wp2_with fail
    refine (P5.out).mono ?_
    rintro e w6 ⟨s, t, _, _, rfl, hc, hm⟩
    obtain ⟨F, hc0, hc1, q0, q1, f0, f1⟩ := END.out s t w6 (hm.at (by omega) T0.out) (hm.ext X1.out (by omega))
    clear hc hm a0 a1
    go_wp2_with fail
    change bodyPost _ _ _ _ _ (N.set2 w6 w.heap.size (.string s) (.string t))
    exact bodyPost_ret (v := .agg #[.string s, .string t]) (by simp [results, Tryz.results13, go_sem, hc0, hc1]) rfl F
  · have P5 := Lib.hid (PO.out 5000 3 (by omega) _ (HC.out.less (by omega)))
    go_wp2_with fail
    refine (P5.out).mono ?_
    rintro e w6 ⟨b, rfl, hc, hm⟩
    have T0 := Lib.hid (hm.at (by omega) T0.out)
    have X1 := Lib.hid (hm.ext X1.out (by omega))
    have a0 := hm.cell (p := ⟨w5.heap.size, 0, none⟩) N5.out a0
    have a1 := hm.cell (p := ⟨w5.heap.size, 1, none⟩) N5.out a1
    have P6 := Lib.hid (PQ.out 10 _ (hc.less (by omega)))
    clear hc hm P5
    cases b
    · obtain ⟨F, hc0, hc1, q0, q1, f0, f1⟩ := END.out x y w6 T0.out X1.out
      go_wp2_with fail
      change bodyPost _ _ _ _ _ (N.set2 w6 w.heap.size (.string x) (.string y))
      exact bodyPost_ret (v := .agg #[.string x, .string y]) (by simp [results, Tryz.results13, go_sem, hc0, hc1]) rfl F
    · go_wp2_with fail
      refine (P6.out).mono ?_
      rintro e w7 ⟨s, t, _, _, rfl, hc, hm⟩
      obtain ⟨F, hc0, hc1, q0, q1, f0, f1⟩ := END.out s t w7 (hm.at (by omega) T0.out) (hm.ext X1.out (by omega))
      clear hc hm a0 a1
      go_wp2_with fail
      change bodyPost _ _ _ _ _ (N.set2 w7 w.heap.size (.string s) (.string t))
      exact bodyPost_ret (v := .agg #[.string s, .string t]) (by simp [results, Tryz.results13, go_sem, hc0, hc1]) rfl F
end Go.Proofs.YtpmmajfdcicjiaaGreat.N
