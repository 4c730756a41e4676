import Derived.Test.YtpmmajfdcicjiaaGreatG1RFnHalvesAndShifts
import Derived.Test.YtpmmajfdcicjiaaGreatG2RFnHalvesAndShifts
import Derived.Test.YtpmmajfdcicjiaaGreatProg
import Derived.Test.YtpmmajfdcicjiaaGreatG5RFnHalvesAndShifts
import Derived.Test.YtpmmajfdcicjiaaGreatG3RFnHalvesAndShifts
import Derived.Test.YtpmmajfdcicjiaaGreatG15RFnHalvesAndShifts
import Derived.Test.YtpmmajfdcicjiaaGreatG4RFnHalvesAndShifts
import Derived.Test.YtpmmajfdcicjiaaGreatG7RFnHalvesAndShifts
import Derived.Deep.LoopGhost
import Derived.Deep.RegionHeld3
/- The places at which a tree can be turned. -/
namespace Go.Proofs.YtpmmajfdcicjiaaGreat.N
open Go.RowKit
set_option linter.unusedVariables false
set_option linter.unusedSimpArgs false

theorem infoStr : (Tryz.prog.info? 9).map (fun i => (i.zero, i.size, i.bytes)) = some (some (.string ⟨#[]⟩), 1, 16) := by kernel_rfl

def sls (xs : List (List UInt8)) : List Value := xs.map fun s => .string (S s)
theorem sls_length (xs : List (List UInt8)) : (sls xs).length = xs.length := by simp [sls]
theorem sls_append (xs ys : List (List UInt8)) : sls xs ++ sls ys = sls (xs ++ ys) := by simp [sls]
theorem sls_one (xs : List (List UInt8)) : ∀ u ∈ sls xs, u.oneCell' = true := by
  intro u hu; obtain ⟨s, _, rfl⟩ := List.mem_map.1 hu; rfl
/-- A slice of strings of the call's own. -/
def GivesS (w : World) (xs : List (List UInt8)) (e : Ending) (w' : World) : Prop := ∃ v, e = .returned v ∧ Own w' w.heap.size 9 v (sls xs) ∧ Ext w w'

theorem sls_get (xs : List (List UInt8)) (k : Nat) (h : k < xs.length) : (sls xs)[k]? = some (.string (S xs[k])) := by simp [sls, List.getElem?_eq_getElem h]
end Go.Proofs.YtpmmajfdcicjiaaGreat.N
/- Trees in place of leaves, as the program has them. -/
namespace Go.Proofs.YtpmmajfdcicjiaaGreat.N
open Go.RowKit
set_option linter.unusedVariables false
set_option linter.unusedSimpArgs false

set_option maxHeartbeats 1600000 in
theorem rightComb_calls (n : Nat) (hn : n < 1000000) (w : World) :
    Calls Tryz.prog 122 #[.int .i64 n] w (GivesT w (comb n)) := by
  go_enter Tryz.func122, Tryz.ntmps122
  go_wp2_with fail
  go_loopw [3, 5] (fun t i wr => ∃ (k : Nat) (p : Option Addr), k ≤ n ∧ i = .int .i64 k ∧ t = .pointer p ∧ Hid (Rep wr (comb k) p) ∧ Hid (Ext w wr)) (fun _ i _ => n - (intOf i).toNat)
  case atStart => exact ⟨0, none, Nat.zero_le _, rfl, rfl, rfl, Ext.refl _⟩
  case round =>
    obtain ⟨k, p, hk, rfl, rfl, HR, HX⟩ := hrel
    by_cases hlt : k < n
    · have h1 : (k : Int) < n := by omega
      have h0 : (0 : Int) ≤ k := by omega
      have R2 := Lib.hid (Rep.made (pl := none) (l := .leaf) rfl HR.out)
      have X2 := Lib.hid (HX.out.alloc (.cells #[.pointer none, .pointer p] 79))
      go_wp2_with fail
      exact ⟨⟨k + 1, _, by omega, by go_num, rfl, R2.out, X2.out⟩, by simp [intOf]; omega⟩
    · have h1 : (n : Int) ≤ k := by omega
      obtain rfl : k = n := by omega
      go_wp2_with fail
      go_ret
      exact ⟨p, rfl, HR.out, HX.out⟩

def Run (F : FuncId) : Prop := ∀ args w, (callFunc F args).run Tryz.prog w = .ok (.enter F args) w
theorem run_of {f : FuncId} {fn : Func} (hf : Tryz.prog.funcs[f]? = some fn) (hname : (fn.name == "runtime.NumGoroutine") = false) (hb : fn.body.isNone = false) : Run f := by
  intro args w
  have h1 : fn.name ≠ "runtime.NumGoroutine" := by simpa using hname
  obtain ⟨c, hc⟩ := Option.isSome_iff_exists.1 (by cases h : fn.body <;> simp_all : fn.body.isSome = true)
  simp [callFunc, hf, h1, hc]
/-- A function at hand that gives trees for numbers. -/
structure Clo (w : World) (N : Nat) (h : Nat → Tr) (F : FuncId) (cap : Array Value) : Prop where
  run : Run F
  call : ∀ k, k < N → ∀ w', Ext w w' → Calls Tryz.prog F (#[.int .i64 k] ++ cap) w' (GivesT w' (h k))
theorem Clo.ext {w w' : World} {N h F cap} (k : Clo w N h F cap) (hx : Ext w w') : Clo w' N h F cap := ⟨k.run, fun i hi w2 h2 => k.call i hi w2 (hx.trans h2)⟩
set_option maxHeartbeats 1600000 in
set_option maxRecDepth 100000 in
theorem grown_calls (h : Nat → Tr) (N : Nat) (F : FuncId) (cap : Array Value) (T : Tr) : ∀ (p : Option Addr) (k : Nat) (w : World), k + T.carets < N → N < 1000000000 → Rep w T p →
    Clo w N h F cap →
    Calls Tryz.prog 105 #[.pointer p, .int .i64 k, .func (.func F) #[] cap] w (GivesT w (T.grown h k)) := by
  induction T with
  | leaf =>
    rintro v k w hk hN rfl hC
    have HC := Lib.hid hC
    clear hC
    go_enter Tryz.func105, Tryz.ntmps105
    go_wp2_with fail
    rw [HC.out.run]
    refine (HC.out.call k (by simp only [Tr.carets] at hk; omega) _ (Ext.refl _)).mono ?_
    rintro e w' ⟨v, rfl, hv, hx⟩
    have HV := Lib.hid (And.intro hv hx)
    clear hv hx
    go_wp2_with fail
    go_ret
    exact ⟨v, rfl, HV.out.1, HV.out.2⟩
  | node l r ihl ihr =>
    rintro p k w hk hN hr hC
    obtain ⟨b, pl, pr, rfl, h0, h1, hl, hr'⟩ := hr.open
    have HC := Lib.hid hC
    have e1 : 0 ≤ (l.carets : Int) ∧ (k : Int) + l.carets + 1 < 1000000000 := by simp only [Tr.carets] at hk; omega
    have W1 : Hid ((k : Int) + (l.carets + 1) = ((k + (l.carets + 1) : Nat) : Int)) := by show _ = _; omega
    have W2 : IntKind.i64.wrap ((k : Int) + (l.carets + 1)) = (k : Int) + (l.carets + 1) := wrap_ok (by omega)
    have HL := Lib.hid hl
    have HR := Lib.hid hr'
    have HK : Hid (k + l.carets < N ∧ k + (l.carets + 1) + r.carets < N ∧ l.carets < 1000000000) := by simp only [Tr.carets] at hk; exact ⟨by omega, by omega, by omega⟩
    clear hC hk hl hr hr'
    go_enter Tryz.func105, Tryz.ntmps105
    go_wp2_with fail
    go_region_held3 (fun w' => w'.cell? ⟨b, 0, none⟩ = some (.pointer pl) ∧ w'.cell? ⟨b, 1, none⟩ = some (.pointer pr) ∧ Ext w w')
      (first | exact two_cells h0 h1 (Ext.drew (Ext.refl _)) | exact two_cells h0 h1 (x3.alloc _) | exact two_cells h0 h1 x3 | exact two_cells h0 h1 x2 | exact two_cells h0 h1 x1 | fail)
      (first
      | (go_at_call_of 105 (Value.pointer pl); refine (ihl _ _ _ HK.out.1 hN (HL.out.ext (Ext.refl _).drew) (HC.out.ext (Ext.refl _).drew)).mono ?_; rintro e w1 ⟨v1, rfl, r1, hx1⟩; have x1 := (Ext.refl w).drew.trans hx1)
      | (go_at_call 139; refine (leaves_calls l _ _ HK.out.2.2 (HL.out.ext x1)).mono ?_; rintro e w2 ⟨rfl, n2, rfl⟩; have x2 := x1.drewN n2)
      | (go_at_call_of 105 (Value.pointer pr); rw [W1.out]; refine (ihr _ _ _ HK.out.2.1 hN (HR.out.ext x2) (HC.out.ext x2)).mono ?_; rintro e w3 ⟨v3, rfl, r3, hx3⟩; have x3 := x2.trans hx3)
      | fail)
    go_wp2_with fail
    go_ret
    exact ⟨_, rfl, Rep.made ((r1.ext ((Ext.refl _).drewN n2)).ext hx3) r3, x3.alloc _⟩

set_option maxHeartbeats 1600000 in
theorem graftClo (N n : Nat) (O : Tr) (po : Option Addr) (b c : Nat) (w : World) (hn : n < N) (hN : N < 1000000000) (hb : w.cell? ⟨b, 0, none⟩ = some (.int .i64 n)) (hc : w.cell? ⟨c, 0, none⟩ = some (.pointer po)) (ho : Rep w O po) :
    Clo w N (fun i => if i = n then O else .leaf) 150 #[.pointer (some ⟨b, 0, none⟩), .pointer (some ⟨c, 0, none⟩)] := by
  refine ⟨run_of Tryz.func150 (by kernel_rfl) (by kernel_rfl), fun k hk w' hx => ?_⟩
  have hb := hx.cell hb
  have hc := hx.cell hc
  have HO := Lib.hid (ho.ext hx)
  clear hx ho
  show Calls Tryz.prog 150 #[.int .i64 k, .pointer (some ⟨b, 0, none⟩), .pointer (some ⟨c, 0, none⟩)] w' _
  by_cases he : k = n
  · subst he
    rw [if_pos rfl]
    go_enter Tryz.func150, Tryz.ntmps150
    go_wp2_with fail
    go_ret
    exact ⟨po, rfl, HO.out, Ext.refl _⟩
  · rw [if_neg he]
    have t : ((k : Int) == (n : Int)) = false := by rw [beq_eq_false_iff_ne]; omega
    go_enter Tryz.func150, Tryz.ntmps150
    go_wp2_with fail
    go_ret
    exact ⟨none, rfl, rfl, Ext.refl _⟩
set_option maxHeartbeats 1600000 in
theorem graft_calls (T O : Tr) (n : Nat) (hT : T.carets < 1000000) (hn : n < T.carets + 1) (p po : Option Addr) (w : World) (ht : Rep w T p) (ho : Rep w O po) :
    Calls Tryz.prog 123 #[.pointer p, .int .i64 n, .pointer po] w (GivesT w (graft T n O)) := by
  have XX := Lib.hid (((Ext.refl w).alloc (.cells #[.int .i64 n] 3)).alloc (.cells #[.pointer po] 65))
  have CL := Lib.hid (graftClo (T.carets + 1) n O po w.heap.size (w.heap.size + 1) ((w.alloc (.cells #[.int .i64 n] 3)).alloc (.cells #[.pointer po] 65)) hn (by omega) (by go_simp) (by go_simp) (ho.ext XX.out))
  have HT := Lib.hid (ht.ext XX.out)
  clear ht ho
  go_enter Tryz.func123, Tryz.ntmps123
  go_wp2_with fail
  refine (grown_calls _ (T.carets + 1) _ _ T p 0 _ (by omega) (by omega) HT.out CL.out).mono ?_
  rintro e w' ⟨q, rfl, hq, hx⟩
  have HQ := Lib.hid (And.intro hq (XX.out.trans hx))
  clear hq hx
  go_wp2_with fail
  go_ret
  exact ⟨q, rfl, HQ.out.1, HQ.out.2⟩

set_option maxHeartbeats 1600000 in
set_option maxRecDepth 100000 in
theorem generator_calls (i : Nat) (hi : i < 1000) (w : World) :
    Calls Tryz.prog 70 #[.int .i64 i] w (GivesP w (gen i).1 (gen i).2) := by
  have X0 := Lib.hid ((Ext.refl w).alloc (.cells #[.pointer none, .pointer none] 67))
  have t0 := Two.new w (.pointer none) (.pointer none) 67 rfl
  have C1 := Lib.hid (fun W => rightComb_calls i (by omega) W)
  have C3 := Lib.hid (fun W => rightComb_calls (i + 2) (by omega) W)
  have C2 := Lib.hid (fun p po W => graft_calls (comb i) (.node (.node .leaf .leaf) .leaf) i (by rw [comb_carets]; omega) (by rw [comb_carets]; omega) p po W)
  have hi' : (i : Int) < 1000 ∧ (0 : Int) ≤ i := by omega
  have W2 : Hid ((i : Int) + 2 = ((i + 2 : Nat) : Int)) := by show _ = _; omega
  go_enter Tryz.func70, Tryz.ntmps70
  go_wp2_with fail
  generalize w.alloc (.cells #[.pointer none, .pointer none] 67) = W at *
  refine (C1.out _).mono ?_
  rintro e w1 ⟨p, rfl, r1, x1⟩
  have RN := Lib.hid (Rep.made (l := .leaf) (r := .leaf) (pl := none) (pr := none) (w := w1) rfl rfl)
  have RM := Lib.hid (Rep.made' (l := .node .leaf .leaf) (r := .leaf) (pr := none) (n := w1.heap.size + 1) RN.out rfl (by simp))
  have xx := ((Ext.refl w1).alloc (.cells #[.pointer none, .pointer none] 79)).alloc (.cells #[.pointer (some ⟨w1.heap.size, 0, none⟩), .pointer none] 79)
  have R1 := Lib.hid (r1.ext xx)
  have X1 := Lib.hid ((X0.out.trans x1).trans xx)
  have T1 := Lib.hid (t0.ext (x1.trans xx))
  clear r1 xx x1 t0
  go_wp2_with fail
  refine (C2.out p _ _ R1.out RM.out).mono ?_
  rintro e w2 ⟨q, rfl, r2, x2⟩
  have R2 := Lib.hid r2
  have X2 := Lib.hid (X1.out.trans x2)
  have T2 := Lib.hid (T1.out.ext x2)
  clear r2 x2
  go_wp2_with fail
  rw [W2.out]
  refine (C3.out _).mono ?_
  rintro e w3 ⟨q3, rfl, r3, x3⟩
  have T3 := T2.out.ext x3
  obtain ⟨u, v, k0, k1, f0, f1⟩ := T3.facts
  have R3 := Lib.hid r3
  have R2 := Lib.hid (R2.out.ext x3)
  have X3 := Lib.hid (X2.out.trans x3)
  have T3 := Lib.hid T3
  clear r3 x3
  go_wp2_with fail
  have HH := set2_heap T3.out (.pointer q) (.pointer q3)
  have Q1 := Rep.set2 T3.out (by decide) (.pointer q) (.pointer q3) R2.out
  have Q2 := Rep.set2 T3.out (by decide) (.pointer q) (.pointer q3) R3.out
  have XX := X3.out.set2 (g := w.heap.size) (Nat.le_refl _) (.pointer q) (.pointer q3)
  change bodyPost _ _ _ _ _ (N.set2 _ w.heap.size (.pointer q) (.pointer q3))
  obtain ⟨hc0, hc1⟩ := cells_of HH
  generalize N.set2 _ w.heap.size (.pointer q) (.pointer q3) = W3 at *
  exact bodyPost_ret (v := .agg #[.pointer q, .pointer q3]) (by simp [results, Tryz.results70, go_sem, hc0, hc1]) rfl ⟨q, q3, rfl, Q1, Q2, XX⟩
end Go.Proofs.YtpmmajfdcicjiaaGreat.N
