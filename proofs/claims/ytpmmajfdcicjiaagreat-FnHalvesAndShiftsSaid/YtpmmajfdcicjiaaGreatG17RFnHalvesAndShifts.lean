import Derived.Test.YtpmmajfdcicjiaaGreatG1RFnHalvesAndShifts
import Derived.Test.YtpmmajfdcicjiaaGreatG2RFnHalvesAndShifts
import Derived.Test.YtpmmajfdcicjiaaGreatProg
import Derived.Test.YtpmmajfdcicjiaaGreatG5RFnHalvesAndShifts
import Derived.Test.YtpmmajfdcicjiaaGreatG3RFnHalvesAndShifts
import Derived.Test.YtpmmajfdcicjiaaGreatG4RFnHalvesAndShifts
import Derived.Test.YtpmmajfdcicjiaaGreatG12RFnHalvesAndShifts
import Derived.Test.YtpmmajfdcicjiaaGreatG16RFnHalvesAndShifts
import Derived.Test.YtpmmajfdcicjiaaGreatG7RFnHalvesAndShifts
import Derived.Deep.LoopGhost
import Derived.Deep.RegionHeld3
import Derived.Deep.QuietTactic
import Derived.StillTailTactics
/- Products of pairs, as the program has them. -/
namespace Go.Proofs.YtpmmajfdcicjiaaGreat.N
open Go.RowKit
set_option linter.unusedVariables false
set_option linter.unusedSimpArgs false

set_option maxHeartbeats 3200000 in
set_option maxRecDepth 100000 in
theorem join_calls (A : Tr) : ∀ (B : Tr) (pa pb : Option Addr) (w : World), Rep w A pa → Rep w B pb →
    Calls Tryz.prog 104 #[.pointer pa, .pointer pb] w (GivesT w (join A B)) := by
  induction A with
  | leaf =>
    rintro B pa pb w rfl hb
    have HB := Lib.hid hb
    clear hb
    go_enter Tryz.func104, Tryz.ntmps104
    go_wp2_with fail
    go_ret
    exact ⟨pb, rfl, HB.out, Ext.refl _⟩
  | node l r ihl ihr =>
    intro B pa pb w ha hb
    cases B with
    | leaf =>
      obtain rfl := hb
      have HA := Lib.hid ha
      obtain ⟨b, pl, pr, rfl, _, _, _, _⟩ := ha.open
      clear ha
      go_enter Tryz.func104, Tryz.ntmps104
      go_wp2_with fail
      go_ret
      exact ⟨_, rfl, HA.out, Ext.refl _⟩
    | node x y =>
      obtain ⟨a, pl, pr, rfl, h0, h1, hl, hr⟩ := ha.open
      obtain ⟨b, ql, qr, rfl, g0, g1, gl, gr⟩ := hb.open
      have HL := Lib.hid (And.intro hl gl)
      have HR := Lib.hid (And.intro hr gr)
      clear ha hb hl hr gl gr
      go_enter Tryz.func104, Tryz.ntmps104
      go_wp2_with fail
      go_region_held3 (fun w' => w'.cell? ⟨a, 0, none⟩ = some (.pointer pl) ∧ w'.cell? ⟨a, 1, none⟩ = some (.pointer pr) ∧ w'.cell? ⟨b, 0, none⟩ = some (.pointer ql) ∧ w'.cell? ⟨b, 1, none⟩ = some (.pointer qr) ∧ Ext w w')
        (first | with_reducible exact four_cells h0 h1 g0 g1 (Ext.drew (Ext.refl _)) | with_reducible exact four_cells h0 h1 g0 g1 (x3.alloc _) | with_reducible exact four_cells h0 h1 g0 g1 x3 | with_reducible exact four_cells h0 h1 g0 g1 x1 | fail)
        (first
        | (go_at_call_of 104 (Value.pointer pl); refine (ihl _ _ _ _ (HL.out.1.ext (Ext.refl _).drew) (HL.out.2.ext (Ext.refl _).drew)).mono ?_; rintro e w1 ⟨v1, rfl, r1, hx1⟩; have x1 := (Ext.refl w).drew.trans hx1)
        | (go_at_call_of 104 (Value.pointer pr); refine (ihr _ _ _ _ (HR.out.1.ext x1) (HR.out.2.ext x1)).mono ?_; rintro e w3 ⟨v3, rfl, r3, hx3⟩; have x3 := x1.trans hx3)
        | fail)
      go_wp2_with fail
      go_ret
      exact ⟨_, rfl, Rep.made (r1.ext hx3) r3, x3.alloc _⟩

set_option maxHeartbeats 3200000 in
set_option maxRecDepth 100000 in
theorem addresses_calls (T : Tr) : ∀ (a : List UInt8) (s : ByteArray) (p : Option Addr) (w : World), T.carets < 10000000 → a.length + T.carets < 100000000 → s = S a → Rep w T p →
    Calls Tryz.prog 140 #[.pointer p, .string s] w (GivesS w (addrs T a)) := by
  induction T with
  | leaf =>
    intro a s p w _ _ hs hr
    obtain rfl := hr
    have OL : Hid (Own (w.alloc (.cells #[.string s] 9)) w.heap.size 9 (.slice (some ⟨w.heap.size, 0, none⟩) 1 1) (sls [a])) := by
      have := Own.lit w w.heap.size 9 #[.string s] (Nat.le_refl _) (by show 1 ≤ maxLen; decide)
      subst hs; exact this
    have XL := Lib.hid ((Ext.refl w).alloc (.cells #[.string s] 9))
    clear hs
    go_enter Tryz.func140, Tryz.ntmps140
    go_wp2_with fail
    go_ret
    exact ⟨_, rfl, OL.out, XL.out⟩
  | node l r ihl ihr =>
    intro a s p w hc hl hs hr
    have op := hr.open
    clear hr
    obtain ⟨b, pl, pr, rfl, h0, h1, hl', hr'⟩ := op
    have e0 : Hid (s ++ ⟨#[48]⟩ = S (a ++ [48])) := by subst hs; exact S_append a [48]
    have e1 : Hid (s ++ ⟨#[49]⟩ = S (a ++ [49])) := by subst hs; exact S_append a [49]
    have z : s.size ≤ 100000000 := by subst hs; rw [S_size]; omega
    have z1 : (9223372036854775807 < s.size + 1) = False := eq_false (by omega)
    have H := Lib.hid (And.intro hl' hr')
    have hcc : (Tr.node l r).carets = 1 + l.carets + r.carets := rfl
    have HC : Hid (l.carets < 10000000 ∧ (a ++ [48]).length + l.carets < 100000000 ∧ r.carets < 10000000 ∧ (a ++ [49]).length + r.carets < 100000000) := ⟨by omega, by simp; omega, by omega, by simp; omega⟩
    have L2 : Hid (((sls (addrs l (a ++ [48]))).length + (sls (addrs r (a ++ [49]))).length) * 16 ≤ 140737488355328) := by rw [sls_length, sls_length, addrs_length, addrs_length]; show _ ≤ _; omega
    clear hl' hr' hs hc hl hcc
    go_enter Tryz.func140, Tryz.ntmps140
    go_wp2_with fail
    go_region_held3 (fun w' => w'.cell? ⟨b, 0, none⟩ = some (.pointer pl) ∧ w'.cell? ⟨b, 1, none⟩ = some (.pointer pr) ∧ Ext w w')
      (first | with_reducible exact two_cells h0 h1 (Ext.drew (Ext.refl _)) | with_reducible exact two_cells h0 h1 x4 | with_reducible exact two_cells h0 h1 x3 | with_reducible exact two_cells h0 h1 x1 | fail)
      (first
        | (go_at_call_of 140 (Value.pointer pl); refine (ihl _ _ _ _ HC.out.1 HC.out.2.1 e0.out (H.out.1.ext (Ext.refl _).drew)).mono ?_; rintro e w1 ⟨v1, rfl, o1, hx1⟩; have x1 : Ext w w1 := (Ext.refl w).drew.trans hx1)
        | (go_at_call_of 140 (Value.pointer pr); refine (ihr _ _ _ _ HC.out.2.2.1 HC.out.2.2.2 e1.out (H.out.2.ext x1)).mono ?_; rintro e w3 ⟨v3, rfl, o3, hx3⟩; have x3 := x1.trans hx3)
        | (refine step_app (by rfl) (.tmp 15) (.tmp 22) 138 (by rfl) w.heap.size 9 (.string ⟨#[]⟩) 16 Tryz.underlying138 infoStr rfl (by omega) _ _ (sls (addrs l (a ++ [48]))) (sls (addrs r (a ++ [49]))) (by rfl) (by rfl) (o1.ext hx3) o3.reads (sls_one _) L2.out x3.size ?_; intro v4 w4 o4 g4 _; have x4 := x3.grown g4 (o1.ext hx3).lo) | fail)
    go_wp2_with fail
    go_ret
    refine ⟨_, rfl, ?_, x4⟩
    rw [sls_append] at o4
    exact o4

set_option maxHeartbeats 3200000 in
set_option maxRecDepth 100000 in
theorem at_calls (T V : Tr) (l : List UInt8) (hl : l.length < 1000000) (hat : atT l T = some V) (p : Option Addr) (w : World) (hr : Rep w T p) :
    Calls Tryz.prog 142 #[.pointer p, .string (S l)] w fun e w' => ∃ q, e = .returned (.tuple #[.pointer q, .bool true]) ∧ Rep w V q ∧ w = w' := by
  have A0 := Lib.hid (And.intro hat hr)
  clear hat hr
  go_enter Tryz.func142, Tryz.ntmps142
  go_wp2_with fail
  go_loop [9, 0] (fun i t => ∃ (j : Nat) (U : Tr) (q : Option Addr), j ≤ l.length ∧ i = .int .i64 j ∧ t = .pointer q ∧ Hid (Rep w U q) ∧ Hid (atT (l.drop j) U = some V)) (fun i _ => l.length - (intOf i).toNat)
  case atStart => exact ⟨0, T, p, Nat.zero_le _, rfl, rfl, A0.out.2, A0.out.1⟩
  case round =>
    obtain ⟨j, U, q, hj, rfl, rfl, HR, HA⟩ := hrel
    by_cases hlt : j < l.length
    · obtain ⟨c, hc⟩ : ∃ c, l[j]? = some c := ⟨_, List.getElem?_eq_getElem hlt⟩
      have hD : l.drop j = c :: l.drop (j + 1) := by
        obtain ⟨g1, g2⟩ := List.getElem?_eq_some_iff.1 hc
        rw [List.drop_eq_getElem_cons g1, g2]
      have h1 : (j : Int) < (S l).size := by show (j : Int) < (l.length : Nat); omega
      have h0 : (0 : Int) ≤ j := by omega
      obtain ⟨x1, x2⟩ := s_at (S l) j c (by rw [S_toList]; exact hc)
      have HA2 := HA.out
      rw [hD] at HA2
      cases U with
      | leaf => simp [atT] at HA2
      | node a b =>
        obtain ⟨bb, pl, pr, rfl, c0, c1, rl, rr⟩ := HR.out.open
        simp only [atT] at HA2
        by_cases k1 : c = 48
        · subst k1
          rw [if_pos rfl] at HA2
          have t1 : (((48 : UInt8).toNat : Int) == 48) = true := rfl
          have RL := Lib.hid rl
          have HA3 := Lib.hid HA2
          clear HA2 hc hD rl rr HR HA
          go_wp2_with fail
          exact ⟨⟨j + 1, a, pl, by omega, by go_num, rfl, RL.out, HA3.out⟩, by simp [intOf]; omega⟩
        · rw [if_neg k1] at HA2
          by_cases k2 : c = 49
          · subst k2
            rw [if_pos rfl] at HA2
            have t1 : (((49 : UInt8).toNat : Int) == 48) = false := rfl
            have t2 : (((49 : UInt8).toNat : Int) == 49) = true := rfl
            have RL := Lib.hid rr
            have HA3 := Lib.hid HA2
            clear HA2 hc hD rl rr HR HA k1
            go_wp2_with fail
            exact ⟨⟨j + 1, b, pr, by omega, by go_num, rfl, RL.out, HA3.out⟩, by simp [intOf]; omega⟩
          · rw [if_neg k2] at HA2
            cases HA2
    · have h1 : ((S l).size : Int) ≤ j := by show ((l.length : Nat) : Int) ≤ j; omega
      have HV : Hid (Rep w V q) := by
        have := HA.out
        rw [List.drop_eq_nil_of_le (by omega)] at this
        cases U with
        | leaf => cases this; exact HR.out
        | node a b => cases this; exact HR.out
      go_wp2_with fail
      go_ret2
      exact ⟨q, rfl, HV.out, rfl⟩

theorem three_cells {w w' : World} {a b c : Addr} {x y z : Value} (h0 : w.cell? a = some x) (h1 : w.cell? b = some y) (h2 : w.cell? c = some z) (h : Ext w w') : w'.cell? a = some x ∧ w'.cell? b = some y ∧ w'.cell? c = some z ∧ Ext w w' := ⟨h.cell h0, h.cell h1, h.cell h2, h⟩
set_option maxHeartbeats 3200000 in
set_option maxRecDepth 100000 in
theorem partsClo (T W0 : Tr) (hP : Part T W0) (hd : T.depth < 1000000) (pw : Option Addr) (v : Value) (b c : Nat) (w : World) (hb : w.cell? ⟨b, 0, none⟩ = some (.pointer pw)) (hc : w.cell? ⟨c, 0, none⟩ = some v) (hv : Reads w v (sls (addrs T []))) (hw : Rep w W0 pw) :
    Clo w (T.carets + 1) (fun i => (partsT T W0).getD i .leaf) 141 #[.pointer (some ⟨b, 0, none⟩), .pointer (some ⟨c, 0, none⟩)] := by
  refine ⟨run_of Tryz.func141 (by kernel_rfl) (by kernel_rfl), fun k hk w' hx => ?_⟩
  have hk1 : k < (addrs T []).length := by rw [addrs_length]; exact hk
  obtain ⟨x, hx1⟩ : ∃ x, (addrs T [])[k]? = some x := ⟨_, List.getElem?_eq_getElem hk1⟩
  have hxl : x.length < 1000000 := by have := addrs_depth T [] x (List.mem_of_getElem? hx1); simp at this; omega
  have hk2 : k < (partsT T W0).length := by rw [parts_length T W0 hP]; exact hk
  have hat : atT x W0 = some ((partsT T W0).getD k .leaf) := by
    rw [at_parts T W0 hP k x hx1, List.getD_eq_getElem?_getD, List.getElem?_eq_getElem hk2]; rfl
  obtain ⟨A, cp, rfl, _, rd⟩ := hv.ext hx
  rw [sls_length] at *
  obtain ⟨ad, rfl, ca⟩ := rd (by omega)
  have c3 := ca k (.string (S x)) (by simp only [sls, List.getElem?_map, hx1, Option.map_some])
  have hb := hx.cell hb
  have hc := hx.cell hc
  have C1 := Lib.hid (fun W (h : Ext w' W) => at_calls W0 _ x hxl hat pw W ((hw.ext hx).ext h))
  have h0 : (0 : Int) ≤ k := by omega
  have h1 : (k : Int) < (addrs T []).length := by omega
  show Calls Tryz.prog 141 #[.int .i64 k, .pointer (some ⟨b, 0, none⟩), .pointer (some ⟨c, 0, none⟩)] w' (GivesT w' ((partsT T W0).getD k .leaf))
  generalize (partsT T W0).getD k .leaf = V at *
  generalize (addrs T []).length = m at *
  clear hx rd ca hx1 hat hk1 hk2 hk hw hv
  go_enter Tryz.func141, Tryz.ntmps141
  go_wp2_with fail
  go_region_held3 (fun w2 => w2.cell? ⟨b, 0, none⟩ = some (.pointer pw) ∧ w2.cell? ⟨c, 0, none⟩ = some (.slice (some ad) m cp) ∧ w2.cell? (ad.add k) = some (.string (S x)) ∧ Ext w' w2)
    (first | with_reducible exact three_cells hb hc c3 (Ext.refl _).drew | exact three_cells hb hc c3 (Ext.refl _).drew | fail)
    (first | (go_at_call 142; refine (C1.out _ (Ext.refl _).drew).mono ?_; rintro e w3 ⟨q, rfl, rq, rfl⟩) | fail)
  go_wp2_with fail
  go_ret
  exact ⟨q, rfl, rq, (Ext.refl _).drew⟩
set_option maxHeartbeats 3200000 in
set_option maxRecDepth 100000 in
theorem parts_calls (T W0 : Tr) (hP : Part T W0) (hT : T.carets < 1000000) (pt pw : Option Addr) (w : World) (ht : Rep w T pt) (hw : Rep w W0 pw) :
    Calls Tryz.prog 106 #[.pointer pt, .pointer pw] w fun e w' => ∃ b c, e = .returned (.func (.func 141) #[] #[.pointer (some ⟨b, 0, none⟩), .pointer (some ⟨c, 0, none⟩)]) ∧ Clo w' (T.carets + 1) (fun i => (partsT T W0).getD i .leaf) 141 #[.pointer (some ⟨b, 0, none⟩), .pointer (some ⟨c, 0, none⟩)] ∧ Ext w w' := by
  have X1 := Lib.hid ((Ext.refl w).alloc (.cells #[.pointer pw] 65))
  have c0 : (w.alloc (.cells #[.pointer pw] 65)).cell? ⟨w.heap.size, 0, none⟩ = some (.pointer pw) := by go_simp
  have C1 := Lib.hid (fun W (h : Ext w W) => addresses_calls T [] ⟨#[]⟩ pt W (by omega) (by simp; omega) rfl (ht.ext h))
  have HW := Lib.hid hw
  have PC := Lib.hid (partsClo T W0 hP (by have := T.depth_le; omega) pw)
  clear hP ht hw
  go_enter Tryz.func106, Tryz.ntmps106
  go_wp2_with fail
  generalize w.alloc (.cells #[.pointer pw] 65) = W at *
  refine (C1.out _ X1.out).mono ?_
  rintro e w1 ⟨v, rfl, o1, x1⟩
  have X2 := Lib.hid ((X1.out.trans x1).alloc (.cells #[v] 138))
  have c1 : (w1.alloc (.cells #[v] 138)).cell? ⟨w1.heap.size, 0, none⟩ = some v := by go_simp
  have c0 := (x1.alloc (.cells #[v] 138)).cell c0
  have O1 := Lib.hid (o1.reads.ext ((Ext.refl w1).alloc (.cells #[v] 138)))
  obtain ⟨A, cp, rfl, _, _⟩ := o1.reads
  rw [sls_length] at *
  clear o1 x1
  go_wp2_with fail
  go_ret
  exact ⟨_, _, rfl, PC.out _ _ _ _ c0 c1 O1.out (HW.out.ext X2.out), X2.out⟩
end Go.Proofs.YtpmmajfdcicjiaaGreat.N
/- Products and conjugates of pairs, as the program has them. -/
namespace Go.Proofs.YtpmmajfdcicjiaaGreat.N
open Go.RowKit
set_option linter.unusedVariables false
set_option linter.unusedSimpArgs false

theorem boxQQ_facts (w : World) (a b c d x y : Value) (t u : TypeId) :
    Ext w (((w.alloc (.cells #[a, b] t)).alloc (.cells #[c, d] t)).alloc (.cells #[x, y] u)) ∧
    (((w.alloc (.cells #[a, b] t)).alloc (.cells #[c, d] t)).alloc (.cells #[x, y] u)).cell? ⟨w.heap.size, 0, none⟩ = some a ∧
    (((w.alloc (.cells #[a, b] t)).alloc (.cells #[c, d] t)).alloc (.cells #[x, y] u)).cell? ⟨w.heap.size, 1, none⟩ = some b ∧
    (((w.alloc (.cells #[a, b] t)).alloc (.cells #[c, d] t)).alloc (.cells #[x, y] u)).cell? ⟨w.heap.size + 1, 0, none⟩ = some c ∧
    (((w.alloc (.cells #[a, b] t)).alloc (.cells #[c, d] t)).alloc (.cells #[x, y] u)).cell? ⟨w.heap.size + 1, 1, none⟩ = some d ∧
    Two (((w.alloc (.cells #[a, b] t)).alloc (.cells #[c, d] t)).alloc (.cells #[x, y] u)) (w.heap.size + 1 + 1) u := by
  have h0 := (((Ext.refl (w.alloc (.cells #[a, b] t))).alloc (.cells #[c, d] t)).alloc (.cells #[x, y] u)).at (heap_alloc_new w (.cells #[a, b] t))
  have h1 := ((Ext.refl ((w.alloc (.cells #[a, b] t)).alloc (.cells #[c, d] t))).alloc (.cells #[x, y] u)).at (heap_alloc_new (w.alloc (.cells #[a, b] t)) (.cells #[c, d] t))
  rw [show (w.alloc (.cells #[a, b] t)).heap.size = w.heap.size + 1 by simp] at h1
  exact ⟨(((Ext.refl w).alloc _).alloc _).alloc _, (cells_of h0).1, (cells_of h0).2, (cells_of h1).1, (cells_of h1).2, Two.new _ _ _ _ (by simp)⟩
set_option maxHeartbeats 3200000 in
set_option maxRecDepth 100000 in
theorem times_calls (A B C D : Tr) (hAB : A.carets = B.carets) (hCD : C.carets = D.carets) (hB : B.carets < 100000) (hC : C.carets < 100000) (pa pb pc pd : Option Addr) (w : World) (ra : Rep w A pa) (rb : Rep w B pb) (rc : Rep w C pc) (rd : Rep w D pd) :
    Calls Tryz.prog 53 #[.agg #[.pointer pa, .pointer pb], .agg #[.pointer pc, .pointer pd]] w (GivesP w (mul (A, B) (C, D)).1 (mul (A, B) (C, D)).2) := by
  obtain ⟨X0, c0, c1, c2, c3, t0⟩ := boxQQ_facts w (.pointer pa) (.pointer pb) (.pointer pc) (.pointer pd) (.pointer none) (.pointer none) 67 67
  have C1 := Lib.hid (fun W (h : Ext w W) => join_calls B C pb pc W (rb.ext h) (rc.ext h))
  have C2 := Lib.hid (fun pw W (h : Ext w W) hw => parts_calls B (join B C) (part_join_l B C) (by omega) pb pw W (rb.ext h) hw)
  have C3 := Lib.hid (fun pw W (h : Ext w W) hw => parts_calls C (join B C) (part_join_r B C) (by omega) pc pw W (rc.ext h) hw)
  have C4 := Lib.hid (fun cap W (h : Ext w W) hk => grown_calls (fun i => (partsT B (join B C)).getD i .leaf) (B.carets + 1) 141 cap A pa 0 W (by omega) (by omega) (ra.ext h) hk)
  have C5 := Lib.hid (fun cap W (h : Ext w W) hk => grown_calls (fun i => (partsT C (join B C)).getD i .leaf) (C.carets + 1) 141 cap D pd 0 W (by omega) (by omega) (rd.ext h) hk)
  obtain ⟨mc1, mc2⟩ := mul0_carets (p := (A, B)) (q := (C, D)) hAB hCD
  have jc := join_carets B C
  have C6 := Lib.hid (fun p1 p2 W => reduced_calls (mul0 (A, B) (C, D)).1 (mul0 (A, B) (C, D)).2 (by rw [mc1]; simp only; omega) (by rw [mc2]; simp only; omega) p1 p2 W)
  have EM : Hid (GivesP w (mul (A, B) (C, D)).1 (mul (A, B) (C, D)).2 = GivesP w (red ((mul0 (A, B) (C, D)).1, (mul0 (A, B) (C, D)).2)).1 (red ((mul0 (A, B) (C, D)).1, (mul0 (A, B) (C, D)).2)).2) := rfl
  rw [EM.out]
  change Hid (∀ (cap : Array Value) (W : World), Ext w W → Clo W _ _ _ cap → Calls _ _ _ W (GivesT W (mul0 (A, B) (C, D)).1)) at C4
  change Hid (∀ (cap : Array Value) (W : World), Ext w W → Clo W _ _ _ cap → Calls _ _ _ W (GivesT W (mul0 (A, B) (C, D)).2)) at C5
  generalize (red ((mul0 (A, B) (C, D)).1, (mul0 (A, B) (C, D)).2)).1 = Z1 at *
  generalize (red ((mul0 (A, B) (C, D)).1, (mul0 (A, B) (C, D)).2)).2 = Z2 at *
  generalize (mul0 (A, B) (C, D)).1 = Y1 at *
  generalize (mul0 (A, B) (C, D)).2 = Y2 at *
  have X0 := Lib.hid X0
  clear hAB hCD hB hC ra rb rc rd mc1 mc2 jc EM
  go_enter Tryz.func53, Tryz.ntmps53
  go_wp2_with fail
  generalize ((w.alloc (.cells #[.pointer pa, .pointer pb] 67)).alloc (.cells #[.pointer pc, .pointer pd] 67)).alloc (.cells #[.pointer none, .pointer none] 67) = W at *
  refine (C1.out _ X0.out).mono ?_
  rintro e w1 ⟨pw, rfl, rw1, x1⟩
  have X1 := Lib.hid (X0.out.trans x1)
  have c0 := x1.cell c0
  have c1 := x1.cell c1
  have c2 := x1.cell c2
  have c3 := x1.cell c3
  have T1 := Lib.hid (t0.ext x1)
  have RW := Lib.hid rw1
  clear t0 x1 rw1
  go_wp2_with fail
  go_region_held3 (fun w' => w'.cell? ⟨w.heap.size, 0, none⟩ = some (.pointer pa) ∧ w'.cell? ⟨w.heap.size, 1, none⟩ = some (.pointer pb) ∧ Ext w1 w')
    (first | with_reducible exact two_cells c0 c1 (Ext.refl _).drew | with_reducible exact two_cells c0 c1 x3 | with_reducible exact two_cells c0 c1 x2 | fail)
    (first
      | (go_at_call 106; refine (C2.out pw _ (X1.out.trans (Ext.refl _).drew) (RW.out.ext (Ext.refl _).drew)).mono ?_; rintro e w2 ⟨b1, b2, rfl, cl, hx2⟩; have x2 := (Ext.refl w1).drew.trans hx2)
      | (go_at_call 105; refine (C4.out _ _ (X1.out.trans x2) cl).mono ?_; rintro e w3 ⟨y1, rfl, ry1, hx3⟩; have x3 := x2.trans hx3)
      | fail)
  have X3 := Lib.hid (X1.out.trans x3)
  have c2 := x3.cell c2
  have c3 := x3.cell c3
  have T3 := Lib.hid (T1.out.ext x3)
  have RW3 := Lib.hid (RW.out.ext x3)
  have RY1 := Lib.hid ry1
  clear x3 x2 hx2 hx3 cl ry1
  go_wp2_with fail
  go_region_held3 (fun w' => w'.cell? ⟨w.heap.size + 1, 0, none⟩ = some (.pointer pc) ∧ w'.cell? ⟨w.heap.size + 1, 1, none⟩ = some (.pointer pd) ∧ Ext w3 w')
    (first | with_reducible exact two_cells c2 c3 (Ext.refl _).drew | with_reducible exact two_cells c2 c3 x5 | with_reducible exact two_cells c2 c3 x4 | fail)
    (first
      | (go_at_call 106; refine (C3.out pw _ (X3.out.trans (Ext.refl _).drew) (RW3.out.ext (Ext.refl _).drew)).mono ?_; rintro e w4 ⟨b1, b2, rfl, cl, hx4⟩; have x4 := (Ext.refl w3).drew.trans hx4)
      | (go_at_call 105; refine (C5.out _ _ (X3.out.trans x4) cl).mono ?_; rintro e w5 ⟨y2, rfl, ry2, hx5⟩; have x5 := x4.trans hx5)
      | fail)
  have X5 := Lib.hid (X3.out.trans x5)
  have T5 := Lib.hid (T3.out.ext x5)
  have RY1 := Lib.hid (RY1.out.ext x5)
  have RY2 := Lib.hid ry2
  clear x5 x4 hx4 hx5 cl ry2
  go_wp2_with fail
  refine (C6.out y1 y2 _ RY1.out RY2.out).mono ?_
  rintro e w6 ⟨z1, z2, rfl, rz1, rz2, x6⟩
  have T6 := T5.out.ext x6
  obtain ⟨u, v, k0, k1, f0, f1⟩ := T6.facts
  have T6 := Lib.hid T6
  have X6 := Lib.hid (X5.out.trans x6)
  have R6 := Lib.hid (And.intro rz1 rz2)
  clear x6 rz1 rz2
  go_wp2_with fail
  have HH := set2_heap T6.out (.pointer z1) (.pointer z2)
  have Q1 := Rep.set2 T6.out (by decide) (.pointer z1) (.pointer z2) R6.out.1
  have Q2 := Rep.set2 T6.out (by decide) (.pointer z1) (.pointer z2) R6.out.2
  have XX := X6.out.set2 (g := w.heap.size + 1 + 1) (by omega) (.pointer z1) (.pointer z2)
  change bodyPost _ _ _ _ _ (N.set2 _ (w.heap.size + 1 + 1) (.pointer z1) (.pointer z2))
  obtain ⟨hc0, hc1⟩ := cells_of HH
  generalize N.set2 _ (w.heap.size + 1 + 1) (.pointer z1) (.pointer z2) = W3 at *
  exact bodyPost_ret (v := .agg #[.pointer z1, .pointer z2]) (by simp [results, Tryz.results53, go_sem, hc0, hc1]) rfl ⟨z1, z2, rfl, Q1, Q2, XX⟩

set_option maxHeartbeats 3200000 in
theorem inverse_calls (pa pb : Option Addr) (w : World) :
    Calls Tryz.prog 81 #[.agg #[.pointer pa, .pointer pb]] w fun e w' => e = .returned (.agg #[.pointer pb, .pointer pa]) ∧ Ext w w' := by
  have X2 := Lib.hid (((Ext.refl w).alloc (.cells #[.pointer pa, .pointer pb] 67)).alloc (.cells #[.pointer pb, .pointer pa] 67))
  have HH := heap_alloc_new (w.alloc (.cells #[.pointer pa, .pointer pb] 67)) (.cells #[.pointer pb, .pointer pa] 67)
  rw [show (w.alloc (.cells #[.pointer pa, .pointer pb] 67)).heap.size = w.heap.size + 1 by simp] at HH
  obtain ⟨hc0, hc1⟩ := cells_of HH
  go_enter Tryz.func81, Tryz.ntmps81
  go_wp2_with fail
  exact bodyPost_ret (v := .agg #[.pointer pb, .pointer pa]) (by simp [results, Tryz.results81, go_sem, hc0, hc1]) rfl ⟨rfl, X2.out⟩

/-- The conjugate of p by q. -/
def conj (p q : Tr × Tr) : Tr × Tr := mul (mul (q.2, q.1) p) q
theorem conj_carets {p q : Tr × Tr} (hp : p.1.carets = p.2.carets) (hq : q.1.carets = q.2.carets) : (conj p q).1.carets = (conj p q).2.carets ∧ (conj p q).2.carets ≤ q.1.carets + p.1.carets + q.1.carets := by
  have h1 := mul_carets (p := (q.2, q.1)) (q := p) hq.symm hp
  have h2 := mul_carets (p := mul (q.2, q.1) p) (q := q) h1.1 hq
  simp only at h1
  exact ⟨h2.1, by have := h2.2; unfold conj; omega⟩
theorem quad_ext {w0 W W' : World} {a b : Nat} {u0 u1 v0 v1 : Value}
    (h : W.cell? ⟨a, 0, none⟩ = some u0 ∧ W.cell? ⟨a, 1, none⟩ = some u1 ∧ W.cell? ⟨b, 0, none⟩ = some v0 ∧ W.cell? ⟨b, 1, none⟩ = some v1 ∧ Ext w0 W) (hx : Ext W W') :
    W'.cell? ⟨a, 0, none⟩ = some u0 ∧ W'.cell? ⟨a, 1, none⟩ = some u1 ∧ W'.cell? ⟨b, 0, none⟩ = some v0 ∧ W'.cell? ⟨b, 1, none⟩ = some v1 ∧ Ext w0 W' :=
  ⟨hx.cell h.1, hx.cell h.2.1, hx.cell h.2.2.1, hx.cell h.2.2.2.1, h.2.2.2.2.trans hx⟩
theorem quad_far {w0 W : World} {a b g : Nat} {u0 u1 v0 v1 : Value} (x y : Value)
    (h : W.cell? ⟨a, 0, none⟩ = some u0 ∧ W.cell? ⟨a, 1, none⟩ = some u1 ∧ W.cell? ⟨b, 0, none⟩ = some v0 ∧ W.cell? ⟨b, 1, none⟩ = some v1 ∧ Ext w0 W) (ha : a ≠ g) (hb : b ≠ g) (hg : w0.heap.size ≤ g) :
    ((W.setCell ⟨g, 0, none⟩ x).setCell ⟨g, 1, none⟩ y).cell? ⟨a, 0, none⟩ = some u0 ∧ ((W.setCell ⟨g, 0, none⟩ x).setCell ⟨g, 1, none⟩ y).cell? ⟨a, 1, none⟩ = some u1 ∧ ((W.setCell ⟨g, 0, none⟩ x).setCell ⟨g, 1, none⟩ y).cell? ⟨b, 0, none⟩ = some v0 ∧ ((W.setCell ⟨g, 0, none⟩ x).setCell ⟨g, 1, none⟩ y).cell? ⟨b, 1, none⟩ = some v1 ∧ Ext w0 ((W.setCell ⟨g, 0, none⟩ x).setCell ⟨g, 1, none⟩ y) :=
  ⟨set2_far ha x y h.1, set2_far ha x y h.2.1, set2_far hb x y h.2.2.1, set2_far hb x y h.2.2.2.1, h.2.2.2.2.set2 hg x y⟩
set_option maxHeartbeats 3200000 in
set_option maxRecDepth 100000 in
theorem conjugate_calls (A B C D : Tr) (hAB : A.carets = B.carets) (hCD : C.carets = D.carets) (hB : B.carets < 10000) (hC : C.carets < 10000) (pa pb pc pd : Option Addr) (w : World) (ra : Rep w A pa) (rb : Rep w B pb) (rc : Rep w C pc) (rd : Rep w D pd) :
    Calls Tryz.prog 71 #[.agg #[.pointer pa, .pointer pb], .agg #[.pointer pc, .pointer pd]] w (GivesP w (conj (A, B) (C, D)).1 (conj (A, B) (C, D)).2) := by
  obtain ⟨X0, c0, c1, c2, c3, t0⟩ := boxQQ_facts w (.pointer pa) (.pointer pb) (.pointer pc) (.pointer pd) (.pointer none) (.pointer none) 67 67
  obtain ⟨m1, m2⟩ := mul_carets (p := (D, C)) (q := (A, B)) hCD.symm hAB
  simp only at m2
  have C1 := Lib.hid (fun W => inverse_calls pc pd W)
  have C2 := Lib.hid (fun W (h : Ext w W) => times_calls D C A B hCD.symm hAB (by omega) (by omega) pd pc pa pb W (rd.ext h) (rc.ext h) (ra.ext h) (rb.ext h))
  have C3 := Lib.hid (fun p1 p2 W (h : Ext w W) h1 h2 => times_calls (mul (D, C) (A, B)).1 (mul (D, C) (A, B)).2 C D m1 hCD (by omega) (by omega) p1 p2 pc pd W h1 h2 (rc.ext h) (rd.ext h))
  have EM : Hid (GivesP w (conj (A, B) (C, D)).1 (conj (A, B) (C, D)).2 = GivesP w (mul ((mul (D, C) (A, B)).1, (mul (D, C) (A, B)).2) (C, D)).1 (mul ((mul (D, C) (A, B)).1, (mul (D, C) (A, B)).2) (C, D)).2) := rfl
  rw [EM.out]
  generalize (mul ((mul (D, C) (A, B)).1, (mul (D, C) (A, B)).2) (C, D)).1 = Z1 at *
  generalize (mul ((mul (D, C) (A, B)).1, (mul (D, C) (A, B)).2) (C, D)).2 = Z2 at *
  generalize (mul (D, C) (A, B)).1 = Y1 at *
  generalize (mul (D, C) (A, B)).2 = Y2 at *
  have X0 := Lib.hid X0
  clear hAB hCD hB hC ra rb rc rd m1 m2 EM
  go_enter Tryz.func71, Tryz.ntmps71
  go_wp2_with fail
  generalize ((w.alloc (.cells #[.pointer pa, .pointer pb] 67)).alloc (.cells #[.pointer pc, .pointer pd] 67)).alloc (.cells #[.pointer none, .pointer none] 67) = W at *
  have SX := Lib.hid (And.intro c0 (And.intro c1 (And.intro c2 (And.intro c3 X0.out))))
  have n1 : Hid (w.heap.size ≠ w.heap.size + 1 + 1) := by show _ ≠ _; omega
  have n2 : Hid (w.heap.size + 1 ≠ w.heap.size + 1 + 1) := by show _ ≠ _; omega
  have n3 : Hid (w.heap.size ≤ w.heap.size + 1 + 1) := by show _ ≤ _; omega
  go_region_held3 (fun w' => w'.cell? ⟨w.heap.size, 0, none⟩ = some (.pointer pa) ∧ w'.cell? ⟨w.heap.size, 1, none⟩ = some (.pointer pb) ∧ w'.cell? ⟨w.heap.size + 1, 0, none⟩ = some (.pointer pc) ∧ w'.cell? ⟨w.heap.size + 1, 1, none⟩ = some (.pointer pd) ∧ Ext w w')
    (first | with_reducible exact quad_ext SX.out (Ext.refl _).drew | with_reducible exact quad_ext SX.out x3 | with_reducible exact quad_ext SX.out x2 | with_reducible exact quad_ext SX.out x1 | with_reducible exact quad_far _ _ (quad_ext SX.out x3) n1.out n2.out n3.out | fail)
    (first
      | (go_at_call 81; refine (C1.out _).mono ?_; rintro e w1 ⟨rfl, hx1⟩; have x1 := (Ext.refl W).drew.trans hx1)
      | (go_at_call_of 53 (Value.agg #[.pointer pd, .pointer pc]); refine (C2.out _ (X0.out.trans x1)).mono ?_; rintro e w2 ⟨p1, p2, rfl, r1, r2, hx2⟩; have x2 := x1.trans hx2)
      | (go_at_call 53; refine (C3.out _ _ _ (X0.out.trans x2) r1 r2).mono ?_; rintro e w3 ⟨z1, z2, rfl, rz1, rz2, hx3⟩; have x3 := x2.trans hx3; obtain ⟨u, v, k0, k1, f0, f1⟩ := (t0.ext x3).facts)
      | fail)
  have T3 := t0.ext x3
  have HH := set2_heap T3 (.pointer z1) (.pointer z2)
  have Q1 := Rep.set2 T3 (by decide) (.pointer z1) (.pointer z2) rz1
  have Q2 := Rep.set2 T3 (by decide) (.pointer z1) (.pointer z2) rz2
  have XX := (X0.out.trans x3).set2 (g := w.heap.size + 1 + 1) (by omega) (.pointer z1) (.pointer z2)
  change Exit.then _ _ _ _ (N.set2 _ (w.heap.size + 1 + 1) (.pointer z1) (.pointer z2))
  obtain ⟨hc0, hc1⟩ := cells_of HH
  generalize N.set2 _ (w.heap.size + 1 + 1) (.pointer z1) (.pointer z2) = W3 at *
  go_wp2_with fail
  exact bodyPost_ret (v := .agg #[.pointer z1, .pointer z2]) (by simp [results, Tryz.results71, go_sem, hc0, hc1]) rfl ⟨z1, z2, rfl, Q1, Q2, XX⟩
end Go.Proofs.YtpmmajfdcicjiaaGreat.N
