import Derived.Test.YtpmmajfdcicjiaaGreatG1RFnHalvesAndShifts
import Derived.Test.YtpmmajfdcicjiaaGreatG3RFnHalvesAndShifts
import Derived.Test.YtpmmajfdcicjiaaGreatG4RFnHalvesAndShifts
import Derived.Test.YtpmmajfdcicjiaaGreatG2RFnHalvesAndShifts
import Derived.Test.YtpmmajfdcicjiaaGreatProg
import Derived.Test.YtpmmajfdcicjiaaGreatG5RFnHalvesAndShifts
import Derived.Test.YtpmmajfdcicjiaaGreatG12RFnHalvesAndShifts
import Derived.Test.YtpmmajfdcicjiaaGreatG7RFnHalvesAndShifts
import Derived.Test.YtpmmajfdcicjiaaGreatG16RFnHalvesAndShifts
import Derived.Test.YtpmmajfdcicjiaaGreatG9RFnHalvesAndShifts
import Derived.Test.YtpmmajfdcicjiaaGreatG21RFnHalvesAndShifts
import Derived.Test.YtpmmajfdcicjiaaGreatG17RFnHalvesAndShifts
import Derived.Test.YtpmmajfdcicjiaaGreatG20RFnHalvesAndShifts
import Derived.Test.YtpmmajfdcicjiaaGreatG22RFnHalvesAndShifts
import Derived.Test.YtpmmajfdcicjiaaGreatG6RFnHalvesAndShifts
import Derived.Test.YtpmmajfdcicjiaaGreatG8RFnHalvesAndShifts
import Derived.Test.YtpmmajfdcicjiaaGreatG18RFnHalvesAndShifts
import Derived.Test.YtpmmajfdcicjiaaGreatG19RFnHalvesAndShifts
import Derived.Deep.LoopGhost
import Derived.Deep.RegionHeld3
import Derived.Deep.QuietTactic
import Derived.StillTailTactics
/- Lists turned in place, numbers as digits, lists kept in order: plain Lean. -/
namespace Go.Proofs.YtpmmajfdcicjiaaGreat.N
set_option linter.unusedVariables false
set_option linter.unusedSimpArgs false

/-- A list of which the outer k elements at both ends have changed places. -/
def Rev {α : Type} (l : List α) (k : Nat) (c : List α) : Prop := c.length = l.length ∧ ∀ i, i < l.length → c[i]? = if i < k ∨ l.length - k ≤ i then l[l.length - 1 - i]? else l[i]?
theorem Rev.zero {α : Type} (l : List α) : Rev l 0 l := ⟨rfl, fun i hi => by rw [if_neg (by omega)]⟩
theorem Rev.step {α : Type} {l c : List α} {k : Nat} {x y : α} (h : Rev l k c) (hk : k < l.length - 1 - k) (hx : c[k]? = some x) (hy : c[l.length - 1 - k]? = some y) : Rev l (k + 1) ((c.set k y).set (l.length - 1 - k) x) := by
  obtain ⟨h1, h2⟩ := h
  have hxx := h2 k (by omega)
  rw [if_neg (by omega), hx] at hxx
  have hyy := h2 (l.length - 1 - k) (by omega)
  rw [if_neg (by omega), hy] at hyy
  refine ⟨by simp [h1], fun i hi => ?_⟩
  rw [List.getElem?_set, List.getElem?_set]
  by_cases e1 : l.length - 1 - k = i
  · subst e1
    rw [if_pos rfl, if_pos (by simp; omega), if_pos (by omega), show l.length - 1 - (l.length - 1 - k) = k by omega, hxx]
  · rw [if_neg e1]
    by_cases e2 : k = i
    · subst e2
      rw [if_pos rfl, if_pos (by omega), if_pos (by omega), hyy]
    · rw [if_neg e2, h2 i hi]
      by_cases e3 : i < k ∨ l.length - k ≤ i
      · rw [if_pos e3, if_pos (by omega)]
      · rw [if_neg e3, if_neg (by omega)]
theorem Rev.done {α : Type} {l c : List α} {k : Nat} (h : Rev l k c) (hk : l.length ≤ 2 * k + 1) : c = l.reverse := by
  apply List.ext_getElem?
  intro i
  by_cases hi : i < l.length
  · rw [h.2 i hi, List.getElem?_reverse hi]
    by_cases e : i < k ∨ l.length - k ≤ i
    · rw [if_pos e]
    · rw [if_neg e]; congr 1; omega
  · rw [List.getElem?_eq_none (by rw [h.1]; omega), List.getElem?_eq_none (by simp; omega)]

/-- The digits of a number, the least first. -/
def dig (n : Nat) : Nat → Nat → List Nat
  | 0, _ => []
  | m + 1, q => q % n :: dig n m (q / n)
theorem dig_length (n : Nat) : ∀ m q, (dig n m q).length = m
  | 0, _ => rfl
  | m + 1, q => by simp [dig, dig_length n m]
theorem dig_lt {n : Nat} (hn : 0 < n) : ∀ m q, ∀ y ∈ dig n m q, y < n
  | 0, _, _, h => by cases h
  | m + 1, q, y, h => by
    rcases List.mem_cons.1 h with rfl | h
    · exact Nat.mod_lt _ hn
    · exact dig_lt hn m _ y h
theorem dig_all {n : Nat} (hn : 0 < n) : ∀ (ys : List Nat), (∀ y ∈ ys, y < n) → ∃ q, q < n ^ ys.length ∧ dig n ys.length q = ys
  | [], _ => ⟨0, by simp, rfl⟩
  | y :: ys, h => by
    obtain ⟨q, hq, e⟩ := dig_all hn ys (fun z hz => h z (List.mem_cons_of_mem _ hz))
    have hy := h y List.mem_cons_self
    refine ⟨y + n * q, ?_, ?_⟩
    · simp only [List.length_cons, Nat.pow_succ]
      have : n * (q + 1) ≤ n * n ^ ys.length := Nat.mul_le_mul_left n hq
      rw [Nat.mul_comm (n ^ ys.length) n]
      rw [Nat.mul_add] at this
      omega
    · simp only [List.length_cons, dig]
      rw [Nat.add_mul_mod_self_left, Nat.mod_eq_of_lt hy, Nat.add_mul_div_left _ _ hn, Nat.div_eq_of_lt hy, Nat.zero_add, e]
theorem dig_snoc (n : Nat) : ∀ m q, dig n (m + 1) q = dig n m q ++ [q / n ^ m % n]
  | 0, q => by simp [dig]
  | m + 1, q => by
    rw [dig, dig_snoc n m, dig, Nat.div_div_eq_div_mul, Nat.pow_succ, Nat.mul_comm n]
    rfl
theorem dig_take (n : Nat) : ∀ m k q, k ≤ m → (dig n m q).take k = dig n k q
  | _, 0, q, _ => rfl
  | 0, k + 1, q, h => by omega
  | m + 1, k + 1, q, h => by simp [dig, dig_take n m k (q / n) (by omega)]
end Go.Proofs.YtpmmajfdcicjiaaGreat.N
/- A pair conjugated by a word, letter by letter: the program's function. -/
namespace Go.Proofs.YtpmmajfdcicjiaaGreat.N
open Go.RowKit
set_option linter.unusedVariables false
set_option linter.unusedSimpArgs false

/-- Letter by letter, while the pair is not too great. -/
def cjW : List Int → Tr × Tr → Option (Tr × Tr)
  | [], p => some p
  | n :: l, p => if 8 < (conj p (letP n)).1.carets then none else cjW l (conj p (letP n))
def CwV (o : Option (Tr × Tr)) : Value := match o with
  | some p => pb (tx p.1) (tx p.2) true
  | none => pb ⟨#[]⟩ ⟨#[]⟩ false
theorem cjW_step (xs : List Int) (j : Nat) (x : Int) (hx : xs[j]? = some x) (p : Tr × Tr) : cjW (xs.drop j) p = if 8 < (conj p (letP x)).1.carets then none else cjW (xs.drop (j + 1)) (conj p (letP x)) := by
  obtain ⟨h1, h2⟩ := List.getElem?_eq_some_iff.1 hx
  rw [List.drop_eq_getElem_cons h1, h2]; rfl
theorem boxP_facts (w : World) (s t : ByteArray) :
    Ext w ((w.alloc (.cells #[.string s, .string t] 25)).alloc (.cells #[.string ⟨#[]⟩, .string ⟨#[]⟩] 25)) ∧
    Two ((w.alloc (.cells #[.string s, .string t] 25)).alloc (.cells #[.string ⟨#[]⟩, .string ⟨#[]⟩] 25)) w.heap.size 25 ∧
    Two ((w.alloc (.cells #[.string s, .string t] 25)).alloc (.cells #[.string ⟨#[]⟩, .string ⟨#[]⟩] 25)) (w.heap.size + 1) 25 ∧
    ((w.alloc (.cells #[.string s, .string t] 25)).alloc (.cells #[.string ⟨#[]⟩, .string ⟨#[]⟩] 25)).heap[w.heap.size]? = some (.cells #[.string s, .string t] 25) :=
  ⟨((Ext.refl w).alloc _).alloc _, (Two.new w _ _ _ rfl).ext ((Ext.refl _).alloc _), Two.new _ _ _ _ (by simp), ((Ext.refl _).alloc _).at (heap_alloc_new w _)⟩
theorem Two.lt {w : World} {g : Nat} {t : TypeId} (h : Two w g t) : g < w.heap.size := let ⟨u, v, e⟩ := h.at_; (Array.getElem?_eq_some_iff.1 e).1

set_option maxHeartbeats 6400000 in
set_option maxRecDepth 100000 in
theorem implCW_yes (A B : Tr) (hc : A.carets = B.carets) (hB : B.carets ≤ 8) (xs : List Int) (hl : xs.length ≤ 6) (hT : TwoL xs) (v : Value) (w : World) (hv : Reads w v (ints xs)) :
    Calls Tryz.prog 34 #[.agg #[.string (tx A), .string (tx B)], v] w fun e w' => e = .returned (CwV (cjW xs (red (A, B)))) ∧ Ext w w' := by
  obtain ⟨X2, _, t1, _⟩ := boxP_facts w (tx A) (tx B)
  have X2 := Lib.hid X2
  have C1 := Lib.hid (fun W => pairOf_yes A B hc hB W)
  have C0 := Lib.hid (fun W (h : Ext w W) => areTwo_calls xs (by omega) v W (hv.ext h))
  rw [decide_eq_true hT] at C0
  have C2 := Lib.hid (fun pa pb W => reduced_calls A B (by omega) (by omega) pa pb W)
  have hs : Hid ((red (A, B)).1.carets = (red (A, B)).2.carets ∧ (red (A, B)).2.carets ≤ 8) := ⟨red_same (p := (A, B)) hc, by have := (red_le (A, B)).2; simp only at this; omega⟩
  have V := Lib.hid hv
  have HT := Lib.hid hT
  obtain ⟨AA, cc, rfl, _, _⟩ := hv
  rw [ints_length] at *
  have hl' : (xs.length : Int) ≤ 6 := by omega
  generalize hp : red (A, B) = p0 at *
  generalize tx A = a at *
  generalize tx B = b at *
  clear hT hc hB hp
  go_enter Tryz.func34, Tryz.ntmps34
  go_wp2_with fail
  generalize (w.alloc (.cells #[.string a, .string b] 25)).alloc (.cells #[.string ⟨#[]⟩, .string ⟨#[]⟩] 25) = W at *
  refine (C1.out _).mono ?_
  rintro e w1 ⟨p1, p2, rfl, rA, rB, x1⟩
  have xa := (Ext.refl w1).alloc (.cells #[.pointer p1, .pointer p2] 67)
  have RA := Lib.hid (rA.ext xa)
  have RB := Lib.hid (rB.ext xa)
  have X1 := Lib.hid (X2.out.trans (x1.trans xa))
  have T1 := Lib.hid (t1.ext (x1.trans xa))
  have T5 := Lib.hid (Two.new w1 (.pointer p1) (.pointer p2) 67 rfl)
  have G5 := Lib.hid (X2.out.trans x1).size
  have GN := Lib.hid (Nat.ne_of_lt (t1.ext x1).lt)
  obtain ⟨d0, d1⟩ := cells_of (heap_alloc_new w1 (.cells #[.pointer p1, .pointer p2] 67))
  clear rA rB t1 x1 xa
  go_wp2_with fail
  generalize w1.alloc (.cells #[.pointer p1, .pointer p2] 67) = W1 at *
  refine (C0.out _ X1.out).mono ?_
  rintro e w2 ⟨rfl, rfl⟩
  go_wp2_with fail
  refine (C2.out p1 p2 _ RA.out RB.out).mono ?_
  rintro e w2 ⟨q1, q2, rfl, r1, r2, x2⟩
  have T5' := T5.out.ext x2
  obtain ⟨u, v, k0, k1, f0, f1⟩ := T5'.facts
  have HB := Lib.hid (set2_heap T5' (.pointer q1) (.pointer q2))
  have R1 := Lib.hid (Rep.set2 T5' (by decide) (.pointer q1) (.pointer q2) r1)
  have R2 := Lib.hid (Rep.set2 T5' (by decide) (.pointer q1) (.pointer q2) r2)
  have T1 := Lib.hid ((T1.out.ext x2).far (g := w1.heap.size) GN.out (.pointer q1) (.pointer q2))
  have X3 := Lib.hid ((X1.out.trans x2).set2 (g := w1.heap.size) G5.out (.pointer q1) (.pointer q2))
  clear x2 r1 r2 T5' d0 d1 RA RB X1
  go_wp2_with fail
  change Code.wp _ _ _ _ (N.set2 w2 w1.heap.size (.pointer q1) (.pointer q2))
  generalize N.set2 w2 w1.heap.size (.pointer q1) (.pointer q2) = w3 at *
  clear k0 k1 f0 f1
  go_loopw [32] (fun i wr => ∃ (j : Nat) (C D : Tr) (q1 q2 : Option Addr), j ≤ xs.length ∧ i = .int .i64 j ∧ Hid (C.carets = D.carets ∧ D.carets ≤ 8) ∧ Hid (cjW xs p0 = cjW (xs.drop j) (C, D)) ∧ Hid (wr.heap[w1.heap.size]? = some (.cells #[.pointer q1, .pointer q2] 67)) ∧ Hid (Two wr (w.heap.size + 1) 25) ∧ Hid (Rep wr C q1) ∧ Hid (Rep wr D q2) ∧ Hid (Ext w wr)) (fun i _ => xs.length - (intOf i).toNat)
  case atStart => exact ⟨0, p0.1, p0.2, q1, q2, Nat.zero_le _, rfl, hs.out, rfl, HB.out, T1.out, R1.out, R2.out, X3.out⟩
  case round =>
    obtain ⟨j, C, D, q1, q2, hj, rfl, HS, HC, HB, HT1, HR1, HR2, HX⟩ := hrel
    obtain ⟨d0, d1⟩ := cells_of HB.out
    by_cases hlt : j < xs.length
    · have hx : xs[j]? = some xs[j] := List.getElem?_eq_getElem hlt
      obtain ⟨A1, c1, e1, _, rd⟩ := V.out.ext HX.out
      rw [ints_length] at *
      injection e1 with e1 _ e3
      subst e1 e3
      obtain ⟨ad, rfl, ca⟩ := rd (by omega)
      have c2 := ca j _ (ints_get xs j hlt)
      have h0 : (0 : Int) ≤ j := by omega
      have h1 : (j : Int) < xs.length := by omega
      have LT := HT.out _ (List.mem_of_getElem? hx)
      have ST := Lib.hid (cjW_step xs j _ hx (C, D))
      have CL := Lib.hid (fun W => letter_calls xs[j] ⟨LT.1, by omega, by omega⟩ W)
      have LC := letP_carets LT.1
      obtain ⟨m1, m2⟩ := conj_carets (p := (C, D)) (q := letP xs[j]) HS.out.1 (by omega)
      have CC := Lib.hid (fun l1 l2 W (h : Ext wr W) (g1 : Rep W (letP xs[j]).1 l1) (g2 : Rep W (letP xs[j]).2 l2) => conjugate_calls C D (letP xs[j]).1 (letP xs[j]).2 HS.out.1 (by omega) (by have := HS.out; omega) (by omega) q1 q2 l1 l2 W (HR1.out.ext h) (HR2.out.ext h) g1 g2)
      rw [show ((letP xs[j]).1, (letP xs[j]).2) = letP xs[j] from rfl] at CC
      have M := Lib.hid (And.intro m1 m2)
      have MB : Hid ((conj (C, D) (letP xs[j])).2.carets < 100) := by show _ < _; simp only at m2; have := HS.out; omega
      generalize conj (C, D) (letP xs[j]) = np at *
      generalize xs[j] = x at *
      generalize (letP x).1 = L1 at *
      generalize (letP x).2 = L2 at *
      clear rd ca hx LT LC m1 m2
      have TB : Hid (Two wr w1.heap.size 67) := ⟨_, _, HB.out⟩
      go_wp2_with fail
      rw [show Op.load 67 (Operand.tmp 6) = shy (Op.load 67 (Operand.tmp 6)) from rfl]
      go_region_held3 (fun w' => Ext w w')
        (first | with_reducible exact HX.out.drew | with_reducible exact HX.out.trans x2 | with_reducible exact HX.out.trans x3 | exact (HX.out.trans x3).set2 (g := w1.heap.size) G5.out _ _ | fail)
        (first
          | (go_at_call 84; refine (CL.out _).mono ?_; rintro e w5 ⟨l1, l2, rfl, rl1, rl2, hx2⟩; have x2 : Ext wr w5 := (Ext.refl wr).drew.trans hx2; have d0' := x2.cell d0; have d1' := x2.cell d1)
          | (go_at_call 71; refine (CC.out _ _ _ x2 rl1 rl2).mono ?_; rintro e w6 ⟨z1, z2, rfl, rz1, rz2, hx3⟩; have x3 := x2.trans hx3; obtain ⟨u, v, k0, k1, f0, f1⟩ := (TB.out.ext x3).facts)
          | fail)
      all_goals
        have TX := TB.out.ext x3
        have HH := Lib.hid (set2_heap TX (.pointer z1) (.pointer z2))
        have Q1 := Lib.hid (Rep.set2 TX (by decide) (.pointer z1) (.pointer z2) rz1)
        have Q2 := Lib.hid (Rep.set2 TX (by decide) (.pointer z1) (.pointer z2) rz2)
        have T1 := Lib.hid ((HT1.out.ext x3).far (g := w1.heap.size) GN.out (.pointer z1) (.pointer z2))
        have XX := Lib.hid ((HX.out.trans x3).set2 (g := w1.heap.size) G5.out (.pointer z1) (.pointer z2))
        change Exit.then _ _ _ _ (N.set2 w6 w1.heap.size (.pointer z1) (.pointer z2))
        obtain ⟨d0, d1⟩ := cells_of HH.out
        clear k0 k1 f0 f1 TX x3 x2 hx2 hx3 rz1 rz2 rl1 rl2 d0' d1'
        generalize N.set2 w6 w1.heap.size (.pointer z1) (.pointer z2) = w7 at *
        have CA := Lib.hid (carets_calls np.1 z1 w7 (by have := M.out.1; have := MB.out; omega) Q1.out)
        have bn : (0 : Int) ≤ np.1.carets := by omega
        go_wp2_with fail
        refine CA.out.mono ?_
        rintro e w8 ⟨rfl, n8, rfl⟩
        have xd : Ext w7 (w7.drewN n8) := (Ext.refl _).drewN _
        have XX := Lib.hid (XX.out.trans xd)
        have T1 := T1.out.ext xd
        obtain ⟨u, v, k0, k1, f0, f1⟩ := T1.facts
        have T1 := Lib.hid T1
        have HH := Lib.hid (xd.at HH.out)
        have Q1 := Lib.hid (Q1.out.ext xd)
        have Q2 := Lib.hid (Q2.out.ext xd)
        clear xd d0 d1
        generalize w7.drewN n8 = w8 at *
        by_cases h8 : (8 : Int) < np.1.carets
        · have EV : Hid (CwV (cjW xs p0) = pb ⟨#[]⟩ ⟨#[]⟩ false) := by show _ = _; rw [HC.out, ST.out, if_pos (by omega)]; rfl
          go_wp2_with fail
          have HH := set2_heap T1.out (.string ⟨#[]⟩) (.string ⟨#[]⟩)
          have XX := XX.out.set2 (g := w.heap.size + 1) (by omega) (.string ⟨#[]⟩) (.string ⟨#[]⟩)
          change bodyPost _ _ _ _ _ (N.set2 w8 (w.heap.size + 1) (.string ⟨#[]⟩) (.string ⟨#[]⟩))
          obtain ⟨hc0, hc1⟩ := cells_of HH
          generalize N.set2 w8 (w.heap.size + 1) (.string ⟨#[]⟩) (.string ⟨#[]⟩) = W3 at *
          exact bodyPost_ret (v := .tuple #[.agg #[.string ⟨#[]⟩, .string ⟨#[]⟩], .bool false]) (by simp [results, Tryz.results34, go_sem, hc0, hc1]) rfl ⟨by rw [EV.out]; rfl, XX⟩
        · have EV : Hid (cjW xs p0 = cjW (xs.drop (j + 1)) (np.1, np.2)) := by show _ = _; rw [HC.out, ST.out, if_neg (by omega)]
          clear k0 k1 f0 f1
          go_wp2_with fail
          exact ⟨⟨j + 1, np.1, np.2, z1, z2, by omega, by go_num, ⟨M.out.1, by have := M.out.1; omega⟩, EV.out, HH.out, T1.out, Q1.out, Q2.out, XX.out⟩, by simp [intOf]; omega⟩
    · have h1 : (xs.length : Int) ≤ j := by omega
      have EV : Hid (CwV (cjW xs p0) = pb (tx C) (tx D) true) := by show _ = _; rw [HC.out, List.drop_eq_nil_of_le (by omega)]; rfl
      have CP := Lib.hid (plain_calls C D (by have := HS.out; omega) (by have := HS.out; omega) q1 q2 wr HR1.out HR2.out)
      generalize tx C = rc at *
      generalize tx D = rd at *
      go_wp2_with fail
      refine CP.out.mono ?_
      rintro e w5 ⟨rfl, x5⟩
      have T1 := HT1.out.ext x5
      obtain ⟨u, v, k0, k1, f0, f1⟩ := T1.facts
      have T1 := Lib.hid T1
      have X5 := Lib.hid (HX.out.trans x5)
      clear x5 d0 d1
      go_wp2_with fail
      have HH := set2_heap T1.out (.string rc) (.string rd)
      have XX := X5.out.set2 (g := w.heap.size + 1) (by omega) (.string rc) (.string rd)
      change bodyPost _ _ _ _ _ (N.set2 w5 (w.heap.size + 1) (.string rc) (.string rd))
      obtain ⟨hc0, hc1⟩ := cells_of HH
      generalize N.set2 w5 (w.heap.size + 1) (.string rc) (.string rd) = W3 at *
      exact bodyPost_ret (v := .tuple #[.agg #[.string rc, .string rd], .bool true]) (by simp [results, Tryz.results34, go_sem, hc0, hc1]) rfl ⟨by rw [EV.out]; rfl, XX⟩
end Go.Proofs.YtpmmajfdcicjiaaGreat.N
